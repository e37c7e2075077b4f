/- Contracts: slices.Reverse at bytes; chars.Digits and the reference's Digits. -/
import Derived.Test.YtccknhhjkkbadaaWhere
import Derived.Shelf.SlicesE.Reverse
import Derived.Laws.IdiomStrings
import Derived.Laws.BitsAllLaws
namespace Go.Proofs
open Go.Shelf
def Try.laysRev113_ren : Go.Shelf.Ren := ⟨fun | 35 => 113 | n => n, fun | 22 => 122 | 23 => 5 | n => n, fun | n => n⟩
theorem Try.laysRev113 : Go.Proofs.SlLaysE.n35 Try.prog Try.laysRev113_ren := {
  mixed := by kernel_rfl
  f35 := ⟨Try.f113.name, by decide, Try.func113.trans (congrArg some (by kernel_rfl))⟩
  t0 := Try.underlying0
  a0 := Try.isAgg0
  z0 := Try.sizeOf0
  v0 := Try.zeroValue0
  t3 := Try.underlying3
  a3 := Try.isAgg3
  z3 := Try.sizeOf3
  v3 := Try.zeroValue3
  t4 := Try.underlying4
  a4 := Try.isAgg4
  z4 := Try.sizeOf4
  v4 := Try.zeroValue4
  t22 := Try.underlying122
  a22 := Try.isAgg122
  z22 := Try.sizeOf122
  v22 := Try.zeroValue122
  a23 := Try.isAgg5
  z23 := Try.sizeOf5 }
end Go.Proofs
namespace Go.Proofs.Ytccknhhjkkbadaa.Dig
open Go.ChangeShapes Go.WideShapes Go.ChangeAt Go.RowKit Go.Proofs.Ytccknhhjkkbadaa.Lift Go.Sort
set_option linter.unusedVariables false
set_option linter.unusedSimpArgs false
/-- a byte as a value. -/
def bv (x : UInt8) : Value := .int .u8 (x.toNat : Int)
/-- digits, the last one first. -/
def revd (u : Nat) : List UInt8 := if h : u < 10 then [UInt8.ofNat (48 + u)] else UInt8.ofNat (48 + u % 10) :: revd (u / 10)
theorem revd_small {u : Nat} (h : u < 10) : revd u = [UInt8.ofNat (48 + u % 10)] := by rw [revd, dif_pos h, Nat.mod_eq_of_lt h]
theorem revd_big {u : Nat} (h : ¬ u < 10) : revd u = UInt8.ofNat (48 + u % 10) :: revd (u / 10) := by rw [revd, dif_neg h]
theorem revd_len : ∀ (k u : Nat), u < 10 ^ (k + 1) → (revd u).length ≤ k + 1
  | 0, u, h => by rw [revd_small (by simpa using h)]; simp
  | k + 1, u, h => by
    by_cases hu : u < 10
    · rw [revd_small hu]; simp
    · rw [revd_big hu]
      have : u / 10 < 10 ^ (k + 1) := by rw [Nat.div_lt_iff_lt_mul (by omega)]; rw [Nat.pow_succ] at h; exact h
      have := revd_len k (u / 10) this
      simp only [List.length_cons]
      omega
/-- a number in decimal. -/
def digS (n : Int) : List UInt8 := if n < 0 then 45 :: (revd (-n).toNat).reverse else (revd n.toNat).reverse
theorem add_plain0 (b o j : Nat) : (⟨b, o, none⟩ : Addr).add j = ⟨b, o + j, none⟩ := by unfold Addr.add; split <;> simp_all
theorem oneBv : OneCell bv := fun _ => rfl
theorem put_take (d : Array UInt8) (c : Array Value) (h : d.size ≤ c.size) : (putCells bv 0 d c).toList.take d.size = d.toList.map bv := by
  apply List.ext_getElem?
  intro j
  unfold putCells
  by_cases hj : j < d.size
  · have hjc : j < c.size := by omega
    rw [List.getElem?_take_of_lt hj, List.getElem?_map]
    simp [hj, hjc, List.getElem?_eq_getElem, getElem!_pos]
  · rw [List.getElem?_eq_none (by simp; omega), List.getElem?_eq_none (by simp; omega)]
theorem run_reverse (w : World) (B g cap : Nat) (l : List UInt8) (hown : w.ownsRow B 5 1 (.slice (some ⟨g, 0, none⟩) l.length cap) l.length (l.map bv)) (hn : l.length ≤ 1000) :
    Calls Try.prog 113 #[.slice (some ⟨g, 0, none⟩) l.length cap] w fun e w' => e = .returned (.tuple #[]) ∧ w'.ownsRow B 5 1 (.slice (some ⟨g, 0, none⟩) l.length cap) l.length (l.reverse.map bv) ∧ w.grownBy w' (some g) := by
  rcases hown.2 with ⟨h1, _⟩ | ⟨g', cap', cur, h1, h2, h3, h4, h5, h6, h7⟩
  · cases h1
  · injection h1 with e1 e2 e3
    injection e1 with e1
    injection e1 with e1
    subst e1 e3
    rw [Nat.mul_one] at h6 h7
    have hH : Holds bv w g 0 l.toArray := by
      intro j hj
      have hj' : j < l.length := by simpa using hj
      rw [Nat.zero_add]
      refine ⟨?_, by simp [World.frozen?, h3]⟩
      have : cur.toList[j]? = some (bv l[j]) := by
        have h8 : (cur.toList.take l.length)[j]? = (l.map bv)[j]? := by rw [h7]
        rw [List.getElem?_take_of_lt hj', List.getElem?_map, List.getElem?_eq_getElem hj'] at h8
        exact h8
      simp only [World.cell?, h3]
      rw [Array.getElem?_toList] at this
      simpa [getElem!_pos, hj'] using this
    refine (AnyE.slices_Reverse Try.laysRev113 bv oneBv g 0 cap l w hH (by omega)).mono ?_
    rintro e w' ⟨rfl, k, rfl⟩
    have hh : (putRow bv (Sort.ahead w k) g 0 l.reverse.toArray).heap[g]? = some (.cells (putCells bv 0 l.reverse.toArray cur) 5 (0, 0)) := by
      have h3' : (Sort.ahead w k).heap[g]? = some (.cells cur 5 (0, 0)) := h3
      simp [putRow, mapBlock, Array.getElem?_modify, h3', onCells]
      exact ⟨_, h3, rfl⟩
    refine ⟨rfl, ⟨by simp, .inr ⟨g, cap, _, rfl, h2, hh, h4, h5, by simp [putCells, h6], ?_⟩⟩, ⟨rfl, rfl, rfl, by simp [putRow, mapBlock, Sort.ahead], fun i hi hne => ?_⟩⟩
    · have := put_take l.reverse.toArray cur (by simp; omega)
      simpa using this
    · have hne' : g ≠ i := fun e => hne (by rw [e])
      simp [putRow, mapBlock, Sort.ahead, Array.getElem?_modify, hne']
theorem info5 : (Try.prog.info? 5).map (fun i => (i.zero, i.size, i.bytes)) = some (some (.int .u8 0), 1, 1) := by kernel_rfl
theorem below1 (w : World) (o : Obj) : Below w.heap.size w (w.alloc o) := (Below.refl _ _).alloc (Nat.le_refl _) o
theorem bv_dig (k : Nat) : bv (UInt8.ofNat (48 + k % 10)) = .int .u8 (48 + (k : Int) % 10) := by
  unfold bv
  congr 1
  rw [UInt8.toNat_ofNat']
  omega
theorem reverse_own (w : World) (B : Nat) (v : Value) (l : List UInt8) (hown : w.ownsRow B 5 1 v l.length (l.map bv)) (hne : l ≠ []) (hn : l.length ≤ 1000) :
    Calls Try.prog 113 #[v] w fun e w' => e = .returned (.tuple #[]) ∧ w'.ownsRow B 5 1 v l.length (l.reverse.map bv) ∧ w.grownBy w' v.ownBlock := by
  rcases hown.2 with ⟨rfl, h0⟩ | ⟨g, cap, cur, rfl, _⟩
  · exact absurd (List.eq_nil_of_length_eq_zero h0) hne
  · exact run_reverse w B g cap l hown hn
theorem str_back (s : ByteArray) (l m : List UInt8) (h : s = ⟨l.toArray⟩) (h2 : l = m) : s = ⟨m.toArray⟩ := by rw [h, h2]
/-- what a row of bytes reads as. -/
theorem run_str {w : World} {B n : Nat} {v : Value} {l : List UInt8} (h : w.ownsRow B 5 1 v n (l.map bv)) (hne : l ≠ []) : (convert 122 9 v).run Try.prog w = .ok (.string ⟨l.toArray⟩) w := by
  have hn : n = l.length := by have := h.1; simp at this; omega
  subst hn
  rcases h.2 with ⟨rfl, h0⟩ | ⟨g, cap, cur, rfl, h2, h3, h4, h5, h6, h7⟩
  · have : l = [] := List.eq_nil_of_length_eq_zero h0
    exact absurd this hne
  · rw [Nat.mul_one] at h7
    refine run_convert_bytes_back w 122 9 5 ⟨g, 0, none⟩ cap l Try.underlying122 Try.underlying5 Try.underlying9 fun j hj => ?_
    have h8 : (cur.toList.take l.length)[j]? = (l.map bv)[j]? := by rw [h7]
    rw [List.getElem?_take_of_lt hj, List.getElem?_map, List.getElem?_eq_getElem hj, Array.getElem?_toList] at h8
    rw [add_plain0]
    simp only [World.cell?, h3, Nat.zero_add]
    exact h8
theorem ret_str {a b : ByteArray} (h : a = b) : Ending.returned (.string a) = .returned (.string b) := by rw [h]
theorem ba_app (a b : Array UInt8) : (⟨a⟩ : ByteArray) ++ ⟨b⟩ = ⟨a ++ b⟩ := by
  apply ByteArray.ext
  simp
set_option maxRecDepth 100000 in
theorem digits_any (n : Int) (w : World) (h0 : -9223372036854775808 ≤ n) (h1 : n ≤ 9223372036854775807) :
    Calls Try.prog 90 #[.int .i64 n] w fun e w' => e = .returned (.string ⟨(digS n).toArray⟩) ∧ Below w.heap.size w w' := by
  obtain ⟨i0, hi, hz0, hz1, hz2⟩ := info_parts info5
  by_cases hn : n < 0
  · obtain ⟨U, hUn⟩ : ∃ U : Nat, n = -(U : Int) := ⟨(-n).toNat, by omega⟩
    have hU : U ≤ 18446744073709551615 := by omega
    have hR : (revd U).length ≤ 20 := revd_len 19 U (by omega)
    have hD : Hid (digS n = [45] ++ (revd U).reverse) := Lib.hid (by unfold digS; rw [if_pos hn, show (-n).toNat = U by omega]; rfl)
    have hW : Hid (IntKind.u64.wrap (-IntKind.u64.wrap n) = (U : Int)) := Lib.hid (by rw [IntKind.wrap_u64, IntKind.wrap_u64, hUn]; omega)
    clear hUn
    go_enter Try.func90, Try.ntmps90
    go_wp2_with fail
    go_loopw [4, 5] (fun u b wr => ∃ (k : Nat) (pre : List UInt8), u = .int .u64 k ∧ k ≤ 18446744073709551615 ∧ wr.ownsRow w.heap.size 5 1 b pre.length (pre.map bv) ∧ pre.length + (revd k).length ≤ 20 ∧ Hid (pre ++ revd k = revd U) ∧ Below w.heap.size w wr) (fun u _ _ => (intOf u).toNat)
    case atStart => exact ⟨U, [], (by rw [hW.out]), hU, World.ownsRow_nil _ _ _ _, by simpa using hR, Lib.hid rfl, Below.refl _ _⟩
    case round =>
      obtain ⟨k, pre, rfl, hk, hown, hlen, HE, hb⟩ := hrel
      have hb1 := below1 wr (.cells #[.int .u8 (48 + (k : Int) % 10)] 5)
      have hown1 := own_below hown hb1 (Nat.le_refl _)
      have hsrc : Src (wr.alloc (.cells #[.int .u8 (48 + (k : Int) % 10)] 5)) 1 (some ⟨wr.heap.size, 0, none⟩) 1 [.int .u8 (48 + (k : Int) % 10)] := Src.of_own (own_new wr 5 1 1 _ rfl (by omega))
      have hg1 : pre.length + 1 ≤ maxLen := by unfold maxLen; omega
      have hg2 : (pre.length + 1) * 1 ≤ 140737488355328 := by omega
      have hbs : w.heap.size ≤ (wr.alloc (.cells #[.int .u8 (48 + (k : Int) % 10)] 5)).heap.size := Nat.le_trans hb.size hb1.size
      have hmap : pre.map bv ++ [.int .u8 (48 + (k : Int) % 10)] = (pre ++ [UInt8.ofNat (48 + k % 10)]).map bv := by rw [List.map_append, List.map_singleton, bv_dig]
      have hmp := Lib.hid hmap
      have hone : ∀ u ∈ [Value.int .u8 (48 + (k : Int) % 10)], u.oneCell' = true := by simp [Value.oneCell']
      have hL : (pre ++ [UInt8.ofNat (48 + k % 10)]).length = pre.length + 1 := by simp
      have HL := Lib.hid hL
      clear hmap hL
      by_cases hlt : k < 10
      · have HE2 : Hid (pre ++ [UInt8.ofNat (48 + k % 10)] = revd U) := Lib.hid (by rw [← revd_small hlt]; exact HE.out)
        have hq : ((k : Int) / 10 == 0) = true := by rw [beq_iff_eq]; omega
        go_wp2_with (at_builtin; refine wpList_append_src rfl (.tmp 12) (.tmp 17) 122 rfl w.heap.size 5 i0 _ 1 1 Try.underlying122 hi hz0 hz1 hz2 rfl (by omega) _ pre.length _ rfl hown1 _ 1 1 _ rfl hsrc (fun h => by cases h) hone hg1 hg2 hbs ?_; intro v2 w2 hown2 hg2)
        have hb2 := below_grown hown1 hg2 hbs
        rw [hmp.out] at hown2
        rw [← HL.out] at hown2
        have hR2 := reverse_own w2 w.heap.size v2 _ hown2 (by simp) (by rw [HL.out]; omega)
        rw [HE2.out] at hR2
        have hRne : revd U ≠ [] := by rw [← HE2.out]; simp
        clear hown1 hsrc hone hmp hown
        refine hR2.mono ?_
        rintro _ w3 ⟨rfl, hown3, hg3⟩
        have hs := run_str hown3 (by simpa using hRne)
        have hb3 := below_grown (w := w2) (w' := w3) hown2 hg3 (Nat.le_trans hbs hb2.size)
        clear hR2 hown2 hown3
        go_wp2_with fail
        go_ret
        refine ⟨?_, ((hb.thenCall hb.size hb1).trans hb2).trans hb3⟩
        rw [hD.out]
        exact ret_str ((ba_app _ _).trans (congrArg ByteArray.mk (by simp)))
      · have HE2 : Hid (pre ++ [UInt8.ofNat (48 + k % 10)] ++ revd (k / 10) = revd U) := Lib.hid (by rw [← HE.out, revd_big hlt]; simp)
        have hl2 : pre.length + (1 + (revd (k / 10)).length) ≤ 20 := by rw [revd_big hlt] at hlen; simp only [List.length_cons] at hlen; omega
        have hq : ((k : Int) / 10 == 0) = false := by rw [beq_eq_false_iff_ne]; omega
        go_wp2_with (at_builtin; refine wpList_append_src rfl (.tmp 12) (.tmp 17) 122 rfl w.heap.size 5 i0 _ 1 1 Try.underlying122 hi hz0 hz1 hz2 rfl (by omega) _ pre.length _ rfl hown1 _ 1 1 _ rfl hsrc (fun h => by cases h) hone hg1 hg2 hbs ?_; intro v2 w2 hown2 hg2)
        have hb2 := below_grown hown1 hg2 hbs
        rw [hmp.out, ← HL.out] at hown2
        exact ⟨⟨k / 10, _, by go_num, by omega, hown2, by rw [HL.out]; omega, HE2, (hb.thenCall hb.size hb1).trans hb2⟩, by simp [intOf]; omega⟩
  · obtain ⟨U, rfl⟩ : ∃ U : Nat, n = U := ⟨n.toNat, by omega⟩
    have hU : U ≤ 18446744073709551615 := by omega
    have hR : (revd U).length ≤ 20 := revd_len 19 U (by omega)
    have hD : Hid (digS U = (revd U).reverse) := Lib.hid (by unfold digS; rw [if_neg hn]; rfl)
    go_enter Try.func90, Try.ntmps90
    go_wp2_with fail
    go_loopw [4, 5] (fun u b wr => ∃ (k : Nat) (pre : List UInt8), u = .int .u64 k ∧ k ≤ 18446744073709551615 ∧ wr.ownsRow w.heap.size 5 1 b pre.length (pre.map bv) ∧ pre.length + (revd k).length ≤ 20 ∧ Hid (pre ++ revd k = revd U) ∧ Below w.heap.size w wr) (fun u _ _ => (intOf u).toNat)
    case atStart => exact ⟨U, [], rfl, hU, World.ownsRow_nil _ _ _ _, by simpa using hR, Lib.hid rfl, Below.refl _ _⟩
    case round =>
      obtain ⟨k, pre, rfl, hk, hown, hlen, HE, hb⟩ := hrel
      have hb1 := below1 wr (.cells #[.int .u8 (48 + (k : Int) % 10)] 5)
      have hown1 := own_below hown hb1 (Nat.le_refl _)
      have hsrc : Src (wr.alloc (.cells #[.int .u8 (48 + (k : Int) % 10)] 5)) 1 (some ⟨wr.heap.size, 0, none⟩) 1 [.int .u8 (48 + (k : Int) % 10)] := Src.of_own (own_new wr 5 1 1 _ rfl (by omega))
      have hg1 : pre.length + 1 ≤ maxLen := by unfold maxLen; omega
      have hg2 : (pre.length + 1) * 1 ≤ 140737488355328 := by omega
      have hbs : w.heap.size ≤ (wr.alloc (.cells #[.int .u8 (48 + (k : Int) % 10)] 5)).heap.size := Nat.le_trans hb.size hb1.size
      have hmap : pre.map bv ++ [.int .u8 (48 + (k : Int) % 10)] = (pre ++ [UInt8.ofNat (48 + k % 10)]).map bv := by rw [List.map_append, List.map_singleton, bv_dig]
      have hmp := Lib.hid hmap
      have hone : ∀ u ∈ [Value.int .u8 (48 + (k : Int) % 10)], u.oneCell' = true := by simp [Value.oneCell']
      have hL : (pre ++ [UInt8.ofNat (48 + k % 10)]).length = pre.length + 1 := by simp
      have HL := Lib.hid hL
      clear hmap hL
      by_cases hlt : k < 10
      · have HE2 : Hid (pre ++ [UInt8.ofNat (48 + k % 10)] = revd U) := Lib.hid (by rw [← revd_small hlt]; exact HE.out)
        have hq : ((k : Int) / 10 == 0) = true := by rw [beq_iff_eq]; omega
        go_wp2_with (at_builtin; refine wpList_append_src rfl (.tmp 12) (.tmp 17) 122 rfl w.heap.size 5 i0 _ 1 1 Try.underlying122 hi hz0 hz1 hz2 rfl (by omega) _ pre.length _ rfl hown1 _ 1 1 _ rfl hsrc (fun h => by cases h) hone hg1 hg2 hbs ?_; intro v2 w2 hown2 hg2)
        have hb2 := below_grown hown1 hg2 hbs
        rw [hmp.out] at hown2
        rw [← HL.out] at hown2
        have hR2 := reverse_own w2 w.heap.size v2 _ hown2 (by simp) (by rw [HL.out]; omega)
        rw [HE2.out] at hR2
        have hRne : revd U ≠ [] := by rw [← HE2.out]; simp
        clear hown1 hsrc hone hmp hown
        refine hR2.mono ?_
        rintro _ w3 ⟨rfl, hown3, hg3⟩
        have hs := run_str hown3 (by simpa using hRne)
        have hb3 := below_grown (w := w2) (w' := w3) hown2 hg3 (Nat.le_trans hbs hb2.size)
        clear hR2 hown2 hown3
        go_wp2_with fail
        go_ret
        refine ⟨?_, ((hb.thenCall hb.size hb1).trans hb2).trans hb3⟩
        rw [hD.out]
        exact ret_str ((ba_app _ _).trans (congrArg ByteArray.mk (by simp)))
      · have HE2 : Hid (pre ++ [UInt8.ofNat (48 + k % 10)] ++ revd (k / 10) = revd U) := Lib.hid (by rw [← HE.out, revd_big hlt]; simp)
        have hl2 : pre.length + (1 + (revd (k / 10)).length) ≤ 20 := by rw [revd_big hlt] at hlen; simp only [List.length_cons] at hlen; omega
        have hq : ((k : Int) / 10 == 0) = false := by rw [beq_eq_false_iff_ne]; omega
        go_wp2_with (at_builtin; refine wpList_append_src rfl (.tmp 12) (.tmp 17) 122 rfl w.heap.size 5 i0 _ 1 1 Try.underlying122 hi hz0 hz1 hz2 rfl (by omega) _ pre.length _ rfl hown1 _ 1 1 _ rfl hsrc (fun h => by cases h) hone hg1 hg2 hbs ?_; intro v2 w2 hown2 hg2)
        have hb2 := below_grown hown1 hg2 hbs
        rw [hmp.out, ← HL.out] at hown2
        exact ⟨⟨k / 10, _, by go_num, by omega, hown2, by rw [HL.out]; omega, HE2, (hb.thenCall hb.size hb1).trans hb2⟩, by simp [intOf]; omega⟩
set_option maxRecDepth 100000 in
theorem refd_any (U : Nat) (w : World) (hU : U ≤ 18446744073709551615) :
    Calls Try.prog 87 #[.int .u64 U] w fun e w' => e = .returned (.string ⟨(revd U).reverse.toArray⟩) ∧ Below w.heap.size w w' := by
  have hR : (revd U).length ≤ 20 := revd_len 19 U (by omega)
  go_enter Try.func87, Try.ntmps87
  go_wp2_with fail
  go_loopw [0, 3] (fun u s wr => ∃ (k : Nat) (l : List UInt8), u = .int .u64 k ∧ k ≤ 18446744073709551615 ∧ s = .string ⟨l.toArray⟩ ∧ l.length + (revd k).length ≤ 20 ∧ Hid ((revd k).reverse ++ l = (revd U).reverse) ∧ Below w.heap.size w wr) (fun u _ _ => (intOf u).toNat)
  case atStart => exact ⟨U, [], rfl, hU, rfl, by simpa using hR, Lib.hid (by simp), Below.refl _ _⟩
  case round =>
    obtain ⟨k, l, rfl, hk, rfl, hlen, HE, hb⟩ := hrel
    have hl0 : l.length ≤ 20 := by omega
    have hb1 := below1 wr (.cells #[.int .u8 (48 + (k : Int) % 10)] 5)
    have hcs : [Value.int .u8 (48 + (k : Int) % 10)] = [UInt8.ofNat (48 + k % 10)].map bv := by rw [List.map_singleton, bv_dig]
    have hs := run_str (w := wr.alloc (.cells #[.int .u8 (48 + (k : Int) % 10)] 5)) (B := wr.heap.size) (n := 1) (v := .slice (some ⟨wr.heap.size, 0, none⟩) 1 1) (l := [UInt8.ofNat (48 + k % 10)])
      (by rw [← hcs]; exact own_new wr 5 1 1 _ rfl (by omega)) (by simp)
    clear hcs
    by_cases hlt : k < 10
    · have hq : ((k : Int) / 10 == 0) = true := by rw [beq_iff_eq]; omega
      have HE2 : Hid ([UInt8.ofNat (48 + k % 10)] ++ l = (revd U).reverse) := Lib.hid (by rw [← HE.out, revd_small hlt]; simp)
      generalize UInt8.ofNat (48 + k % 10) = x at *
      go_wp2_with fail
      go_ret
      exact ⟨ret_str ((ba_app _ _).trans (congrArg ByteArray.mk (by rw [← HE2.out]; simp))), hb.thenCall hb.size hb1⟩
    · have hq : ((k : Int) / 10 == 0) = false := by rw [beq_eq_false_iff_ne]; omega
      have hl2 : 1 + l.length + (revd (k / 10)).length ≤ 20 := by rw [revd_big hlt] at hlen; simp only [List.length_cons] at hlen; omega
      have HE2 : Hid ((revd (k / 10)).reverse ++ ([UInt8.ofNat (48 + k % 10)] ++ l) = (revd U).reverse) := Lib.hid (by rw [← HE.out, revd_big hlt]; simp)
      generalize UInt8.ofNat (48 + k % 10) = x at *
      go_wp2_with fail
      exact ⟨⟨k / 10, _, by go_num, by omega, congrArg Value.string ((ba_app _ _).trans (congrArg ByteArray.mk (by simp))), (by simp only [List.length_append, List.length_cons, List.length_nil]; omega), HE2, hb.thenCall hb.size hb1⟩, by simp [intOf]; omega⟩
theorem refDigits_any (n : Int) (w : World) (h0 : -9223372036854775808 ≤ n) (h1 : n ≤ 9223372036854775807) :
    Calls Try.prog 43 #[.int .i64 n] w fun e w' => e = .returned (.string ⟨(digS n).toArray⟩) ∧ Below w.heap.size w w' := by
  by_cases hn : n < 0
  · obtain ⟨U, hUn⟩ : ∃ U : Nat, n = -(U : Int) := ⟨(-n).toNat, by omega⟩
    have hU : U ≤ 18446744073709551615 := by omega
    have hD : Hid (digS n = [45] ++ (revd U).reverse) := Lib.hid (by unfold digS; rw [if_pos hn, show (-n).toNat = U by omega]; rfl)
    have hW : -(n + 1) + 1 = (U : Int) := by omega
    have HC := fun w => Lib.hid (refd_any U w hU)
    have hR : (revd U).length ≤ 20 := revd_len 19 U (by omega)
    clear hUn
    go_enter Try.func43, Try.ntmps43
    go_wp2_with fail
    refine (HC _).out.mono ?_
    rintro _ w1 ⟨rfl, hb1⟩
    go_wp2_with fail
    go_ret
    exact ⟨ret_str ((ba_app _ _).trans (congrArg ByteArray.mk (by rw [hD.out]; simp))), hb1⟩
  · obtain ⟨U, rfl⟩ : ∃ U : Nat, n = U := ⟨n.toNat, by omega⟩
    have hU : U ≤ 18446744073709551615 := by omega
    have hD : Hid (digS U = (revd U).reverse) := Lib.hid (by unfold digS; rw [if_neg hn]; rfl)
    have HC := fun w => Lib.hid (refd_any U w hU)
    go_enter Try.func43, Try.ntmps43
    go_wp2_with fail
    refine (HC _).out.mono ?_
    rintro _ w1 ⟨rfl, hb1⟩
    go_wp2_with fail
    go_ret
    exact ⟨by rw [hD.out]; rfl, hb1⟩
end Go.Proofs.Ytccknhhjkkbadaa.Dig
