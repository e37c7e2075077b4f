/- StackDoes: whatever is pushed, popped and cut: the walk. -/
import Derived.Test.YthjcanjhpdpibaaStkF
import Derived.Test.YthjcanjhpdpibaaRefInts
import Derived.Test.YthjcanjhpdpibaaIt
import Derived.Test.YthjcanjhpdpibaaRfn
import Derived.Test.YthjcanjhpdpibaaSl
import Derived.Deep.RegionHeld3
import Derived.RangeFuncBox
import Derived.RangeFuncLeaves
import Derived.Shelf.Abstract
import Derived.WalkKit
import Derived.OwnWalkIn
import Derived.TacticsInMore
import Derived.LoopNIn
import Derived.LoopIn
import Derived.Maps.AppendAt
namespace Go.Proofs.Ythjcanjhpdpibaa.stackDoes
open Go.ChangeShapes Go.WideShapes Go.ChangeAt Go.RowKit Go.Proofs.Ythjcanjhpdpibaa.Lift Go.Proofs.Ythjcanjhpdpibaa.Stk Go.Proofs.Ythjcanjhpdpibaa.Sl
open Go.Shelf
attribute [local go_sem] Oper.semAt_some
set_option linter.unusedVariables false
set_option linter.unusedSimpArgs false
set_option maxRecDepth 100000
set_option maxHeartbeats 4000000
theorem long (w : World) (A D : Option Addr) (c c' : Nat) (l : List Int) (ds : List (Int × Int)) (most : Int) (h : InSl w A c l) (hd : ds.length ≤ 1048576) (hl : 40 < l.length ∨ (¬ 40 < l.length ∧ 60 < ds.length)) :
    Calls Try.prog 8 #[.slice A l.length c, .slice D ds.length c', .int .i64 most] w fun e w' => e = .returned (.bool true) ∧ Below w.heap.size w w' := by
  have hm := h.2.2.2.1
  rcases hl with hl | ⟨hl, hl2⟩
  all_goals
    refine Rf.calls_of_wp_marks Try.func8 rfl ?_
    simp only [Try.ntmps8, List.size_toArray, List.length_cons, List.length_nil, Nat.reduceAdd, Nat.reduceSub, Array.replicate_succ, Array.replicate_zero, List.push_toArray, List.append_toArray, List.nil_append, List.cons_append]
    go_wp2_with (go_at_call 9; refine (Stk.awake_any _).mono ?_; rintro e w' ⟨rfl, hb⟩)
    refine Rf.postM_ret (results_tmp rfl _ _ _) rfl ?_
    exact ⟨rfl, ((Below.refl _ _).alloc (Nat.le_refl _) _).trans (hb.mono (by simp))⟩
/-- the other list: ints that do not lie in the stack's block. -/
def Xs (w : World) (sb : Nat) (A : Option Addr) (cap : Nat) (xs : List Int) : Prop := InSl w A cap xs ∧ ∀ b o, A = some ⟨b, o, none⟩ → b ≠ sb
theorem Xs.fr {w w' : World} {sb cap : Nat} {A : Option Addr} {xs : List Int} (h : Xs w sb A cap xs) (hf : Fr sb w w') : Xs w' sb A cap xs := by
  refine ⟨⟨fun k hk => ?_, h.1.2⟩, h.2⟩
  obtain ⟨b, o, e, hl, hc⟩ := h.1.1 k hk
  refine ⟨b, o, e, Nat.lt_of_lt_of_le hl hf.1, ?_⟩
  have hb := hf.2 b hl (h.2 b o e)
  simp only [World.cell?] at hc ⊢
  rw [hb]
  exact hc
theorem Xs.take {w : World} {sb cap : Nat} {A : Option Addr} {xs : List Int} (h : Xs w sb A cap xs) (k : Nat) : Xs w sb A cap (xs.take k) := by
  obtain ⟨⟨h1, h2, h3, h4, h5⟩, h6⟩ := h
  refine ⟨⟨fun j hj => ?_, by simp; omega, h3, by simp; omega, h5⟩, h6⟩
  rw [List.length_take] at hj
  obtain ⟨b, o, e, hl, hc⟩ := h1 j (by omega)
  exact ⟨b, o, e, hl, by rw [hc]; simp [List.getD, List.getElem?_take, show j < k by omega]⟩
theorem topE {V : World} {base sb : Nat} {ys : List Int} {z : Int} (h : Stk V base sb (ys ++ [z]).reverse) : Calls Try.prog 21 #[.pointer (some ⟨sb, 0, none⟩)] V fun e w' => e = .returned (.tuple #[.int .i64 z, .bool true]) ∧ V = w' := by
  rw [List.reverse_append, List.reverse_singleton, List.singleton_append] at h
  exact top_stk _ _ _ _ _ h
theorem lenE {V : World} {base sb : Nat} {ys : List Int} {z : Int} (h : Stk V base sb (ys ++ [z]).reverse) : Calls Try.prog 12 #[.pointer (some ⟨sb, 0, none⟩)] V fun e w' => e = .returned (.int .i64 ((ys.length + 1 : Nat) : Int)) ∧ V = w' := by
  have := len_stk _ _ _ _ h
  simpa using this
theorem popE {V : World} {base sb : Nat} {ys : List Int} {z : Int} (h : Stk V base sb (ys ++ [z]).reverse) (hn : ys.length ≤ 1000000) : Calls Try.prog 11 #[.pointer (some ⟨sb, 0, none⟩)] V fun e w' => (e = .returned (.tuple #[.int .i64 z, .bool true]) ∧ Stk w' base sb ys.reverse ∧ Below base V w') ∧ Fr sb V w' := by
  rw [List.reverse_append, List.reverse_singleton, List.singleton_append] at h
  exact pop_stkF _ _ _ _ _ h (by simpa using hn)
theorem lastE {V : World} {sb cp : Nat} {B : Option Addr} {ys : List Int} {z : Int} (h : Xs V sb B cp (ys ++ [z])) : ∃ b o, B = some ⟨b, o, none⟩ ∧ V.cell? ⟨b, o + ys.length, none⟩ = some (.int .i64 z) := by
  obtain ⟨b, o, e, _, hc⟩ := h.1.1 ys.length (by simp)
  exact ⟨b, o, e, by rw [hc]; simp⟩
theorem Xs.init {V : World} {sb cp : Nat} {B : Option Addr} {ys : List Int} {z : Int} (h : Xs V sb B cp (ys ++ [z])) : Xs V sb B cp ys := by
  have := h.take ys.length
  simpa using this
theorem cutE {V : World} {base sb n L : Nat} {xs : List Int} (y : Int) (h : Stk V base sb xs.reverse) (hn : xs.length = n) (hm : n ≤ 1000000) (hL : leftN y n = L) : Calls Try.prog 18 #[.pointer (some ⟨sb, 0, none⟩), .int .i64 y] V fun e w' => (e = .returned (.int .i64 ((n : Int) - (L : Int))) ∧ Stk w' base sb (xs.take L).reverse ∧ Below base V w') ∧ Fr sb V w' := by
  have hL2 : L ≤ n := by rw [← hL]; exact Nat.min_le_right _ _
  refine (cut_stkF V base sb _ y h (by simp; omega)).mono ?_
  rintro e w' ⟨⟨rfl, hs, hb⟩, hf⟩
  rw [List.length_reverse, hn, hL, List.drop_reverse, hn, Nat.sub_sub_self hL2] at hs
  exact ⟨⟨by rw [List.length_reverse, hn, hL, Int.ofNat_sub hL2], hs, hb⟩, hf⟩
/-- the tail's facts: nothing is left. -/
theorem tail0 {w : World} {base sb cp : Nat} {B : Option Addr} {xs : List Int} (hX : Xs w sb B cp xs) : ∀ w', Fr sb w w' → Stk w' base sb (xs.take 0).reverse →
    Calls Try.prog 21 #[.pointer (some ⟨sb, 0, none⟩)] w' (fun e w'' => e = .returned (.tuple #[.int .i64 0, .bool false]) ∧ w' = w'') ∧ Calls Try.prog 12 #[.pointer (some ⟨sb, 0, none⟩)] w' (fun e w'' => e = .returned (.int .i64 0) ∧ w' = w'') := fun w' hF hS => by
  rw [List.take_zero, List.reverse_nil] at hS
  exact ⟨top_stk_nil _ _ _ hS, len_stk _ _ _ _ hS⟩
theorem tail1 {w : World} {base sb cp m : Nat} {B : Option Addr} {xs : List Int} (hX : Xs w sb B cp xs) (hm : m < xs.length) : ∃ b o x, B = some ⟨b, o, none⟩ ∧ ∀ w', Fr sb w w' → Stk w' base sb (xs.take (m + 1)).reverse →
    Calls Try.prog 21 #[.pointer (some ⟨sb, 0, none⟩)] w' (fun e w'' => e = .returned (.tuple #[.int .i64 x, .bool true]) ∧ w' = w'') ∧ Calls Try.prog 12 #[.pointer (some ⟨sb, 0, none⟩)] w' (fun e w'' => e = .returned (.int .i64 ((m + 1 : Nat) : Int)) ∧ w' = w'') ∧ w'.cell? ⟨b, o + m, none⟩ = some (.int .i64 x) := by
  obtain ⟨b, o, e, hl, hc⟩ := hX.1.1 m hm
  refine ⟨b, o, xs.getD m 0, e, fun w' hF hS => ?_⟩
  have hl2 := len_stk _ _ _ _ hS
  rw [take_rev xs m hm] at hS
  refine ⟨top_stk _ _ _ _ _ hS, ?_, ?_⟩
  · rw [List.length_reverse, List.length_take, Nat.min_eq_left (by omega)] at hl2
    exact hl2
  · obtain ⟨b3, o3, e3, _, hc3⟩ := (hX.fr hF).1.1 m hm
    rw [e] at e3
    injection e3 with e3
    injection e3 with ea eb
    subst ea eb
    exact hc3
theorem grownXs {y1 : World} {K sb n : Nat} {v2 : Value} {xs : List Int} {y : Int} (ho : y1.ownsRow K 3 1 v2 (n + 1) (xs.map (Value.int .i64) ++ [.int .i64 y])) (hn : xs.length = n) (hm : n ≤ 1000) (hK : sb < K) : ∃ A cap, v2 = .slice A (n + 1) cap ∧ Xs y1 sb A cap (xs ++ [y]) := by
  have e : xs.map (Value.int .i64) ++ [.int .i64 y] = (xs ++ [y]).map (Value.int .i64) := by simp
  have e2 : n + 1 = (xs ++ [y]).length := by simp [hn]
  rw [e, e2] at ho
  obtain ⟨A, cap, rfl, -, -⟩ := own_form ho
  have ho' : OwnR y1 K A cap (xs ++ [y]) := ho
  refine ⟨A, cap, by rw [← e2], ho'.insl (by simp; omega), fun b o e => ?_⟩
  subst e
  have := (ho.lt b rfl).1
  omega
theorem new0 (w : World) (v : Value) (t : TypeId) : (w.alloc (.cells #[v] t)).cell? ⟨w.heap.size, 0, none⟩ = some v := by
  have h : (w.alloc (.cells #[v] t)).heap[w.heap.size]? = some (.cells #[v] t) := heap_alloc_new w _
  unfold World.cell?
  rw [h]
  rfl
def OwnRow (w : World) (B : Nat) (v : Value) (l : List Int) : Prop := w.ownsRow B 3 1 v l.length (l.map (Value.int .i64))
theorem ix_own (c : Code) (wr : World) (B m : Nat) (hB : wr.heap.size ≤ B) : OwnFrom B (fun (pre : List Int) W => (c = .exit 3 ∧ ∃ gs x, pre = gs ++ [x] ∧ m = gs.length ∧ ∃ v, Boxed W wr.heap.size 22 v ∧ W.ownsRow wr.heap.size 3 1 v gs.length (gs.map (Value.int .i64))) ∧ Below wr.heap.size wr W) := by
  refine OwnFrom.and (Own.from ?_ _) (ownFrom_below (Nat.le_refl _) hB)
  rintro s X Y row ⟨rfl, gs, x, rfl, rfl, v, hv, hr⟩ hg hrow
  obtain ⟨v', hv', hr', -⟩ := holdsRow_own wr.heap.size wr.heap.size 22 3 1 (fun pre : List Int => pre.length) (fun pre => pre.map (Value.int .i64)) (fun _ _ => True) gs X Y row ⟨v, hv, hr, trivial⟩ hg hrow
  exact ⟨rfl, gs, x, rfl, rfl, v', hv', hr'⟩
theorem cut_nil (w : World) : Calls Try.prog 18 #[.pointer none, .int .i64 0] w fun e w' => e = .returned (.int .i64 0) ∧ w = w' := by
  go_enter Try.func18, Try.ntmps18
  go_wp2_with fail
  refine wp_loop_once ?_
  go_wp2_with (go_at_call 12; refine (Stk.len_nil _).mono ?_; rintro e w' ⟨rfl, rfl⟩)
  go_ret
  exact ⟨rfl, rfl⟩
theorem mid (w : World) (A D : Option Addr) (c c' : Nat) (l : List Int) (ds : List (Int × Int)) (most : Int) (h : InSl w A c l) (hD : Lift.RowsIn DeedR w 2 D ds) (hl : l.length ≤ 40) (hl2 : ds.length ≤ 60) :
    Calls Try.prog 8 #[.slice A l.length c, .slice D ds.length c', .int .i64 most] w fun e w' => e = .returned (.bool true) ∧ Below w.heap.size w w' := by
  refine Rf.calls_of_wp_marks Try.func8 rfl ?_
  simp only [Try.ntmps8, List.size_toArray, List.length_cons, List.length_nil, Nat.reduceAdd, Nat.reduceSub, Array.replicate_succ, Array.replicate_zero, List.push_toArray, List.append_toArray, List.nil_append, List.cons_append]
  go_wp2_with fail
  refine (Stk.awake_any _).mono ?_
  rintro e w1 ⟨rfl, hb1⟩
  go_wp2_with fail
  have hbx := ((Below.refl w.heap.size w).alloc (Nat.le_refl _) (.cells #[.int .i64 most] 3)).trans (hb1.mono (by simp))
  have hM : w1.cell? ⟨w.heap.size, 0, none⟩ = some (.int .i64 most) := (hb1.cell (p := ⟨w.heap.size, 0, none⟩) (by simp)).trans (new0 w _ 3)
  have hI1 := h.below hbx (Nat.le_refl _)
  refine (of_any w1 A c l hI1.1 (by omega)).mono ?_
  rintro e w2 ⟨sb, rfl, hs2, hb2⟩
  obtain ⟨i0, hi0, hz0, hz1, hz2⟩ := info_parts info3'
  have hI2 := hI1.below hb2 (Nat.le_refl _)
  have hsr := ints_src hI2.1
  have hone := ints_one l
  have hg1 : 0 + l.length ≤ maxLen := by unfold maxLen; omega
  have hg2 : (0 + l.length) * 8 ≤ 140737488355328 := by omega
  have hcap := h.2.2.2.2
  go_wp2_with (at_builtin; refine wpList_append_src rfl (.const (.slice none 0 0)) (.tmp 39) 22 rfl w2.heap.size 3 i0 _ 1 8 Try.underlying22 hi0 hz0 hz1 hz2 rfl (by omega) _ 0 [] rfl (World.ownsRow_nil w2 _ 3 1) A l.length c _ rfl hsr hcap hone hg1 hg2 (Nat.le_refl _) ?_; intro v2 w3 ho3 hg3)
  have ho3' : w3.ownsRow w2.heap.size 3 1 v2 l.length (l.map (Value.int .i64)) := by simpa using ho3
  have h23 : Below w2.heap.size w2 w3 := below_grown (World.ownsRow_nil w2 _ 3 1) hg3 (Nat.le_refl _)
  obtain ⟨A0, c0, rfl, -, -⟩ := own_form ho3'
  have ho4 : OwnR w3 w2.heap.size A0 c0 l := ho3'
  have hxs0 : Xs w3 sb A0 c0 l := ⟨ho4.insl (by omega), fun b o e => by
    subst e
    have := (ho3'.lt b rfl).1
    have := hs2.lt
    omega⟩
  have hs3 := hs2.below h23 (Nat.le_refl _)
  have h13 : Below w1.heap.size w1 w3 := hb2.trans (h23.mono hb2.size)
  have HH := Lib.hid (And.intro hxs0 hs3)
  have HBX := Lib.hid hbx
  have HM := Lib.hid hM
  have HI1 := Lib.hid hI1
  clear hI1 hI2 hsr hone hs2 ho3 ho3' ho4 hg3 h23 hxs0 hs3 hb1 hb2 hM hg1 hg2 h hbx
  go_loopw [8, 43] (fun x i wr => ∃ (j : Nat) (A : Option Addr) (cp : Nat) (xs : List Int), x = .slice A xs.length cp ∧ i = .int .i64 j ∧ j ≤ ds.length ∧ xs.length ≤ 40 + j ∧ Hid (Xs wr sb A cp xs ∧ Stk wr w1.heap.size sb xs.reverse) ∧ Below w1.heap.size w1 wr) (fun x i _ => ds.length - (intOf i).toNat)
  case atStart => exact ⟨0, A0, c0, l, rfl, rfl, Nat.zero_le _, by omega, HH, h13⟩
  case round =>
    obtain ⟨j, B, cp, xs, rfl, rfl, hj, hlen, hX, hb⟩ := hrel
    by_cases hlt : j < ds.length
    · obtain ⟨b, o, cs, rfl, hbl, hR, hk, hc⟩ := hD j hlt
      unfold DeedR at hR
      subst hR
      have hbw := HBX.out.trans (hb.mono HBX.out.size)
      have hc0 := (hbw.cell (p := ⟨b, o + j * 2, none⟩) hbl).trans (hc 0 _ rfl)
      have hc1 := (hbw.cell (p := ⟨b, o + j * 2 + 1, none⟩) hbl).trans (hc 1 _ rfl)
      generalize hz : ds[j] = z at *
      obtain ⟨a, y⟩ := z
      clear hc
      simp only at hc0 hc1
      have HZ := Lib.hid hz
      clear hz
      have hVb : Below wr.heap.size wr (wr.alloc (.cells #[.int .i64 a, .int .i64 y] 41)) := (Below.refl _ _).alloc (Nat.le_refl _) _
      have hXV := Lib.hid (hX.out.1.fr (Fr.of_below hVb))
      have hSV := Lib.hid (hX.out.2.below hVb (Nat.le_refl _))
      have hBV := hb.trans (hVb.mono hb.size)
      by_cases ha1 : a = 1
      · subst ha1
        rcases Nat.eq_zero_or_pos xs.length with h0 | h0
        · obtain rfl : xs = [] := List.eq_nil_of_length_eq_zero h0
          have hpop := pop_stk_nil _ _ _ hSV.out
          have htop := top_stk_nil _ _ _ hSV.out
          have hlen2 := len_stk _ _ _ _ hSV.out
          simp only [List.length_nil, List.reverse_nil] at *
          go_wp2_with (first | (go_at_call 11; refine hpop.mono ?_; rintro e w' ⟨rfl, rfl⟩) | (go_at_call 21; refine htop.mono ?_; rintro e w' ⟨rfl, rfl⟩) | (go_at_call 12; refine hlen2.mono ?_; rintro e w' ⟨rfl, rfl⟩))
          exact ⟨⟨j + 1, B, cp, [], rfl, rfl, by omega, by simp, Lib.hid ⟨hXV.out, hSV.out⟩, hBV⟩, by simp [intOf]; omega⟩
        · obtain ⟨ys, z, rfl⟩ : ∃ ys z, xs = ys ++ [z] := by
            rcases List.eq_nil_or_concat xs with h | ⟨ys, z, h⟩
            · subst h; simp at h0
            · exact ⟨ys, z, by simpa using h⟩
          obtain ⟨b2, o2, rfl, hl2c⟩ := lastE hXV.out
          have hpop := popE hSV.out (by simp at hlen; omega)
          have hlenY : ys.length + 1 ≤ 40 + j := by simpa using hlen
          have hcp : ys.length + 1 ≤ cp := by have := hXV.out.1.2.1; simpa using this
          have hcp2 := hXV.out.1.2.2.1
          have e1 : (ys ++ [z]).length = ys.length + 1 := by simp
          rw [e1] at *
          clear e1 hlen h0 hX
          have HXI := Lib.hid (Xs.init hXV.out)
          have hC1 : ∀ w', Fr sb (wr.alloc (.cells #[.int .i64 1, .int .i64 y] 41)) w' → w'.cell? ⟨b2, o2 + ys.length, none⟩ = some (.int .i64 z) := fun w' hF => by
            obtain ⟨b3, o3, e, hh⟩ := lastE (hXV.out.fr hF)
            injection e with e
            injection e with ea eb
            subst ea eb
            exact hh
          clear hXV
          rcases List.eq_nil_or_concat ys with h | ⟨us, x, h⟩
          · subst h
            simp only [List.length_nil, List.reverse_nil, Nat.zero_add, Nat.add_zero] at *
            go_wp2_with (first | (go_at_call 11; refine hpop.mono ?_; rintro e w' ⟨⟨rfl, hS', hB'⟩, hF'⟩; have htop := top_stk_nil _ _ _ hS'; have hlen2 := len_stk _ _ _ _ hS'; have hl4c := hC1 _ hF'; have HS' := Lib.hid hS'; have HF' := Lib.hid hF'; clear hS' hF') | (go_at_call 21; refine htop.mono ?_; rintro e w' ⟨rfl, rfl⟩) | (go_at_call 12; refine hlen2.mono ?_; rintro e w' ⟨rfl, rfl⟩))
            exact ⟨⟨j + 1, _, cp, [], rfl, rfl, by omega, by simp, Lib.hid ⟨HXI.out.fr HF'.out, HS'.out⟩, hBV.trans hB'⟩, by simp [intOf]; omega⟩
          · rw [List.concat_eq_append] at h
            subst h
            have e2 : (us ++ [x]).length = us.length + 1 := by simp
            rw [e2] at hlenY hcp ⊢
            simp only [e2] at hC1
            clear e2
            go_wp2_with (first | (go_at_call 11; refine hpop.mono ?_; rintro e w' ⟨⟨rfl, hS', hB'⟩, hF'⟩; have htop := topE hS'; have hlen2 := lenE hS'; have hl4c := hC1 _ hF'; have HX' := Lib.hid (HXI.out.fr hF'); have HS' := Lib.hid hS'; clear hS' hF'; have hl3c : w'.cell? ⟨b2, o2 + us.length, none⟩ = some (.int .i64 x) := (by obtain ⟨b3, o3, e, hh⟩ := lastE HX'.out; injection e with e; injection e with ea eb; subst ea eb; exact hh)) | (go_at_call 21; refine htop.mono ?_; rintro e w' ⟨rfl, rfl⟩) | (go_at_call 12; refine hlen2.mono ?_; rintro e w' ⟨rfl, rfl⟩))
            exact ⟨⟨j + 1, _, cp, us ++ [x], by simp, rfl, by omega, by simp; omega, Lib.hid ⟨HX'.out, HS'.out⟩, hBV.trans hB'⟩, by simp [intOf]; omega⟩
      · by_cases ha2 : a = 2
        · subst ha2
          obtain ⟨n, hn⟩ : ∃ n, xs.length = n := ⟨_, rfl⟩
          have hncp : n ≤ cp := by have := hXV.out.1.2.1; omega
          have hcp2 := hXV.out.1.2.2.1
          have hn2 : n ≤ 100 := by omega
          rw [hn] at hlen ⊢
          obtain ⟨L, hL⟩ : ∃ L, leftN y n = L := ⟨_, rfl⟩
          have hcut := cutE y hSV.out hn (by omega) hL
          have hL2 : (y < 0 ∧ L = 0) ∨ (0 ≤ y ∧ y ≤ n ∧ (L : Int) = y) ∨ (n < y ∧ L = n) := by unfold leftN at hL; omega
          have hLn : L ≤ n := by omega
          have HLT : Hid ((xs.take L).length = L) := Lib.hid (by rw [List.length_take]; omega)
          have HTK := Lib.hid (hXV.out.take L)
          clear hL
          rcases Nat.eq_zero_or_pos L with h0 | h0
          · subst h0
            have hT := tail0 (base := w1.heap.size) hXV.out
            clear hX
            rcases hL2 with ⟨h1, -⟩ | ⟨h1, h2, h3⟩ | ⟨h1, h2⟩
            · go_wp2_with (first | (go_at_call 18; refine hcut.mono ?_; rintro e w' ⟨⟨rfl, hS', hB'⟩, hF'⟩; obtain ⟨htop, hlen2⟩ := hT _ hF' hS'; have HS' := Lib.hid hS'; have HF' := Lib.hid hF'; clear hS' hF') | (go_at_call 21; refine htop.mono ?_; rintro e w' ⟨rfl, rfl⟩) | (go_at_call 12; refine hlen2.mono ?_; rintro e w' ⟨rfl, rfl⟩))
              exact ⟨⟨j + 1, _, cp, _, by rw [HLT.out], rfl, by omega, by rw [HLT.out]; omega, Lib.hid ⟨HTK.out.fr HF'.out, HS'.out⟩, hBV.trans hB'⟩, by simp [intOf]; omega⟩
            · obtain rfl : y = 0 := by omega
              clear h3 h1 h2
              go_wp2_with (first | (go_at_call 18; refine hcut.mono ?_; rintro e w' ⟨⟨rfl, hS', hB'⟩, hF'⟩; obtain ⟨htop, hlen2⟩ := hT _ hF' hS'; have HS' := Lib.hid hS'; have HF' := Lib.hid hF'; clear hS' hF') | (go_at_call 21; refine htop.mono ?_; rintro e w' ⟨rfl, rfl⟩) | (go_at_call 12; refine hlen2.mono ?_; rintro e w' ⟨rfl, rfl⟩))
              exact ⟨⟨j + 1, _, cp, _, by rw [HLT.out], rfl, by omega, by rw [HLT.out]; omega, Lib.hid ⟨HTK.out.fr HF'.out, HS'.out⟩, hBV.trans hB'⟩, by simp [intOf]; omega⟩
            · obtain rfl : n = 0 := by omega
              go_wp2_with (first | (go_at_call 18; refine hcut.mono ?_; rintro e w' ⟨⟨rfl, hS', hB'⟩, hF'⟩; obtain ⟨htop, hlen2⟩ := hT _ hF' hS'; have HS' := Lib.hid hS'; have HF' := Lib.hid hF'; clear hS' hF') | (go_at_call 21; refine htop.mono ?_; rintro e w' ⟨rfl, rfl⟩) | (go_at_call 12; refine hlen2.mono ?_; rintro e w' ⟨rfl, rfl⟩))
              exact ⟨⟨j + 1, _, cp, _, by rw [HLT.out], rfl, by omega, by rw [HLT.out]; omega, Lib.hid ⟨HTK.out.fr HF'.out, HS'.out⟩, hBV.trans hB'⟩, by simp [intOf]; omega⟩
          · obtain ⟨m, rfl⟩ : ∃ m, L = m + 1 := ⟨L - 1, by omega⟩
            obtain ⟨b2, o2, x, rfl, hT⟩ := tail1 (base := w1.heap.size) hXV.out (show m < xs.length by omega)
            clear hX
            rcases hL2 with ⟨h1, h2⟩ | ⟨h1, h2, h3⟩ | ⟨h1, h2⟩
            · omega
            · obtain rfl : y = (m : Int) + 1 := by omega
              clear h3 h1
              go_wp2_with (first | (go_at_call 18; refine hcut.mono ?_; rintro e w' ⟨⟨rfl, hS', hB'⟩, hF'⟩; obtain ⟨htop, hlen2, hl4c⟩ := hT _ hF' hS'; have HS' := Lib.hid hS'; have HF' := Lib.hid hF'; clear hS' hF') | (go_at_call 21; refine htop.mono ?_; rintro e w' ⟨rfl, rfl⟩) | (go_at_call 12; refine hlen2.mono ?_; rintro e w' ⟨rfl, rfl⟩))
              exact ⟨⟨j + 1, _, cp, _, by rw [HLT.out], rfl, by omega, by rw [HLT.out]; omega, Lib.hid ⟨HTK.out.fr HF'.out, HS'.out⟩, hBV.trans hB'⟩, by simp [intOf]; omega⟩
            · obtain rfl : n = m + 1 := by omega
              clear h2
              go_wp2_with (first | (go_at_call 18; refine hcut.mono ?_; rintro e w' ⟨⟨rfl, hS', hB'⟩, hF'⟩; obtain ⟨htop, hlen2, hl4c⟩ := hT _ hF' hS'; have HS' := Lib.hid hS'; have HF' := Lib.hid hF'; clear hS' hF') | (go_at_call 21; refine htop.mono ?_; rintro e w' ⟨rfl, rfl⟩) | (go_at_call 12; refine hlen2.mono ?_; rintro e w' ⟨rfl, rfl⟩))
              exact ⟨⟨j + 1, _, cp, _, by rw [HLT.out], rfl, by omega, by rw [HLT.out]; omega, Lib.hid ⟨HTK.out.fr HF'.out, HS'.out⟩, hBV.trans hB'⟩, by simp [intOf]; omega⟩
        · obtain ⟨n, hn⟩ : ∃ n, xs.length = n := ⟨_, rfl⟩
          have hncp : n ≤ cp := by have := hXV.out.1.2.1; omega
          have hncp' : (n : Int) ≤ (cp : Int) := by omega
          have hcp2 := hXV.out.1.2.2.1
          have hn2 : n ≤ 100 := by omega
          have hpush := push_stkF _ _ _ _ y hSV.out (by simp; omega) hBV.size
          have HNo : Hid (B = none → n = 0 ∧ n = 0) := Lib.hid (fun h => by have := hXV.out.1.2.2.2.2 h; have := hXV.out.1.2.1; omega)
          have hsl := hX.out.2.lt
          rw [hn] at hlen ⊢
          have HN := Lib.hid hn
          clear hn hX
          go_wp2_with fail
          refine hpush.mono ?_
          rintro e V3 ⟨⟨rfl, hS', hB'⟩, hF'⟩
          have hbx1 : V3.cell? ⟨wr.heap.size, 1, none⟩ = some (.int .i64 y) := by
            have h1 := hF'.2 wr.heap.size (by simp) (by omega)
            unfold World.cell?
            rw [h1, heap_alloc_new]
            rfl
          have hXp := hXV.out.fr hF'
          have hg1 : n + 1 ≤ maxLen := by unfold maxLen; omega
          have hg2' : (n + 1) * 8 ≤ 140737488355328 := by omega
          have HOL := fun y' (hy : Below V3.heap.size V3 y') => Lib.hid (holds_of (hXp.1.1.below hy (Nat.le_refl _)))
          have HLM : Hid ((xs.map (Value.int .i64)).length = n * 1) := Lib.hid (by have := HN.out; simp; omega)
          have MS : Hid (∀ y', Below V3.heap.size V3 y' → (fun w' : World => w'.cell? ⟨wr.heap.size, 1, none⟩ = some (.int .i64 y)) y') := Lib.hid (fun y' hy => (hy.cell (p := ⟨wr.heap.size, 1, none⟩) (by have := hF'.1; simp at this ⊢; omega)).trans hbx1)
          have hone : ∀ u ∈ [Value.int .i64 y], u.oneCell' = true := by simp [Value.oneCell']
          have hB0 : Below V3.heap.size V3 V3.drew := (Below.refl _ _).drew
          have hBA : ∀ o, Below V3.heap.size V3 (V3.alloc o).drew := fun o => ((Below.refl _ _).alloc (Nat.le_refl _) o).drew
          have HS' := Lib.hid hS'
          have hF'0 : Hid (sb < V3.heap.size) := Lib.hid (by have := hF'.1; simp at this; omega)
          have HXp := Lib.hid hXp
          clear hS' hF' hXp hpush
          go_wp2_with fail
          go_region_held3 (fun w' => w'.cell? ⟨wr.heap.size, 1, none⟩ = some (.int .i64 y))
            (first | exact MS.out _ hB1 | exact MS.out _ (hBA _) | exact MS.out _ (hB0.alloc hB0.size _) | exact MS.out _ hB0)
            ((refine step_append_grows rfl (.tmp 58) (.tmp 61) 22 rfl 3 i0 _ 1 8 Try.underlying22 hi0 hz0 hz1 hz2 rfl Nat.one_pos B n n (xs.map (Value.int .i64)) rfl HNo.out HLM.out (HOL _ (hBA _)).out ⟨V3.heap.size, 0, none⟩ 1 1 [.int .i64 y] rfl rfl (srcD V3 y).cells hone (Nat.lt_succ_self _) hg1 hg2' ?_; intro v2 y1 hO2 hG2; have hB1 := (hBA (.cells #[.int .i64 y] 3)).trans ((Below.refl _ _).grown hG2 (hBA _).size (fun k h => nomatch h))))
          have hK : sb < ((V3.alloc (.cells #[.int .i64 y] 3)).drew).heap.size := by
            have h1 := hF'0.out
            have h2 := hBA (.cells #[.int .i64 y] 3)
            have := h2.size
            omega
          obtain ⟨A2, cap2, rfl, hX2⟩ := grownXs hO2 HN.out (by omega) hK
          have hS2 : Stk y1 w1.heap.size sb (xs ++ [y]).reverse := by
            have := HS'.out.below hB1 (Nat.le_refl _)
            simpa using this
          have htop := topE hS2
          have hlen2 := lenE hS2
          obtain ⟨b2, o2, rfl, hl4c⟩ := lastE hX2
          rw [HN.out] at hlen2 hl4c
          have hcap3 := hX2.1.2.2.1
          have HX2 := Lib.hid hX2
          have HS2 := Lib.hid hS2
          have hB2 := (hBV.trans hB').trans (hB1.mono ((hBV.trans hB').size))
          clear hX2 hS2 MS HOL hO2 hG2 hBA hB0 hone hB1
          go_wp2_with (first | (go_at_call 21; refine htop.mono ?_; rintro e w' ⟨rfl, rfl⟩) | (go_at_call 12; refine hlen2.mono ?_; rintro e w' ⟨rfl, rfl⟩))
          exact ⟨⟨j + 1, _, cap2, xs ++ [y], by simp [HN.out], rfl, by omega, by simp [HN.out]; omega, Lib.hid ⟨HX2.out, HS2.out⟩, hB2⟩, by simp [intOf]; omega⟩
    · obtain rfl : j = ds.length := by omega
      as_aux_lemma =>
        rename World => R
        obtain ⟨p0, hsb1, hhs, hch⟩ := hX.out.2
        have hsl := lt_of_heap hhs
        have hw1 : w.heap.size < w1.heap.size := World.block_lt_of_cell? _ _ HM.out
        have hw1r := hb.size
        have hMr : R.cell? ⟨w.heap.size, 0, none⟩ = some (.int .i64 most) := (hb.cell (p := ⟨w.heap.size, 0, none⟩) hw1).trans HM.out
        have hsbc : R.cell? ⟨sb, 0, none⟩ = some (.pointer p0) := by simp [World.cell?, hhs]
        have hIL := It.IsList.of_chain hch
        go_wp2_with (go_at_call 22; refine (It.all_any _ _).mono ?_; rintro e w' ⟨rfl, rfl⟩)
        have bO := Boxed.new R 22 (.slice none 0 0)
        have bN := Boxed.new (R.alloc (.cells #[.slice none 0 0] 22)) 24 (.pointer (some ⟨sb, 0, none⟩))
        rw [World.size_alloc] at bN
        have hB0 : Below R.heap.size R ((R.alloc (.cells #[.slice none 0 0] 22)).alloc (.cells #[.pointer (some ⟨sb, 0, none⟩)] 24)) := ((Below.refl _ R).alloc (Nat.le_refl _) _).alloc (by simp) _
        refine Rf.wp_range_upto (k := 3) (gf := 25) (lb := #[.pointer (some ⟨R.heap.size + 1, 0, none⟩)]) rfl (enters_of Try.func25 (by kernel_rfl) rfl)
          (It.stops (R.heap.size + 1) R.heap.size sb p0 xs.reverse _ (by simp) (by simp; omega) (by simp; omega) bN.cell ((hB0.cell (p := ⟨sb, 0, none⟩) hsl).trans hsbc) (hIL.below hB0)) belowK_t (belowK_b (by simp; omega)) (fun _ => rfl)
          (fun pre W => (∃ v, Boxed W R.heap.size 22 v ∧ W.ownsRow R.heap.size 3 1 v pre.length (pre.map (Value.int .i64)) ∧ pre.length ≤ most.toNat) ∧ Below R.heap.size R W)
          (fun c pre W => (c = .exit 3 ∧ ∃ gs x, pre = gs ++ [x] ∧ most.toNat = gs.length ∧ ∃ v, Boxed W R.heap.size 22 v ∧ W.ownsRow R.heap.size 3 1 v gs.length (gs.map (Value.int .i64))) ∧ Below R.heap.size R W)
          ?I1 ?I2 ?I3 (fun a W h => by simpa [Exit.inBlock] using h)
          (fun W => (∃ v, Boxed W R.heap.size 22 v ∧ OwnRow W R.heap.size v (xs.reverse.take most.toNat)) ∧ Below R.heap.size R W) ?E1 ?E2 ?ab ?done
        case I1 => exact OwnFrom.and (Own.from (holdsRow_own R.heap.size R.heap.size 22 3 1 (fun pre : List Int => pre.length) (fun pre => pre.map (Value.int .i64)) (fun pre v => pre.length ≤ most.toNat)) _) (ownFrom_below (Nat.le_refl _) (by simp; omega))
        case I2 => exact fun c => ix_own c _ _ _ (by simp; omega)
        case I3 => exact ⟨⟨_, bO.alloc _, World.ownsRow_nil _ _ _ _, Nat.zero_le _⟩, hB0⟩
        case E1 =>
          rintro ys W rfl ⟨⟨v, hv, hr, hle⟩, hB⟩
          exact ⟨⟨v, hv, by rw [List.take_of_length_le hle]; exact hr⟩, hB⟩
        case E2 =>
          rintro c pre W hp ⟨⟨rfl, gs, x, rfl, hm, v, hv, hr⟩, hB⟩
          refine ⟨rfl, ⟨v, hv, ?_⟩, hB⟩
          obtain ⟨r, hr2⟩ := hp
          have : xs.reverse.take most.toNat = gs := by rw [← hr2, hm]; simp
          rw [this]
          exact hr
        case ab =>
          apply Exists.intro
          apply And.intro
          case left =>
            intro l x W K hK
            gi_wp2
            exact hK
          case right =>
            rintro l pre x W ⟨⟨v, hv, hrow, hle⟩, hB⟩ hlt2
            have hc := hv.cell
            have hmW : W.cell? ⟨w.heap.size, 0, none⟩ = some (.int .i64 most) := (hB.cell (p := ⟨w.heap.size, 0, none⟩) (by simp; omega)).trans hMr
            rw [List.length_reverse] at hlt2
            obtain ⟨A3, c3, rfl, hcl, hcm⟩ := own_form hrow
            by_cases hg : most ≤ (pre.length : Int)
            · gi_wp2
              exact ⟨KeepsOthers.refl _, ⟨rfl, pre, x, rfl, by omega, _, hv, hrow⟩, hB⟩
            · have hg1 : pre.length + 1 ≤ maxLen := by unfold maxLen; omega
              have hg2 : (pre.length + 1) * 8 ≤ 140737488355328 := by omega
              gi_wp2_with (gi_at_builtin; refine wpListIn_append_own _ rfl _ _ 22 rfl R.heap.size 3 i0 (.int .i64 0) 1 8 Try.underlying22 hi0 hz0 hz1 hz2 rfl (by decide) _ _ _ rfl (hrow.alloc _) ⟨W.heap.size, 0, none⟩ 1 1 [.int .i64 x] rfl rfl (cell_one_new _ _ _) (by simp [Value.oneCell']) hg1 hg2 (by have := hB.size; simp; omega) ?_; intro v' w1' hown' hgrow _; obtain ⟨g', cap', rfl⟩ := ownsRow_succ hown'; obtain ⟨hv1, hv2, hr2, hk2, hb2⟩ := hv.appended (by decide) hrow hB.size (Nat.le_refl _) hown' hgrow; have hc1 := hv1.cell; have hf1 := hv1.frozen)
              exact ⟨hk2, hb2, ⟨_, hv2, by simpa using hr2, by simp; omega⟩, hB.trans hb2⟩
        case done =>
          rintro D W hD ⟨⟨v, hv, hrow⟩, hB⟩ hK
          have hmW : W.cell? ⟨w.heap.size, 0, none⟩ = some (.int .i64 most) := (hB.cell (p := ⟨w.heap.size, 0, none⟩) (by simp; omega)).trans hMr
          have HXW := Lib.hid ((hX.out.1.fr (Fr.of_below hB)))
          have hDW : D < W.heap.size := (Array.getElem?_eq_some_iff.1 hK).1
          have hBB := HBX.out.trans ((hb.trans (hB.mono hw1r)).mono HBX.out.size)
          have hwW := hBB.size
          have hWr : R.heap.size ≤ W.heap.size := hB.size
          have HK := Lib.hid hK
          have HR := Lib.hid hrow
          have HV := Lib.hid hv
          have HD := Lib.hid hD
          clear hX HBX HM HI1 hb bO bN hB0 hMr hsbc hhs hch hIL hrow hv hK hB hD
          go_wp2_with fail
          go_loopw [19, 20] (fun x i wr => ∃ (k m : Nat) (A3 : Option Addr) (c3 : Nat), x = .slice A3 k c3 ∧ i = .int .i64 ((m : Int) - 1) ∧ k + m = xs.length ∧ k ≤ most.toNat ∧ k ≤ c3 ∧ c3 ≤ 9223372036854775807 ∧ Hid (wr.ownsRow W.heap.size 3 1 (.slice A3 k c3) k ((xs.reverse.take k).map (Value.int .i64))) ∧ Below W.heap.size W wr) (fun x i _ => ((intOf i) + 1).toNat)
          case atStart => exact ⟨0, xs.length, none, 0, rfl, by go_num, by omega, Nat.zero_le _, Nat.zero_le _, by omega, Lib.hid (World.ownsRow_nil _ _ _ _), Below.refl _ _⟩
          case round =>
            obtain ⟨k, m, A3, c3, rfl, rfl, hkm, hk, hkc, hcm, hO, hBq⟩ := hrel
            have hmq := (hBq.cell (p := ⟨w.heap.size, 0, none⟩) (by simp; omega)).trans hmW
            have hB2 : Below W.heap.size W wr := hBq
            by_cases hgo : 0 < m ∧ (k : Int) < most
            · obtain ⟨m, rfl⟩ : ∃ m', m = m' + 1 := ⟨m - 1, by omega⟩
              obtain ⟨-, hgo2⟩ := hgo
              have e1 : ((m + 1 : Nat) : Int) - 1 = (m : Int) := by omega
              rw [e1]
              clear e1
              obtain ⟨b2, o2, rfl, _, hcell⟩ := (HXW.out.fr (Fr.of_below hBq)).1.1 m (by omega)
              have hmx : m < xs.length := by omega
              have hxl := HXW.out.1.2.1
              have HE : Hid ((xs.reverse.take (k + 1)) = xs.reverse.take k ++ [xs.getD m 0]) := Lib.hid (by
                rw [List.take_succ_eq_append_getElem (by simp; omega), List.getElem_reverse, List.getD_eq_getElem?_getD, List.getElem?_eq_getElem hmx]
                simp only [Option.getD_some]
                congr 3
                omega)
              generalize xs.getD m 0 = z at *
              have hone : ∀ u ∈ [Value.int .i64 z], u.oneCell' = true := by simp [Value.oneCell']
              have hg1 : k + 1 ≤ maxLen := by unfold maxLen; omega
              have hg2 : (k + 1) * 8 ≤ 140737488355328 := by omega
              go_wp2_with (at_builtin; refine wpList_append_src rfl (.tmp 172) (.tmp 177) 22 rfl W.heap.size 3 i0 _ 1 8 Try.underlying22 hi0 hz0 hz1 hz2 rfl (by omega) (.slice A3 k c3) k _ rfl (own_below hO.out ((Below.refl _ _).alloc (Nat.le_refl _) (.cells #[.int .i64 z] 3)) (Nat.le_refl _)) (some ⟨wr.heap.size, 0, none⟩) 1 1 [.int .i64 z] rfl (Lift.Src.of_own (own_new wr 3 1 1 #[.int .i64 z] rfl (by omega))) (fun h => nomatch h) hone hg1 hg2 (by have := hBq.size; simp; omega) ?_; intro v2 w3' ho3 hg3)
              have h2 := (below_grown (own_below hO.out ((Below.refl _ _).alloc (Nat.le_refl _) (.cells #[.int .i64 z] 3)) (Nat.le_refl _)) hg3 (by have := hBq.size; simp; omega))
              obtain ⟨A4, c4, rfl, hc4, hc5⟩ := own_form ho3
              refine ⟨⟨k + 1, m, A4, c4, rfl, rfl, by omega, by omega, hc4, hc5, Lib.hid ?_, hBq.trans (((Below.refl _ _).alloc hBq.size _).trans h2)⟩, by simp [intOf]⟩
              rw [HE.out, List.map_append]
              exact ho3
            · have HTK : Hid (xs.reverse.take k = xs.reverse.take most.toNat) := Lib.hid (by
                rcases Nat.eq_zero_or_pos m with h | h
                · rw [List.take_of_length_le (by simp; omega), List.take_of_length_le (by simp; omega)]
                · rw [show k = most.toNat by omega])
              rcases Nat.eq_zero_or_pos m with rfl | hm
              · have e1 : (((0 : Nat) : Int) - 1) = -1 := by omega
                rw [e1]
                clear e1
                go_wp2_with (first | (go_at_call 20; refine (Stk.push_nil _ _).mono ?_; rintro e w' ⟨rfl, rfl⟩) | (go_at_call 11; refine (Stk.pop_nil _).mono ?_; rintro e w' ⟨rfl, rfl⟩) | (go_at_call 21; refine (Stk.top_nil _).mono ?_; rintro e w' ⟨rfl, rfl⟩) | (go_at_call 22; refine (It.all_any _ _).mono ?_; rintro e w' ⟨rfl, rfl⟩))
                have hlw : W.heap.size ≤ wr.heap.size := hBq.size
                have bK := Boxed.new wr 3 (.int .i64 0)
                have bN2 := Boxed.new (wr.alloc (.cells #[.int .i64 0] 3)) 24 (.pointer none)
                rw [World.size_alloc] at bN2
                have bK2 := bK.alloc (.cells #[.pointer none] 24)
                have hB3 : Below wr.heap.size wr ((wr.alloc (.cells #[.int .i64 0] 3)).alloc (.cells #[.pointer none] 24)) := ((Below.refl _ _).alloc (Nat.le_refl _) _).alloc (by simp) _
                refine Rf.wp_range_none (gf := 25) (lb := #[.pointer (some ⟨wr.heap.size + 1, 0, none⟩)]) rfl (enters_of Try.func25 (by kernel_rfl) rfl) ?call ?done2
                case call =>
                  intro l2 WL hWL
                  exact It.all1_nil l2 _ WL ((hWL.cell (p := ⟨wr.heap.size + 1, 0, none⟩) (by simp)).trans bN2.cell)
                case done2 =>
                  intro D2 W2 hD2 hW2 hK2
                  have hB5 : Below wr.heap.size wr W2 := hB3.trans (hW2.mono hB3.size)
                  have hB4 : Below W.heap.size W W2 := hBq.trans (hB5.mono hlw)
                  have hkc : W2.cell? ⟨wr.heap.size, 0, none⟩ = some (.int .i64 0) := (hW2.cell (p := ⟨wr.heap.size, 0, none⟩) (by simp; omega)).trans bK2.cell
                  have hvc : W2.cell? ⟨R.heap.size, 0, none⟩ = some v := (hB4.cell (p := ⟨R.heap.size, 0, none⟩) HV.out.lt).trans HV.out.cell
                  have hkl : k = (xs.reverse.take k).length := by simp; omega
                  have hO2 := own_below hO.out hB5.drew (Nat.le_refl _)
                  rw [HTK.out] at hkl hO2
                  have hrow := own_below HR.out hB4.drew (Nat.le_refl _)
                  have hgl : (xs.reverse.take most.toNat).length ≤ 1000 := by simp; omega
                  generalize xs.reverse.take most.toNat = gs at *
                  obtain ⟨A5, c5, rfl, -, -⟩ := own_form hrow
                  have hI : Calls Try.prog 19 #[.slice A5 gs.length c5, .slice A3 k c3] W2.drew fun e w' => e = .returned (.bool true) ∧ Below W2.drew.heap.size W2.drew w' := by
                    subst hkl
                    have := RefInts.ints_any W2.drew A5 A3 c5 c3 gs gs (OwnR.ints (B := R.heap.size) (cap := c5) hrow) (OwnR.ints (B := W.heap.size) (cap := c3) hO2) rfl (by omega)
                    simpa using this
                  have MS : ∀ y, Below W2.drew.heap.size W2.drew y → (fun y : World => y.cell? ⟨R.heap.size, 0, none⟩ = some (.slice A5 gs.length c5) ∧ y.cell? ⟨wr.heap.size, 0, none⟩ = some (.int .i64 0)) y := fun y hy =>
                    ⟨(hy.cell (p := ⟨R.heap.size, 0, none⟩) (World.block_lt_of_cell? W2 _ hvc)).trans hvc, (hy.cell (p := ⟨wr.heap.size, 0, none⟩) (World.block_lt_of_cell? W2 _ hkc)).trans hkc⟩
                  have hB0 : Below W2.drew.heap.size W2.drew W2.drew := Below.refl _ _
                  have HI := Lib.hid hI
                  have HMS := Lib.hid MS
                  have HE2 := Lib.hid hK2
                  have hDW2 : D ≠ D2 := by have := hD2; simp at this; omega
                  have hKD : W2.heap[D]? = some (.deferred (some [])) := (hB4.block D hDW).trans HK.out
                  have HKD := Lib.hid hKD
                  have hFB := hBB.trans (hB4.mono hwW)
                  have hD2' : w.heap.size ≤ D2 := by have := hD2; simp at this; omega
                  have hD' : w.heap.size ≤ D := by have := HD.out; simp at this; omega
                  have HDS := Lib.hid (And.intro hDW2 (And.intro hD2' hD'))
                  clear hI MS hK2 hkc hvc hrow hO2 hB5 hB3 bN2 bK2 bK hW2 hO hBq hKD hDW2 hD2 hD2' hD' hkl hgl hB4
                  go_wp2_with fail
                  go_region_held3 (fun y : World => y.cell? ⟨R.heap.size, 0, none⟩ = some (.slice A5 gs.length c5) ∧ y.cell? ⟨wr.heap.size, 0, none⟩ = some (.int .i64 0))
                    (first | exact HMS.out _ hB1 | exact HMS.out _ hB0)
                    (first
                     | (go_at_call 19; ((with_reducible refine HI.out.mono ?_); rintro _ y1 ⟨rfl, hB1⟩))
                     | (go_at_call 12; ((with_reducible refine (Stk.len_nil _).mono ?_); rintro _ y2 ⟨rfl, rfl⟩))
                     | (go_at_call 18; ((with_reducible refine (cut_nil _).mono ?_); rintro _ y3 ⟨rfl, rfl⟩)))
                  go_wp2_with fail
                  refine Rf.postM_ret2 (D := D) (D2 := D2) rfl HDS.out.1 ((hB1.block D2 (Array.getElem?_eq_some_iff.1 HE2.out).1).trans HE2.out) ((hB1.block D (Array.getElem?_eq_some_iff.1 HKD.out).1).trans HKD.out) (fun w' => results_tmp rfl _ _ _) ?_
                  have hF1 := hFB.drew.trans (hB1.mono hFB.drew.size)
                  refine ⟨rfl, (hF1.grown (grownBy_putObj' _ D2 _) hF1.size (fun k e => by cases e; exact HDS.out.2.1)).grown (grownBy_putObj' _ D _) ?_ (fun k e => by cases e; exact HDS.out.2.2)⟩
                  exact Nat.le_trans hF1.size (grownBy_putObj' _ D2 _).size
              · obtain ⟨m, rfl⟩ : ∃ m', m = m' + 1 := ⟨m - 1, by omega⟩
                have hnl : ¬ (k : Int) < most := by omega
                have e1 : ((m + 1 : Nat) : Int) - 1 = (m : Int) := by omega
                rw [e1]
                clear e1
                go_wp2_with (first | (go_at_call 20; refine (Stk.push_nil _ _).mono ?_; rintro e w' ⟨rfl, rfl⟩) | (go_at_call 11; refine (Stk.pop_nil _).mono ?_; rintro e w' ⟨rfl, rfl⟩) | (go_at_call 21; refine (Stk.top_nil _).mono ?_; rintro e w' ⟨rfl, rfl⟩) | (go_at_call 22; refine (It.all_any _ _).mono ?_; rintro e w' ⟨rfl, rfl⟩))
                have hlw : W.heap.size ≤ wr.heap.size := hBq.size
                have bK := Boxed.new wr 3 (.int .i64 0)
                have bN2 := Boxed.new (wr.alloc (.cells #[.int .i64 0] 3)) 24 (.pointer none)
                rw [World.size_alloc] at bN2
                have bK2 := bK.alloc (.cells #[.pointer none] 24)
                have hB3 : Below wr.heap.size wr ((wr.alloc (.cells #[.int .i64 0] 3)).alloc (.cells #[.pointer none] 24)) := ((Below.refl _ _).alloc (Nat.le_refl _) _).alloc (by simp) _
                refine Rf.wp_range_none (gf := 25) (lb := #[.pointer (some ⟨wr.heap.size + 1, 0, none⟩)]) rfl (enters_of Try.func25 (by kernel_rfl) rfl) ?call ?done2
                case call =>
                  intro l2 WL hWL
                  exact It.all1_nil l2 _ WL ((hWL.cell (p := ⟨wr.heap.size + 1, 0, none⟩) (by simp)).trans bN2.cell)
                case done2 =>
                  intro D2 W2 hD2 hW2 hK2
                  have hB5 : Below wr.heap.size wr W2 := hB3.trans (hW2.mono hB3.size)
                  have hB4 : Below W.heap.size W W2 := hBq.trans (hB5.mono hlw)
                  have hkc : W2.cell? ⟨wr.heap.size, 0, none⟩ = some (.int .i64 0) := (hW2.cell (p := ⟨wr.heap.size, 0, none⟩) (by simp; omega)).trans bK2.cell
                  have hvc : W2.cell? ⟨R.heap.size, 0, none⟩ = some v := (hB4.cell (p := ⟨R.heap.size, 0, none⟩) HV.out.lt).trans HV.out.cell
                  have hkl : k = (xs.reverse.take k).length := by simp; omega
                  have hO2 := own_below hO.out hB5.drew (Nat.le_refl _)
                  rw [HTK.out] at hkl hO2
                  have hrow := own_below HR.out hB4.drew (Nat.le_refl _)
                  have hgl : (xs.reverse.take most.toNat).length ≤ 1000 := by simp; omega
                  generalize xs.reverse.take most.toNat = gs at *
                  obtain ⟨A5, c5, rfl, -, -⟩ := own_form hrow
                  have hI : Calls Try.prog 19 #[.slice A5 gs.length c5, .slice A3 k c3] W2.drew fun e w' => e = .returned (.bool true) ∧ Below W2.drew.heap.size W2.drew w' := by
                    subst hkl
                    have := RefInts.ints_any W2.drew A5 A3 c5 c3 gs gs (OwnR.ints (B := R.heap.size) (cap := c5) hrow) (OwnR.ints (B := W.heap.size) (cap := c3) hO2) rfl (by omega)
                    simpa using this
                  have MS : ∀ y, Below W2.drew.heap.size W2.drew y → (fun y : World => y.cell? ⟨R.heap.size, 0, none⟩ = some (.slice A5 gs.length c5) ∧ y.cell? ⟨wr.heap.size, 0, none⟩ = some (.int .i64 0)) y := fun y hy =>
                    ⟨(hy.cell (p := ⟨R.heap.size, 0, none⟩) (World.block_lt_of_cell? W2 _ hvc)).trans hvc, (hy.cell (p := ⟨wr.heap.size, 0, none⟩) (World.block_lt_of_cell? W2 _ hkc)).trans hkc⟩
                  have hB0 : Below W2.drew.heap.size W2.drew W2.drew := Below.refl _ _
                  have HI := Lib.hid hI
                  have HMS := Lib.hid MS
                  have HE2 := Lib.hid hK2
                  have hDW2 : D ≠ D2 := by have := hD2; simp at this; omega
                  have hKD : W2.heap[D]? = some (.deferred (some [])) := (hB4.block D hDW).trans HK.out
                  have HKD := Lib.hid hKD
                  have hFB := hBB.trans (hB4.mono hwW)
                  have hD2' : w.heap.size ≤ D2 := by have := hD2; simp at this; omega
                  have hD' : w.heap.size ≤ D := by have := HD.out; simp at this; omega
                  have HDS := Lib.hid (And.intro hDW2 (And.intro hD2' hD'))
                  clear hI MS hK2 hkc hvc hrow hO2 hB5 hB3 bN2 bK2 bK hW2 hO hBq hKD hDW2 hD2 hD2' hD' hkl hgl hB4
                  go_wp2_with fail
                  go_region_held3 (fun y : World => y.cell? ⟨R.heap.size, 0, none⟩ = some (.slice A5 gs.length c5) ∧ y.cell? ⟨wr.heap.size, 0, none⟩ = some (.int .i64 0))
                    (first | exact HMS.out _ hB1 | exact HMS.out _ hB0)
                    (first
                     | (go_at_call 19; ((with_reducible refine HI.out.mono ?_); rintro _ y1 ⟨rfl, hB1⟩))
                     | (go_at_call 12; ((with_reducible refine (Stk.len_nil _).mono ?_); rintro _ y2 ⟨rfl, rfl⟩))
                     | (go_at_call 18; ((with_reducible refine (cut_nil _).mono ?_); rintro _ y3 ⟨rfl, rfl⟩)))
                  go_wp2_with fail
                  refine Rf.postM_ret2 (D := D) (D2 := D2) rfl HDS.out.1 ((hB1.block D2 (Array.getElem?_eq_some_iff.1 HE2.out).1).trans HE2.out) ((hB1.block D (Array.getElem?_eq_some_iff.1 HKD.out).1).trans HKD.out) (fun w' => results_tmp rfl _ _ _) ?_
                  have hF1 := hFB.drew.trans (hB1.mono hFB.drew.size)
                  refine ⟨rfl, (hF1.grown (grownBy_putObj' _ D2 _) hF1.size (fun k e => by cases e; exact HDS.out.2.1)).grown (grownBy_putObj' _ D _) ?_ (fun k e => by cases e; exact HDS.out.2.2)⟩
                  exact Nat.le_trans hF1.size (grownBy_putObj' _ D2 _).size
end Go.Proofs.Ythjcanjhpdpibaa.stackDoes
