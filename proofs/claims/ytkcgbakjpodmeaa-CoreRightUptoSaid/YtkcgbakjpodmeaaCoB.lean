/- Contracts: numbers in a list, copies of it; slots of core; core is the same as itself. -/
import Derived.Test.YtkcgbakjpodmeaaCoA
import Derived.Test.YtkcgbakjpodmeaaInts
import Derived.Lib.SliceRun
namespace Go.Proofs.Ytkcgbakjpodmeaa.Co
open Go.ChangeShapes Go.WideShapes Go.ChangeAt Go.RowKit Go.Proofs.Ytkcgbakjpodmeaa.Lift Go.Proofs.Ytkcgbakjpodmeaa.Data
set_option linter.unusedVariables false
set_option linter.unusedSimpArgs false
/-- a list of numbers, as a slice's header tells. -/
def InSl (w : World) (A : Option Addr) (cap : Nat) (l : List Int) : Prop := IntsAt w A l ∧ l.length ≤ cap ∧ cap ≤ 9223372036854775807 ∧ l.length ≤ 4194304 ∧ (A = none → cap = 0)
theorem InSl.below {w w' : World} {B cap : Nat} {A : Option Addr} {l : List Int} (h : InSl w A cap l) (hb : Below B w w') (hB : w.heap.size ≤ B) : InSl w' A cap l := ⟨h.1.below hb hB, h.2⟩
/-- whether a number is in a list. -/
def inB (l : List Int) (n : Int) : Bool := l.any (fun x => n == x)
theorem inB_hit {l : List Int} {n : Int} {k : Nat} (hk : k < l.length) (h : n = l[k]) : inB l n = true := by
  unfold inB
  rw [List.any_eq_true]
  exact ⟨l[k], List.getElem_mem hk, by simp [h]⟩
theorem inB_miss {l : List Int} {n : Int} (h : ∀ j (hj : j < l.length), ¬ n = l[j]) : inB l n = false := by
  unfold inB
  rw [List.any_eq_false]
  intro x hx
  obtain ⟨j, hj, rfl⟩ := List.getElem_of_mem hx
  simpa using h j hj
/-- what slices.Index hands back. -/
def IdxP (l : List Int) (n : Int) (e : Ending) : Prop := ∃ i : Int, e = .returned (.int .i64 i) ∧ (decide (0 ≤ i)) = inB l n
set_option maxHeartbeats 1000000 in
theorem index_any (w : World) (A : Option Addr) (cap : Nat) (l : List Int) (n : Int) (hl : InSl w A cap l) :
    Calls Try.prog 27 #[.slice A l.length cap, .int .i64 n] w fun e w' => IdxP l n e ∧ w = w' := by
  obtain ⟨hi, h1, h2, h3, h4⟩ := hl
  go_enter Try.func27, Try.ntmps27
  go_wp2_with fail
  go_loop [5, 8] (fun u i => ∃ k : Nat, i = .int .i64 k ∧ k ≤ l.length ∧ Hid (∀ j (hj : j < l.length), j < k → ¬ n = l[j])) (fun _ i => l.length - (intOf i).toNat)
  case atStart => exact ⟨0, rfl, Nat.zero_le _, fun _ _ h => absurd h (Nat.not_lt_zero _)⟩
  case round =>
    obtain ⟨k, rfl, hk, hm⟩ := hrel
    by_cases hlt : k < l.length
    · obtain ⟨b, o, rfl, hbl, hc⟩ := hi k hlt
      rw [show l.getD k 0 = l[k] by simp [List.getD, List.getElem?_eq_getElem hlt]] at hc
      have HH := Lib.hid (inB_hit (n := n) hlt)
      have HM := fun (he : ¬ n = l[k]) => Lib.hid (show ∀ j (hj : j < l.length), j < k + 1 → ¬ n = l[j] from fun j hj h => by
        by_cases e : j = k
        · subst e; exact he
        · exact hm.out j hj (by omega))
      clear hi hm
      generalize l[k] = x at *
      by_cases he : n = x
      · have HI := HH.out he
        have HI := Lib.hid HI
        subst he
        clear HM HH
        go_wp2_with fail
        go_ret
        exact ⟨⟨k, rfl, by rw [HI.out]; simp⟩, rfl⟩
      · have HMM := HM he
        have he2 : (n == x) = false := by simpa using he
        clear HM HH he
        go_wp2_with fail
        go_round
        case rel => exact ⟨k + 1, by go_num, by omega, HMM⟩
        case measure => simp [intOf]; omega
    · have HI := Lib.hid (inB_miss (n := n) (fun j hj => hm.out j hj (by omega)))
      go_wp2_with fail
      go_ret
      exact ⟨⟨-1, rfl, by rw [HI.out]; rfl⟩, rfl⟩
theorem contains_any (w : World) (A : Option Addr) (cap : Nat) (l : List Int) (n : Int) (hl : InSl w A cap l) :
    Calls Try.prog 16 #[.slice A l.length cap, .int .i64 n] w fun e w' => e = .returned (.bool (inB l n)) ∧ w = w' := by
  have HC := Lib.hid (index_any w A cap l n hl)
  clear hl
  go_enter Try.func16, Try.ntmps16
  go_wp2_with fail
  refine HC.out.mono ?_
  rintro _ w1 ⟨⟨i, rfl, hi⟩, rfl⟩
  have HI := Lib.hid hi
  clear hi
  go_wp2_with fail
  go_ret
  exact ⟨by rw [← HI.out]; rfl, rfl⟩
theorem ints_src {w : World} {A : Option Addr} {l : List Int} (h : IntsAt w A l) : Src w 1 A l.length (l.map (Value.int .i64)) := by
  refine ⟨by simp, ?_⟩
  rcases Nat.eq_zero_or_pos l.length with h0 | h0
  · exact .inl h0
  · obtain ⟨b, o, e, _, _⟩ := h 0 h0
    refine .inr ⟨b, o, e, fun j u hu => ?_⟩
    have hj := (List.getElem?_eq_some_iff.1 hu).1
    rw [List.length_map] at hj
    obtain ⟨b', o', e', _, hc⟩ := h j hj
    rw [e] at e'
    injection e' with e'
    injection e' with e1 e2
    subst e1 e2
    rw [List.getElem?_map, List.getElem?_eq_getElem hj] at hu
    injection hu with hu
    rw [hc, ← hu]
    simp [List.getD, List.getElem?_eq_getElem hj]
/-- a row of integers of one's own. -/
def OwnR (w : World) (B : Nat) (A : Option Addr) (cap : Nat) (l : List Int) : Prop := w.ownsRow B 3 1 (.slice A l.length cap) l.length (l.map (Value.int .i64))
theorem OwnR.ints {w : World} {B cap : Nat} {A : Option Addr} {l : List Int} (h : OwnR w B A cap l) : IntsAt w A l := fun j hj => by
  rcases h.2 with ⟨_, h0⟩ | ⟨g, cap2, cur, hv, h2, h3, h4, h5, h6, h7⟩
  · omega
  · injection hv with e1 e2 e3
    subst e1 e3
    refine ⟨g, 0, rfl, (Array.getElem?_eq_some_iff.1 h3).1, ?_⟩
    have := World.ownsRow.cellAt h j (by omega)
    rw [Nat.zero_add, this, List.getElem?_map, List.getElem?_eq_getElem hj]
    simp [List.getD, List.getElem?_eq_getElem hj]
theorem OwnR.insl {w : World} {B cap : Nat} {A : Option Addr} {l : List Int} (h : OwnR w B A cap l) (hm : l.length ≤ 4194304) : InSl w A cap l := by
  obtain ⟨A', cap', e, e1, e2⟩ := own_form h
  injection e with e3 e4 e5
  subst e3 e5
  exact ⟨h.ints, e1, e2, hm, own_cap h⟩
theorem info3' : (Try.prog.info? 3).map (fun i => (i.zero, i.size, i.bytes)) = some (some (.int .i64 0), 1, 8) := by kernel_rfl
theorem ints_one (l : List Int) : ∀ u ∈ l.map (Value.int .i64), u.oneCell' = true := fun u hu => by
  obtain ⟨z, _, rfl⟩ := List.mem_map.1 hu
  rfl
theorem clone_any (w : World) (A : Option Addr) (cap : Nat) (l : List Int) (hl : InSl w A cap l) :
    Calls Try.prog 17 #[.slice A l.length cap] w fun e w' => ∃ A' cap', e = .returned (.slice A' l.length cap') ∧ OwnR w' w.heap.size A' cap' l ∧ Below w.heap.size w w' := by
  obtain ⟨hi, h1, h2, h3, h4⟩ := hl
  have hs := ints_src hi
  cases A with
  | none =>
    have hc := h4 rfl
    subst hc
    obtain rfl : l = [] := List.eq_nil_of_length_eq_zero (by omega)
    have he := fun (w : World) => Lib.run_eql_slice_nil (P := Try.prog) w 30 3 none 0 0 0 0 Try.underlying30
    go_enter Try.func17, Try.ntmps17
    go_wp2_with fail
    go_ret
    exact ⟨none, 0, rfl, World.ownsRow_nil _ _ _ _, Below.refl _ _⟩
  | some a =>
    have he := fun (w : World) => Lib.run_eql_slice_nil (P := Try.prog) w 30 3 (some a) l.length cap 0 0 Try.underlying30
    obtain ⟨i0, hi0, hz0, hz1, hz2⟩ := info_parts info3'
    have hone := ints_one l
    have hb1 : Below w.heap.size w (w.alloc (.cells #[] 3)) := (Below.refl _ _).alloc (Nat.le_refl _) _
    have hown := own_new w 3 1 0 #[] rfl (by omega)
    have hs1 := hs.below hb1 (Nat.le_refl _)
    have hcap : some a = none → cap = 0 := fun h => by cases h
    have hg1 : 0 + l.length ≤ maxLen := by unfold maxLen; omega
    have hg2 : (0 + l.length) * 8 ≤ 140737488355328 := by omega
    clear hs hi
    go_enter Try.func17, Try.ntmps17
    go_wp2_with (at_builtin; refine wpList_append_src rfl (.tmp 5) (.tmp 6) 30 rfl w.heap.size 3 i0 _ 1 8 Try.underlying30 hi0 hz0 hz1 hz2 rfl (by omega) _ 0 [] rfl hown (some a) l.length cap _ rfl hs1 hcap hone hg1 hg2 hb1.size ?_; intro v2 w2 hown2 hg2)
    go_ret
    have hb2 := below_grown hown hg2 hb1.size
    rw [Nat.zero_add] at hown2
    obtain ⟨A2, cap2, rfl, -, -⟩ := own_form hown2
    exact ⟨A2, cap2, rfl, by simpa [OwnR] using hown2, hb1.trans hb2⟩
mutual
/-- the slots of core. -/
def slotS : Co → Int → Int
  | .mk k m ys, n => slotSs ys (if (k = 9 ∨ k = 10) ∧ 0 ≤ m ∧ m ≤ 1048576 then max n (m + 1) else n)
def slotSs : List Co → Int → Int
  | [], n => n
  | e :: r, n => slotSs r (slotS e n)
end
theorem slotSs_take : ∀ {ys : List Co} {j : Nat} (n : Int) (h : j < ys.length), slotSs (ys.take (j + 1)) n = slotS ys[j] (slotSs (ys.take j) n)
  | [], _, _, h => by simp at h
  | e :: r, 0, _, _ => by simp [slotSs]
  | e :: r, j + 1, n, h => by
    simp only [List.take_succ_cons, slotSs, List.getElem_cons_succ]
    exact slotSs_take _ (by simpa using h)
mutual
theorem slot_rep : ∀ e : Co, (∀ n, slotS e n = n) ∨ ∃ t, ∀ n, slotS e n = max n t
  | .mk k m ys => by
    simp only [slotS]
    have h := slots_rep ys
    by_cases hc : (k = 9 ∨ k = 10) ∧ 0 ≤ m ∧ m ≤ 1048576
    · simp only [if_pos hc]
      rcases h with h | ⟨t, h⟩
      · exact .inr ⟨m + 1, fun n => h _⟩
      · exact .inr ⟨max (m + 1) t, fun n => by rw [h]; omega⟩
    · simp only [if_neg hc]
      rcases h with h | ⟨t, h⟩
      · exact .inl (fun n => h _)
      · exact .inr ⟨t, fun n => h _⟩
theorem slots_rep : ∀ es : List Co, (∀ n, slotSs es n = n) ∨ ∃ t, ∀ n, slotSs es n = max n t
  | [] => .inl (fun n => rfl)
  | e :: r => by
    simp only [slotSs]
    rcases slot_rep e with h | ⟨t, h⟩ <;> rcases slots_rep r with h2 | ⟨t2, h2⟩
    · exact .inl (fun n => by rw [h, h2])
    · exact .inr ⟨t2, fun n => by rw [h, h2]⟩
    · exact .inr ⟨t, fun n => by rw [h2, h]⟩
    · exact .inr ⟨max t t2, fun n => by rw [h2, h]; omega⟩
end
theorem slot_ge (e : Co) (n : Int) : n ≤ slotS e n := by
  rcases slot_rep e with h | ⟨t, h⟩ <;> rw [h]
  · exact Int.le_refl _
  · omega
theorem slot_twice (e : Co) (n : Int) : slotS e (slotS e n) = slotS e n := by
  rcases slot_rep e with h | ⟨t, h⟩ <;> simp only [h]
  omega
theorem count_any (m n : Int) (b : Nat) (w : World) (h : w.cell? ⟨b, 0, none⟩ = some (.int .i64 n)) (hf : w.frozen? ⟨b, 0, none⟩ = false) :
    Calls Try.prog 18 #[.int .i64 m, .pointer (some ⟨b, 0, none⟩)] w fun e w' => (∃ v, e = .returned v) ∧ w' = (if 0 ≤ m ∧ m ≤ 1048576 then w.setCell ⟨b, 0, none⟩ (.int .i64 (max n (m + 1))) else w) := by
  by_cases h1 : 0 ≤ m
  · by_cases h2 : m ≤ 1048576
    · rw [if_pos ⟨h1, h2⟩]
      obtain ⟨q, hq⟩ : ∃ q, q = max n (m + 1) := ⟨_, rfl⟩
      rw [← hq]
      have HQ := Lib.hid hq
      clear hq
      go_enter Try.func18, Try.ntmps18
      go_wp2_with fail
      all_goals
        go_end0
        have hq := HQ.out
        refine ⟨⟨_, rfl⟩, ?_⟩
        first
        | rw [show q = n by omega]
        | rw [show q = m + 1 by omega]
    · rw [if_neg (fun e => h2 e.2)]
      go_enter Try.func18, Try.ntmps18
      go_wp2_with fail
      go_end0
      exact ⟨⟨_, rfl⟩, rfl⟩
  · rw [if_neg (fun e => h1 e.1)]
    go_enter Try.func18, Try.ntmps18
    go_wp2_with fail
    go_end0
    exact ⟨⟨_, rfl⟩, rfl⟩
theorem cellOf {w : World} {b : Nat} {cs : Array Value} {t : TypeId} (h : w.heap[b]? = some (.cells cs t (0, 0))) (o : Nat) : w.cell? ⟨b, o, none⟩ = cs[o]? := by simp [World.cell?, h]
theorem frozOf {w : World} {b : Nat} {cs : Array Value} {t : TypeId} (h : w.heap[b]? = some (.cells cs t (0, 0))) (o : Nat) : w.frozen? ⟨b, o, none⟩ = false := by simp [World.frozen?, h]
theorem heap_set {w : World} {b o : Nat} {cs : Array Value} {t : TypeId} (v : Value) (h : w.heap[b]? = some (.cells cs t (0, 0))) : (w.setCell ⟨b, o, none⟩ v).heap[b]? = some (.cells (cs.setIfInBounds o v) t (0, 0)) := by
  simp [World.setCell, Array.getElem?_modify, h]
set_option maxRecDepth 100000 in
set_option maxHeartbeats 2000000 in
theorem slots_any (N : Nat) (w0 : World) : ∀ (e : Co) (n : Int) (w : World) (v : Value), e.size ≤ N → e.Val w0 v → Below w0.heap.size w0 w →
    Calls Try.prog 9 #[v, .int .i64 n] w fun r w' => r = .returned (.int .i64 (slotS e n)) ∧ Below w.heap.size w w' := by
  induction N with
  | zero => intro e n w v h; cases e; rw [Co.size_mk] at h; omega
  | succ N ih =>
    intro e n w v hN hv h0
    cases e with
    | mk k m ys =>
    obtain ⟨A, cap, rfl, ⟨hd1, hd2, hd3, hd4⟩, hs⟩ := hv
    rw [Co.size_mk] at hN
    have hba : Below w.heap.size w ((w.alloc (.cells #[.int .i64 k, .int .i64 m, .slice A ys.length cap] 29)).alloc (.cells #[.int .i64 n] 3)) := ((Below.refl _ _).alloc (Nat.le_refl _) _).alloc (by simp) _
    have hbx : ((w.alloc (.cells #[.int .i64 k, .int .i64 m, .slice A ys.length cap] 29)).alloc (.cells #[.int .i64 n] 3)).heap[w.heap.size + 1]? = some (.cells #[.int .i64 n] 3 (0, 0)) := by
      have := heap_alloc_new (w.alloc (.cells #[.int .i64 k, .int .i64 m, .slice A ys.length cap] 29)) (.cells #[.int .i64 n] 3)
      rwa [World.size_alloc] at this
    by_cases hk : k = 9 ∨ k = 10
    · have HC := Lib.hid (count_any m n (w.heap.size + 1) ((w.alloc (.cells #[.int .i64 k, .int .i64 m, .slice A ys.length cap] 29)).alloc (.cells #[.int .i64 n] 3)) (cellOf hbx 0) (frozOf hbx 0))
      obtain ⟨n1, hn1⟩ : ∃ n1, n1 = (if 0 ≤ m ∧ m ≤ 1048576 then max n (m + 1) else n) := ⟨_, rfl⟩
      have hsl : slotS (.mk k m ys) n = slotSs ys n1 := by
        rw [slotS, hn1]
        congr 1
        by_cases hm : 0 ≤ m ∧ m ≤ 1048576
        · rw [if_pos ⟨hk, hm⟩, if_pos hm]
        · rw [if_neg (fun e => hm e.2), if_neg hm]
      have HSL := Lib.hid hsl
      have HK := Lib.hid hk
      have HST' : Hid (∀ wx, wx = (if 0 ≤ m ∧ m ≤ 1048576 then ((w.alloc (.cells #[.int .i64 k, .int .i64 m, .slice A ys.length cap] 29)).alloc (.cells #[.int .i64 n] 3)).setCell ⟨w.heap.size + 1, 0, none⟩ (.int .i64 (max n (m + 1))) else ((w.alloc (.cells #[.int .i64 k, .int .i64 m, .slice A ys.length cap] 29)).alloc (.cells #[.int .i64 n] 3))) →
          Below w.heap.size w wx ∧ wx.heap[w.heap.size + 1]? = some (.cells #[.int .i64 n1] 3 (0, 0)) ∧ wx.cell? ⟨w.heap.size, 2, none⟩ = some (.slice A ys.length cap)) := Lib.hid (by
        rintro wx rfl
        have hb0 : ((w.alloc (.cells #[.int .i64 k, .int .i64 m, .slice A ys.length cap] 29)).alloc (.cells #[.int .i64 n] 3)).cell? ⟨w.heap.size, 2, none⟩ = some (.slice A ys.length cap) := by
          refine (World.cell?_alloc_lt _ _ _ (by simp)).trans ?_
          exact cellOf (heap_alloc_new w _) 2
        by_cases hm : 0 ≤ m ∧ m ≤ 1048576
        · rw [if_pos hm]
          rw [if_pos hm] at hn1
          refine ⟨hba.setCell (Nat.le_succ _) _, by rw [hn1]; exact heap_set (o := 0) _ hbx, ?_⟩
          rw [World.cell?_of_block (a := ⟨w.heap.size, 2, none⟩) (Below.heap_setCell _ _ _ _ (by simp))]
          exact hb0
        · rw [if_neg hm]
          rw [if_neg hm] at hn1
          exact ⟨hba, by rw [hn1]; exact hbx, hb0⟩)
      clear hbx hba hn1 hsl hk
      rcases HK.out with rfl | rfl
      all_goals
        go_enter Try.func9, Try.ntmps9
        go_wp2_with fail
        refine HC.out.mono ?_
        rintro _ wx ⟨⟨_, rfl⟩, hwx⟩
        obtain ⟨q1, q2, q3⟩ := HST'.out _ hwx
        have HST := Lib.hid (And.intro q1 q2)
        clear hwx q1 q2
        go_wp2_with fail
        go_loopw [24] (fun i wr => ∃ j : Nat, i = .int .i64 j ∧ j ≤ ys.length ∧ Below w.heap.size w wr ∧ wr.heap[w.heap.size + 1]? = some (.cells #[.int .i64 (slotSs (ys.take j) n1)] 3 (0, 0))) (fun i _ => ys.length - (intOf i).toNat)
        case atStart => exact ⟨0, rfl, Nat.zero_le _, HST.out.1, HST.out.2⟩
        case round =>
          obtain ⟨j, rfl, hj, hb, hbox⟩ := hrel
          have hc0 : wr.cell? ⟨w.heap.size + 1, 0, none⟩ = some (.int .i64 (slotSs (ys.take j) n1)) := by simp [World.cell?, hbox]
          have hf0 : wr.frozen? ⟨w.heap.size + 1, 0, none⟩ = false := by simp [World.frozen?, hbox]
          have hbl := (Array.getElem?_eq_some_iff.1 hbox).1
          by_cases hlt : j < ys.length
          · obtain ⟨b, o, rfl, hat⟩ := hs.get j hlt
            have hsz := CoSize_get hlt
            have hb0 := h0.trans (hb.mono h0.size)
            have HS := Lib.hid (slotSs_take n1 hlt)
            generalize ys[j] = y at *
            generalize slotSs (ys.take j) n1 = cur at *
            have HI := fun o v hv => Lib.hid (ih y cur (wr.alloc o) v (by omega) hv (hb0.alloc hb0.size o))
            cases y with
            | mk k2 m2 ys2 =>
            obtain ⟨A3, cap3, d0, d1, d2, hv2⟩ := Co.At.both hat hb0 (Nat.le_refl _)
            have HI2 := fun o => HI o _ hv2
            have e0 := fun O => (World.cell?_alloc_lt wr O ⟨w.heap.size + 1, 0, none⟩ hbl).trans hc0
            have HB := Lib.hid hbox
            clear HI hat hs hbox
            generalize slotS (Co.mk k2 m2 ys2) cur = nxt at *
            go_wp2_with fail
            refine (HI2 _).out.mono ?_
            rintro _ w1 ⟨rfl, hb1⟩
            have hal := (Below.refl wr.heap.size wr).alloc (Nat.le_refl _) (.cells #[.int .i64 k2, .int .i64 m2, .slice A3 ys2.length cap3] 29)
            have hb2 := hal.thenCall hal.size hb1
            have hbx := (hb2.block _ hbl).trans HB.out
            have c0 : w1.cell? ⟨w.heap.size + 1, 0, none⟩ = some (.int .i64 cur) := by simp [World.cell?, hbx]
            have f0 : w1.frozen? ⟨w.heap.size + 1, 0, none⟩ = false := by simp [World.frozen?, hbx]
            have HX := Lib.hid (heap_set (o := 0) (.int .i64 nxt) hbx)
            clear hbx hb1 hal
            go_wp2_with fail
            refine ⟨⟨j + 1, by go_num, by omega, (hb.thenCall hb.size hb2).setCell (Nat.le_succ _) _, by rw [HS.out]; exact HX.out⟩, by simp [intOf]; omega⟩
          · rw [List.take_of_length_le (by omega)] at hc0
            clear hbox hs
            go_wp2_with fail
            go_ret
            exact ⟨by rw [HSL.out]; rfl, hb⟩
    · obtain ⟨n1, hn1⟩ : ∃ n1, n1 = n := ⟨_, rfl⟩
      have hsl : slotS (.mk k m ys) n = slotSs ys n1 := by
        rw [slotS, hn1, if_neg (fun e => hk e.1)]
      have HSL := Lib.hid hsl
      rw [← hn1] at hba hbx
      have HST := Lib.hid (And.intro hba hbx)
      have hk1 : (k == 9) = false := by simp; omega
      have hk2 : (k == 10) = false := by simp; omega
      subst hn1
      clear hbx hba hsl hk
      go_enter Try.func9, Try.ntmps9
      go_wp2_with fail
      go_loopw [24] (fun i wr => ∃ j : Nat, i = .int .i64 j ∧ j ≤ ys.length ∧ Below w.heap.size w wr ∧ wr.heap[w.heap.size + 1]? = some (.cells #[.int .i64 (slotSs (ys.take j) n1)] 3 (0, 0))) (fun i _ => ys.length - (intOf i).toNat)
      case atStart => exact ⟨0, rfl, Nat.zero_le _, HST.out.1, HST.out.2⟩
      case round =>
        obtain ⟨j, rfl, hj, hb, hbox⟩ := hrel
        have hc0 : wr.cell? ⟨w.heap.size + 1, 0, none⟩ = some (.int .i64 (slotSs (ys.take j) n1)) := by simp [World.cell?, hbox]
        have hf0 : wr.frozen? ⟨w.heap.size + 1, 0, none⟩ = false := by simp [World.frozen?, hbox]
        have hbl := (Array.getElem?_eq_some_iff.1 hbox).1
        by_cases hlt : j < ys.length
        · obtain ⟨b, o, rfl, hat⟩ := hs.get j hlt
          have hsz := CoSize_get hlt
          have hb0 := h0.trans (hb.mono h0.size)
          have HS := Lib.hid (slotSs_take n1 hlt)
          generalize ys[j] = y at *
          generalize slotSs (ys.take j) n1 = cur at *
          have HI := fun o v hv => Lib.hid (ih y cur (wr.alloc o) v (by omega) hv (hb0.alloc hb0.size o))
          cases y with
          | mk k2 m2 ys2 =>
          obtain ⟨A3, cap3, d0, d1, d2, hv2⟩ := Co.At.both hat hb0 (Nat.le_refl _)
          have HI2 := fun o => HI o _ hv2
          have e0 := fun O => (World.cell?_alloc_lt wr O ⟨w.heap.size + 1, 0, none⟩ hbl).trans hc0
          have HB := Lib.hid hbox
          clear HI hat hs hbox
          generalize slotS (Co.mk k2 m2 ys2) cur = nxt at *
          go_wp2_with fail
          refine (HI2 _).out.mono ?_
          rintro _ w1 ⟨rfl, hb1⟩
          have hal := (Below.refl wr.heap.size wr).alloc (Nat.le_refl _) (.cells #[.int .i64 k2, .int .i64 m2, .slice A3 ys2.length cap3] 29)
          have hb2 := hal.thenCall hal.size hb1
          have hbx := (hb2.block _ hbl).trans HB.out
          have c0 : w1.cell? ⟨w.heap.size + 1, 0, none⟩ = some (.int .i64 cur) := by simp [World.cell?, hbx]
          have f0 : w1.frozen? ⟨w.heap.size + 1, 0, none⟩ = false := by simp [World.frozen?, hbx]
          have HX := Lib.hid (heap_set (o := 0) (.int .i64 nxt) hbx)
          clear hbx hb1 hal
          go_wp2_with fail
          refine ⟨⟨j + 1, by go_num, by omega, (hb.thenCall hb.size hb2).setCell (Nat.le_succ _) _, by rw [HS.out]; exact HX.out⟩, by simp [intOf]; omega⟩
        · rw [List.take_of_length_le (by omega)] at hc0
          clear hbox hs
          go_wp2_with fail
          go_ret
          exact ⟨by rw [HSL.out]; rfl, hb⟩
end Go.Proofs.Ytkcgbakjpodmeaa.Co
