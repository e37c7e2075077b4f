/- Contract: whimbrelref03.Pattern. -/
import Derived.Test.YtnaakhnmbckpmaaPats
namespace Go.Proofs.Ytnaakhnmbckpmaa.Pats
open Go.ChangeShapes Go.WideShapes Go.ChangeAt Go.RowKit Go.Proofs.Ytnaakhnmbckpmaa.Lift Go.Proofs.Ytnaakhnmbckpmaa.Data Go.Proofs.Ytnaakhnmbckpmaa.Refs
set_option linter.unusedVariables false
set_option linter.unusedSimpArgs false
mutual
/-- whether it is a pattern. -/
def patS : Ex → Bool
  | .mk k s n ys l c =>
    if k = 1 ∨ k = 9 ∨ k = 3 ∨ k = 2 then decide (ys.length = 0) else
    if k = 4 then (match ys with | [] => false | y :: r => decide (1 ≤ r.length) && (decide (y.k = 2) && (decide (y.ys.length = 0) && patsS r))) else false
def patsS : List Ex → Bool
  | [] => true
  | e :: r => patS e && patsS r
end
theorem patsS_take : ∀ {es : List Ex} {j : Nat} (h : j < es.length), patsS (es.take (j + 1)) = (patsS (es.take j) && patS es[j])
  | [], _, h => by simp at h
  | e :: r, 0, _ => by simp [patsS]
  | e :: r, j + 1, h => by
    simp only [List.take_succ_cons, patsS, List.getElem_cons_succ]
    rw [patsS_take (by simpa using h), Bool.and_assoc]
theorem patsS_false : ∀ {es : List Ex} {j : Nat} (h : j < es.length), patS es[j] = false → patsS es = false
  | [], _, h, _ => by simp at h
  | e :: r, 0, _, h => by simp at h; simp [patsS, h]
  | e :: r, j + 1, h, h2 => by
    simp only [patsS, Bool.and_eq_false_iff]
    exact .inr (patsS_false (by simpa using h) (by simpa using h2))
theorem patS_flat {k n l c : Int} {s : ByteArray} {ys : List Ex} (h : k = 1 ∨ k = 9 ∨ k = 3 ∨ k = 2) : patS (.mk k s n ys l c) = decide (ys.length = 0) := by
  rw [patS.eq_def]; dsimp only; rw [if_pos h]
theorem patS_other {k n l c : Int} {s : ByteArray} {ys : List Ex} (h : ¬ (k = 1 ∨ k = 9 ∨ k = 3 ∨ k = 2)) (h4 : ¬ k = 4) : patS (.mk k s n ys l c) = false := by
  rw [patS.eq_def]; dsimp only; rw [if_neg h, if_neg h4]
theorem patS_app {n l c : Int} {s : ByteArray} {y : Ex} {r : List Ex} : patS (.mk 4 s n (y :: r) l c) = (decide (1 ≤ r.length) && (decide (y.k = 2) && (decide (y.ys.length = 0) && patsS r))) := by
  rw [patS.eq_def]; simp
theorem patS_app0 {n l c : Int} {s : ByteArray} : patS (.mk 4 s n [] l c) = false := by
  rw [patS.eq_def]; simp
set_option maxRecDepth 100000 in
set_option maxHeartbeats 2000000 in
theorem pattern_any (N : Nat) (w0 : World) : ∀ (e : Ex) (w : World) (v : Value), e.size ≤ N → e.Val w0 v → Below w0.heap.size w0 w →
    Calls Try.prog 24 #[v] w fun r w' => r = .returned (.bool (patS e)) ∧ Below w.heap.size w w' := by
  induction N with
  | zero => intro e w v h; cases e; rw [Ex.size_mk] at h; omega
  | succ N ih =>
    intro e w v hN hv h0
    cases e with
    | mk k s n ys l c =>
    obtain ⟨A, cap, rfl, ⟨hd1, hd2, hd3, hd4⟩, hs⟩ := hv
    rw [Ex.size_mk] at hN
    have hb1 : ∀ o, Below w.heap.size w (w.alloc o) := fun o => (Below.refl _ _).alloc (Nat.le_refl _) o
    by_cases hf : k = 1 ∨ k = 9 ∨ k = 3 ∨ k = 2
    · have HS := Lib.hid (patS_flat (s := s) (n := n) (ys := ys) (l := l) (c := c) hf)
      rcases hf with rfl | rfl | rfl | rfl
      all_goals
        go_enter Try.func24, Try.ntmps24
        go_wp2_with fail
        go_ret
        exact ⟨ret_bool (by rw [HS.out, Bool.eq_iff_iff]; simp), hb1 _⟩
    by_cases h4 : k = 4
    · subst h4
      clear hf
      cases ys with
      | nil =>
        have HS := Lib.hid (patS_app0 (s := s) (n := n) (l := l) (c := c))
        rw [List.length_nil] at *
        go_enter Try.func24, Try.ntmps24
        go_wp2_with fail
        go_ret
        exact ⟨ret_bool (by rw [HS.out]), hb1 _⟩
      | cons y r =>
        have HS := Lib.hid (patS_app (s := s) (n := n) (l := l) (c := c) (y := y) (r := r))
        rw [List.length_cons] at *
        by_cases hr : 1 ≤ r.length
        · have hr2 : ¬ r.length + 1 < 2 := by omega
          have hr3 : (1 : Int) ≤ (r.length : Int) + 1 := by omega
          have hr4 : ¬ (r.length : Int) + 1 < 2 := by omega
          obtain ⟨b, o, rfl, hat⟩ := hs.get 0 (by simp)
          simp only [Nat.zero_mul, Nat.add_zero, List.getElem_cons_zero] at hat
          have hsz : y.size + ExSize r ≤ N := by rw [ExSize] at hN; omega
          cases y with
          | mk k' s' n' ys' l' c' =>
          obtain ⟨A', cap', c0, c1, c2, c3, c4, c5, hv'⟩ := Ex.At.both hat h0 (Nat.le_refl _)
          have hbl : b < w.heap.size := World.block_lt_of_cell? _ _ c0
          simp only [Ex.k, Ex.ys] at HS
          by_cases hk2 : k' = 2
          · subst hk2
            by_cases hys : ys'.length = 0
            · have hy0 : ¬ 0 < ys'.length := by omega
              have HS2 : Hid (patS (.mk 4 s n (.mk 2 s' n' ys' l' c' :: r) l c) = patsS r) := Lib.hid (by rw [HS.out]; simp [hr, hys])
              have hrow : ExRow w0 r b (o + 6) := by
                rcases hs with hs | ⟨b', o', e, hs⟩
                · cases hs
                · injection e with e
                  injection e with e1 e2
                  subst e1 e2
                  rw [ExRow] at hs
                  exact hs.2
              clear hys hat hs hv'
              go_enter Try.func24, Try.ntmps24
              go_wp2_with fail
              go_loopw [43] (fun i wr => ∃ j : Nat, i = .int .i64 j ∧ j ≤ r.length ∧ patsS (r.take j) = true ∧ Below w.heap.size w wr) (fun i _ => r.length - (intOf i).toNat)
              case atStart => exact ⟨0, rfl, Nat.zero_le _, by simp [patsS], hb1 _⟩
              case round =>
                obtain ⟨j, rfl, hj, hsj, hb⟩ := hrel
                have HSJ := Lib.hid hsj
                clear hsj
                by_cases hlt : j < r.length
                · have hat := hrow.get j hlt
                  have hz := ExSize_get hlt
                  have hb0 := h0.trans (hb.mono h0.size)
                  have HT := Lib.hid (patsS_take hlt)
                  have HF := Lib.hid (patsS_false hlt)
                  generalize r[j] = y at *
                  have HI := fun v o => Lib.hid (fun hv => ih y (wr.alloc o) v (by omega) hv (hb0.alloc hb0.size o))
                  cases y with
                  | mk k2 s2 n2 ys2 l2 c2 =>
                  obtain ⟨A2, cap2, d0, d1, d2, d3, d4, d5, hv2⟩ := Ex.At.both hat hb0 (Nat.le_refl _)
                  clear hat hrow
                  have HC := fun o => Lib.hid ((HI _ o).out hv2)
                  clear HI
                  cases hsm : patS (.mk k2 s2 n2 ys2 l2 c2)
                  · rw [hsm] at HC
                    have HFF := Lib.hid (HF.out hsm)
                    clear hsm
                    go_wp2_with (go_at_call 24; refine (HC _).out.mono ?_; rintro e w1 ⟨rfl, hb1'⟩)
                    go_ret
                    exact ⟨by rw [HS2.out, HFF.out]; rfl, hb.thenCall hb.size (Below.call1 hb1')⟩
                  · rw [hsm] at HC
                    have HTT := Lib.hid (by rw [HT.out, HSJ.out, hsm]; rfl : patsS (r.take (j + 1)) = true)
                    clear hsm
                    go_wp2_with (go_at_call 24; refine (HC _).out.mono ?_; rintro e w1 ⟨rfl, hb1'⟩)
                    exact ⟨⟨j + 1, by go_num, by omega, HTT.out, hb.thenCall hb.size (Below.call1 hb1')⟩, by simp [intOf]; omega⟩
                · have hfin : patsS r = true := by
                    have h := HSJ.out
                    rw [List.take_of_length_le (by omega)] at h
                    exact h
                  have HFin := Lib.hid hfin
                  clear hfin
                  go_wp2_with fail
                  go_ret
                  exact ⟨by rw [HS2.out, HFin.out]; rfl, hb⟩
            · have hy0 : 0 < ys'.length := by omega
              clear hat hs
              go_enter Try.func24, Try.ntmps24
              go_wp2_with fail
              go_ret
              exact ⟨ret_bool (by rw [HS.out]; simp; intro _ h; rw [h] at hy0; simp at hy0), hb1 _⟩
          · clear hat hs
            go_enter Try.func24, Try.ntmps24
            go_wp2_with fail
            go_ret
            exact ⟨ret_bool (by rw [HS.out]; simp [hk2]), hb1 _⟩
        · have hr3 : r = [] := List.eq_nil_of_length_eq_zero (by omega)
          subst hr3
          go_enter Try.func24, Try.ntmps24
          go_wp2_with fail
          go_ret
          exact ⟨ret_bool (by rw [HS.out]; simp), hb1 _⟩
    · have HS := Lib.hid (patS_other (s := s) (n := n) (ys := ys) (l := l) (c := c) hf h4)
      have f1 : ¬ k = 1 := fun h => hf (.inl h)
      have f2 : ¬ k = 9 := fun h => hf (.inr (.inl h))
      have f3 : ¬ k = 3 := fun h => hf (.inr (.inr (.inl h)))
      have f4 : ¬ k = 2 := fun h => hf (.inr (.inr (.inr h)))
      clear hf
      go_enter Try.func24, Try.ntmps24
      go_wp2_with fail
      go_ret
      exact ⟨ret_bool (by rw [HS.out]), hb1 _⟩
end Go.Proofs.Ytnaakhnmbckpmaa.Pats
