/- Contract: whimbrelref15.head. -/
import Derived.Test.YtnaakhnmbckpmaaHead
namespace Go.Proofs.Ytnaakhnmbckpmaa.Pats
open Go.ChangeShapes Go.WideShapes Go.ChangeAt Go.RowKit Go.Proofs.Ytnaakhnmbckpmaa.Lift Go.Proofs.Ytnaakhnmbckpmaa.Data Go.Proofs.Ytnaakhnmbckpmaa.Refs
set_option linter.unusedVariables false
set_option linter.unusedSimpArgs false
/-- a value, and the rest of a slice. -/
def HeadV (w0 : World) (h : Ex) (es : List Ex) (w : World) (e : Ending) (w' : World) : Prop :=
  ∃ v u, e = .returned (.tuple #[v, u]) ∧ h.Val w0 v ∧ Ex.Sl w0 u es ∧ Below w.heap.size w w'
theorem exSl_nil (w0 : World) : Ex.Sl w0 (.slice none 0 0) [] := ⟨none, 0, rfl, ⟨Nat.le_refl _, by omega, by simp, fun _ => rfl⟩, .inl rfl⟩
set_option maxRecDepth 100000 in
theorem headV_any (w0 : World) (e : Ex) (w : World) (v : Value) (hv : e.Val w0 v) (h0 : Below w0.heap.size w0 w) : Calls Try.prog 50 #[v] w (HeadV w0 (headS e).1 (headS e).2 w) := by
  cases e with
  | mk k s n ys l c =>
  have hv0 := hv
  obtain ⟨A, cap, rfl, ⟨hd1, hd2, hd3, hd4⟩, hs⟩ := hv
  have hb2 : ∀ o o', Below w.heap.size w ((w.alloc o).alloc o') := fun o o' => ((Below.refl _ _).alloc (Nat.le_refl _) _).alloc (by simp) _
  by_cases hk : k = 4
  · cases ys with
    | nil =>
      have HH : headS (.mk k s n [] l c) = (.mk k s n [] l c, []) := by simp [headS]
      rw [HH]
      clear HH
      subst hk
      rw [List.length_nil] at *
      go_enter Try.func50, Try.ntmps50
      go_wp2_with fail
      all_goals (try go_quiet (fail))
      all_goals (try go_wp2_with fail)
      refine bodyPost_ret (v := .tuple #[.agg #[.int .i64 4, .string s, .int .i64 n, .slice A 0 cap, .int .i64 l, .int .i64 c], .slice none 0 0]) (by simp [results, Try.results50, go_sem]) rfl ⟨_, _, rfl, hv0, exSl_nil _, ?_⟩
      exact hb2 _ _
    | cons y r =>
      have HH : headS (.mk k s n (y :: r) l c) = (y, r) := by simp [headS, hk]
      rw [HH]
      clear HH
      obtain ⟨b, o, rfl, hat⟩ := hs.get 0 (by simp)
      simp only [Nat.zero_mul, Nat.add_zero, List.getElem_cons_zero] at hat
      cases y with
      | mk k' s' n' ys' l' c' =>
      obtain ⟨A', cap', c0, c1, c2, c3, c4, c5, hv'⟩ := Ex.At.both hat h0 (Nat.le_refl _)
      have hbl : b < w.heap.size := World.block_lt_of_cell? _ _ c0
      subst hk
      rw [List.length_cons] at *
      by_cases hcap : cap = 1
      · obtain rfl : r = [] := List.eq_nil_of_length_eq_zero (by omega)
        subst hcap
        simp only [List.length_nil, Nat.zero_add] at *
        have hx1 : (1 : Int) ≤ 1 := by omega
        have hsl := exSl_tail (r := []) (cap := 1) (by simp) (by omega) (by omega) hs
        simp only [if_true, Nat.sub_self, List.length_nil] at hsl
        go_enter Try.func50, Try.ntmps50
        go_wp2_with fail
        have hW : ∃ W, W = ((w.alloc (.cells #[.int .i64 4, .string s, .int .i64 n, .slice (some ⟨b, o, none⟩) 1 1, .int .i64 l, .int .i64 c] 26)).alloc (.cells #[.int .i64 0, .string ⟨#[]⟩, .int .i64 0, .slice none 0 0, .int .i64 0, .int .i64 0] 26)) := ⟨_, rfl⟩
        obtain ⟨W, hWe⟩ := hW
        have hbW := hb2 (.cells #[.int .i64 4, .string s, .int .i64 n, .slice (some ⟨b, o, none⟩) 1 1, .int .i64 l, .int .i64 c] 26) (.cells #[.int .i64 0, .string ⟨#[]⟩, .int .i64 0, .slice none 0 0, .int .i64 0, .int .i64 0] 26)
        have e3 : W.cell? ⟨w.heap.size, 3, none⟩ = some (.slice (some ⟨b, o, none⟩) 1 1) := by rw [hWe]; simp [go_sem]
        have f0 : W.heap[w.heap.size + 1]? = some (.cells #[.int .i64 0, .string ⟨#[]⟩, .int .i64 0, .slice none 0 0, .int .i64 0, .int .i64 0] 26 (0, 0)) := by rw [hWe]; have := heap_alloc_new (w.alloc (.cells #[.int .i64 4, .string s, .int .i64 n, .slice (some ⟨b, o, none⟩) 1 1, .int .i64 l, .int .i64 c] 26)) (.cells #[.int .i64 0, .string ⟨#[]⟩, .int .i64 0, .slice none 0 0, .int .i64 0, .int .i64 0] 26); rw [World.size_alloc] at this; exact this
        have hWs : W.heap.size = w.heap.size + 2 := by rw [hWe]; simp
        rw [← hWe] at hbW ⊢
        clear hWe
        have g0 := cellB hbW (Nat.le_refl _) c0
        have g1 := cellB hbW (Nat.le_refl _) c1
        have g2 := cellB hbW (Nat.le_refl _) c2
        have g3 := cellB hbW (Nat.le_refl _) c3
        have g4 := cellB hbW (Nat.le_refl _) c4
        have g5 := cellB hbW (Nat.le_refl _) c5
        have HWS := Lib.hid hWs
        have hWl : w.heap.size < W.heap.size := by omega
        have hWb : b < W.heap.size := by omega
        have hWl2 : w.heap.size + 1 < W.heap.size := by omega
        have hne1 : ¬ w.heap.size + 1 = b := by omega
        have hne2 : ¬ b = w.heap.size + 1 := by omega
        obtain ⟨q0, q1, q2, q3, q4, q5, z0, z1, z2, z3, z4, z5⟩ := row6 f0
        clear f0 c0 c1 c2 c3 c4 c5
        go_region_held3 (fun w' => w'.cell? ⟨w.heap.size, 3, none⟩ = some (.slice (some ⟨b, o, none⟩) 1 1) ∧ w'.cell? ⟨b, o, none⟩ = some (.int .i64 k') ∧ w'.cell? ⟨b, o + 1, none⟩ = some (.string s') ∧ w'.cell? ⟨b, o + 2, none⟩ = some (.int .i64 n') ∧
            w'.cell? ⟨b, o + 3, none⟩ = some (.slice A' ys'.length cap') ∧ w'.cell? ⟨b, o + 4, none⟩ = some (.int .i64 l') ∧ w'.cell? ⟨b, o + 5, none⟩ = some (.int .i64 c'))
          (first | go_keep | exact ⟨e3, g0, g1, g2, g3, g4, g5⟩)
          (fail)
        go_wp2_with fail
        all_goals refine bodyPost_ret (v := .tuple #[.agg #[.int .i64 k', .string s', .int .i64 n', .slice A' ys'.length cap', .int .i64 l', .int .i64 c'], .slice (some ⟨b, o, none⟩) 0 0]) (by simp [results, Try.results50, go_sem, q0, q1, q2, q3, q4, q5]) rfl ⟨_, _, rfl, hv', hsl, ?_⟩
        all_goals first | exact ((((((hbW.setCell (Nat.le_succ _) _).setCell (Nat.le_succ _) _).setCell (Nat.le_succ _) _).setCell (Nat.le_succ _) _).setCell (Nat.le_succ _) _).setCell (Nat.le_succ _) _).drew | exact ((((((hbW.drew.setCell (Nat.le_succ _) _).setCell (Nat.le_succ _) _).setCell (Nat.le_succ _) _).setCell (Nat.le_succ _) _).setCell (Nat.le_succ _) _).setCell (Nat.le_succ _) _) 
      · have hx1 : (1 : Int) ≤ (r.length : Int) + 1 := by omega
        have hsl := exSl_tail hd1 hd2 hd3 hs
        rw [if_neg hcap] at hsl
        go_enter Try.func50, Try.ntmps50
        go_wp2_with fail
        have hW : ∃ W, W = ((w.alloc (.cells #[.int .i64 4, .string s, .int .i64 n, .slice (some ⟨b, o, none⟩) (r.length + 1) cap, .int .i64 l, .int .i64 c] 26)).alloc (.cells #[.int .i64 0, .string ⟨#[]⟩, .int .i64 0, .slice none 0 0, .int .i64 0, .int .i64 0] 26)) := ⟨_, rfl⟩
        obtain ⟨W, hWe⟩ := hW
        have hbW := hb2 (.cells #[.int .i64 4, .string s, .int .i64 n, .slice (some ⟨b, o, none⟩) (r.length + 1) cap, .int .i64 l, .int .i64 c] 26) (.cells #[.int .i64 0, .string ⟨#[]⟩, .int .i64 0, .slice none 0 0, .int .i64 0, .int .i64 0] 26)
        have e3 : W.cell? ⟨w.heap.size, 3, none⟩ = some (.slice (some ⟨b, o, none⟩) (r.length + 1) cap) := by rw [hWe]; simp [go_sem]
        have f0 : W.heap[w.heap.size + 1]? = some (.cells #[.int .i64 0, .string ⟨#[]⟩, .int .i64 0, .slice none 0 0, .int .i64 0, .int .i64 0] 26 (0, 0)) := by rw [hWe]; have := heap_alloc_new (w.alloc (.cells #[.int .i64 4, .string s, .int .i64 n, .slice (some ⟨b, o, none⟩) (r.length + 1) cap, .int .i64 l, .int .i64 c] 26)) (.cells #[.int .i64 0, .string ⟨#[]⟩, .int .i64 0, .slice none 0 0, .int .i64 0, .int .i64 0] 26); rw [World.size_alloc] at this; exact this
        have hWs : W.heap.size = w.heap.size + 2 := by rw [hWe]; simp
        rw [← hWe] at hbW ⊢
        clear hWe
        have g0 := cellB hbW (Nat.le_refl _) c0
        have g1 := cellB hbW (Nat.le_refl _) c1
        have g2 := cellB hbW (Nat.le_refl _) c2
        have g3 := cellB hbW (Nat.le_refl _) c3
        have g4 := cellB hbW (Nat.le_refl _) c4
        have g5 := cellB hbW (Nat.le_refl _) c5
        have HWS := Lib.hid hWs
        have hWl : w.heap.size < W.heap.size := by omega
        have hWb : b < W.heap.size := by omega
        have hWl2 : w.heap.size + 1 < W.heap.size := by omega
        have hne1 : ¬ w.heap.size + 1 = b := by omega
        have hne2 : ¬ b = w.heap.size + 1 := by omega
        obtain ⟨q0, q1, q2, q3, q4, q5, z0, z1, z2, z3, z4, z5⟩ := row6 f0
        clear f0 c0 c1 c2 c3 c4 c5
        go_region_held3 (fun w' => w'.cell? ⟨w.heap.size, 3, none⟩ = some (.slice (some ⟨b, o, none⟩) (r.length + 1) cap) ∧ w'.cell? ⟨b, o, none⟩ = some (.int .i64 k') ∧ w'.cell? ⟨b, o + 1, none⟩ = some (.string s') ∧ w'.cell? ⟨b, o + 2, none⟩ = some (.int .i64 n') ∧
            w'.cell? ⟨b, o + 3, none⟩ = some (.slice A' ys'.length cap') ∧ w'.cell? ⟨b, o + 4, none⟩ = some (.int .i64 l') ∧ w'.cell? ⟨b, o + 5, none⟩ = some (.int .i64 c'))
          (first | go_keep | exact ⟨e3, g0, g1, g2, g3, g4, g5⟩)
          (fail)
        go_wp2_with fail
        all_goals refine bodyPost_ret (v := .tuple #[.agg #[.int .i64 k', .string s', .int .i64 n', .slice A' ys'.length cap', .int .i64 l', .int .i64 c'], .slice (some ⟨b, o + 6, none⟩) r.length (cap - 1)]) (by simp [results, Try.results50, go_sem, q0, q1, q2, q3, q4, q5]) rfl ⟨_, _, rfl, hv', hsl, ?_⟩
        all_goals first | exact ((((((hbW.setCell (Nat.le_succ _) _).setCell (Nat.le_succ _) _).setCell (Nat.le_succ _) _).setCell (Nat.le_succ _) _).setCell (Nat.le_succ _) _).setCell (Nat.le_succ _) _).drew | exact ((((((hbW.drew.setCell (Nat.le_succ _) _).setCell (Nat.le_succ _) _).setCell (Nat.le_succ _) _).setCell (Nat.le_succ _) _).setCell (Nat.le_succ _) _).setCell (Nat.le_succ _) _) 
  · have HH : headS (.mk k s n ys l c) = (.mk k s n ys l c, []) := by simp [headS, hk]
    have hk2 : (k == 4) = false := by simp [hk]
    rw [HH]
    clear HH
    go_enter Try.func50, Try.ntmps50
    go_wp2_with fail
    refine bodyPost_ret (v := .tuple #[.agg #[.int .i64 k, .string s, .int .i64 n, .slice A ys.length cap, .int .i64 l, .int .i64 c], .slice none 0 0]) (by simp [results, Try.results50, go_sem]) rfl ⟨_, _, rfl, hv0, exSl_nil _, ?_⟩
    exact hb2 _ _
end Go.Proofs.Ytnaakhnmbckpmaa.Pats
