/- What it is that patterns overlap: the plain law. -/
import Derived.Test.YtnaakhnmbckpmaaAll
import Derived.Test.YtnaakhnmbckpmaaEq
namespace Go.Proofs.Ytnaakhnmbckpmaa.Pats
open Go.ChangeShapes Go.WideShapes Go.ChangeAt Go.RowKit Go.Proofs.Ytnaakhnmbckpmaa.Lift Go.Proofs.Ytnaakhnmbckpmaa.Data Go.Proofs.Ytnaakhnmbckpmaa.Refs Go.Proofs.Ytnaakhnmbckpmaa.Same
set_option linter.unusedVariables false
set_option linter.unusedSimpArgs false
mutual
def oneS : Ex → Ex → Bool
  | .mk k s n ys l c, b =>
    if !(k == 3 || k == 2 || k == 4) || !demB b then true else
    if k == 3 || b.k == 3 then k == b.k && n == b.n else
    (headS (.mk k s n ys l c)).1.s.toList == (headS b).1.s.toList && (if k = 4 then (match ys with | [] => decide ((headS b).2.length = 0) | _ :: r => overS r (headS b).2) else decide ((headS b).2.length = 0))
def overS : List Ex → List Ex → Bool
  | [], [] => true
  | a :: r, b :: q => oneS a b && overS r q
  | _, _ => false
end
theorem overS_nil (q : List Ex) : overS [] q = decide (q.length = 0) := by
  cases q with
  | nil => rfl
  | cons a r => rw [overS]; simp; all_goals simp
theorem oneS_def (a b : Ex) : oneS a b = if !demB a || !demB b then true else if a.k == 3 || b.k == 3 then a.k == b.k && a.n == b.n else ((headS a).1.s.toList == (headS b).1.s.toList && overS (headS a).2 (headS b).2) := by
  cases a with
  | mk k s n ys l c =>
  rw [oneS.eq_def]
  simp only [demB, Ex.k, Ex.n]
  by_cases h4 : k = 4
  · subst h4
    cases ys with
    | nil => simp [headS, overS_nil]
    | cons y r => simp [headS]
  · simp [headS, h4, overS_nil]
theorem overS_eqAll : ∀ (a b : List Ex), overS a b = eqAll oneS a b
  | [], [] => by rw [overS, eqAll]
  | [], _ :: _ => by rw [overS, eqAll]; all_goals simp
  | _ :: _, [] => by rw [overS, eqAll]; all_goals simp
  | a :: r, b :: q => by rw [overS, eqAll, overS_eqAll r q]
theorem headS_lt (a : Ex) : ExSize (headS a).2 < a.size := by
  cases a with
  | mk k s n ys l c => have := headS_size k s n ys l c; rw [Ex.size_mk]; omega
theorem over_symm (N : Nat) : (∀ a b : Ex, a.size ≤ N → oneS a b = oneS b a) ∧ (∀ a b : List Ex, ExSize a ≤ N → overS a b = overS b a) := by
  induction N with
  | zero =>
    refine ⟨fun a b h => by cases a; rw [Ex.size_mk] at h; omega, fun a b h => ?_⟩
    cases a with
    | nil => cases b <;> simp [overS]
    | cons x r => cases x; rw [ExSize, Ex.size_mk] at h; omega
  | succ N ih =>
    have h1 : ∀ a b : Ex, a.size ≤ N + 1 → oneS a b = oneS b a := by
      intro a b h
      have hl := headS_lt a
      rw [oneS_def a b, oneS_def b a, ih.2 (headS a).2 (headS b).2 (by omega), Bool.or_comm (!demB b), Bool.or_comm (b.k == 3), BEq.comm (a := b.k) (b := a.k), BEq.comm (a := b.n), BEq.comm (a := (headS b).1.s.toList)]
    refine ⟨h1, fun a => ?_⟩
    induction a with
    | nil => intro b h; cases b <;> simp [overS]
    | cons x r ihr =>
      intro b h
      rw [ExSize] at h
      cases b with
      | nil => simp [overS]
      | cons y q => rw [overS, overS, h1 x y (by omega), ihr q (by omega)]
theorem over_match (N : Nat) : (∀ (a b : Ex) (t : Tm), a.size ≤ N → (matchS a t).isSome = true → (matchS b t).isSome = true → oneS a b = true) ∧
    (∀ (a b : List Ex) (ts : List Tm), ExSize a ≤ N → (allS a ts).isSome = true → (allS b ts).isSome = true → overS a b = true) := by
  induction N with
  | zero =>
    refine ⟨fun a b t h => by cases a; rw [Ex.size_mk] at h; omega, fun a b ts h h1 h2 => ?_⟩
    cases a with
    | nil =>
      cases ts with
      | nil =>
        cases b with
        | nil => rfl
        | cons y q => simp [allS] at h2
      | cons t r => simp [allS] at h1
    | cons x r => cases x; rw [ExSize, Ex.size_mk] at h; omega
  | succ N ih =>
    have h1 : ∀ (a b : Ex) (t : Tm), a.size ≤ N + 1 → (matchS a t).isSome = true → (matchS b t).isSome = true → oneS a b = true := by
      intro a b t h ha hb
      have hl := headS_lt a
      rw [oneS_def]
      cases a with
      | mk k s n ys l c =>
      cases b with
      | mk k' s' n' ys' l' c' =>
      by_cases hd : (!demB (.mk k s n ys l c) || !demB (.mk k' s' n' ys' l' c')) = true
      · rw [if_pos hd]
      · rw [if_neg hd]
        simp only [demB, Ex.k, Ex.n] at hd ⊢
        have hk1 : ¬ k = 1 := by rintro rfl; simp at hd
        have hk9 : ¬ k = 9 := by rintro rfl; simp at hd
        have hk1' : ¬ k' = 1 := by rintro rfl; simp at hd
        have hk9' : ¬ k' = 9 := by rintro rfl; simp at hd
        by_cases h3 : k = 3
        · subst h3
          rw [matchS.eq_def] at ha
          simp at ha
          by_cases h3' : k' = 3
          · subst h3'
            rw [matchS.eq_def] at hb
            simp at hb
            simp [← ha.2, ← hb.2]
          · rw [matchS_head hk1' hk9' h3'] at hb
            split at hb
            · rename_i hx
              have := ha.1
              omega
            · simp at hb
        · rw [matchS_head hk1 hk9 h3] at ha
          split at ha
          · rename_i hx
            by_cases h3' : k' = 3
            · subst h3'
              rw [matchS.eq_def] at hb
              simp at hb
              have := hb.1
              omega
            · rw [matchS_head hk1' hk9' h3'] at hb
              split at hb
              · rename_i hy
                rw [ih.2 _ _ _ (by omega) ha hb]
                simp [h3, h3', ← hx.2.2, ← hy.2.2]
              · simp at hb
          · simp at ha
    refine ⟨h1, fun a => ?_⟩
    induction a with
    | nil =>
      intro b ts h ha hb
      cases ts with
      | nil =>
        cases b with
        | nil => rfl
        | cons y q => simp [allS] at hb
      | cons t r => simp [allS] at ha
    | cons x r ihr =>
      intro b ts h ha hb
      rw [ExSize] at h
      cases ts with
      | nil => simp [allS] at ha
      | cons t q =>
        cases b with
        | nil => simp [allS] at hb
        | cons y z =>
          rw [allS] at ha hb
          cases hx : matchS x t with
          | none => rw [hx] at ha; simp at ha
          | some u =>
          cases hy : matchS y t with
          | none => rw [hy] at hb; simp at hb
          | some v =>
          rw [hx] at ha
          rw [hy] at hb
          simp only at ha hb
          cases hx2 : allS r q with
          | none => rw [hx2] at ha; simp at ha
          | some u2 =>
          cases hy2 : allS z q with
          | none => rw [hy2] at hb; simp at hb
          | some v2 =>
          rw [overS, h1 x y t (by omega) (by rw [hx]; rfl) (by rw [hy]; rfl), ihr z q (by omega) (by rw [hx2]; rfl) (by rw [hy2]; rfl)]
          rfl
end Go.Proofs.Ytnaakhnmbckpmaa.Pats
