/- The map of what an arena's places hold; numbers. -/
import Derived.Test.YtccknhhjkkbadaaArI
import Derived.Test.YtccknhhjkkbadaaArD
import Derived.Maps.Own
import Derived.Maps.OwnOps
import Derived.Maps.OwnSet
import Derived.Maps.Views
namespace Go.Proofs.Ytccknhhjkkbadaa.ArD
open Go.ChangeShapes Go.WideShapes Go.ChangeAt Go.RowKit Go.Proofs.Ytccknhhjkkbadaa.Lift Go.Proofs.Ytccknhhjkkbadaa.Arn Go.Proofs.Ytccknhhjkkbadaa.ArnI Go.Maps
set_option linter.unusedVariables false
set_option linter.unusedSimpArgs false
theorem hasB_first (us : List Bool) : hasB us (firstF us) = false := by
  rcases Nat.lt_or_ge (firstF us) us.length with h | h
  · rw [hasB_at h, firstF_at h]
  · exact hasB_far h
theorem hasB_eq (us : List Bool) (i : Int) : hasB us i = true ↔ ∃ j : Nat, ∃ h : j < us.length, i = j ∧ us[j] = true := by
  constructor
  · intro hh
    have hi : ¬ i < 0 := fun e => by rw [hasB_neg e] at hh; cases hh
    obtain ⟨j, rfl⟩ : ∃ j : Nat, i = j := ⟨i.toNat, by omega⟩
    rcases Nat.lt_or_ge j us.length with h | h
    · exact ⟨j, h, rfl, by rw [← hasB_at h]; exact hh⟩
    · rw [hasB_far h] at hh; cases hh
  · rintro ⟨j, h, rfl, hu⟩
    rw [hasB_at h]
    exact hu
theorem hasB_setU (us : List Bool) (i : Int) : hasB (setU us) i = if i = firstF us then true else hasB us i := by
  have hle := firstF_le us
  unfold setU
  by_cases hi : i < 0
  · rw [hasB_neg hi, hasB_neg hi, if_neg (by omega)]
  · obtain ⟨j, rfl⟩ : ∃ j : Nat, i = j := ⟨i.toNat, by omega⟩
    by_cases hf : firstF us < us.length
    · rw [if_pos hf]
      rcases Nat.lt_or_ge j us.length with h | h
      · rw [hasB_at (by simpa using h), hasB_at h, List.getElem_set]
        by_cases e : firstF us = j
        · rw [if_pos e, if_pos (by omega)]
        · rw [if_neg e, if_neg (by omega)]
      · rw [hasB_far (by simpa using h), hasB_far h, if_neg (by omega)]
    · rw [if_neg hf]
      have hfl : firstF us = us.length := by omega
      rcases Nat.lt_or_ge j us.length with h | h
      · rw [hasB_at (by simp; omega), hasB_at h, List.getElem_append_left h, if_neg (by omega)]
      · by_cases e : j = us.length
        · subst e
          rw [hasB_at (by simp), if_pos (by omega)]
          simp
        · rw [hasB_far (by simp; omega), hasB_far h, if_neg (by omega)]
theorem count_setU (us : List Bool) : (setU us).count true = us.count true + 1 := by
  unfold setU
  by_cases hf : firstF us < us.length
  · rw [if_pos hf]
    exact count_set_true hf (firstF_at hf)
  · rw [if_neg hf]
    simp
theorem hasB_free (us : List Bool) (i k : Int) (h : hasB us i = true) : hasB (us.set i.toNat false) k = if k = i then false else hasB us k := by
  obtain ⟨j, hj, rfl, hu⟩ := (hasB_eq us i).1 h
  rw [Int.toNat_natCast]
  by_cases hk : k < 0
  · rw [hasB_neg hk, hasB_neg hk]; simp
  · obtain ⟨m, rfl⟩ : ∃ m : Nat, k = m := ⟨k.toNat, by omega⟩
    rcases Nat.lt_or_ge m us.length with h | h
    · rw [hasB_at (by simpa using h), hasB_at h, List.getElem_set]
      by_cases e : j = m
      · rw [if_pos e, if_pos (by omega)]
      · rw [if_neg e, if_neg (by omega)]
    · rw [hasB_far (by simpa using h), hasB_far h]; simp
theorem count_free (us : List Bool) (i : Int) (h : hasB us i = true) : (us.set i.toNat false).count true + 1 = us.count true := by
  obtain ⟨j, hj, rfl, hu⟩ := (hasB_eq us i).1 h
  rw [Int.toNat_natCast]
  exact count_set_false hj hu
theorem law3 : Keyed Try.prog 3 := int_keyed Try.underlying3
theorem isKey (i : Int) (h : (Lit.int .i64 i).wf = true) : WideAt.IsKeyLit (.int .i64 i) := law3.key (keyOf_int_mk Try.underlying3 h)
theorem lit_ne {i k : Int} (h : ¬ i = k) : Lit.int .i64 i ≠ Lit.int .i64 k := fun e => h (by injection e)
theorem getX_put (xs : List Int) (us : List Bool) (x i : Int) (hl : xs.length = us.length) : getX (setX xs us x) (setU us) i = if i = firstF us then x else getX xs us i := by
  have hle := firstF_le us
  unfold getX
  rw [hasB_setU]
  by_cases e : i = firstF us
  · subst e
    rw [if_pos rfl, if_pos rfl, if_pos rfl, Int.toNat_natCast]
    unfold setX
    by_cases hf : firstF us < us.length
    · rw [if_pos hf]; simp [List.getD, List.getElem?_set, hl, hf]
    · rw [if_neg hf]
      have : firstF us = xs.length := by omega
      rw [this]; simp [List.getD]
  · rw [if_neg e, if_neg e]
    cases hu : hasB us i with
    | false => rfl
    | true =>
      obtain ⟨j, hj, rfl, -⟩ := (hasB_eq us i).1 hu
      rw [if_pos rfl, if_pos rfl, Int.toNat_natCast]
      unfold setX
      by_cases hf : firstF us < us.length
      · rw [if_pos hf]
        have : firstF us ≠ j := fun h => e (by omega)
        simp [List.getD, List.getElem?_set, this]
      · rw [if_neg hf]
        simp [List.getD, List.getElem?_append_left (show j < xs.length by omega)]
theorem getX_set (xs : List Int) (us : List Bool) (i x k : Int) (hl : xs.length = us.length) (h : hasB us i = true) : getX (xs.set i.toNat x) us k = if k = i then x else getX xs us k := by
  obtain ⟨j, hj, rfl, -⟩ := (hasB_eq us i).1 h
  rw [Int.toNat_natCast]
  unfold getX
  by_cases e : k = (j : Int)
  · subst e
    rw [if_pos h, if_pos rfl, Int.toNat_natCast]
    simp [List.getD, List.getElem?_set, hl, hj]
  · rw [if_neg e]
    cases hu : hasB us k with
    | false => rfl
    | true =>
      obtain ⟨m, hm, rfl, -⟩ := (hasB_eq us k).1 hu
      rw [if_pos rfl, if_pos rfl, Int.toNat_natCast]
      have : j ≠ m := fun h => e (by omega)
      simp [List.getD, List.getElem?_set, this]
theorem getX_free (xs : List Int) (us : List Bool) (i k : Int) (hl : xs.length = us.length) (h : hasB us i = true) : getX (xs.set i.toNat 0) (us.set i.toNat false) k = if k = i then 0 else getX xs us k := by
  have h1 := getX_set xs us i 0 k hl h
  unfold getX at h1 ⊢
  rw [hasB_free us i k h]
  by_cases e : k = i
  · rw [if_pos e, if_pos e]; simp
  · rw [if_neg e] at h1 ⊢
    rw [if_neg e]
    exact h1
/-- the map tells which places are used and what they hold. -/
def Holds (D : DataW Unit) (xs : List Int) (us : List Bool) : Prop :=
  (∀ i : Int, (Lit.int .i64 i).wf = true → Maps.has D (.int .i64 i) = hasB us i) ∧ (∀ i : Int, (Lit.int .i64 i).wf = true → D.atKey (.int .i64 i) (.lit (.int .i64 0)) = .lit (.int .i64 (getX xs us i))) ∧ Maps.size D = us.count true
def Mi (w : World) (m n : Nat) (xs : List Int) (us : List Bool) : Prop := ∃ D : DataW Unit, w.ownsMap Try.prog 3 (plainElem Try.prog 3) m n D ∧ Holds D xs us
theorem Mi.keep {w w' : World} {m n : Nat} {xs : List Int} {us : List Bool} (h : Mi w m n xs us) (hb : w'.heap[m]? = w.heap[m]?) : Mi w' m n xs us := by
  obtain ⟨D, ⟨es, cl, h1, h2⟩, h3⟩ := h
  exact ⟨D, ⟨es, cl, hb.trans h1, h2⟩, h3⟩
theorem Mi.lt {w : World} {m n : Nat} {xs : List Int} {us : List Bool} (h : Mi w m n xs us) : m < w.heap.size := by
  obtain ⟨D, ⟨es, cl, h1, _⟩, _⟩ := h
  exact (Array.getElem?_eq_some_iff.1 h1).1
theorem hasB_nil (i : Int) : hasB [] i = false := by
  by_cases hi : i < 0
  · exact hasB_neg hi
  · obtain ⟨j, rfl⟩ : ∃ j : Nat, i = j := ⟨i.toNat, by omega⟩
    exact hasB_far (Nat.zero_le _)
theorem Mi.made (w : World) : Mi (w.alloc (.map #[] 0)) w.heap.size 0 [] [] := ⟨.map [], World.ownsMap_made w Try.prog 3 _, fun i _ => by rw [hasB_nil]; rfl, fun i _ => by unfold getX; rw [hasB_nil]; rfl, rfl⟩
section
variable {D : DataW Unit} {xs : List Int} {us : List Bool} (hT : Tidy D) (hh : Holds D xs us) (hl : xs.length = us.length)
include hT hh hl
theorem mi_put (hw : (Lit.int .i64 (firstF us)).wf = true) (x : Int) : Holds (D.put (.int .i64 (firstF us)) (.lit (.int .i64 x))) (setX xs us x) (setU us) := by
  refine ⟨fun i hi => ?_, fun i hi => ?_, ?_⟩
  · rw [hasB_setU]
    by_cases e : i = firstF us
    · subst e
      rw [if_pos rfl, has_put_same hT.isMap (isKey _ hw)]
    · rw [if_neg e, has_put_other (lit_ne e), hh.1 i hi]
  · rw [getX_put _ _ _ _ hl]
    by_cases e : i = firstF us
    · subst e
      rw [if_pos rfl, atKey_put_same hT.isMap (isKey _ hw)]
    · rw [if_neg e, atKey_put_other (lit_ne e), hh.2.1 i hi]
  · rw [size_put hT, hh.1 _ hw, hasB_first, count_setU, hh.2.2]
    simp
theorem mi_set {i : Int} (hw : (Lit.int .i64 i).wf = true) (hu : hasB us i = true) (x : Int) : Holds (D.put (.int .i64 i) (.lit (.int .i64 x))) (xs.set i.toNat x) us := by
  refine ⟨fun k hk => ?_, fun k hk => ?_, ?_⟩
  · by_cases e : k = i
    · subst e
      rw [has_put_same hT.isMap (isKey _ hw), hu]
    · rw [has_put_other (lit_ne e), hh.1 k hk]
  · rw [getX_set _ _ _ _ _ hl hu]
    by_cases e : k = i
    · subst e
      rw [if_pos rfl, atKey_put_same hT.isMap (isKey _ hw)]
    · rw [if_neg e, atKey_put_other (lit_ne e), hh.2.1 k hk]
  · rw [size_put hT, hh.1 _ hw, hu, hh.2.2]
    simp
theorem mi_del {i : Int} (hw : (Lit.int .i64 i).wf = true) : Holds (D.del (.int .i64 i)) (if hasB us i then xs.set i.toNat 0 else xs) (if hasB us i then us.set i.toNat false else us) := by
  cases hu : hasB us i with
  | false =>
    rw [del_of_not_has (by rw [hh.1 i hw, hu])]
    exact hh
  | true =>
    rw [if_pos rfl, if_pos rfl]
    refine ⟨fun k hk => ?_, fun k hk => ?_, ?_⟩
    · rw [hasB_free us i k hu]
      by_cases e : k = i
      · subst e
        rw [if_pos rfl, has_del_same]
      · rw [if_neg e, has_del_other (lit_ne e), hh.1 k hk]
    · rw [getX_free _ _ _ _ hl hu]
      by_cases e : k = i
      · subst e
        rw [if_pos rfl, atKey_del_same]
      · rw [if_neg e, atKey_del_other (lit_ne e), hh.2.1 k hk]
    · have h1 := size_del (k := .int .i64 i) hT
      rw [hh.1 i hw, hu] at h1
      have h2 := count_free us i hu
      have h3 := hh.2.2
      simp only [if_true] at h1
      omega
end
end Go.Proofs.Ytccknhhjkkbadaa.ArD
