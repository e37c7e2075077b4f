/- The places of an arena that are used, in their order; plain. -/
import Derived.Test.YtccknhhjkkbadaaArL
namespace Go.Proofs.Ytccknhhjkkbadaa.ArD
open Go.Proofs.Ytccknhhjkkbadaa.Arn
set_option linter.unusedVariables false
set_option linter.unusedSimpArgs false
/-- a place that is used. -/
abbrev Pl (us : List Bool) := {j : Nat // hasB us j = true}
def one (us : List Bool) (j : Nat) : List (Pl us) := if h : hasB us j = true then [⟨j, h⟩] else []
def upto (us : List Bool) : Nat → List (Pl us)
  | 0 => []
  | k + 1 => upto us k ++ one us k
def all (us : List Bool) : List (Pl us) := upto us us.length
theorem upto_mono (us : List Bool) (k d : Nat) : upto us k <+: upto us (k + d) := by
  induction d with
  | zero => exact List.prefix_refl _
  | succ d ih => exact ih.trans (List.prefix_append _ _)
theorem upto_all (us : List Bool) {k : Nat} (hk : k ≤ us.length) : upto us k <+: all us := by
  have := upto_mono us k (us.length - k)
  rwa [Nat.add_sub_cancel' hk] at this
theorem len_one (us : List Bool) (j : Nat) : (one us j).length = if hasB us j then 1 else 0 := by
  unfold one
  split <;> simp_all
theorem len_upto (us : List Bool) (k : Nat) (hk : k ≤ us.length) : (upto us k).length = (us.take k).count true := by
  induction k with
  | zero => simp [upto]
  | succ k ih =>
    have hl : k < us.length := hk
    rw [upto, List.length_append, ih (by omega), len_one, hasB_at hl, List.take_succ_eq_append_getElem hl, List.count_append]
    cases us[k] <;> simp
theorem len_all (us : List Bool) : (all us).length = us.count true := by
  unfold all
  rw [len_upto us _ (Nat.le_refl _), List.take_length]
/-- the last place. -/
def lastP {us : List Bool} (l : List (Pl us)) : Int := match l.getLast? with | none => -1 | some x => (x.1 : Int)
theorem lastP_nil {us : List Bool} : lastP ([] : List (Pl us)) = -1 := rfl
theorem lastP_snoc {us : List Bool} (l : List (Pl us)) (x : Pl us) : lastP (l ++ [x]) = x.1 := by simp [lastP]
/-- the places rise. -/
def Rise {us : List Bool} (l : List (Pl us)) : Prop := l.Pairwise (fun a b => a.1 < b.1)
theorem rise_last {us : List Bool} {l : List (Pl us)} {x : Pl us} (h : Rise (l ++ [x])) : lastP l < x.1 := by
  unfold Rise at h
  rw [List.pairwise_append] at h
  unfold lastP
  cases hl : l.getLast? with
  | none => simp only; omega
  | some y =>
    have := h.2.2 y (List.mem_of_getLast? hl) x (by simp)
    simp only
    omega
theorem upto_lt (us : List Bool) (k : Nat) : ∀ x ∈ upto us k, x.1 < k := by
  induction k with
  | zero => simp [upto]
  | succ k ih =>
    intro x hx
    rw [upto, List.mem_append] at hx
    rcases hx with hx | hx
    · have := ih x hx; omega
    · unfold one at hx
      split at hx
      · simp at hx; subst hx; simp
      · simp at hx
theorem rise_upto (us : List Bool) (k : Nat) : Rise (upto us k) := by
  induction k with
  | zero => exact List.Pairwise.nil
  | succ k ih =>
    unfold Rise at ih ⊢
    rw [upto, List.pairwise_append]
    refine ⟨ih, ?_, ?_⟩
    · unfold one; split <;> simp
    · intro a ha b hb
      have h1 := upto_lt us k a ha
      unfold one at hb
      split at hb
      · simp at hb; subst hb; exact h1
      · simp at hb
theorem rise_pre {us : List Bool} {l : List (Pl us)} (h : l <+: all us) : Rise l := by
  have := rise_upto us us.length
  exact List.Pairwise.sublist h.sublist this
end Go.Proofs.Ytccknhhjkkbadaa.ArD
