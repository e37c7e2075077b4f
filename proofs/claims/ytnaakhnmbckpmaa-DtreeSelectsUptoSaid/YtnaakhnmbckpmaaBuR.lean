/- How a tree is built, plain: the relation, and its measure. -/
import Derived.Test.YtnaakhnmbckpmaaBuC
import Derived.Test.YtnaakhnmbckpmaaPtL
namespace Go.Proofs.Ytnaakhnmbckpmaa.Pats
open Go.ChangeShapes Go.WideShapes Go.ChangeAt Go.RowKit Go.Proofs.Ytnaakhnmbckpmaa.Lift Go.Proofs.Ytnaakhnmbckpmaa.Data Go.Proofs.Ytnaakhnmbckpmaa.Refs Go.Proofs.Ytnaakhnmbckpmaa.Strs
set_option linter.unusedVariables false
set_option linter.unusedSimpArgs false
/-- the places behind one. -/
def innerP (path : List Int) (n : Nat) : List (List Int) := (List.range n).map fun k => path ++ [Int.ofNat k]
/-- the places once one is looked at. -/
def nextP (pl : List (List Int)) (at_ n : Nat) : List (List Int) := pl.take at_ ++ (innerP (pl.getD at_ []) n ++ pl.drop (at_ + 1))
mutual
/-- the trees of some rules, with places to look at. -/
inductive BuildR (makers : List ByteArray) (rules : List (List Ex)) : List Int → List (List Int) → Ct → Prop
  | nil (pl : List (List Int)) : BuildR makers rules [] pl failT
  | branch (ss : List Int) (pl : List (List Int)) (at_ : Nat) (cs : List Ct) : ss ≠ [] → at_ < pl.length → allDem rules ss (pl.getD at_ []) = true → BranchR makers rules ss pl at_ cs → BuildR makers rules ss pl (.mk 0 false 2 0 (pl.getD at_ []) cs)
  | split (ss : List Int) (pl : List (List Int)) (at_ : Nat) (s0 : Int) (a b : Ct) : ss.head? = some s0 → at_ < pl.length → (∀ p ∈ pl, allDem rules ss p = false) → demI rules (pl.getD at_ []) s0 = true → BuildR makers rules (ss.filter (demI rules (pl.getD at_ []))) pl a → BuildR makers rules (ss.filter (fun x => !demI rules (pl.getD at_ []) x)) pl b → BuildR makers rules ss pl (orT a b)
  | leaf (s0 : Int) (pl : List (List Int)) : (∀ p ∈ pl, demI rules p s0 = false) → BuildR makers rules [s0] pl (leafT s0)
  | more (s0 s1 : Int) (r : List Int) (pl : List (List Int)) (T : Ct) : (∀ p ∈ pl, demI rules p s0 = false) → BuildR makers rules (s1 :: r) pl T → BuildR makers rules (s0 :: s1 :: r) pl (orT (leafT s0) T)
inductive BranchR (makers : List ByteArray) (rules : List (List Ex)) : List Int → List (List Int) → Nat → List Ct → Prop
  | nil (pl : List (List Int)) (at_ : Nat) : BranchR makers rules [] pl at_ []
  | cons (s0 : Int) (r : List Int) (pl : List (List Int)) (at_ : Nat) (e : Ex) (T : Ct) (cs : List Ct) : atS (rules.getD s0.toNat []) (pl.getD at_ []) = some e →
      BuildR makers rules ((s0 :: r).filter (keyI makers rules (pl.getD at_ []) (keyE makers e).1 (keyE makers e).2.1)) (nextP pl at_ (keyE makers e).2.2) T →
      BranchR makers rules ((s0 :: r).filter (fun x => !keyI makers rules (pl.getD at_ []) (keyE makers e).1 (keyE makers e).2.1 x)) pl at_ cs →
      BranchR makers rules (s0 :: r) pl at_ (T.inCase (keyE makers e).1 (keyE makers e).2.1 :: cs)
end
/-- how much of a rule is at places. -/
def wt (rules : List (List Ex)) (i : Int) : List (List Int) → Nat
  | [] => 0
  | p :: pl => (match atS (rules.getD i.toNat []) p with | none => 0 | some e => e.size) + wt rules i pl
def mu (rules : List (List Ex)) (pl : List (List Int)) : List Int → Nat
  | [] => 0
  | i :: ss => 1 + wt rules i pl + mu rules pl ss
theorem wt_append (rules : List (List Ex)) (i : Int) : ∀ (a b : List (List Int)), wt rules i (a ++ b) = wt rules i a + wt rules i b
  | [], b => by simp [wt]
  | p :: a, b => by simp only [List.cons_append, wt, wt_append rules i a b]; omega
theorem atS_append : ∀ {l : List Ex} {p : List Int} {e : Ex} {q : List Int}, atS l p = some e → q ≠ [] → atS l (p ++ q) = atS (headS e).2 q
  | l, [], e, q, h, hq => by cases l <;> simp [atS] at h
  | l, [k], e, q, h, hq => by
    rw [atS] at h
    split at h
    · cases h
    · rename_i hk
      obtain ⟨m, rfl⟩ := Int.eq_ofNat_of_zero_le (Int.not_lt.1 hk)
      exact atS_cons (by simpa using h) hq
  | l, k :: k2 :: r, e, q, h, hq => by
    rw [atS] at h
    · split at h
      · cases h
      · rename_i hk
        obtain ⟨m, rfl⟩ := Int.eq_ofNat_of_zero_le (Int.not_lt.1 hk)
        simp only [Int.toNat_natCast] at h
        cases hl : l[m]? with
        | none => rw [hl] at h; cases h
        | some x =>
          rw [hl] at h
          simp only at h
          rw [List.cons_append, atS_cons hl (by simp)]
          exact atS_append h hq
    · simp
theorem atS_size : ∀ {l : List Ex} {p : List Int} {e : Ex}, atS l p = some e → e.size ≤ ExSize l
  | l, [], e, h => by cases l <;> simp [atS] at h
  | l, [k], e, h => by
    rw [atS] at h
    split at h
    · cases h
    · obtain ⟨h1, h2⟩ := List.getElem?_eq_some_iff.1 h
      rw [← h2]
      exact ExSize_get h1
  | l, k :: k2 :: r, e, h => by
    rw [atS] at h
    · split at h
      · cases h
      · cases hl : l[k.toNat]? with
        | none => rw [hl] at h; cases h
        | some x =>
          rw [hl] at h
          simp only at h
          obtain ⟨h1, h2⟩ := List.getElem?_eq_some_iff.1 hl
          have h3 := atS_size h
          have h4 := headS_lt x
          have h5 := ExSize_get h1
          rw [h2] at h5
          omega
    · simp
theorem wt_range (rules : List (List Ex)) (i : Int) (path : List Int) (e : Ex) (h : atS (rules.getD i.toNat []) path = some e) (n : Nat) : wt rules i (innerP path n) ≤ ExSize (headS e).2 := by
  have key : ∀ n, wt rules i (innerP path n) ≤ ExSize ((headS e).2.take n) := by
    intro n
    induction n with
    | zero => simp [innerP, wt]
    | succ n ih =>
      have h1 : innerP path (n + 1) = innerP path n ++ [path ++ [Int.ofNat n]] := by simp [innerP, List.range_succ]
      rw [h1, wt_append]
      simp only [wt, atS_append h (q := [Int.ofNat n]) (by simp)]
      cases hg : (headS e).2[n]? with
      | none =>
        have : atS (headS e).2 [Int.ofNat n] = none := by simp [atS, hg]
        rw [this]
        have h2 := List.getElem?_eq_none_iff.1 hg
        rw [List.take_of_length_le (by omega)] at ih ⊢
        simpa using ih
      | some x =>
        have : atS (headS e).2 [Int.ofNat n] = some x := by simp [atS, hg]
        rw [this]
        obtain ⟨h2, h3⟩ := List.getElem?_eq_some_iff.1 hg
        rw [ExSize_take h2, h3]
        simp only
        omega
  exact Nat.le_trans (key n) ExSize_take_le
theorem wt_next (rules : List (List Ex)) (i : Int) (pl : List (List Int)) (at_ n : Nat) (hat : at_ < pl.length) (e : Ex) (h : atS (rules.getD i.toNat []) (pl.getD at_ []) = some e) : wt rules i (nextP pl at_ n) < wt rules i pl := by
  have h1 := wt_range rules i _ e h n
  have h2 := headS_lt e
  have h3 : pl = pl.take at_ ++ (pl.getD at_ [] :: pl.drop (at_ + 1)) := by
    have : pl.getD at_ [] = pl[at_] := by simp [List.getD, List.getElem?_eq_getElem hat]
    rw [this, List.getElem_cons_drop, List.take_append_drop]
  have h4 : wt rules i pl = wt rules i (pl.take at_) + (e.size + wt rules i (pl.drop (at_ + 1))) := by
    conv => lhs; rw [h3]
    rw [wt_append, wt, h]
  rw [h4]
  unfold nextP
  rw [wt_append, wt_append]
  omega
theorem mu_filter (rules : List (List Ex)) (pl : List (List Int)) (f : Int → Bool) : ∀ ss, mu rules pl (ss.filter f) ≤ mu rules pl ss
  | [] => by simp [mu]
  | i :: ss => by
    have := mu_filter rules pl f ss
    cases hf : f i with
    | true => simp only [List.filter_cons, hf, if_true, mu]; omega
    | false => simp only [List.filter_cons, hf, mu]; simp; omega
theorem mu_len (rules : List (List Ex)) (pl : List (List Int)) : ∀ ss, ss.length ≤ mu rules pl ss
  | [] => by simp [mu]
  | i :: ss => by
    have := mu_len rules pl ss
    simp only [List.length_cons, mu]
    omega
/-- some but not all. -/
theorem mu_filter_lt (rules : List (List Ex)) (pl : List (List Int)) (f : Int → Bool) : ∀ {ss : List Int}, (∃ i ∈ ss, f i = false) → mu rules pl (ss.filter f) < mu rules pl ss
  | [], h => by obtain ⟨i, h, _⟩ := h; cases h
  | i :: ss, h => by
    have h1 := mu_filter rules pl f ss
    cases hf : f i with
    | false => simp only [List.filter_cons, hf, mu]; simp; omega
    | true =>
      have : ∃ i ∈ ss, f i = false := by
        obtain ⟨k, hk, h2⟩ := h
        rcases List.mem_cons.1 hk with rfl | hk
        · rw [hf] at h2; cases h2
        · exact ⟨k, hk, h2⟩
      have := mu_filter_lt rules pl f this
      simp only [List.filter_cons, hf, if_true, mu]
      omega
theorem mu_le (rules : List (List Ex)) (pl pl' : List (List Int)) : ∀ {ss : List Int}, (∀ i ∈ ss, wt rules i pl' ≤ wt rules i pl) → mu rules pl' ss ≤ mu rules pl ss
  | [], h => by simp [mu]
  | i :: ss, h => by
    have h1 := h i (List.mem_cons_self ..)
    have h2 := mu_le rules pl pl' (ss := ss) (fun k hk => h k (List.mem_cons_of_mem _ hk))
    simp only [mu]
    omega
/-- the rules of a key: less is left of them. -/
theorem mu_own (rules : List (List Ex)) (pl : List (List Int)) (at_ n : Nat) (hat : at_ < pl.length) (f : Int → Bool) (ss : List Int) (s0 : Int) (r : List Int) (hs : ss = s0 :: r) (h0 : f s0 = true)
    (h : ∀ i ∈ ss, f i = true → ∃ e, atS (rules.getD i.toNat []) (pl.getD at_ []) = some e) : mu rules (nextP pl at_ n) (ss.filter f) < mu rules pl ss := by
  subst hs
  have hlt : ∀ i ∈ s0 :: r, f i = true → wt rules i (nextP pl at_ n) < wt rules i pl := fun i hi hf => by
    obtain ⟨e, he⟩ := h i hi hf
    exact wt_next rules i pl at_ n hat e he
  have h1 := mu_le rules pl (nextP pl at_ n) (ss := r.filter f) (fun i hi => Nat.le_of_lt (hlt i (List.mem_cons_of_mem _ (List.mem_filter.1 hi).1) (List.mem_filter.1 hi).2))
  have h2 := mu_filter rules pl f r
  have h3 := hlt s0 (List.mem_cons_self ..) h0
  simp only [List.filter_cons, h0, if_true, mu]
  omega
theorem nextP_len (pl : List (List Int)) (at_ n : Nat) (hat : at_ < pl.length) : (nextP pl at_ n).length = pl.length - 1 + n := by
  simp only [nextP, innerP, List.length_append, List.length_take, List.length_map, List.length_range, List.length_drop]
  omega
theorem keyE_le (makers : List ByteArray) (e : Ex) : (keyE makers e).2.2 ≤ e.size := by
  unfold keyE
  split
  · simp
  · exact headS_len e
theorem demI_at {rules : List (List Ex)} {path : List Int} {i : Int} (h : demI rules path i = true) : ∃ e, atS (rules.getD i.toNat []) path = some e ∧ demB e = true := by
  unfold demI demAt at h
  cases hg : atS (rules.getD i.toNat []) path with
  | none => rw [hg] at h; cases h
  | some e => rw [hg] at h; exact ⟨e, rfl, h⟩
theorem keyI_self {makers : List ByteArray} {rules : List (List Ex)} {path : List Int} {i : Int} {e : Ex} (h : atS (rules.getD i.toNat []) path = some e) : keyI makers rules path (keyE makers e).1 (keyE makers e).2.1 i = true := by
  unfold keyI
  rw [h]
  simp
end Go.Proofs.Ytnaakhnmbckpmaa.Pats
