/- How many ors a tree has, and how big it is: the plain law. -/
import Derived.Test.YtnaakhnmbckpmaaBuR
import Derived.Test.YtnaakhnmbckpmaaTrV
import Derived.Test.YtnaakhnmbckpmaaSelB
namespace Go.Proofs.Ytnaakhnmbckpmaa.Pats
open Go.ChangeShapes Go.WideShapes Go.ChangeAt Go.RowKit Go.Proofs.Ytnaakhnmbckpmaa.Lift Go.Proofs.Ytnaakhnmbckpmaa.Data Go.Proofs.Ytnaakhnmbckpmaa.Refs Go.Proofs.Ytnaakhnmbckpmaa.Strs
set_option linter.unusedVariables false
set_option linter.unusedSimpArgs false
theorem filter_both (f : Int → Bool) : ∀ ss : List Int, (ss.filter f).length + (ss.filter (fun x => !f x)).length = ss.length
  | [] => by simp
  | i :: ss => by
    have := filter_both f ss
    cases hf : f i <;> simp [List.filter_cons, hf] <;> omega
theorem ors_inCase (con : Int) (is : Bool) (T : Ct) : orsC (T.inCase con is) = orsC T := by cases T; simp [Ct.inCase, orsC]
theorem filter_pos {f : Int → Bool} {s0 : Int} {ss : List Int} (h : s0 ∈ ss) (hf : f s0 = true) : 0 < (ss.filter f).length := List.length_pos_of_mem (List.mem_filter.2 ⟨h, hf⟩)
mutual
theorem ors_build {mk : List ByteArray} {rules : List (List Ex)} : ∀ {ss : List Int} {pl : List (List Int)} {T : Ct}, BuildR mk rules ss pl T → orsC T < max ss.length 1
  | _, _, _, .nil pl => by simp [failT, orsC, orsCs]
  | _, _, _, .branch ss pl at_ cs h1 h2 h3 hb => by
    have h := ors_branch hb
    have h4 : 0 < ss.length := List.length_pos_iff.2 h1
    rw [orsC]
    simp only [show ¬ ((2 : Int) = 3) by omega, if_false]
    cases cs with
    | nil => simp [orsCs]; omega
    | cons c r => simp only [List.length_cons] at h; omega
  | _, _, _, .split ss pl at_ s0 a b h1 h2 h3 h4 ha hb => by
    have g1 := ors_build ha
    have g2 := ors_build hb
    have g3 := filter_both (demI rules (pl.getD at_ [])) ss
    have hm : s0 ∈ ss := by
      cases ss with
      | nil => cases h1
      | cons x r => simp at h1; subst h1; exact List.mem_cons_self ..
    have g4 := filter_pos hm h4
    have g5 : 0 < (ss.filter (fun x => !demI rules (pl.getD at_ []) x)).length := by
      have hat : pl.getD at_ [] ∈ pl := by rw [List.getD, List.getElem?_eq_getElem h2]; exact List.getElem_mem h2
      have := h3 _ hat
      rw [allDem, List.all_eq_false] at this
      obtain ⟨x, hx1, hx2⟩ := this
      exact List.length_pos_of_mem (List.mem_filter.2 ⟨hx1, by simpa using hx2⟩)
    rw [orT, orsC]
    simp only [if_true, orsCs, ors_inCase]
    omega
  | _, _, _, .leaf s0 pl h => by simp [leafT, orsC, orsCs]
  | _, _, _, .more s0 s1 r pl T h hb => by
    have g := ors_build hb
    rw [orT, orsC]
    simp only [if_true, orsCs, ors_inCase, leafT, orsC, List.length_cons] at g ⊢
    simp only [show ¬ ((1 : Int) = 3) by omega, if_false]
    omega
theorem ors_branch {mk : List ByteArray} {rules : List (List Ex)} : ∀ {ss : List Int} {pl : List (List Int)} {at_ : Nat} {cs : List Ct}, BranchR mk rules ss pl at_ cs → orsCs cs + cs.length ≤ ss.length
  | _, _, _, _, .nil pl at_ => by simp [orsCs]
  | _, _, _, _, .cons s0 r pl at_ e T cs he hT hc => by
    have g1 := ors_build hT
    have g2 := ors_branch hc
    have g3 := filter_both (keyI mk rules (pl.getD at_ []) (keyE mk e).1 (keyE mk e).2.1) (s0 :: r)
    have g4 := filter_pos (List.mem_cons_self ..) (keyI_self (makers := mk) he) (ss := s0 :: r)
    simp only [orsCs, ors_inCase, List.length_cons] at *
    omega
end
mutual
theorem sel_leaves (mk : List ByteArray) (args : List Tm) : ∀ (T : Ct) (i : Int), i ∈ selS mk args T → i ∈ T.leaves
  | .mk a b k r p cs, i, h => by
    rw [selS] at h
    rw [Ct.leaves]
    by_cases h1 : k = 1
    · rw [if_pos h1] at h ⊢; exact h
    rw [if_neg h1] at h ⊢
    by_cases h3 : k = 3
    · rw [if_pos h3] at h; exact selAll_leaves mk args cs i h
    rw [if_neg h3] at h
    by_cases h2 : k = 2
    · rw [if_pos h2] at h
      split at h
      · cases h
      · exact selFst_leaves mk args _ cs i h
    · rw [if_neg h2] at h; cases h
theorem selAll_leaves (mk : List ByteArray) (args : List Tm) : ∀ (cs : List Ct) (i : Int), i ∈ selAll mk args cs → i ∈ CtLeaves cs
  | [], i, h => by rw [selAll] at h; cases h
  | c :: r, i, h => by
    rw [selAll, List.mem_append] at h
    rw [CtLeaves, List.mem_append]
    rcases h with h | h
    · exact .inl (sel_leaves mk args c i h)
    · exact .inr (selAll_leaves mk args r i h)
theorem selFst_leaves (mk : List ByteArray) (args : List Tm) (x : Tm) : ∀ (cs : List Ct) (i : Int), i ∈ selFst mk args x cs → i ∈ CtLeaves cs
  | [], i, h => by rw [selFst] at h; cases h
  | c :: r, i, h => by
    rw [selFst] at h
    rw [CtLeaves, List.mem_append]
    split at h
    · exact .inl (sel_leaves mk args c i h)
    · exact .inr (selFst_leaves mk args x r i h)
end
theorem mu_both (rules : List (List Ex)) (pl : List (List Int)) (f : Int → Bool) : ∀ ss : List Int, mu rules pl (ss.filter f) + mu rules pl (ss.filter (fun x => !f x)) = mu rules pl ss
  | [] => by simp [mu]
  | i :: ss => by
    have := mu_both rules pl f ss
    cases hf : f i <;> simp [List.filter_cons, hf, mu] <;> omega
theorem size_inCase (con : Int) (is : Bool) (T : Ct) : (T.inCase con is).size = T.size := by cases T; simp [Ct.inCase, Ct.size]
theorem mu_pos {rules : List (List Ex)} {pl : List (List Int)} {ss : List Int} (h : ss ≠ []) : 0 < mu rules pl ss := by
  have := mu_len rules pl ss
  have := List.length_pos_iff.2 h
  omega
theorem keyI_some {mk : List ByteArray} {rules : List (List Ex)} {path : List Int} {con : Int} {is : Bool} {i : Int} (h : keyI mk rules path con is i = true) : ∃ e, atS (rules.getD i.toNat []) path = some e := by
  unfold keyI at h
  cases hg : atS (rules.getD i.toNat []) path with
  | none => rw [hg] at h; cases h
  | some e => exact ⟨e, rfl⟩
mutual
theorem size_build {mk : List ByteArray} {rules : List (List Ex)} : ∀ {ss : List Int} {pl : List (List Int)} {T : Ct}, BuildR mk rules ss pl T → ss ≠ [] → T.size + 1 ≤ 2 * mu rules pl ss
  | _, _, _, .nil pl, h => absurd rfl h
  | _, _, _, .branch ss pl at_ cs h1 h2 h3 hb, _ => by
    have h := size_branch hb h2
    have h4 := mu_pos (rules := rules) (pl := pl) h1
    rw [Ct.size]
    cases cs with
    | nil => simp [CtSize]; omega
    | cons c r => simp only [List.length_cons] at h; omega
  | _, _, _, .split ss pl at_ s0 a b h1 h2 h3 h4 ha hb, _ => by
    have g3 := mu_both rules pl (demI rules (pl.getD at_ [])) ss
    have hm : s0 ∈ ss := by
      cases ss with
      | nil => cases h1
      | cons x r => simp at h1; subst h1; exact List.mem_cons_self ..
    have g4 := filter_pos hm h4
    have g5 : 0 < (ss.filter (fun x => !demI rules (pl.getD at_ []) x)).length := by
      have hat : pl.getD at_ [] ∈ pl := by rw [List.getD, List.getElem?_eq_getElem h2]; exact List.getElem_mem h2
      have := h3 _ hat
      rw [allDem, List.all_eq_false] at this
      obtain ⟨x, hx1, hx2⟩ := this
      exact List.length_pos_of_mem (List.mem_filter.2 ⟨hx1, by simpa using hx2⟩)
    have g1 := size_build ha (List.length_pos_iff.1 g4)
    have g2 := size_build hb (List.length_pos_iff.1 g5)
    rw [orT, Ct.size]
    simp only [CtSize, size_inCase]
    omega
  | _, _, _, .leaf s0 pl h, _ => by simp [leafT, Ct.size, CtSize, mu]; omega
  | _, _, _, .more s0 s1 r pl T h hb, _ => by
    have g := size_build hb (by simp)
    rw [orT, Ct.size]
    simp only [CtSize, size_inCase, leafT, Ct.size, mu] at g ⊢
    omega
theorem size_branch {mk : List ByteArray} {rules : List (List Ex)} : ∀ {ss : List Int} {pl : List (List Int)} {at_ : Nat} {cs : List Ct}, BranchR mk rules ss pl at_ cs → at_ < pl.length → CtSize cs + 3 * cs.length ≤ 2 * mu rules pl ss
  | _, _, _, _, .nil pl at_, _ => by simp [CtSize]
  | _, _, _, _, .cons s0 r pl at_ e T cs he hT hc, hat => by
    have g4 := filter_pos (List.mem_cons_self ..) (keyI_self (makers := mk) he) (ss := s0 :: r)
    have g1 := size_build hT (List.length_pos_iff.1 g4)
    have g2 := size_branch hc hat
    have g3 := mu_both rules pl (keyI mk rules (pl.getD at_ []) (keyE mk e).1 (keyE mk e).2.1) (s0 :: r)
    have g5 : mu rules (nextP pl at_ (keyE mk e).2.2) ((s0 :: r).filter (keyI mk rules (pl.getD at_ []) (keyE mk e).1 (keyE mk e).2.1)) < mu rules pl ((s0 :: r).filter (keyI mk rules (pl.getD at_ []) (keyE mk e).1 (keyE mk e).2.1)) := by
      have hk := keyI_self (makers := mk) he
      have hx : (s0 :: r).filter (keyI mk rules (pl.getD at_ []) (keyE mk e).1 (keyE mk e).2.1) = s0 :: r.filter (keyI mk rules (pl.getD at_ []) (keyE mk e).1 (keyE mk e).2.1) := by rw [List.filter_cons, if_pos hk]
      have := mu_own rules pl at_ (keyE mk e).2.2 hat (keyI mk rules (pl.getD at_ []) (keyE mk e).1 (keyE mk e).2.1) ((s0 :: r).filter (keyI mk rules (pl.getD at_ []) (keyE mk e).1 (keyE mk e).2.1)) s0 _ hx hk (fun i _ hf => keyI_some hf)
      rw [List.filter_filter] at this
      simpa using this
    simp only [CtSize, size_inCase, List.length_cons] at *
    omega
end
/-- one rule that demands nothing is a leaf. -/
theorem build_leaf {mk : List ByteArray} {rules : List (List Ex)} {s0 : Int} {pl : List (List Int)} {T : Ct} (h : BuildR mk rules [s0] pl T) (hno : ∀ p ∈ pl, demI rules p s0 = false) : T = leafT s0 := by
  cases h with
  | branch _ _ at_ cs h1 h2 h3 hb =>
    have hat : pl.getD at_ [] ∈ pl := by rw [List.getD, List.getElem?_eq_getElem h2]; exact List.getElem_mem h2
    rw [allDem, List.all_eq_true] at h3
    have := h3 s0 (List.mem_cons_self ..)
    rw [hno _ hat] at this
    cases this
  | split _ _ at_ s1 a b h1 h2 h3 h4 ha hb =>
    have hat : pl.getD at_ [] ∈ pl := by rw [List.getD, List.getElem?_eq_getElem h2]; exact List.getElem_mem h2
    simp at h1
    subst h1
    rw [hno _ hat] at h4
    cases h4
  | leaf => rfl
/-- the rule of some names. -/
def namesR (names : List ByteArray) : List Ex := names.map fun s => .mk 1 s 0 [] 0 0
theorem names_no (names : List ByteArray) (k : Nat) : demI [namesR names] [Int.ofNat k] 0 = false := by
  unfold demI demAt
  have h0 : ([namesR names] : List (List Ex)).getD (0 : Int).toNat [] = namesR names := rfl
  rw [h0]
  cases hg : (namesR names)[k]? with
  | none =>
    have : atS (namesR names) [Int.ofNat k] = none := by rw [atS]; simp only [Int.ofNat_eq_natCast, Int.toNat_natCast, hg]; split <;> rfl
    rw [this]
  | some x =>
    have : atS (namesR names) [Int.ofNat k] = some x := atS_one hg
    rw [this]
    simp only [namesR, List.getElem?_map] at hg
    cases hn : names[k]? with
    | none => rw [hn] at hg; cases hg
    | some s => rw [hn] at hg; simp at hg; subst hg; simp [demB, Ex.k]
end Go.Proofs.Ytnaakhnmbckpmaa.Pats
