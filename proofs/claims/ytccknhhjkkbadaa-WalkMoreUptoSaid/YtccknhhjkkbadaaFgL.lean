/- The plain laws of fingers: over rows of rising ids the program's words and the reference's are the same. -/
import Derived.Test.YtccknhhjkkbadaaWith
import Derived.Test.YtccknhhjkkbadaaRefQ
namespace Go.Proofs.Ytccknhhjkkbadaa.Fg
open Go.ChangeShapes Go.WideShapes Go.ChangeAt Go.RowKit Go.Proofs.Ytccknhhjkkbadaa.Lift
set_option linter.unusedVariables false
set_option linter.unusedSimpArgs false
/-- one more pick, at its place. -/
def ins (id a : Int) : List Pk → List Pk
  | [] => [(id, a)]
  | p :: r => if id ≤ p.1 then (if p.1 = id then p :: r else (id, a) :: p :: r) else p :: ins id a r
/-- ids rise. -/
def Inc : List Pk → Prop
  | [] => True
  | p :: r => (∀ x ∈ r, p.1 < x.1) ∧ Inc r
theorem withF_cons (p : Pk) (r : List Pk) (id a : Int) (h : ¬ id ≤ p.1) : withF (p :: r) id a = p :: withF r id a := by
  unfold withF placeF
  rw [List.findIdx?_cons]
  have hd : decide (id ≤ p.1) = false := by simpa using h
  simp only [hd, Bool.false_eq_true, if_false]
  cases hf : r.findIdx? (fun x => decide (id ≤ x.1)) with
  | none => simp [insAt]
  | some i =>
    obtain ⟨hil, _, _⟩ := List.findIdx?_eq_some_iff_getElem.1 hf
    simp only [Option.map_some, List.getElem?_cons_succ, List.getElem?_eq_getElem hil]
    by_cases e : r[i].1 = id
    · simp [e]
    · simp [e, insAt]
theorem withF_ins : ∀ (l : List Pk) (id a : Int), withF l id a = ins id a l
  | [], id, a => by simp [withF, placeF, insAt, ins]
  | p :: r, id, a => by
    rw [ins]
    by_cases h : id ≤ p.1
    · rw [if_pos h]
      unfold withF placeF
      rw [List.findIdx?_cons]
      have hd : decide (id ≤ p.1) = true := by simpa using h
      by_cases e : p.1 = id
      · simp [hd, e]
      · simp [hd, e, insAt]
    · rw [if_neg h, withF_cons p r id a h, withF_ins r id a]
theorem getF_cons (p : Pk) (r : List Pk) (id : Int) : getF (p :: r) id = if id ≤ p.1 then (if p.1 = id then (p.2, true) else (0, false)) else getF r id := by
  unfold getF
  rw [List.findIdx?_cons]
  by_cases h : id ≤ p.1
  · have hd : decide (id ≤ p.1) = true := by simpa using h
    simp [hd, h]
  · have hd : decide (id ≤ p.1) = false := by simpa using h
    simp only [hd, Bool.false_eq_true, if_false, if_neg h]
    cases hf : r.findIdx? (fun x => decide (id ≤ x.1)) with
    | none => simp
    | some i => simp
theorem getR_cons (p : Pk) (r : List Pk) (id : Int) : getR (p :: r) id = if p.1 = id then (p.2, true) else getR r id := by
  unfold getR
  rw [List.find?_cons]
  by_cases h : p.1 = id <;> simp [h]
theorem getR_far : ∀ (l : List Pk) (id : Int), (∀ x ∈ l, id < x.1) → getR l id = (0, false)
  | [], id, _ => rfl
  | p :: r, id, h => by
    have h1 := h p (by simp)
    rw [getR_cons, if_neg (by omega)]
    exact getR_far r id (fun x hx => h x (by simp [hx]))
theorem getF_getR : ∀ (l : List Pk) (id : Int), Inc l → getF l id = getR l id
  | [], id, _ => rfl
  | p :: r, id, ⟨h1, h2⟩ => by
    rw [getF_cons, getR_cons]
    by_cases h : id ≤ p.1
    · rw [if_pos h]
      by_cases e : p.1 = id
      · rw [if_pos e, if_pos e]
      · rw [if_neg e, if_neg e, getR_far r id (fun x hx => by have := h1 x hx; omega)]
    · rw [if_neg h, if_neg (by omega)]
      exact getF_getR r id h2
theorem ins_mem : ∀ (l : List Pk) (id a : Int) (x : Pk), x ∈ ins id a l → x = (id, a) ∨ x ∈ l
  | [], id, a, x, h => by simp [ins] at h; exact .inl h
  | p :: r, id, a, x, h => by
    rw [ins] at h
    split at h
    · split at h
      · exact .inr h
      · simp only [List.mem_cons] at h ⊢
        rcases h with h | h | h
        · exact .inl h
        · exact .inr (.inl h)
        · exact .inr (.inr h)
    · simp only [List.mem_cons] at h ⊢
      rcases h with h | h
      · exact .inr (.inl h)
      · rcases ins_mem r id a x h with h | h
        · exact .inl h
        · exact .inr (.inr h)
theorem ins_inc : ∀ (l : List Pk) (id a : Int), Inc l → Inc (ins id a l)
  | [], id, a, _ => ⟨fun x hx => by simp at hx, trivial⟩
  | p :: r, id, a, ⟨h1, h2⟩ => by
    rw [ins]
    split
    · split
      · exact ⟨h1, h2⟩
      · rename_i h e
        refine ⟨fun x hx => ?_, h1, h2⟩
        simp only [List.mem_cons] at hx
        rcases hx with rfl | hx
        · show id < x.1; omega
        · have := h1 x hx
          show id < x.1; omega
    · rename_i h
      refine ⟨fun x hx => ?_, ins_inc r id a h2⟩
      rcases ins_mem r id a x hx with rfl | hx
      · show p.1 < id; omega
      · exact h1 x hx
/-- the fold's list, whatever stands before. -/
theorem fold_acc (id a : Int) : ∀ (l : List Pk) (acc : List Pk), l.foldl (stepR id a) (acc, true) = (acc ++ l, true)
  | [], acc => by simp
  | p :: r, acc => by
    rw [List.foldl_cons, stepR, if_neg (by simp), fold_acc id a r]
    simp
theorem step_yes {id a : Int} {acc : List Pk} {p : Pk} (h : id < p.1) : stepR id a (acc, false) p = (acc ++ [(id, a)] ++ [p], true) := by rw [stepR, if_pos ⟨rfl, h⟩]
theorem step_no {id a : Int} {acc : List Pk} {p : Pk} (h : ¬ id < p.1) : stepR id a (acc, false) p = (acc ++ [p], false) := by rw [stepR, if_neg (fun hh => h hh.2)]
theorem fold_ins (id a : Int) : ∀ (l : List Pk) (acc : List Pk), Inc l → (getR l id).2 = false →
    (if (l.foldl (stepR id a) (acc, false)).2 then (l.foldl (stepR id a) (acc, false)).1 else (l.foldl (stepR id a) (acc, false)).1 ++ [(id, a)]) = acc ++ ins id a l
  | [], acc, _, _ => by simp [ins]
  | p :: r, acc, ⟨h1, h2⟩, hg => by
    rw [getR_cons] at hg
    by_cases e : p.1 = id
    · rw [if_pos e] at hg; cases hg
    · rw [if_neg e] at hg
      rw [ins, List.foldl_cons]
      by_cases h : id ≤ p.1
      · rw [if_pos h, if_neg e, step_yes (by omega), fold_acc]
        simp
      · rw [if_neg h, step_no (by omega)]
        have := fold_ins id a r (acc ++ [p]) h2 hg
        rw [this]
        simp
theorem ins_same : ∀ (l : List Pk) (id a : Int), Inc l → (getR l id).2 = true → ins id a l = l
  | [], id, a, _, h => by cases h
  | p :: r, id, a, ⟨h1, h2⟩, h => by
    rw [getR_cons] at h
    rw [ins]
    by_cases e : p.1 = id
    · rw [if_pos (by omega), if_pos e]
    · rw [if_neg e] at h
      by_cases hle : id ≤ p.1
      · rw [getR_far r id (fun x hx => by have := h1 x hx; omega)] at h
        cases h
      · rw [if_neg hle, ins_same r id a h2 h]
theorem withR_ins (l : List Pk) (id a : Int) (h : Inc l) : withR l id a = ins id a l := by
  unfold withR foldR
  cases hg : (getR l id).2 with
  | true => rw [if_pos rfl, ins_same l id a h hg]
  | false =>
    rw [if_neg (by simp)]
    have := fold_ins id a l [] h hg
    simpa using this
theorem fold_same : ∀ (l acc : List Pk), Inc acc → l.foldl (fun f p => withF f p.1 p.2) acc = l.foldl (fun f p => withR f p.1 p.2) acc ∧ Inc (l.foldl (fun f p => withR f p.1 p.2) acc)
  | [], acc, h => ⟨rfl, h⟩
  | p :: r, acc, h => by
    rw [List.foldl_cons, List.foldl_cons, withF_ins, withR_ins acc _ _ h]
    exact fold_same r _ (ins_inc acc _ _ h)
theorem ofF_picks (l : List Pk) : ofF l = picksR l := (fold_same l [] trivial).1
theorem picks_inc (l : List Pk) : Inc (picksR l) := (fold_same l [] trivial).2
theorem getR_mem : ∀ (l : List Pk) (id a : Int), Inc l → (getR l id = (a, true) ↔ (id, a) ∈ l)
  | [], id, a, _ => by simp [getR]
  | p :: r, id, a, ⟨h1, h2⟩ => by
    rw [getR_cons, List.mem_cons]
    by_cases e : p.1 = id
    · rw [if_pos e]
      constructor
      · intro h
        injection h with h3
        exact .inl (Prod.ext e.symm h3.symm)
      · rintro (h | h)
        · rw [← h]
        · have := h1 _ h
          simp only at this
          omega
    · rw [if_neg e, getR_mem r id a h2]
      exact ⟨.inr, fun h => h.resolve_left (fun h => e (by rw [← h]))⟩
theorem getR_bool (l : List Pk) (id : Int) : (getR l id).2 = true → getR l id = ((getR l id).1, true) := fun h => Prod.ext rfl h
theorem clash_iff {x y : List Pk} (hy : Inc y) : x.any (clashP y) = true ↔ ∃ p ∈ x, ∃ q ∈ y, p.1 = q.1 ∧ ¬ p.2 = q.2 := by
  rw [List.any_eq_true]
  constructor
  · rintro ⟨p, hp, h⟩
    unfold clashP at h
    rw [getF_getR _ _ hy] at h
    simp only [Bool.and_eq_true, Bool.not_eq_true', decide_eq_false_iff_not] at h
    exact ⟨p, hp, _, (getR_mem y p.1 _ hy).1 (getR_bool y p.1 h.1), rfl, fun e => h.2 e.symm⟩
  · rintro ⟨p, hp, q, hq, e, hne⟩
    refine ⟨p, hp, ?_⟩
    unfold clashP
    rw [getF_getR _ _ hy, e, (getR_mem y q.1 q.2 hy).2 hq]
    simp only [Bool.true_and, Bool.not_eq_true', decide_eq_false_iff_not]
    exact fun h => hne h.symm
theorem clash_symm {x y : List Pk} (hx : Inc x) (hy : Inc y) : x.any (clashP y) = y.any (clashP x) := by
  rw [Bool.eq_iff_iff, clash_iff hy, clash_iff hx]
  constructor
  · rintro ⟨p, hp, q, hq, e, h⟩; exact ⟨q, hq, p, hp, e.symm, fun e => h e.symm⟩
  · rintro ⟨p, hp, q, hq, e, h⟩; exact ⟨q, hq, p, hp, e.symm, fun e => h e.symm⟩
theorem within_iff {x y : List Pk} (hy : Inc y) : (!x.any (missP y)) = true ↔ ∀ p ∈ x, p ∈ y := by
  rw [Bool.not_eq_true', Bool.eq_false_iff, Ne, List.any_eq_true]
  constructor
  · intro h p hp
    refine Classical.byContradiction fun hn => h ⟨p, hp, ?_⟩
    unfold missP
    rw [getF_getR _ _ hy]
    cases hq : (getR y p.1).2 with
    | false => rfl
    | true =>
      simp only [Bool.not_true, Bool.false_or, Bool.not_eq_true', decide_eq_false_iff_not]
      intro e
      exact hn ((getR_mem y p.1 p.2 hy).1 (by rw [getR_bool y p.1 hq, e]))
  · rintro h ⟨p, hp, hm⟩
    unfold missP at hm
    rw [getF_getR _ _ hy, (getR_mem y p.1 p.2 hy).2 (h p hp)] at hm
    simp at hm
theorem inc_nodup : ∀ {l : List Pk}, Inc l → l.Nodup
  | [], _ => List.nodup_nil
  | p :: r, ⟨h1, h2⟩ => List.nodup_cons.2 ⟨fun h => by have := h1 p h; omega, inc_nodup h2⟩
theorem inc_len : ∀ (x y : List Pk), Inc x → Inc y → (∀ p ∈ x, p ∈ y) → x.length ≤ y.length
  | [], y, _, _, _ => Nat.zero_le _
  | p :: r, [], _, _, h => by simpa using h p (by simp)
  | p :: r, q :: s, ⟨h1, h2⟩, ⟨g1, g2⟩, h => by
    have hr : ∀ z ∈ r, z ∈ s := by
      intro z hz
      rcases List.mem_cons.1 (h z (by simp [hz])) with e | e
      · rcases List.mem_cons.1 (h p (by simp)) with e2 | e2
        · have := h1 z hz
          rw [e, e2] at this
          omega
        · have a1 := h1 z hz
          have a2 := g1 p e2
          rw [e] at a1
          omega
      · exact e
    have := inc_len r s h2 g2 hr
    simp only [List.length_cons]
    omega
theorem within_clash {x y : List Pk} (hx : Inc x) (hy : Inc y) (h : ∀ p ∈ x, p ∈ y) : x.any (clashP y) = false := by
  rw [Bool.eq_false_iff, Ne, clash_iff hy]
  rintro ⟨p, hp, q, hq, e, hne⟩
  have h1 := (getR_mem y p.1 p.2 hy).2 (h p hp)
  have h2 := (getR_mem y q.1 q.2 hy).2 hq
  rw [e, h2] at h1
  injection h1 with h3
  exact hne h3.symm
end Go.Proofs.Ytccknhhjkkbadaa.Fg
