/- A world of which only some blocks are left; the terms of patterns, plain. -/
import Derived.Test.YtnaakhnmbckpmaaHead
import Derived.Test.YtnaakhnmbckpmaaWhere
namespace Go.Proofs.Ytnaakhnmbckpmaa.Data
open Go.ChangeShapes Go.WideShapes Go.ChangeAt Go.RowKit Go.Proofs.Ytnaakhnmbckpmaa.Lift
set_option linter.unusedVariables false
set_option linter.unusedSimpArgs false
/-- what can be read in one is read in the other. -/
def Sub (w w' : World) : Prop := ∀ b o v, w.cell? ⟨b, o, none⟩ = some v → w'.cell? ⟨b, o, none⟩ = some v
theorem Sub.trans {a b c : World} (h : Sub a b) (g : Sub b c) : Sub a c := fun x y z hz => g x y z (h x y z hz)
mutual
theorem Tm.At.sub {w w' : World} (hb : Sub w w') : ∀ (e : Tm) (b o : Nat), e.At w b o → e.At w' b o
  | .mk k s n ys, b, o, h => by
    rw [Tm.At] at h ⊢
    obtain ⟨A, cap, c0, c1, c2, c3, hh, hr⟩ := h
    refine ⟨A, cap, hb _ _ _ c0, hb _ _ _ c1, hb _ _ _ c2, hb _ _ _ c3, hh, ?_⟩
    rcases hr with h0 | ⟨b', o', h1, h2⟩
    · exact .inl h0
    · exact .inr ⟨b', o', h1, TmRow.sub hb ys b' o' h2⟩
theorem TmRow.sub {w w' : World} (hb : Sub w w') : ∀ (es : List Tm) (b o : Nat), TmRow w es b o → TmRow w' es b o
  | [], _, _, _ => by rw [TmRow]; trivial
  | e :: r, b, o, h => by
    rw [TmRow] at h ⊢
    exact ⟨Tm.At.sub hb e b o h.1, TmRow.sub hb r b _ h.2⟩
end
theorem Tms.sub {w w' : World} {A : Option Addr} {es : List Tm} (h : Tms w A es) (hb : Sub w w') : Tms w' A es := by
  rcases h with h | ⟨b, o, h1, h2⟩
  · exact .inl h
  · exact .inr ⟨b, o, h1, TmRow.sub hb _ _ _ h2⟩
theorem Tm.Cs.sub {w w' : World} {e : Tm} {c : List Value} (h : e.Cs w c) (hb : Sub w w') : e.Cs w' c := by
  cases e
  obtain ⟨A, cap, h1, h2, h3⟩ := h
  exact ⟨A, cap, h1, h2, h3.sub hb⟩
theorem Tm.Val.sub {w w' : World} {e : Tm} {c : Value} (h : e.Val w c) (hb : Sub w w') : e.Val w' c := by
  cases e
  obtain ⟨A, cap, h1, h2, h3⟩ := h
  exact ⟨A, cap, h1, h2, h3.sub hb⟩
theorem TmCells.sub {w w' : World} (hb : Sub w w') : ∀ {es : List Tm} {xs : List Value}, TmCells w es xs → TmCells w' es xs
  | [], xs, h => by rw [TmCells] at h ⊢; exact h
  | e :: r, xs, h => by
    rw [TmCells] at h ⊢
    obtain ⟨c, rest, h0, h1, h2⟩ := h
    exact ⟨c, rest, h0, h1.sub hb, h2.sub hb⟩
end Go.Proofs.Ytnaakhnmbckpmaa.Data
namespace Go.Proofs.Ytnaakhnmbckpmaa.Pats
open Go.ChangeShapes Go.WideShapes Go.ChangeAt Go.RowKit Go.Proofs.Ytnaakhnmbckpmaa.Lift Go.Proofs.Ytnaakhnmbckpmaa.Data Go.Proofs.Ytnaakhnmbckpmaa.Refs
set_option linter.unusedVariables false
set_option linter.unusedSimpArgs false
/-- a world of which only some blocks are left. -/
def part (w : World) (S : Nat → Bool) : World := { w with heap := w.heap.mapIdx fun i o => if S i then o else .cells #[] 0 (0, 0) }
theorem part_cell (w : World) (S : Nat → Bool) (b o : Nat) : (part w S).cell? ⟨b, o, none⟩ = if S b then w.cell? ⟨b, o, none⟩ else none := by
  unfold part World.cell?
  simp only [Array.getElem?_mapIdx]
  cases h : w.heap[b]? with
  | none => simp
  | some x =>
    by_cases hs : S b = true
    · simp [hs]
    · simp [hs]
theorem sub_part_of (w : World) (S : Nat → Bool) : Sub (part w S) w := by
  intro b o v h
  rw [part_cell] at h
  split at h
  · exact h
  · cases h
theorem sub_part {w w' : World} {S S' : Nat → Bool} (h : ∀ b, b < w.heap.size → S b = true → S' b = true ∧ w'.heap[b]? = w.heap[b]?) : Sub (part w S) (part w' S') := by
  intro b o v hv
  rw [part_cell] at hv ⊢
  split at hv
  · rename_i hs
    obtain ⟨h1, h2⟩ := h b (World.block_lt_of_cell? w _ hv) hs
    rw [if_pos h1]
    unfold World.cell? at hv ⊢
    simp only at hv ⊢
    rw [h2]
    exact hv
  · cases hv
/-- blocks from B on, but for one. -/
def frm (B : Nat) (r : Option Nat) (b : Nat) : Bool := decide (B ≤ b) && !decide (r = some b)
theorem frm_iff {B : Nat} {r : Option Nat} {b : Nat} : frm B r b = true ↔ B ≤ b ∧ r ≠ some b := by simp [frm]
/-- an owned row is read in a part that has its block. -/
theorem src_part {w : World} {base e size n : Nat} {A : Option Addr} {c : Nat} {xs : List Value} {S : Nat → Bool} (h : w.ownsRow base e size (.slice A n c) n xs) (hS : ∀ k, base ≤ k → S k = true) : Src (part w S) size A n xs := by
  have h1 := Src.of_own h
  refine ⟨h1.1, ?_⟩
  rcases h1.2 with h0 | ⟨b, o, rfl, hc⟩
  · exact .inl h0
  · have hk := own_block_lt h (k := b) rfl
    refine .inr ⟨b, o, rfl, fun j u hu => ?_⟩
    rw [part_cell, if_pos (hS _ hk.1)]
    exact hc j u hu
/-- behind an append onto one row. -/
theorem sub_step {w0 w1 w2 : World} {B : Nat} {vo v2 : Value} {S : Nat → Bool} (hb : Below w0.heap.size w0 w1) (hg : w1.grownBy w2 vo.ownBlock) (hf : Fresh w1 vo v2)
    (hS : ∀ b, b < w0.heap.size → S b = true → B ≤ b ∧ vo.ownBlock ≠ some b) : Sub (part w0 S) (part w2 (frm B v2.ownBlock)) := by
  refine sub_part fun b hbl hs => ?_
  obtain ⟨h1, h2⟩ := hS b hbl hs
  refine ⟨frm_iff.2 ⟨h1, ?_⟩, ?_⟩
  · rcases hf with hf | ⟨g, h3, h4⟩
    · rw [hf]; exact h2
    · rw [h3]
      intro e
      injection e with e
      have := hb.size
      omega
  · rw [hg.block b (Nat.lt_of_lt_of_le hbl hb.size) (fun e => h2 e.symm), hb.block b hbl]
/-- a row that a call made: its terms in the part behind the call. -/
theorem tms_part {w : World} {B n : Nat} {A : Option Addr} {c : Nat} {xs : List Value} {ts : List Tm} (hn : n = ts.length) (h : w.ownsRow B 29 4 (.slice A n c) n xs) (hc : TmCells (part w (frm B (Value.ownBlock (.slice A n c)))) ts xs) :
    Tms (part w (frm B none)) A ts := by
  subst hn
  exact
  Tms.of_src (src_part h fun k hk => frm_iff.2 ⟨hk, by simp⟩) (hc.sub (sub_part fun b _ hs => ⟨frm_iff.2 ⟨(frm_iff.1 hs).1, by simp⟩, rfl⟩))
mutual
/-- the term of a pattern; the number of the next variable. -/
def termS : Ex → Nat → Tm × Nat
  | .mk k s n ys l c, x =>
    if k = 3 then (.mk 2 ⟨#[]⟩ n [], x) else
    if k = 2 then (.mk 1 s 0 [], x) else
    if k = 4 then (match ys with
      | [] => (.mk 1 s 0 [], x)
      | y :: r => (.mk 1 y.s 0 (termsS r x).1, (termsS r x).2)) else (.mk 3 ⟨#[]⟩ x [], x + 1)
def termsS : List Ex → Nat → List Tm × Nat
  | [], x => ([], x)
  | e :: r, x => ((termS e x).1 :: (termsS r (termS e x).2).1, (termsS r (termS e x).2).2)
end
theorem termS_def (e : Ex) (x : Nat) : termS e x = if e.k = 3 then (.mk 2 ⟨#[]⟩ e.n [], x) else if demB e then (.mk 1 (headS e).1.s 0 (termsS (headS e).2 x).1, (termsS (headS e).2 x).2) else (.mk 3 ⟨#[]⟩ x [], x + 1) := by
  cases e with
  | mk k s n ys l c =>
  rw [termS.eq_def]
  simp only [Ex.k, Ex.n, demB]
  by_cases h3 : k = 3
  · simp [h3]
  by_cases h2 : k = 2
  · subst h2; simp [headS, termsS, Ex.s]
  by_cases h4 : k = 4
  · subst h4
    cases ys with
    | nil => simp [headS, termsS, Ex.s]
    | cons y r => simp [headS]
  simp [h3, h2, h4]
theorem termsS_append : ∀ (a b : List Ex) (x : Nat), termsS (a ++ b) x = ((termsS a x).1 ++ (termsS b (termsS a x).2).1, (termsS b (termsS a x).2).2)
  | [], b, x => by simp [termsS]
  | e :: r, b, x => by simp only [List.cons_append, termsS]; rw [termsS_append r b]
theorem termsS_take {ps : List Ex} {j : Nat} (h : j < ps.length) (x : Nat) : termsS (ps.take (j + 1)) x = ((termsS (ps.take j) x).1 ++ [(termS ps[j] (termsS (ps.take j) x).2).1], (termS ps[j] (termsS (ps.take j) x).2).2) := by
  rw [List.take_succ_eq_append_getElem h, termsS_append]
  simp [termsS]
theorem termsS_len : ∀ (ps : List Ex) (x : Nat), (termsS ps x).1.length = ps.length
  | [], x => rfl
  | e :: r, x => by simp [termsS, termsS_len r]
mutual
theorem termS_le : ∀ (e : Ex) (x : Nat), (termS e x).2 ≤ x + e.size
  | .mk k s n ys l c, x => by
    rw [termS.eq_def, Ex.size_mk]
    dsimp only
    split
    · dsimp only; omega
    split
    · dsimp only; omega
    split
    · cases ys with
      | nil => dsimp only; omega
      | cons y r =>
        have := termsS_le r x
        simp only [ExSize]
        omega
    · dsimp only; omega
theorem termsS_le : ∀ (ps : List Ex) (x : Nat), (termsS ps x).2 ≤ x + ExSize ps
  | [], x => by simp [termsS]
  | e :: r, x => by
    have h1 := termS_le e x
    have h2 := termsS_le r (termS e x).2
    simp only [termsS, ExSize]
    omega
end
end Go.Proofs.Ytnaakhnmbckpmaa.Pats
