/- What a pattern's match is: the plain law; the data of what is bound. -/
import Derived.Test.YtnaakhnmbckpmaaHead
namespace Go.Proofs.Ytnaakhnmbckpmaa.Pats
open Go.ChangeShapes Go.WideShapes Go.ChangeAt Go.RowKit Go.Proofs.Ytnaakhnmbckpmaa.Lift Go.Proofs.Ytnaakhnmbckpmaa.Data Go.Proofs.Ytnaakhnmbckpmaa.Refs
set_option linter.unusedVariables false
set_option linter.unusedSimpArgs false
abbrev Bd := ByteArray × Tm
mutual
def matchS : Ex → Tm → Option (List Bd)
  | .mk k s n ys l c, t =>
    if k = 1 then some [(s, t)] else if k = 9 then some [] else if k = 3 then (if t.k = 2 ∧ t.n = n then some [] else none) else
    if k = 4 then (match ys with
      | [] => none
      | h :: args => if h.k = 2 ∧ t.k = 1 ∧ t.s.toList = h.s.toList then allS args t.ys else none)
    else if k = 2 ∧ t.k = 1 ∧ t.s.toList = s.toList then (if t.ys.length = 0 then some [] else none) else none
def allS : List Ex → List Tm → Option (List Bd)
  | [], [] => some []
  | p :: ps, t :: ts => match matchS p t with
    | none => none
    | some b => match allS ps ts with
      | none => none
      | some r => some (b ++ r)
  | _, _ => none
end
theorem allS_len : ∀ {ps : List Ex} {ts : List Tm}, ¬ ps.length = ts.length → allS ps ts = none
  | [], [], h => by simp at h
  | [], _ :: _, _ => by rw [allS]; all_goals simp
  | _ :: _, [], _ => by rw [allS]; all_goals simp
  | p :: ps, t :: ts, h => by
    rw [allS, allS_len (by simpa using h)]
    cases matchS p t <;> rfl
theorem allS_take : ∀ {ps : List Ex} {ts : List Tm} {j : Nat} (h : j < ps.length) (h2 : j < ts.length) {a b : List Bd}, allS (ps.take j) (ts.take j) = some a → matchS ps[j] ts[j] = some b →
    allS (ps.take (j + 1)) (ts.take (j + 1)) = some (a ++ b)
  | [], _, _, h, _, _, _, _, _ => by simp at h
  | _ :: _, [], _, _, h, _, _, _, _ => by simp at h
  | p :: ps, t :: ts, 0, _, _, a, b, ha, hb => by
    simp [allS] at ha
    simp at hb
    subst ha
    simp [allS, hb]
  | p :: ps, t :: ts, j + 1, h, h2, a, b, ha, hb => by
    simp only [List.take_succ_cons, allS] at ha ⊢
    cases hm : matchS p t with
    | none => rw [hm] at ha; simp at ha
    | some x =>
      rw [hm] at ha
      simp only at ha
      cases hr : allS (ps.take j) (ts.take j) with
      | none => rw [hr] at ha; simp at ha
      | some r =>
        rw [hr] at ha
        simp only [Option.some.injEq] at ha
        have := allS_take (by simpa using h) (by simpa using h2) hr (by simpa using hb)
        rw [this]
        simp [← ha]
theorem allS_none : ∀ {ps : List Ex} {ts : List Tm} {j : Nat} (h : j < ps.length) (h2 : j < ts.length), matchS ps[j] ts[j] = none → allS ps ts = none
  | [], _, _, h, _, _ => by simp at h
  | _ :: _, [], _, _, h, _ => by simp at h
  | p :: ps, t :: ts, 0, _, _, hb => by
    simp at hb
    simp [allS, hb]
  | p :: ps, t :: ts, j + 1, h, h2, hb => by
    rw [allS, allS_none (by simpa using h) (by simpa using h2) (by simpa using hb)]
    cases matchS p t <;> rfl
/-- the cells of what is bound. -/
def BdCells (w : World) : List Bd → List Value → Prop
  | [], xs => xs = []
  | e :: r, xs => ∃ c rest, xs = .string e.1 :: (c ++ rest) ∧ e.2.Cs w c ∧ BdCells w r rest
theorem BdCells.len {w : World} : ∀ {es : List Bd} {xs : List Value}, BdCells w es xs → xs.length = es.length * 5
  | [], xs, h => by rw [BdCells] at h; subst h; simp
  | e :: r, xs, h => by
    rw [BdCells] at h
    obtain ⟨c, rest, rfl, h1, h2⟩ := h
    rw [List.length_cons, List.length_append, h1.len, h2.len, List.length_cons]; omega
theorem BdCells.one {w : World} : ∀ {es : List Bd} {xs : List Value}, BdCells w es xs → ∀ u ∈ xs, u.oneCell' = true
  | [], xs, h => by rw [BdCells] at h; subst h; simp
  | e :: r, xs, h => by
    rw [BdCells] at h
    obtain ⟨c, rest, rfl, h1, h2⟩ := h
    intro u hu
    rcases List.mem_cons.1 hu with rfl | hu
    · rfl
    rcases List.mem_append.1 hu with hu | hu
    · exact h1.one u hu
    · exact h2.one u hu
theorem BdCells.append {w : World} : ∀ {es fs : List Bd} {xs zs : List Value}, BdCells w es xs → BdCells w fs zs → BdCells w (es ++ fs) (xs ++ zs)
  | [], fs, xs, zs, h, g => by rw [BdCells] at h; subst h; exact g
  | e :: r, fs, xs, zs, h, g => by
    rw [BdCells] at h
    obtain ⟨c, rest, rfl, h1, h2⟩ := h
    rw [List.cons_append, BdCells]
    exact ⟨c, rest ++ zs, by simp, h1, h2.append g⟩
mutual
theorem matchS_size : ∀ (p : Ex) (t : Tm) (l : List Bd), matchS p t = some l → l.length ≤ p.size
  | .mk k s n ys l c, t, r, h => by
    rw [matchS.eq_def] at h
    dsimp only at h
    rw [Ex.size]
    split at h
    · cases h; simp
    split at h
    · cases h; simp
    split at h
    · split at h
      · cases h; simp
      · cases h
    split at h
    · cases ys with
      | nil => simp at h
      | cons y args =>
        simp only at h
        split at h
        · have := allS_size args t.ys r h
          rw [ExSize]; omega
        · cases h
    split at h
    · split at h
      · cases h; simp
      · cases h
    · cases h
theorem allS_size : ∀ (ps : List Ex) (ts : List Tm) (l : List Bd), allS ps ts = some l → l.length ≤ ExSize ps
  | [], [], l, h => by rw [allS] at h; cases h; simp
  | [], _ :: _, l, h => by rw [allS] at h; cases h; all_goals simp
  | _ :: _, [], l, h => by rw [allS] at h; cases h; all_goals simp
  | p :: ps, t :: ts, l, h => by
    rw [allS] at h
    cases hm : matchS p t with
    | none => rw [hm] at h; simp at h
    | some b =>
      rw [hm] at h
      simp only at h
      cases hr : allS ps ts with
      | none => rw [hr] at h; simp at h
      | some r =>
        rw [hr] at h
        simp only [Option.some.injEq] at h
        subst h
        have h1 := matchS_size p t b hm
        have h2 := allS_size ps ts r hr
        rw [List.length_append, ExSize]; omega
end
/-- what a match answers. -/
def MatchRes (E S : Nat) (w0 : World) (m : Option (List Bd)) (w : World) (e : Ending) (w' : World) : Prop :=
  ∃ A n cap b xs, e = .returned (.tuple #[.slice A n cap, .bool b]) ∧ w'.ownsRow w.heap.size E 5 (.slice A n cap) n xs ∧ Below w.heap.size w w' ∧
    (match m with
    | none => b = false ∧ n = 0 ∧ A = none
    | some l => b = true ∧ n = l.length ∧ BdCells w0 l xs)
end Go.Proofs.Ytnaakhnmbckpmaa.Pats
