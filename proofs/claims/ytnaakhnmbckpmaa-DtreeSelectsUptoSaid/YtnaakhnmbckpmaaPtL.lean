/- A pattern and its own term: the plain law. -/
import Derived.Test.YtnaakhnmbckpmaaVars
import Derived.Test.YtnaakhnmbckpmaaPtn
namespace Go.Proofs.Ytnaakhnmbckpmaa.Pats
open Go.ChangeShapes Go.WideShapes Go.ChangeAt Go.RowKit Go.Proofs.Ytnaakhnmbckpmaa.Lift Go.Proofs.Ytnaakhnmbckpmaa.Data Go.Proofs.Ytnaakhnmbckpmaa.Refs
set_option linter.unusedVariables false
set_option linter.unusedSimpArgs false
/-- what is bound, and the paths, one by one. -/
def goodL (RE : List Int → Option Ex) (RT : List Int → Option Tm) : List Bd → List (List Int) → Prop
  | [], [] => True
  | b :: bs, p :: ps => (∃ e, RE p = some e ∧ e.k = 1 ∧ e.s = b.1 ∧ RT p = some b.2 ∧ b.2.k = 3) ∧ goodL RE RT bs ps
  | _, _ => False
theorem goodL_append {RE : List Int → Option Ex} {RT : List Int → Option Tm} : ∀ {a : List Bd} {p : List (List Int)} {b : List Bd} {q : List (List Int)}, goodL RE RT a p → goodL RE RT b q → goodL RE RT (a ++ b) (p ++ q)
  | [], [], b, q, _, h => h
  | x :: a, y :: p, b, q, h, g => by
    simp only [List.cons_append, goodL] at h ⊢
    exact ⟨h.1, goodL_append h.2 g⟩
  | [], _ :: _, _, _, h, _ => by simp [goodL] at h
  | _ :: _, [], _, _, h, _ => by simp [goodL] at h
theorem goodL_len {RE : List Int → Option Ex} {RT : List Int → Option Tm} : ∀ {a : List Bd} {p : List (List Int)}, goodL RE RT a p → a.length = p.length
  | [], [], _ => rfl
  | x :: a, y :: p, h => by
    simp only [goodL] at h
    simp [goodL_len h.2]
  | [], _ :: _, h => by simp [goodL] at h
  | _ :: _, [], h => by simp [goodL] at h
theorem goodL_get {RE : List Int → Option Ex} {RT : List Int → Option Tm} : ∀ {a : List Bd} {p : List (List Int)}, goodL RE RT a p → ∀ (i : Nat) (h : i < a.length) (g : i < p.length), ∃ e, RE p[i] = some e ∧ e.k = 1 ∧ e.s = (a[i]).1 ∧ RT p[i] = some (a[i]).2 ∧ (a[i]).2.k = 3
  | [], _, _, i, h, _ => by simp at h
  | _ :: _, [], _, i, _, h => by simp at h
  | x :: a, y :: p, h, 0, _, _ => by
    simp only [goodL] at h
    exact h.1
  | x :: a, y :: p, h, i + 1, h1, h2 => by
    simp only [goodL] at h
    simpa using goodL_get h.2 i (by simpa using h1) (by simpa using h2)
theorem atS_cons {l : List Ex} {k : Nat} {e : Ex} {q : List Int} (h : l[k]? = some e) (hq : q ≠ []) : atS l ((k : Int) :: q) = atS (headS e).2 q := by
  cases q with
  | nil => exact absurd rfl hq
  | cons a r => simp [atS, h]; omega
theorem atS_one {l : List Ex} {k : Nat} {e : Ex} (h : l[k]? = some e) : atS l [(k : Int)] = some e := by simp [atS, h]
theorem reachS_cons {l : List Tm} {k : Nat} {e : Tm} {q : List Int} (h : l[k]? = some e) (hq : q ≠ []) : reachS l ((k : Int) :: q) = reachS e.ys q := by
  cases q with
  | nil => exact absurd rfl hq
  | cons a r => simp [reachS, h]; omega
theorem reachS_one {l : List Tm} {k : Nat} {e : Tm} (h : l[k]? = some e) : reachS l [(k : Int)] = some e := by simp [reachS, h]
theorem term_good (N : Nat) :
    (∀ (e : Ex) (x : Nat) (here : List Int) (RE : List Int → Option Ex) (RT : List Int → Option Tm), e.size ≤ N → patS e = true → RE here = some e → RT here = some (termS e x).1 →
      (∀ q, q ≠ [] → RE (here ++ q) = atS (headS e).2 q) → (∀ q, q ≠ [] → RT (here ++ q) = reachS (termS e x).1.ys q) → ∃ bs, matchS e (termS e x).1 = some bs ∧ goodL RE RT bs (placeS e here)) ∧
    (∀ (ps pre : List Ex) (tpre : List Tm) (x : Nat) (path : List Int) (RE : List Int → Option Ex) (RT : List Int → Option Tm), ExSize ps ≤ N → patsS ps = true → tpre.length = pre.length →
      (∀ q, q ≠ [] → RE (path ++ q) = atS (pre ++ ps) q) → (∀ q, q ≠ [] → RT (path ++ q) = reachS (tpre ++ (termsS ps x).1) q) → ∃ bs, allS ps (termsS ps x).1 = some bs ∧ goodL RE RT bs (placesS ps path pre.length)) := by
  induction N with
  | zero =>
    refine ⟨fun e x here RE RT h => by cases e; rw [Ex.size_mk] at h; omega, fun ps pre tpre x path RE RT h hp hl h1 h2 => ?_⟩
    cases ps with
    | nil => exact ⟨[], by simp [termsS, allS], by simp [placesS, goodL]⟩
    | cons y r => cases y; rw [ExSize, Ex.size_mk] at h; omega
  | succ N ih =>
    have h1 : (∀ (e : Ex) (x : Nat) (here : List Int) (RE : List Int → Option Ex) (RT : List Int → Option Tm), e.size ≤ N + 1 → patS e = true → RE here = some e → RT here = some (termS e x).1 →
      (∀ q, q ≠ [] → RE (here ++ q) = atS (headS e).2 q) → (∀ q, q ≠ [] → RT (here ++ q) = reachS (termS e x).1.ys q) → ∃ bs, matchS e (termS e x).1 = some bs ∧ goodL RE RT bs (placeS e here)) := by
      intro e x here RE RT hN hp hre hrt hqe hqt
      cases e with
      | mk k s n ys l c =>
      by_cases hf : k = 1 ∨ k = 9 ∨ k = 3 ∨ k = 2
      · have hy : ys = [] := by
          rw [patS_flat hf] at hp
          exact List.eq_nil_of_length_eq_zero (of_decide_eq_true hp)
        subst hy
        rcases hf with rfl | rfl | rfl | rfl
        · refine ⟨[(s, (termS (.mk 1 s n [] l c) x).1)], by rw [matchS.eq_def]; simp, ?_⟩
          simp only [placeS, if_pos, goodL]
          exact ⟨⟨_, hre, rfl, rfl, hrt, by simp [termS, Tm.k]⟩, trivial⟩
        · exact ⟨[], by rw [matchS.eq_def]; simp, by simp [placeS, goodL]⟩
        · exact ⟨[], by rw [matchS.eq_def]; simp [termS, Tm.k, Tm.n], by simp [placeS, goodL]⟩
        · exact ⟨[], by rw [matchS_head (by omega) (by omega) (by omega)]; simp [termS, headS, Tm.k, Tm.s, Tm.ys, Ex.k, Ex.s, allS], by simp [placeS, goodL]⟩
      · by_cases h4 : k = 4
        · subst h4
          cases ys with
          | nil => rw [patS_app0] at hp; cases hp
          | cons y r =>
            rw [patS_app] at hp
            simp only [Bool.and_eq_true, decide_eq_true_eq] at hp
            obtain ⟨hp1, hp2, hp3, hp4⟩ := hp
            have hT : (termS (.mk 4 s n (y :: r) l c) x).1 = .mk 1 y.s 0 (termsS r x).1 := by rw [termS.eq_def]; simp
            rw [hT] at hqt hrt ⊢
            rw [Ex.size_mk, ExSize] at hN
            obtain ⟨bs, g1, g2⟩ := ih.2 r [] [] x here RE RT (by omega) hp4 rfl (fun q hq => by rw [hqe q hq]; simp [headS]) (fun q hq => by rw [hqt q hq]; simp [Tm.ys])
            refine ⟨bs, ?_, ?_⟩
            · rw [matchS_yes (by omega) (by omega) (by omega)]
              · simpa [headS, Tm.ys] using g1
              · simp [headS, Tm.k, Tm.s, hp2]
            · rw [placeS.eq_def]
              simpa using g2
        · rw [patS_other hf h4] at hp
          cases hp
    refine ⟨h1, fun ps => ?_⟩
    induction ps with
    | nil => intro pre tpre x path RE RT _ _ _ _ _; exact ⟨[], by simp [termsS, allS], by simp [placesS, goodL]⟩
    | cons e r ihr =>
      intro pre tpre x path RE RT hN hp hl hqe hqt
      rw [ExSize] at hN
      rw [patsS, Bool.and_eq_true] at hp
      rw [termsS] at hqt ⊢
      have hge : (pre ++ e :: r)[pre.length]? = some e := by simp
      have hgt : (tpre ++ (termS e x).1 :: (termsS r (termS e x).2).1)[pre.length]? = some (termS e x).1 := by rw [← hl]; simp
      obtain ⟨b1, g1, g2⟩ := h1 e x (path ++ [(pre.length : Int)]) RE RT (by omega) hp.1 (by rw [hqe _ (by simp), atS_one hge]) (by rw [hqt _ (by simp), reachS_one hgt])
        (fun q hq => by rw [List.append_assoc, hqe _ (by simp)]; exact atS_cons hge hq) (fun q hq => by rw [List.append_assoc, hqt _ (by simp)]; exact reachS_cons hgt hq)
      obtain ⟨b2, g3, g4⟩ := ihr (pre ++ [e]) (tpre ++ [(termS e x).1]) (termS e x).2 path RE RT (by omega) hp.2 (by simp [hl]) (fun q hq => by rw [hqe q hq]; simp) (fun q hq => by rw [hqt q hq]; simp)
      refine ⟨b1 ++ b2, ?_, ?_⟩
      · rw [allS, g1]
        simp [g3]
      · rw [placesS]
        refine goodL_append g2 ?_
        simpa using g4
theorem pattern_good (p : Ex) (hp : patS p = true) : ∃ bs, matchS p (termS p 0).1 = some bs ∧ goodL (atS [p]) (reachS [(termS p 0).1]) bs (placesS [p] [] 0) := by
  have hT : termsS [p] 0 = ([(termS p 0).1], (termS p 0).2) := by simp [termsS]
  obtain ⟨bs, g1, g2⟩ := (term_good (ExSize [p])).2 [p] [] [] 0 [] (atS [p]) (reachS [(termS p 0).1]) (Nat.le_refl _) (by simp [patsS, hp]) rfl (fun q _ => by simp) (fun q _ => by rw [hT]; simp)
  rw [hT] at g1
  refine ⟨bs, ?_, g2⟩
  rw [allS] at g1
  cases hm : matchS p (termS p 0).1 with
  | none => rw [hm] at g1; simp at g1
  | some l => rw [hm] at g1; simpa [allS] using g1
/-- 0 .. k - 1. -/
def upto (k : Nat) : List Int := (List.range k).map Int.ofNat
theorem upto_succ (k : Nat) : upto (k + 1) = upto k ++ [(k : Int)] := by simp [upto, List.range_succ]
theorem upto_not (k : Nat) : (k : Int) ∉ upto k := by
  intro h
  simp only [upto, List.mem_map, List.mem_range] at h
  obtain ⟨i, h1, h2⟩ := h
  have : i = k := Int.ofNat.inj h2
  omega
mutual
theorem vars_term : ∀ (e : Ex) (x : Nat), ((termS e x).1.flat).foldl varStep (upto x) = upto (termS e x).2
  | .mk k s n ys l c, x => by
    rw [termS.eq_def]
    dsimp only
    split
    · simp [Tm.flat, TmFlats, varStep, Tm.k]
    split
    · simp [Tm.flat, TmFlats, varStep, Tm.k]
    split
    · cases ys with
      | nil => simp [Tm.flat, TmFlats, varStep, Tm.k]
      | cons y r =>
        have := vars_terms r x
        simp only [Tm.flat, List.foldl_cons]
        rw [show varStep (upto x) (.mk 1 y.s 0 (termsS r x).1) = upto x by simp [varStep, Tm.k]]
        exact this
    · simp only [Tm.flat, TmFlats, List.foldl_cons, List.foldl_nil]
      rw [upto_succ]
      simp [varStep, Tm.k, Tm.n, upto_not]
theorem vars_terms : ∀ (ps : List Ex) (x : Nat), (TmFlats (termsS ps x).1).foldl varStep (upto x) = upto (termsS ps x).2
  | [], x => by simp [termsS, TmFlats]
  | e :: r, x => by
    simp only [termsS, TmFlats, List.foldl_append]
    rw [vars_term e x, vars_terms r]
end
theorem varsS_term (p : Ex) : varsS [(termS p 0).1] = upto (termS p 0).2 := by
  have h := vars_term p 0
  rw [show upto 0 = [] from rfl] at h
  simpa [varsS, TmFlats] using h
theorem over_refl (N : Nat) : (∀ a : Ex, a.size ≤ N → oneS a a = true) ∧ (∀ a : List Ex, ExSize a ≤ N → overS a a = true) := by
  induction N with
  | zero =>
    refine ⟨fun a h => by cases a; rw [Ex.size_mk] at h; omega, fun a h => ?_⟩
    cases a with
    | nil => simp [overS]
    | cons x r => cases x; rw [ExSize, Ex.size_mk] at h; omega
  | succ N ih =>
    have h1 : ∀ a : Ex, a.size ≤ N + 1 → oneS a a = true := by
      intro a h
      have hl := headS_lt a
      rw [oneS_def, ih.2 (headS a).2 (by omega)]
      simp
    refine ⟨h1, fun a => ?_⟩
    induction a with
    | nil => intro h; simp [overS]
    | cons x r ihr =>
      intro h
      rw [ExSize] at h
      rw [overS, h1 x (by omega), ihr (by omega)]
      rfl
mutual
theorem termS_size : ∀ (e : Ex) (x : Nat), (termS e x).1.size ≤ e.size
  | .mk k s n ys l c, x => by
    rw [termS.eq_def, Ex.size_mk]
    dsimp only
    split
    · simp [Tm.size, TmSize]
    split
    · simp [Tm.size, TmSize]
    split
    · cases ys with
      | nil => simp [Tm.size, TmSize]
      | cons y r =>
        have := termsS_size r x
        simp only [Tm.size, ExSize]
        omega
    · simp [Tm.size, TmSize]
theorem termsS_size : ∀ (ps : List Ex) (x : Nat), TmSize (termsS ps x).1 ≤ ExSize ps
  | [], x => by simp [termsS, TmSize]
  | e :: r, x => by
    have h1 := termS_size e x
    have h2 := termsS_size r (termS e x).2
    simp only [termsS, TmSize, ExSize]
    omega
end
end Go.Proofs.Ytnaakhnmbckpmaa.Pats
