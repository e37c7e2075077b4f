/- What a tree selects: the plain law. -/
import Derived.Test.YtnaakhnmbckpmaaDtL
import Derived.Test.YtnaakhnmbckpmaaBuT
import Derived.Test.YtnaakhnmbckpmaaKnB
import Derived.Test.YtnaakhnmbckpmaaMatchS
namespace Go.Proofs.Ytnaakhnmbckpmaa.Pats
open Go.ChangeShapes Go.WideShapes Go.ChangeAt Go.RowKit Go.Proofs.Ytnaakhnmbckpmaa.Lift Go.Proofs.Ytnaakhnmbckpmaa.Data Go.Proofs.Ytnaakhnmbckpmaa.Refs Go.Proofs.Ytnaakhnmbckpmaa.Strs
set_option linter.unusedVariables false
set_option linter.unusedSimpArgs false
theorem split_perm (f : Int → Bool) : ∀ ss : List Int, (ss.filter f ++ ss.filter (fun x => !f x)).Perm ss
  | [] => by simp
  | i :: ss => by
    have := split_perm f ss
    cases hf : f i with
    | true => simp only [List.filter_cons, hf, if_true, Bool.not_true]; simpa using this
    | false =>
      simp only [List.filter_cons, hf, Bool.not_false, if_true]
      simp only [Bool.false_eq_true, if_false]
      exact List.perm_middle.trans (List.Perm.cons _ this)
theorem leaves_inCase (con : Int) (is : Bool) (T : Ct) : (T.inCase con is).leaves = T.leaves := by cases T; simp [Ct.inCase, Ct.leaves]
mutual
theorem leaves_build {mk : List ByteArray} {rules : List (List Ex)} : ∀ {ss : List Int} {pl : List (List Int)} {T : Ct}, BuildR mk rules ss pl T → T.leaves.Perm ss
  | _, _, _, .nil pl => by simp [failT, Ct.leaves, CtLeaves]
  | _, _, _, .branch ss pl at_ cs h1 h2 h3 hb => by
    have h := leaves_branch hb
    rw [Ct.leaves]
    simpa using h
  | _, _, _, .split ss pl at_ s0 a b h1 h2 h3 h4 ha hb => by
    have g1 := leaves_build ha
    have g2 := leaves_build hb
    rw [orT, Ct.leaves]
    simp only [CtLeaves, leaves_inCase]
    simpa using (g1.append g2).trans (split_perm _ ss)
  | _, _, _, .leaf s0 pl h => by simp [leafT, Ct.leaves]
  | _, _, _, .more s0 s1 r pl T h hb => by
    have g := leaves_build hb
    rw [orT, Ct.leaves]
    simp only [CtLeaves, leaves_inCase, leafT, Ct.leaves]
    simpa using g
theorem leaves_branch {mk : List ByteArray} {rules : List (List Ex)} : ∀ {ss : List Int} {pl : List (List Int)} {at_ : Nat} {cs : List Ct}, BranchR mk rules ss pl at_ cs → (CtLeaves cs).Perm ss
  | _, _, _, _, .nil pl at_ => by simp [CtLeaves]
  | _, _, _, _, .cons s0 r pl at_ e T cs he hT hc => by
    have g1 := leaves_build hT
    have g2 := leaves_branch hc
    simp only [CtLeaves, leaves_inCase]
    exact (g1.append g2).trans (split_perm _ _)
end
/-- arity of names. -/
abbrev Ari := List UInt8 → Nat
mutual
/-- each constructor of a pattern has as many arguments as its name has. -/
def okE (ar : Ari) : Ex → Bool
  | .mk k s n ys l c => if k = 2 then decide (ar s.toList = 0) else if k = 4 then (match ys with | [] => true | y :: r => decide (ar y.s.toList = r.length) && okEs ar r) else true
def okEs (ar : Ari) : List Ex → Bool
  | [] => true
  | e :: r => okE ar e && okEs ar r
end
mutual
def okT (ar : Ari) : Tm → Bool
  | .mk k s n ys => (decide (k = 2) || (decide (k = 1) && decide (ar s.toList = ys.length))) && okTs ar ys
def okTs (ar : Ari) : List Tm → Bool
  | [] => true
  | e :: r => okT ar e && okTs ar r
end
theorem okEs_get {ar : Ari} : ∀ {es : List Ex} {i : Nat} (h : i < es.length), okEs ar es = true → okE ar es[i] = true
  | [], i, h, _ => by simp at h
  | e :: r, 0, _, g => by rw [okEs, Bool.and_eq_true] at g; exact g.1
  | e :: r, i + 1, h, g => by rw [okEs, Bool.and_eq_true] at g; simpa using okEs_get (i := i) (by simpa using h) g.2
theorem okTs_get {ar : Ari} : ∀ {es : List Tm} {i : Nat} (h : i < es.length), okTs ar es = true → okT ar es[i] = true
  | [], i, h, _ => by simp at h
  | e :: r, 0, _, g => by rw [okTs, Bool.and_eq_true] at g; exact g.1
  | e :: r, i + 1, h, g => by rw [okTs, Bool.and_eq_true] at g; simpa using okTs_get (i := i) (by simpa using h) g.2
theorem patsS_get : ∀ {es : List Ex} {i : Nat} (h : i < es.length), patsS es = true → patS es[i] = true
  | [], i, h, _ => by simp at h
  | e :: r, 0, _, g => by rw [patsS, Bool.and_eq_true] at g; exact g.1
  | e :: r, i + 1, h, g => by rw [patsS, Bool.and_eq_true] at g; simpa using patsS_get (i := i) (by simpa using h) g.2
/-- a pattern whose names are known and fit. -/
structure GoodE (ar : Ari) (mk : List ByteArray) (e : Ex) : Prop where
  p : patS e = true
  a : okE ar e = true
  k : KnP mk e
theorem mem_flats : ∀ {es : List Ex} {x e : Ex}, x ∈ es → e ∈ x.flat → e ∈ ExFlats es
  | [], x, e, h, _ => by cases h
  | y :: r, x, e, h, g => by
    rw [ExFlats, List.mem_append]
    rcases List.mem_cons.1 h with rfl | h
    · exact .inl g
    · exact .inr (mem_flats h g)
theorem flat_self (e : Ex) : e ∈ e.flat := by cases e; rw [Ex.flat]; exact List.mem_cons_self ..
/-- what a good pattern that demands is. -/
theorem good_dem {ar : Ari} {mk : List ByteArray} {e : Ex} (h : GoodE ar mk e) (hd : demB e = true) :
    (e.k = 3) ∨ (e.k ≠ 3 ∧ (headS e).1.k = 2 ∧ 0 ≤ idxS mk (headS e).1.s ∧ ar (headS e).1.s.toList = (headS e).2.length ∧ (∀ i (hi : i < (headS e).2.length), GoodE ar mk (headS e).2[i])) := by
  obtain ⟨h1, h2, h3⟩ := h
  cases e with
  | mk k s n ys l c =>
  simp only [demB, Ex.k, Bool.or_eq_true, beq_iff_eq] at hd ⊢
  rcases hd with (hd | hd) | hd
  · exact .inl hd
  · subst hd
    right
    have hh : headS (.mk 2 s n ys l c) = (.mk 2 s n ys l c, []) := by simp [headS]
    rw [hh]
    rw [okE.eq_def] at h2
    refine ⟨by simp, rfl, h3 _ (flat_self _) rfl, by simpa [Ex.s] using h2, fun i hi => by simp at hi⟩
  · subst hd
    right
    rw [patS.eq_def] at h1
    simp only [show ¬ ((4 : Int) = 1 ∨ (4 : Int) = 9 ∨ (4 : Int) = 3 ∨ (4 : Int) = 2) by omega, if_false, if_true] at h1
    cases ys with
    | nil => simp at h1
    | cons y r =>
      simp only [Bool.and_eq_true, decide_eq_true_eq] at h1
      obtain ⟨g1, g2, g3, g4⟩ := h1
      have hh : headS (.mk 4 s n (y :: r) l c) = (y, r) := by simp [headS]
      rw [hh]
      rw [okE.eq_def] at h2
      simp only [show ¬ ((4 : Int) = 2) by omega, if_false, if_true, Bool.and_eq_true, decide_eq_true_eq] at h2
      refine ⟨by simp, g2, h3 y ?_ g2, h2.1, fun i hi => ⟨patsS_get hi g4, okEs_get hi h2.2, fun e he => h3 e ?_⟩⟩
      · rw [Ex.flat]; exact List.mem_cons_of_mem _ (mem_flats (List.mem_cons_self ..) (flat_self y))
      · rw [Ex.flat]; exact List.mem_cons_of_mem _ (mem_flats (List.mem_cons_of_mem _ (List.getElem_mem hi)) he)
theorem idxS_congr (mk : List ByteArray) {a b : ByteArray} (h : a.toList = b.toList) : idxS mk a = idxS mk b := by unfold idxS; rw [h]
theorem idxS_inj {mk : List ByteArray} {a b : ByteArray} (h : idxS mk a = idxS mk b) (h0 : 0 ≤ idxS mk b) : a.toList = b.toList := by
  unfold idxS at h h0
  cases ha : mk.findIdx? (fun x => decide (a.toList = x.toList)) with
  | none =>
    rw [ha] at h
    simp only at h
    rw [← h] at h0
    omega
  | some i =>
    cases hb : mk.findIdx? (fun x => decide (b.toList = x.toList)) with
    | none => rw [hb] at h0; simp only at h0; omega
    | some j =>
      rw [ha, hb] at h
      simp only at h
      obtain rfl : i = j := by omega
      obtain ⟨h1, h2, -⟩ := List.findIdx?_eq_some_iff_getElem.1 ha
      obtain ⟨h3, h4, -⟩ := List.findIdx?_eq_some_iff_getElem.1 hb
      simp only [decide_eq_true_eq] at h2 h4
      rw [h2, h4]
def fitK (mk : List ByteArray) (con : Int) (is : Bool) (x : Tm) : Bool := if is then (x.k == 2 && x.n == con) else (x.k == 1 && decide (0 ≤ con) && idxS mk x.s == con)
theorem fitS_inCase (mk : List ByteArray) (con : Int) (is : Bool) (T : Ct) (x : Tm) : fitS mk (T.inCase con is) x = fitK mk con is x := by cases T; rfl
theorem fitK_one {mk : List ByteArray} {c1 c2 : Int} {i1 i2 : Bool} {x : Tm} (h1 : fitK mk c1 i1 x = true) (h2 : fitK mk c2 i2 x = true) : c1 = c2 ∧ i1 = i2 := by
  unfold fitK at h1 h2
  cases i1 <;> cases i2 <;> simp only [Bool.false_eq_true, if_false, if_true, Bool.and_eq_true, beq_iff_eq, decide_eq_true_eq] at h1 h2
  · exact ⟨by rw [← h1.2, ← h2.2], rfl⟩
  · exact absurd (h1.1.1.symm.trans h2.1) (by decide)
  · exact absurd (h1.1.symm.trans h2.1.1) (by decide)
  · exact ⟨by rw [← h1.2, ← h2.2], rfl⟩
theorem allS_iff : ∀ {ps : List Ex} {ts : List Tm}, ps.length = ts.length → ((allS ps ts).isSome = true ↔ ∀ i (h : i < ps.length) (h2 : i < ts.length), (matchS ps[i] ts[i]).isSome = true)
  | [], [], _ => by simp [allS]
  | [], _ :: _, h => by simp at h
  | _ :: _, [], h => by simp at h
  | p :: ps, t :: ts, h => by
    have ih := allS_iff (ps := ps) (ts := ts) (by simpa using h)
    rw [allS]
    constructor
    · intro h i h1 h2
      cases hm : matchS p t with
      | none => rw [hm] at h; cases h
      | some b =>
        rw [hm] at h
        simp only at h
        cases i with
        | zero => simp [hm]
        | succ i =>
          have : (allS ps ts).isSome = true := by cases ha : allS ps ts with
            | none => rw [ha] at h; cases h
            | some _ => rfl
          simpa using ih.1 this i (by simpa using h1) (by simpa using h2)
    · intro h
      have h0 := h 0 (by simp) (by simp)
      simp only [List.getElem_cons_zero] at h0
      have h1 := ih.2 fun i a b => h (i + 1) (Nat.succ_lt_succ a) (Nat.succ_lt_succ b)
      cases hm : matchS p t with
      | none => rw [hm] at h0; cases h0
      | some b =>
        cases ha : allS ps ts with
        | none => rw [ha] at h1; cases h1
        | some r => rfl
theorem okT_con {ar : Ari} {t : Tm} (h : okT ar t = true) (h1 : t.k = 1) : ar t.s.toList = t.ys.length := by
  cases t with
  | mk k s n ys =>
  simp only [Tm.k] at h1
  subst h1
  rw [okT] at h
  simp only [Tm.s, Tm.ys]
  simp at h
  exact h.1
theorem okT_ys {ar : Ari} {t : Tm} (h : okT ar t = true) {i : Nat} (hi : i < t.ys.length) : okT ar t.ys[i] = true := by
  cases t with
  | mk k s n ys =>
  rw [okT, Bool.and_eq_true] at h
  exact okTs_get hi h.2
theorem match_wild {ar : Ari} {mk : List ByteArray} {e : Ex} (h : GoodE ar mk e) (hd : demB e = false) (t : Tm) : (matchS e t).isSome = true := by
  obtain ⟨h1, -, -⟩ := h
  cases e with
  | mk k s n ys l c =>
  simp only [demB, Ex.k, Bool.or_eq_false_iff, beq_eq_false_iff_ne] at hd
  obtain ⟨⟨d1, d2⟩, d3⟩ := hd
  rw [patS.eq_def] at h1
  have : k = 1 ∨ k = 9 := by
    by_cases g1 : k = 1
    · exact .inl g1
    by_cases g9 : k = 9
    · exact .inr g9
    simp only at h1
    rw [if_neg (by omega), if_neg d3] at h1
    cases h1
  rw [matchS.eq_def]
  rcases this with rfl | rfl <;> simp
/-- a pattern that demands: it matches just if its key fits, and its parts match. -/
theorem match_dem {ar : Ari} {mk : List ByteArray} {e : Ex} {t : Tm} (h : GoodE ar mk e) (hd : demB e = true) (ht : okT ar t = true) :
    (fitK mk (keyE mk e).1 (keyE mk e).2.1 t = true → (keyE mk e).2.2 = (headS e).2.length ∧ (t.ys.length = (headS e).2.length ∨ e.k = 3) ∧ (e.k = 3 → (headS e).2 = [])) ∧
    ((matchS e t).isSome = true ↔ fitK mk (keyE mk e).1 (keyE mk e).2.1 t = true ∧ ∀ i (h1 : i < (headS e).2.length) (h2 : i < t.ys.length), (matchS (headS e).2[i] t.ys[i]).isSome = true) := by
  rcases good_dem h hd with h3 | ⟨h3, hk, hi, ha, hg⟩
  · cases e with
    | mk k s n ys l c =>
    simp only [Ex.k] at h3
    subst h3
    have hh : headS (.mk 3 s n ys l c) = (.mk 3 s n ys l c, []) := by simp [headS]
    rw [hh, keyE_int]
    refine ⟨fun _ => ⟨rfl, .inr rfl, fun _ => rfl⟩, ?_⟩
    rw [matchS.eq_def]
    simp only [show ¬ ((3 : Int) = 1) by omega, show ¬ ((3 : Int) = 9) by omega, if_false, if_true, fitK]
    by_cases hf : t.k = 2 ∧ t.n = n
    · rw [if_pos hf]; simp [hf.1, hf.2]
    · rw [if_neg hf]; simp; intro a b; exact absurd ⟨a, b⟩ hf
  · have hkey : keyE mk e = (idxS mk (headS e).1.s, false, (headS e).2.length) := by unfold keyE; rw [if_neg h3]
    rw [hkey]
    simp only [fitK, Bool.false_eq_true, if_false, Bool.and_eq_true, beq_iff_eq, decide_eq_true_eq]
    have hlen : t.k = 1 → t.s.toList = (headS e).1.s.toList → t.ys.length = (headS e).2.length := fun h1 h2 => by rw [← okT_con ht h1, h2, ha]
    have hm : (matchS e t).isSome = true ↔ (t.k = 1 ∧ t.s.toList = (headS e).1.s.toList) ∧ (allS (headS e).2 t.ys).isSome = true := by
      cases e with
      | mk k s n ys l c =>
      simp only [demB, Ex.k, Bool.or_eq_true, beq_iff_eq] at hd h3
      rcases hd with (hd | hd) | hd
      · exact absurd hd h3
      · subst hd
        have hh : headS (.mk 2 s n ys l c) = (.mk 2 s n ys l c, []) := by simp [headS]
        rw [hh] at hlen ha ⊢
        rw [matchS.eq_def]
        simp only [show ¬ ((2 : Int) = 1) by omega, show ¬ ((2 : Int) = 9) by omega, show ¬ ((2 : Int) = 3) by omega, show ¬ ((2 : Int) = 4) by omega, if_false, true_and, Ex.s] at hlen ⊢
        by_cases hc : t.k = 1 ∧ t.s.toList = s.toList
        · have h0 := hlen hc.1 hc.2
          rw [if_pos hc, if_pos (by simpa using h0)]
          have : t.ys = [] := List.eq_nil_of_length_eq_zero (by simpa using h0)
          rw [this, allS]
          simp [hc]
        · rw [if_neg hc]; simp [hc]
      · subst hd
        obtain ⟨hp, -, -⟩ := h
        rw [patS.eq_def] at hp
        simp only [show ¬ ((4 : Int) = 1 ∨ (4 : Int) = 9 ∨ (4 : Int) = 3 ∨ (4 : Int) = 2) by omega, if_false, if_true] at hp
        cases ys with
        | nil => simp at hp
        | cons y r =>
          have hh : headS (.mk 4 s n (y :: r) l c) = (y, r) := by simp [headS]
          rw [hh] at hk ⊢
          simp only at hk
          rw [matchS.eq_def]
          simp only [show ¬ ((4 : Int) = 1) by omega, show ¬ ((4 : Int) = 9) by omega, show ¬ ((4 : Int) = 3) by omega, if_false, if_true]
          by_cases hc : t.k = 1 ∧ t.s.toList = y.s.toList
          · rw [if_pos ⟨hk, hc.1, hc.2⟩]; simp [hc]
          · rw [if_neg (fun h => hc ⟨h.2.1, h.2.2⟩)]; simp [hc]
    refine ⟨fun hf => ⟨trivial, .inl (hlen hf.1.1 (idxS_inj hf.2 hi)), fun h => absurd h h3⟩, ?_⟩
    rw [hm]
    constructor
    · rintro ⟨⟨h1, h2⟩, h4⟩
      refine ⟨⟨⟨h1, hi⟩, idxS_congr mk h2⟩, (allS_iff (hlen h1 h2).symm).1 h4⟩
    · rintro ⟨⟨⟨h1, -⟩, h2⟩, h4⟩
      have h5 := idxS_inj h2 hi
      exact ⟨⟨h1, h5⟩, (allS_iff (hlen h1 h5).symm).2 h4⟩
/-- whether a rule's pattern at a place matches the term there. -/
def PM (rules : List (List Ex)) (args : List Tm) (i : Int) (p : List Int) : Prop := ∀ e t, atS (rules.getD i.toNat []) p = some e → reachS args p = some t → (matchS e t).isSome = true
/-- whether a rule matches. -/
def mi (rules : List (List Ex)) (args : List Tm) (i : Int) : Bool := (allS (rules.getD i.toNat []) args).isSome
/-- what is left to be looked at is at the places. -/
def Cov (ar : Ari) (mk : List ByteArray) (rules : List (List Ex)) (args : List Tm) (ss : List Int) (pl : List (List Int)) : Prop :=
  ∀ i ∈ ss, (∀ p ∈ pl, ∃ e t, atS (rules.getD i.toNat []) p = some e ∧ reachS args p = some t ∧ GoodE ar mk e ∧ okT ar t = true) ∧ (mi rules args i = true ↔ ∀ p ∈ pl, PM rules args i p)
theorem Cov.sub {ar : Ari} {mk : List ByteArray} {rules : List (List Ex)} {args : List Tm} {ss ss' : List Int} {pl : List (List Int)} (h : Cov ar mk rules args ss pl) (hs : ∀ i ∈ ss', i ∈ ss) : Cov ar mk rules args ss' pl := fun i hi => h i (hs i hi)
theorem selS_inCase (mk : List ByteArray) (args : List Tm) (con : Int) (is : Bool) (T : Ct) : selS mk args (T.inCase con is) = selS mk args T := by cases T; simp [Ct.inCase, selS]
theorem reachS_append : ∀ {l : List Tm} {p : List Int} {e : Tm} {q : List Int}, reachS l p = some e → q ≠ [] → reachS l (p ++ q) = reachS e.ys q
  | l, [], e, q, h, hq => by cases l <;> simp [reachS] at h
  | l, [k], e, q, h, hq => by
    rw [reachS] at h
    split at h
    · cases h
    · rename_i hk
      cases q with
      | nil => exact absurd rfl hq
      | cons q0 q1 =>
        simp only [List.cons_append, List.nil_append]
        rw [reachS, if_neg hk, h]
        simp
  | l, k :: k2 :: r, e, q, h, hq => by
    rw [reachS] at h
    · split at h
      · cases h
      · rename_i hk
        cases hl : l[k.toNat]? with
        | none => rw [hl] at h; cases h
        | some x =>
          rw [hl] at h
          simp only at h
          simp only [List.cons_append]
          rw [reachS, if_neg hk, hl]
          · simp only
            exact reachS_append (p := k2 :: r) h hq
          · simp
    · simp
theorem mi_none {ar : Ari} {mk : List ByteArray} {rules : List (List Ex)} {args : List Tm} {ss : List Int} {pl : List (List Int)} (h : Cov ar mk rules args ss pl) (hall : ∀ i ∈ ss, ∃ p ∈ pl, ¬ PM rules args i p) : ss.filter (mi rules args) = [] := by
  refine List.filter_eq_nil_iff.2 fun i hi hm => ?_
  obtain ⟨p, hp, hn⟩ := hall i hi
  exact hn ((h i hi).2.1 hm p hp)
/-- a rule whose key at the place doesn't fit doesn't match. -/
theorem not_PM {ar : Ari} {mk : List ByteArray} {rules : List (List Ex)} {args : List Tm} {i : Int} {p : List Int} {e : Ex} {t : Tm} (he : atS (rules.getD i.toNat []) p = some e) (ht : reachS args p = some t) (hg : GoodE ar mk e) (hd : demB e = true) (hk : okT ar t = true)
    (hf : fitK mk (keyE mk e).1 (keyE mk e).2.1 t = false) : ¬ PM rules args i p := fun h => by
  have := ((match_dem hg hd hk).2.1 (h e t he ht)).1
  rw [hf] at this
  cases this
theorem keyI_iff {mk : List ByteArray} {rules : List (List Ex)} {path : List Int} {con : Int} {is : Bool} {i : Int} {e : Ex} (h : atS (rules.getD i.toNat []) path = some e) : keyI mk rules path con is i = true ↔ (keyE mk e).1 = con ∧ (keyE mk e).2.1 = is := by
  unfold keyI
  rw [h]
  simp
theorem split_at {pl : List (List Int)} {at_ : Nat} (hat : at_ < pl.length) : pl = pl.take at_ ++ (pl.getD at_ [] :: pl.drop (at_ + 1)) := by
  have : pl.getD at_ [] = pl[at_] := by simp [List.getD, List.getElem?_eq_getElem hat]
  rw [this, List.getElem_cons_drop, List.take_append_drop]
/-- the rules of a key that fits: what is left to be looked at is at the places behind. -/
theorem cov_next {ar : Ari} {mk : List ByteArray} {rules : List (List Ex)} {args : List Tm} {own : List Int} {pl : List (List Int)} {at_ : Nat} {con : Int} {is : Bool} {n : Nat} {t : Tm} (h : Cov ar mk rules args own pl) (hat : at_ < pl.length) (ht : reachS args (pl.getD at_ []) = some t)
    (hf : fitK mk con is t = true) (hk : ∀ i ∈ own, ∀ e, atS (rules.getD i.toNat []) (pl.getD at_ []) = some e → demB e = true ∧ (keyE mk e).1 = con ∧ (keyE mk e).2.1 = is) (hn : n = if is then 0 else t.ys.length) : Cov ar mk rules args own (nextP pl at_ n) := by
  intro i hi
  obtain ⟨h1, h2⟩ := h i hi
  have hmem : pl.getD at_ [] ∈ pl := by rw [List.getD, List.getElem?_eq_getElem hat]; exact List.getElem_mem hat
  obtain ⟨e, t', he, ht', hg, hkt⟩ := h1 _ hmem
  rw [ht] at ht'
  obtain rfl := Option.some.inj ht'
  obtain ⟨hd, hk1, hk2⟩ := hk i hi e he
  obtain ⟨m1, m2⟩ := match_dem hg hd hkt
  rw [hk1, hk2] at m1 m2
  obtain ⟨g1, g2, g3⟩ := m1 hf
  have hlen : (headS e).2.length = n := by
    rw [hn]
    by_cases h3 : e.k = 3
    · rw [g3 h3]
      have : is = true := by rw [← hk2]; unfold keyE; rw [if_pos h3]
      simp [this]
    · have : is = false := by rw [← hk2]; unfold keyE; rw [if_neg h3]
      rcases g2 with g2 | g2
      · simp [this, g2]
      · exact absurd g2 h3
  have hlen2 : n ≤ t.ys.length := by rw [hn]; split <;> omega
  have hin : ∀ k (hk : k < n), ∃ x y, (headS e).2[k]? = some x ∧ t.ys[k]? = some y ∧ atS (rules.getD i.toNat []) (pl.getD at_ [] ++ [Int.ofNat k]) = some x ∧ reachS args (pl.getD at_ [] ++ [Int.ofNat k]) = some y ∧ GoodE ar mk x ∧ okT ar y = true := fun k hk => by
    have a1 : k < (headS e).2.length := by omega
    have a2 : k < t.ys.length := by omega
    refine ⟨(headS e).2[k], t.ys[k], List.getElem?_eq_getElem a1, List.getElem?_eq_getElem a2, ?_, ?_, ?_, okT_ys hkt a2⟩
    · rw [atS_append he (by simp)]
      exact atS_one (List.getElem?_eq_getElem a1)
    · rw [reachS_append ht (by simp)]
      simp [reachS, a2]
    · rcases good_dem hg hd with h3 | ⟨_, _, _, _, h5⟩
      · rw [g3 h3] at a1; simp at a1
      · exact h5 k a1
  constructor
  · intro p hp
    simp only [nextP, innerP, List.mem_append, List.mem_map, List.mem_range] at hp
    rcases hp with hp | ⟨k, hk, rfl⟩ | hp
    · exact h1 p (List.mem_of_mem_take hp)
    · obtain ⟨x, y, _, _, a1, a2, a3, a4⟩ := hin k hk
      exact ⟨x, y, a1, a2, a3, a4⟩
    · exact h1 p (List.mem_of_mem_drop hp)
  · rw [h2]
    have hpm : PM rules args i (pl.getD at_ []) ↔ ∀ k < n, PM rules args i (pl.getD at_ [] ++ [Int.ofNat k]) := by
      have : PM rules args i (pl.getD at_ []) ↔ (matchS e t).isSome = true := by
        unfold PM
        rw [he, ht]
        constructor
        · intro h; exact h e t rfl rfl
        · rintro h e' t' h1 h2
          obtain rfl := Option.some.inj h1
          obtain rfl := Option.some.inj h2
          exact h
      rw [this, m2]
      constructor
      · rintro ⟨-, hh⟩ k hk x' y' hx hy
        obtain ⟨x, y, b1, b2, a1, a2, -, -⟩ := hin k hk
        rw [a1] at hx
        rw [a2] at hy
        obtain rfl := Option.some.inj hx
        obtain rfl := Option.some.inj hy
        obtain ⟨c1, c2⟩ := List.getElem?_eq_some_iff.1 b1
        obtain ⟨d1, d2⟩ := List.getElem?_eq_some_iff.1 b2
        rw [← c2, ← d2]
        exact hh k c1 d1
      · intro hh
        refine ⟨hf, fun k c1 d1 => ?_⟩
        obtain ⟨x, y, b1, b2, a1, a2, -, -⟩ := hin k (by omega)
        have := hh k (by omega) x y a1 a2
        rw [List.getElem?_eq_getElem c1] at b1
        rw [List.getElem?_eq_getElem d1] at b2
        obtain rfl := Option.some.inj b1
        obtain rfl := Option.some.inj b2
        exact this
    constructor
    · intro hh p hp
      simp only [nextP, innerP, List.mem_append, List.mem_map, List.mem_range] at hp
      rcases hp with hp | ⟨k, hk, rfl⟩ | hp
      · exact hh p (List.mem_of_mem_take hp)
      · exact hpm.1 (hh _ hmem) k hk
      · exact hh p (List.mem_of_mem_drop hp)
    · intro hh p hp
      rw [split_at hat] at hp
      simp only [List.mem_append, List.mem_cons] at hp
      rcases hp with hp | rfl | hp
      · exact hh p (by simp only [nextP, List.mem_append]; exact .inl hp)
      · exact hpm.2 fun k hk => hh _ (by simp only [nextP, innerP, List.mem_append, List.mem_map, List.mem_range]; exact .inr (.inl ⟨k, hk, rfl⟩))
      · exact hh p (by simp only [nextP, List.mem_append]; exact .inr (.inr hp))
theorem mi_wild {ar : Ari} {mk : List ByteArray} {rules : List (List Ex)} {args : List Tm} {ss : List Int} {pl : List (List Int)} (h : Cov ar mk rules args ss pl) {s0 : Int} (hs : s0 ∈ ss) (hno : ∀ p ∈ pl, demI rules p s0 = false) : mi rules args s0 = true := by
  obtain ⟨h1, h2⟩ := h s0 hs
  refine h2.2 fun p hp e t he ht => ?_
  obtain ⟨e', t', he', ht', hg, hk⟩ := h1 p hp
  rw [he] at he'
  obtain rfl := Option.some.inj he'
  have := hno p hp
  unfold demI demAt at this
  rw [he] at this
  exact match_wild hg this t
mutual
theorem sel_build {ar : Ari} {mk : List ByteArray} {rules : List (List Ex)} {args : List Tm} : ∀ {ss : List Int} {pl : List (List Int)} {T : Ct}, BuildR mk rules ss pl T → Cov ar mk rules args ss pl → (selS mk args T).Perm (ss.filter (mi rules args))
  | _, _, _, .nil pl, _ => by simp [failT, selS]
  | _, _, _, .branch ss pl at_ cs h1 h2 h3 hb, hc => by
    have hmem : pl.getD at_ [] ∈ pl := by rw [List.getD, List.getElem?_eq_getElem h2]; exact List.getElem_mem h2
    obtain ⟨s0, hs0⟩ := List.exists_mem_of_ne_nil _ h1
    obtain ⟨e, t, he, ht, hg, hk⟩ := (hc s0 hs0).1 _ hmem
    have := sel_branch hb hc h2 h3 ht hk
    rw [selS]
    simp only [show ¬ ((2 : Int) = 1) by omega, show ¬ ((2 : Int) = 3) by omega, if_false, if_true, ht]
    exact this
  | _, _, _, .split ss pl at_ s0 a b h1 h2 h3 h4 ha hb, hc => by
    have g1 := sel_build ha (hc.sub fun i hi => (List.mem_filter.1 hi).1)
    have g2 := sel_build hb (hc.sub fun i hi => (List.mem_filter.1 hi).1)
    have g3 := (split_perm (demI rules (pl.getD at_ [])) ss).filter (mi rules args)
    rw [List.filter_append] at g3
    rw [orT, selS]
    simp only [show ¬ ((3 : Int) = 1) by omega, if_false, if_true, selAll, selS_inCase, List.append_nil]
    exact (g1.append g2).trans g3
  | _, _, _, .leaf s0 pl h, hc => by
    have := mi_wild hc (List.mem_cons_self ..) h
    simp [leafT, selS, List.filter_cons, this]
  | _, _, _, .more s0 s1 r pl T h hb, hc => by
    have g := sel_build hb (hc.sub fun i hi => List.mem_cons_of_mem _ hi)
    have := mi_wild hc (List.mem_cons_self ..) h
    rw [orT, selS]
    simp only [show ¬ ((3 : Int) = 1) by omega, if_false, if_true, selAll, selS_inCase, leafT, selS, List.append_nil]
    rw [List.filter_cons, if_pos this]
    simpa using g
theorem sel_branch {ar : Ari} {mk : List ByteArray} {rules : List (List Ex)} {args : List Tm} : ∀ {ss : List Int} {pl : List (List Int)} {at_ : Nat} {cs : List Ct}, BranchR mk rules ss pl at_ cs → Cov ar mk rules args ss pl → at_ < pl.length → allDem rules ss (pl.getD at_ []) = true → ∀ {t : Tm}, reachS args (pl.getD at_ []) = some t → okT ar t = true →
    (selFst mk args t cs).Perm (ss.filter (mi rules args))
  | _, _, _, _, .nil pl at_, _, _, _, _, _, _ => by simp [selFst]
  | _, _, _, _, .cons s0 r pl at_ e T cs he hT hcs, hc, hat, had, t, ht, hk => by
    have hmem : pl.getD at_ [] ∈ pl := by rw [List.getD, List.getElem?_eq_getElem hat]; exact List.getElem_mem hat
    have hper := (split_perm (keyI mk rules (pl.getD at_ []) (keyE mk e).1 (keyE mk e).2.1) (s0 :: r)).filter (mi rules args)
    rw [List.filter_append] at hper
    have hcO := hc.sub (ss' := (s0 :: r).filter (keyI mk rules (pl.getD at_ []) (keyE mk e).1 (keyE mk e).2.1)) fun i hi => (List.mem_filter.1 hi).1
    have hcN := hc.sub (ss' := (s0 :: r).filter (fun x => !keyI mk rules (pl.getD at_ []) (keyE mk e).1 (keyE mk e).2.1 x)) fun i hi => (List.mem_filter.1 hi).1
    have hdem : ∀ i ∈ s0 :: r, ∃ e', atS (rules.getD i.toNat []) (pl.getD at_ []) = some e' ∧ demB e' = true := fun i hi => by
      rw [allDem, List.all_eq_true] at had
      exact demI_at (had i hi)
    rw [selFst, fitS_inCase]
    cases hf : fitK mk (keyE mk e).1 (keyE mk e).2.1 t with
    | true =>
      rw [if_pos rfl, selS_inCase]
      obtain ⟨e0, t0, he0, ht0, hg0, hk0⟩ := (hc s0 (List.mem_cons_self ..)).1 _ hmem
      rw [he] at he0
      obtain rfl := Option.some.inj he0
      obtain ⟨e1, he1, hd1⟩ := hdem s0 (List.mem_cons_self ..)
      rw [he] at he1
      obtain rfl := Option.some.inj he1
      obtain ⟨m1, m2, m3⟩ := (match_dem hg0 hd1 hk).1 hf
      have g1 := sel_build hT (cov_next hcO hat ht hf (fun i hi e' he' => by
        obtain ⟨a1, a2⟩ := List.mem_filter.1 hi
        obtain ⟨e2, b1, b2⟩ := hdem i a1
        rw [he'] at b1
        obtain rfl := Option.some.inj b1
        exact ⟨b2, (keyI_iff he').1 a2⟩) (by
        rw [m1]
        by_cases h3 : e.k = 3
        · rw [m3 h3]; have : (keyE mk e).2.1 = true := by unfold keyE; rw [if_pos h3]
          simp [this]
        · have : (keyE mk e).2.1 = false := by unfold keyE; rw [if_neg h3]
          rcases m2 with m2 | m2
          · simp [this, m2]
          · exact absurd m2 h3))
      refine (g1.trans (List.Perm.of_eq ?_)).trans hper
      have h0 := mi_none hcN (fun i hi => ⟨_, hmem, by
        obtain ⟨a1, a2⟩ := List.mem_filter.1 hi
        obtain ⟨e2, t2, b1, b2, b3, b4⟩ := (hc i a1).1 _ hmem
        obtain ⟨e3, c1, c2⟩ := hdem i a1
        rw [b1] at c1
        obtain rfl := Option.some.inj c1
        rw [ht] at b2
        obtain rfl := Option.some.inj b2
        refine not_PM b1 ht b3 c2 hk ?_
        cases hq : fitK mk (keyE mk e2).1 (keyE mk e2).2.1 t with
        | false => rfl
        | true =>
          obtain ⟨q1, q2⟩ := fitK_one hq hf
          rw [(keyI_iff b1).2 ⟨q1, q2⟩] at a2
          cases a2⟩)
      rw [h0, List.append_nil]
    | false =>
      rw [if_neg (by simp)]
      have g2 := sel_branch hcs hcN hat (by
        rw [allDem, List.all_eq_true] at had ⊢
        exact fun x hx => had x (List.mem_filter.1 hx).1) ht hk
      refine (g2.trans (List.Perm.of_eq ?_)).trans hper
      have h0 := mi_none hcO (fun i hi => ⟨_, hmem, by
        obtain ⟨a1, a2⟩ := List.mem_filter.1 hi
        obtain ⟨e2, t2, b1, b2, b3, b4⟩ := (hc i a1).1 _ hmem
        obtain ⟨e3, c1, c2⟩ := hdem i a1
        rw [b1] at c1
        obtain rfl := Option.some.inj c1
        obtain ⟨q1, q2⟩ := (keyI_iff b1).1 a2
        exact not_PM b1 ht b3 c2 hk (by rw [q1, q2]; exact hf)⟩)
      rw [h0, List.nil_append]
end
/-- at first. -/
theorem cov_first {ar : Ari} {mk : List ByteArray} {rules : List (List Ex)} {args : List Tm} {n : Nat} (hl : ∀ l ∈ rules, l.length = n) (hg : ∀ l ∈ rules, ∀ e ∈ l, GoodE ar mk e) (ha : args.length = n) (ht : ∀ t ∈ args, okT ar t = true) : Cov ar mk rules args (upto rules.length) (firstP n) := by
  intro i hi
  simp only [upto, List.mem_map, List.mem_range] at hi
  obtain ⟨k, hk, rfl⟩ := hi
  have hr : rules.getD (Int.ofNat k).toNat [] = rules[k] := by simp [List.getD, hk]
  have hmem := List.getElem_mem hk
  have hlen := hl _ hmem
  have hat : ∀ j (h1 : j < rules[k].length), atS (rules.getD (Int.ofNat k).toNat []) [Int.ofNat j] = some rules[k][j] := fun j h1 => by rw [hr]; exact atS_one (List.getElem?_eq_getElem h1)
  have hre : ∀ j (h1 : j < args.length), reachS args [Int.ofNat j] = some args[j] := fun j h1 => by simp [reachS, h1]
  constructor
  · intro p hp
    simp only [firstP, List.mem_map, List.mem_range] at hp
    obtain ⟨j, hj, rfl⟩ := hp
    exact ⟨_, _, hat j (by omega), hre j (by omega), hg _ hmem _ (List.getElem_mem _), ht _ (List.getElem_mem _)⟩
  · unfold mi
    rw [hr, allS_iff (by omega)]
    constructor
    · intro h p hp e t he hte
      simp only [firstP, List.mem_map, List.mem_range] at hp
      obtain ⟨j, hj, rfl⟩ := hp
      rw [hat j (by omega)] at he
      rw [hre j (by omega)] at hte
      obtain rfl := Option.some.inj he
      obtain rfl := Option.some.inj hte
      exact h j (by omega) (by omega)
    · intro h j h1 h2
      exact h [Int.ofNat j] (by simp only [firstP, List.mem_map, List.mem_range]; exact ⟨j, by omega, rfl⟩) _ _ (hat j h1) (hre j h2)
end Go.Proofs.Ytnaakhnmbckpmaa.Pats
