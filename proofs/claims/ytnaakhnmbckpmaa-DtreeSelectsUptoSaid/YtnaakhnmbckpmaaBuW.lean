/- Contract: the builder's build, by that of its branch. -/
import Derived.Test.YtnaakhnmbckpmaaBuR
namespace Go.Proofs.Ytnaakhnmbckpmaa.Pats
open Go.ChangeShapes Go.WideShapes Go.ChangeAt Go.RowKit Go.Proofs.Ytnaakhnmbckpmaa.Lift Go.Proofs.Ytnaakhnmbckpmaa.Data Go.Proofs.Ytnaakhnmbckpmaa.Refs Go.Proofs.Ytnaakhnmbckpmaa.Strs
set_option linter.unusedVariables false
set_option linter.unusedSimpArgs false
/-- the builder's own. -/
def BIn (S : Nat → Bool) (w : World) (mv rv : Value) (makers : List ByteArray) (rules : List (List Ex)) : Prop := StrSl (part w S) mv makers ∧ RS (part w S) rv rules ∧ ∀ l ∈ rules, ExSize l ≤ 200
theorem BIn.sub {S S' : Nat → Bool} {w w' : World} {mv rv : Value} {makers : List ByteArray} {rules : List (List Ex)} (h : BIn S w mv rv makers rules) (g : Data.Sub (part w S) (part w' S')) : BIn S' w' mv rv makers rules := ⟨Data.StrSl.sub h.1 g, h.2.1.sub g, h.2.2⟩
def Bnd (rules : List (List Ex)) (ss : List Int) (pl : List (List Int)) : Prop := InR rules.length ss ∧ pl.length + 200 * mu rules pl ss ≤ 4000000 ∧ (∀ p ∈ pl, p.length + mu rules pl ss ≤ 4000000)
theorem Bnd.less {rules : List (List Ex)} {ss ss' : List Int} {pl : List (List Int)} (h : Bnd rules ss pl) (hs : ∀ i ∈ ss', i ∈ ss) (hm : mu rules pl ss' ≤ mu rules pl ss) : Bnd rules ss' pl :=
  ⟨fun i hi => h.1 i (hs i hi), by have := h.2.1; omega, fun p hp => by have := h.2.2 p hp; omega⟩
def BuildOk (N : Nat) : Prop := ∀ (S : Nat → Bool) (w : World) (mv rv sv lv : Value) (makers : List ByteArray) (rules : List (List Ex)) (ss : List Int) (pl : List (List Int)), mu rules pl ss < N → BIn S w mv rv makers rules → IS (part w S) sv ss → PS (part w S) lv pl → Bnd rules ss pl →
  Calls Try.prog 63 #[.agg #[mv, rv], sv, lv] w (TreeRes S (BuildR makers rules ss pl) w)
def BranchOk (N : Nat) : Prop := ∀ (S : Nat → Bool) (w : World) (mv rv sv lv : Value) (makers : List ByteArray) (rules : List (List Ex)) (ss : List Int) (pl : List (List Int)) (at_ : Nat), mu rules pl ss ≤ N → BIn S w mv rv makers rules → IS (part w S) sv ss → PS (part w S) lv pl → Bnd rules ss pl →
  at_ < pl.length → allDem rules ss (pl.getD at_ []) = true →
  Calls Try.prog 81 #[.agg #[mv, rv], sv, lv, .int .i64 at_] w (TreeRes S (fun T => ∃ cs, T = .mk 0 false 2 0 (pl.getD at_ []) cs ∧ BranchR makers rules ss pl at_ cs) w)
/-- a tree that a call made, behind stores into one block of this call's own. -/
theorem sub_res {S : Nat → Bool} {n hi m R : Nat} {w2 w3 : World} (hh : ∀ b, b ≠ R → w3.heap[b]? = w2.heap[b]?) (h1 : n ≤ R) (h2 : R < hi) (h3 : hi ≤ m) : Data.Sub (part w2 (gap (gap S n hi) m m)) (part w3 (gap S n n)) := by
  refine sub_part fun b _ hs => ?_
  rcases gap_iff.1 hs with ⟨h4, _⟩ | h4
  · rcases gap_iff.1 h4 with ⟨h5, h6⟩ | h5
    · exact ⟨gap_iff.2 (.inl ⟨h5, h6⟩), hh b (by omega)⟩
    · exact ⟨gap_iff.2 (.inr (by omega)), hh b (by omega)⟩
  · exact ⟨gap_iff.2 (.inr (by omega)), hh b (by omega)⟩
/-- a tree that a call made, in a later part. -/
theorem sub_keep {S : Nat → Bool} {n hi m : Nat} {w2 w3 : World} (hb : Below w2.heap.size w2 w3) (h3 : hi ≤ m) : Data.Sub (part w2 (gap (gap S n hi) m m)) (part w3 (gap S n hi)) := by
  refine sub_part fun b hbl hs => ?_
  rcases gap_iff.1 hs with ⟨h4, _⟩ | h4
  · exact ⟨h4, hb.block b hbl⟩
  · exact ⟨gap_iff.2 (.inr (by omega)), hb.block b hbl⟩
theorem four {w W : World} {a b c d : Obj} (h : W = (((w.alloc a).alloc b).alloc c).alloc d) : W.heap[w.heap.size]? = some a ∧ W.heap[w.heap.size + 1]? = some b ∧ W.heap[w.heap.size + 1 + 1]? = some c ∧ W.heap[w.heap.size + 1 + 1 + 1]? = some d ∧ W.heap.size = w.heap.size + 4 ∧ Below w.heap.size w W := by
  subst h
  refine ⟨?_, ?_, ?_, ?_, by simp, ((below2 w _ _).alloc (by simp; omega) _).alloc (by simp; omega) _⟩
  · rw [heap_alloc_old _ _ (by simp; omega), heap_alloc_old _ _ (by simp; try omega), heap_alloc_old _ _ (by simp)]; exact heap_alloc_new w a
  · rw [heap_alloc_old _ _ (by simp; try omega), heap_alloc_old _ _ (by simp)]; have := heap_alloc_new (w.alloc a) b; rw [World.size_alloc] at this; exact this
  · rw [heap_alloc_old _ _ (by simp)]; have := heap_alloc_new ((w.alloc a).alloc b) c; simp only [World.size_alloc] at this; exact this
  · have := heap_alloc_new (((w.alloc a).alloc b).alloc c) d; simp only [World.size_alloc] at this; exact this
theorem idxB_cases {α : Type} (f : α → Bool) (ys : List α) : (∃ k, ∃ hk : k < ys.length, f ys[k] = true ∧ idxB f ys = k) ∨ ((∀ j (hj : j < ys.length), f ys[j] = false) ∧ idxB f ys = -1) := by
  by_cases h : ∃ k, ∃ hk : k < ys.length, f ys[k] = true ∧ ∀ j (hj : j < ys.length), j < k → f ys[j] = false
  · obtain ⟨k, hk, h1, h2⟩ := h
    exact .inl ⟨k, hk, h1, idxB_hit hk h1 h2⟩
  · have hall : ∀ j (hj : j < ys.length), f ys[j] = false := by
      intro j
      induction j using Nat.strongRecOn with
      | _ j ih =>
        intro hj
        cases hf : f ys[j] with
        | false => rfl
        | true => exact absurd ⟨j, hj, hf, fun q hq hlt => ih q hlt hq⟩ h
    exact .inr ⟨hall, idxB_miss hall⟩
theorem tr_leaf (w : World) (k r : Int) : (Ct.mk 0 false k r [] []).Tr w (.agg #[.int .i64 k, .int .i64 r, .slice none 0 0, .slice none 0 0]) :=
  ⟨none, 0, .slice none 0 0, rfl, IS.nil _, ⟨by simp, by omega, by simp, fun _ => rfl⟩, .inl rfl⟩
theorem setCell4 {w : World} {R : Nat} {u0 u1 u2 u3 : Value} : ∀ b, b ≠ R → ((((w.setCell ⟨R, 0, none⟩ u0).setCell ⟨R, 1, none⟩ u1).setCell ⟨R, 2, none⟩ u2).setCell ⟨R, 3, none⟩ u3).heap[b]? = w.heap[b]? := by
  intro b hb
  iterate 4 rw [Below.heap_setCell _ _ _ _ hb]
theorem setCell4_keep {w : World} {R b o : Nat} {u0 u1 u2 u3 v : Value} (hb : b ≠ R) (h : w.cell? ⟨b, o, none⟩ = some v) : ((((w.setCell ⟨R, 0, none⟩ u0).setCell ⟨R, 1, none⟩ u1).setCell ⟨R, 2, none⟩ u2).setCell ⟨R, 3, none⟩ u3).cell? ⟨b, o, none⟩ = some v := by
  unfold World.cell? at h ⊢
  simp only at h ⊢
  rw [setCell4 b hb]
  exact h
theorem below_setCell4 {B : Nat} {a w : World} {R : Nat} {u0 u1 u2 u3 : Value} (h : Below B a w) (hB : B ≤ R) : Below B a ((((w.setCell ⟨R, 0, none⟩ u0).setCell ⟨R, 1, none⟩ u1).setCell ⟨R, 2, none⟩ u2).setCell ⟨R, 3, none⟩ u3) := by
  iterate 4 refine Below.setCell ?_ hB _
  exact h
set_option maxRecDepth 100000 in
set_option maxHeartbeats 4000000 in
theorem build_step (N : Nat) (ih : BuildOk N) (hbr : BranchOk N) : BuildOk (N + 1) := by
  intro S w mv rv sv lv makers rules ss pl hN hB hs hp hbnd
  have HS := Lib.hid hs
  have HP := Lib.hid hp
  have HB := Lib.hid hB
  obtain ⟨As, caps, rfl, s1, s2, s3, s4, s5⟩ := hs
  obtain ⟨Al, capl, xl, rfl, l1, l2, l3, l4, l5, l6⟩ := hp
  obtain ⟨hM, hR, -⟩ := hB
  obtain ⟨Am, capm, rfl, -⟩ := hM
  obtain ⟨Ar, capr, xr, rfl, -⟩ := hR
  go_enter Try.func63, Try.ntmps63
  cases ss with
  | nil =>
    clear ih hbr
    go_wp2_with fail
    refine bodyPost_ret (v := .agg #[.int .i64 0, .int .i64 0, .slice none 0 0, .slice none 0 0]) (by simp [results, Try.results63, go_sem]) rfl ?_
    exact ⟨failT, _, rfl, BuildR.nil _, tr_leaf _ 0 0, ((below2 w _ _).alloc (by simp; omega) _).alloc (by simp; omega) _⟩
  | cons s0 r =>
    have hir : InR rules.length (s0 :: r) := hbnd.1
    have hr0 : ((r.length : Int) + 1 == 0) = false := by rw [beq_eq_false_iff_ne]; omega
    generalize hW0 : ((((w.alloc (.cells #[.slice Am makers.length capm, .slice Ar rules.length capr] 98)).alloc (.cells #[.slice As (s0 :: r).length caps] 58)).alloc (.cells #[.slice Al pl.length capl] 56)).alloc (.cells #[.int .i64 0, .int .i64 0, .slice none 0 0, .slice none 0 0] 74)) = W0
    obtain ⟨f0, f1, f2, f3, hz0, hb0⟩ := four hW0.symm
    rw [List.length_cons] at hW0
    have HW0 := Lib.hid hW0
    clear hW0
    have hsub0 : Data.Sub (part w S) W0 := (sub_below hb0).trans (sub_part_of _ _)
    have hR0 := HB.out.2.1.sub hsub0
    have hS0 := HS.out.sub hsub0
    have hP0 := HP.out.sub hsub0
    have HI1 := Lib.hid (index80_76 (allDem rules (s0 :: r)) (.pointer (some ⟨w.heap.size + 1, 0, none⟩)) (.pointer (some ⟨w.heap.size, 0, none⟩)) W0 pl _ hP0 (fun j hj z a ha hz => clo76 W0 z _ _ a _ rules (s0 :: r) pl[j] w.heap.size (w.heap.size + 1) hR0 hir ha hS0 (Sub.of_below hz) ((hz.block _ (by omega)).trans f0) ((hz.block _ (by omega)).trans f1)))
    rw [List.length_cons] at *
    have c2 := cell1of f2
    have hib : s0 :: r ≠ [] := by simp
    go_wp2_with fail
    rw [HW0.out]
    clear HW0
    refine HI1.out.mono ?_
    rintro _ w1 ⟨rfl, hb1⟩
    have hbw1 := hb0.thenCall hb0.size hb1
    have hz1 := hb1.size
    have hl0 : w.heap.size < w1.heap.size := by omega
    have hl1 : w.heap.size + 1 < w1.heap.size := by omega
    have hl2 : w.heap.size + 1 + 1 < w1.heap.size := by omega
    have hl3 : w.heap.size + 1 + 1 + 1 < w1.heap.size := by omega
    have g0 := (hb1.block _ (by omega)).trans f0
    have g1 := (hb1.block _ (by omega)).trans f1
    have g2 := (hb1.block _ (by omega)).trans f2
    have g3 := (hb1.block _ (by omega)).trans f3
    obtain ⟨b0, b1⟩ := cell2of g0
    have b2 := cell1of g1
    have b3 := cell1of g2
    obtain ⟨q0, q1, q2, q3, z0, z1, z2, z3⟩ := row4f g3
    have hin : Data.Sub (part w S) (part w1 (gap S w.heap.size (w.heap.size + 4))) := sub_gap hbw1
    rcases idxB_cases (allDem rules (s0 :: r)) pl with ⟨at_, hat, hall, hidx⟩ | ⟨hno, hidx⟩
    · rw [hidx]
      have hgd : pl.getD at_ [] = pl[at_] := by simp [List.getD, List.getElem?_eq_getElem hat]
      have HC := Lib.hid (hbr (gap S w.heap.size (w.heap.size + 4)) w1 _ _ _ _ makers rules (s0 :: r) pl at_ (by omega) (HB.out.sub hin) (HS.out.sub hin) (HP.out.sub hin) hbnd hat (by rw [hgd]; exact hall))
      clear ih hbr HI1 hidx
      go_wp2_with fail
      refine HC.out.mono ?_
      rintro _ w2 ⟨T, v, rfl, ⟨cs, rfl, hT⟩, hTr, hb2⟩
      obtain ⟨Ap, lp, cp, A, cap, rfl⟩ := hTr.form
      simp only [Ct.kind, Ct.rule, Ct.cs] at hTr ⊢
      obtain ⟨q0, q1, q2, q3, z0, z1, z2, z3⟩ := row4f ((hb2.block _ hl3).trans g3)
      have hbw2 := hbw1.thenCall hbw1.size hb2
      clear b0 b1 b2 b3 g0 g1 g2 g3
      go_wp2_with fail
      refine bodyPost_ret (v := .agg #[.int .i64 2, .int .i64 0, .slice Ap lp cp, .slice A cs.length cap]) (by simp [results, Try.results63, go_sem, q0, q1, q2, q3]) rfl ?_
      exact ⟨_, _, rfl, BuildR.branch _ _ _ _ hib hat (by rw [hgd]; exact hall) hT, hTr.sub (sub_res (R := w.heap.size + 1 + 1 + 1) setCell4 (by omega) (by omega) (by omega)), below_setCell4 hbw2 (by omega)⟩
    · rw [hidx]
      have hS1 := hS0.sub (Sub.of_below hb1)
      have hR1 := hR0.sub (Sub.of_below hb1)
      have hP1 := hP0.sub (Sub.of_below hb1)
      have hi0 := hir s0 (List.mem_cons_self ..)
      have HI2 := Lib.hid (index80_82 (fun p => demI rules p s0) (.pointer (some ⟨w.heap.size, 0, none⟩)) (.pointer (some ⟨w.heap.size + 1, 0, none⟩)) w1 pl _ hP1 (fun j hj z a ha hz => clo82 w1 z _ _ a _ rules s0 r pl[j] w.heap.size (w.heap.size + 1) hR1 hi0 ha hS1 (Sub.of_below hz) ((hz.block _ hl0).trans g0) ((hz.block _ hl1).trans g1)))
      clear HI1 hidx
      go_wp2_with fail
      refine HI2.out.mono ?_
      rintro _ w2 ⟨rfl, hb2⟩
      have hbw2 := hbw1.thenCall hbw1.size hb2
      have hz2 := hb2.size
      have hm0 : w.heap.size < w2.heap.size := by omega
      have hm1 : w.heap.size + 1 < w2.heap.size := by omega
      have hm2 : w.heap.size + 1 + 1 < w2.heap.size := by omega
      have hm3 : w.heap.size + 1 + 1 + 1 < w2.heap.size := by omega
      have g0 := (hb2.block _ hl0).trans g0
      have g1 := (hb2.block _ hl1).trans g1
      have g2 := (hb2.block _ hl2).trans g2
      have g3 := (hb2.block _ hl3).trans g3
      clear b0 b1 b2 b3 q0 q1 q2 q3 z0 z1 z2 z3
      obtain ⟨b0, b1⟩ := cell2of g0
      have b2 := cell1of g1
      have b3 := cell1of g2
      obtain ⟨q0, q1, q2, q3, z0, z1, z2, z3⟩ := row4f g3
      have hib2 : (s0 :: r).head? = some s0 := rfl
      have HE : ∀ (w' : World), Below w2.heap.size w2 w' → Data.Sub (part w S) (part w' (gap S w.heap.size (w.heap.size + 4))) := fun w' h => sub_gap (hbw2.thenCall hbw2.size h)
      rcases idxB_cases (fun p => demI rules p s0) pl with ⟨at_, hat, hdem, hidx⟩ | ⟨hno2, hidx⟩
      · rw [hidx]
        have hgd : pl.getD at_ [] = pl[at_] := by simp [List.getD, List.getElem?_eq_getElem hat]
        have hpos : (0 : Int) ≤ at_ := by omega
        have hall2 : ∀ p ∈ pl, allDem rules (s0 :: r) p = false := fun p hp => by
          obtain ⟨j, hj, rfl⟩ := List.mem_iff_getElem.1 hp
          exact hno j hj
        have hV := below1 w2 (.cells #[.int .i64 at_] 3)
        have hx := heap_alloc_new w2 (.cells #[.int .i64 at_] 3)
        have hVs : (w2.alloc (.cells #[.int .i64 at_] 3)).heap.size = w2.heap.size + 1 := by simp
        clear HI2 hidx hbr
        go_wp2_with fail
        generalize w2.alloc (.cells #[.int .i64 at_] 3) = V at *
        have hsV : Data.Sub w1 V := (Sub.of_below hb2).then hV
        have hSp := split_84 (demI rules pl[at_]) (.pointer (some ⟨w.heap.size, 0, none⟩)) (.pointer (some ⟨w.heap.size + 1 + 1, 0, none⟩)) (.pointer (some ⟨w2.heap.size, 0, none⟩)) V (s0 :: r) _ (hS1.sub hsV)
          (fun j hj z hz => clo84 V z _ _ _ rules (s0 :: r)[j] at_ pl w.heap.size (w.heap.size + 1 + 1) w2.heap.size (hR1.sub hsV) (hir _ (List.getElem_mem hj)) (hP1.sub hsV) hat (Sub.of_below hz) ((hz.block _ (by omega)).trans ((hV.block _ hm0).trans g0)) ((hz.block _ (by omega)).trans ((hV.block _ hm2).trans g2)) ((hz.block _ (by omega)).trans hx))
        have HSp := Lib.hid hSp
        clear hSp
        refine HSp.out.mono ?_
        rintro _ w3 ⟨va, vb, rfl, hown, hoth, hb3⟩
        have hf0 : demI rules pl[at_] s0 = true := hdem
        have hmuO : mu rules pl ((s0 :: r).filter (demI rules pl[at_])) < N := by
          have h1 := hall2 pl[at_] (List.getElem_mem hat)
          rw [allDem, List.all_eq_false] at h1
          obtain ⟨x, hx1, hx2⟩ := h1
          have := mu_filter_lt rules pl (demI rules pl[at_]) (ss := s0 :: r) ⟨x, hx1, by simpa using hx2⟩
          omega
        have hmuB : mu rules pl ((s0 :: r).filter (fun x => !demI rules pl[at_] x)) < N := by
          have := mu_filter_lt rules pl (fun x => !demI rules pl[at_] x) (ss := s0 :: r) ⟨s0, List.mem_cons_self .., by simp [hf0]⟩
          omega
        have hbO : Bnd rules ((s0 :: r).filter (demI rules pl[at_])) pl := hbnd.less (fun i hi => (List.mem_filter.1 hi).1) (mu_filter ..)
        have hbB : Bnd rules ((s0 :: r).filter (fun x => !demI rules pl[at_] x)) pl := hbnd.less (fun i hi => (List.mem_filter.1 hi).1) (mu_filter ..)
        have hlO : ((s0 :: r).filter (demI rules pl[at_])).length ≤ 4194304 := Nat.le_trans (List.length_filter_le _ _) (by simpa using s3)
        have hlB : ((s0 :: r).filter (fun x => !demI rules pl[at_] x)).length ≤ 4194304 := Nat.le_trans (List.length_filter_le _ _) (by simpa using s3)
        have HFin : Hid (∀ a b, BuildR makers rules ((s0 :: r).filter (demI rules pl[at_])) pl a → BuildR makers rules ((s0 :: r).filter (fun x => !demI rules pl[at_] x)) pl b → BuildR makers rules (s0 :: r) pl (orT a b)) := Lib.hid (fun a b ha hb => BuildR.split _ _ at_ s0 a b hib2 hat hall2 (by rw [hgd]; exact hf0) (by rw [hgd]; exact ha) (by rw [hgd]; exact hb))
        generalize (s0 :: r).filter (demI rules pl[at_]) = own at *
        generalize (s0 :: r).filter (fun x => !demI rules pl[at_] x) = oth at *
        have hbl3 : Below w2.heap.size w2 w3 := hV.trans (hb3.mono (by omega))
        have hz3 := hbl3.size
        have hg4 : ∀ k, V.heap.size ≤ k → gap S w.heap.size (w.heap.size + 4) k = true := fun k hk => gap_iff.2 (.inr (by omega))
        have hisO := (IS_part hown hlO hg4).sub (sub_below ((Below.refl w3.heap.size w3).drew))
        have hisB := fun (W : World) (h : Below w3.heap.size w3 W) => (IS_part hoth hlB hg4).sub (sub_below h)
        have HA := Lib.hid (ih (gap S w.heap.size (w.heap.size + 4)) w3.drew _ _ _ _ makers rules own pl hmuO (HB.out.sub (HE _ hbl3.drew)) hisO (HP.out.sub (HE _ hbl3.drew)) hbO)
        have HB2 := fun (W : World) (h : Below w3.heap.size w3 W) => Lib.hid (ih (gap S w.heap.size (w.heap.size + 4)) W _ _ _ _ makers rules oth pl hmuB (HB.out.sub (HE _ (hbl3.trans (h.mono hbl3.size)))) (hisB W h) (HP.out.sub (HE _ (hbl3.trans (h.mono hbl3.size)))) hbB)
        obtain ⟨Aa, ca, rfl, -, -⟩ := own_form hown
        obtain ⟨Ab, cb, rfl, -, -⟩ := own_form hoth
        have c0 := cellB hbl3 (Nat.le_refl _) b0
        have c1 := cellB hbl3 (Nat.le_refl _) b1
        have c2 := cellB hbl3 (Nat.le_refl _) b3
        have hg6 := (hbl3.block _ hm3).trans g3
        have hu0 : w.heap.size < w3.heap.size := by omega
        have hu2 : w.heap.size + 1 + 1 < w3.heap.size := by omega
        have hu3 : w.heap.size + 1 + 1 + 1 < w3.heap.size := by omega
        have hge3 : w.heap.size + 4 ≤ w3.heap.size := by omega
        have n0 : w.heap.size ≠ w.heap.size + 1 + 1 + 1 := by omega
        have n2 : w.heap.size + 1 + 1 ≠ w.heap.size + 1 + 1 + 1 := by omega
        have hbw3 := hbw2.thenCall hbw2.size hbl3
        clear b0 b1 b2 b3 q0 q1 q2 q3 z0 z1 z2 z3 hisO hisB hown hoth hmuO hmuB hbO hbB HSp HB HS HP HE hS0 hR0 hP0 hS1 hR1 hP1 ih hx hg4 hsV hV
        go_wp2_with fail
        go_region_held3 (fun w' => w'.cell? ⟨w.heap.size, 0, none⟩ = some (.slice Am makers.length capm) ∧ w'.cell? ⟨w.heap.size, 1, none⟩ = some (.slice Ar rules.length capr) ∧ w'.cell? ⟨w.heap.size + 1 + 1, 0, none⟩ = some (.slice Al pl.length capl))
          (first | with_reducible exact ⟨setCell4_keep n0 p0, setCell4_keep n0 p1, setCell4_keep n2 p2⟩ | with_reducible exact ⟨p0, p1, p2⟩ | with_reducible exact ⟨m0, m1, m2⟩ | with_reducible exact ⟨k0, k1, k2⟩ | with_reducible exact ⟨c0, c1, c2⟩ | exact ⟨c0, c1, c2⟩ | go_keep)
          (first | (go_at_call 63; refine HA.out.mono ?_; clear HA; rintro _ w4 ⟨Ta, ua, rfl, hTa, hTra, hb4⟩; have hbW : Below w3.heap.size w3 w4 := ((Below.refl _ _).drew).trans hb4; have k0 := (hbW.cell (p := ⟨w.heap.size, 0, none⟩) hu0).trans c0; have k1 := (hbW.cell (p := ⟨w.heap.size, 1, none⟩) hu0).trans c1; have k2 := (hbW.cell (p := ⟨w.heap.size + 1 + 1, 0, none⟩) hu2).trans c2; have HBx := HB2 w4 hbW; clear HB2; obtain ⟨Ap, lp, cp, A, cap, rfl⟩ := hTra.form) | (go_at_call 63; refine HBx.out.mono ?_; clear HBx; rintro _ w5 ⟨Tb, ub, rfl, hTb, hTrb, hb5⟩; have hbW2 : Below w3.heap.size w3 w5 := hbW.thenCall hbW.size hb5; have m0 := (hbW2.cell (p := ⟨w.heap.size, 0, none⟩) hu0).trans c0; have m1 := (hbW2.cell (p := ⟨w.heap.size, 1, none⟩) hu0).trans c1; have m2 := (hbW2.cell (p := ⟨w.heap.size + 1 + 1, 0, none⟩) hu2).trans c2; obtain ⟨Bp, mp, dp, B, cbp, rfl⟩ := hTrb.form; have HO := Lib.hid (or_any w5 (gap S w.heap.size (w.heap.size + 4)) _ _ Ta Tb (hTra.sub (sub_keep hb5 (show w.heap.size + 4 ≤ w3.drew.heap.size from hge3))) (hTrb.sub (sub_keep (Below.refl _ _) (Nat.le_trans hge3 hbW.size))))) | (go_at_call 85; refine HO.out.mono ?_; clear HO; rintro _ w6 ⟨T2, v2, rfl, hT2, hTr2, hb6⟩; have HT2 := Lib.hid hT2; clear hT2; have hbW3 : Below w3.heap.size w3 w6 := hbW2.thenCall hbW2.size hb6; have p0 := (hbW3.cell (p := ⟨w.heap.size, 0, none⟩) hu0).trans c0; have p1 := (hbW3.cell (p := ⟨w.heap.size, 1, none⟩) hu0).trans c1; have p2 := (hbW3.cell (p := ⟨w.heap.size + 1 + 1, 0, none⟩) hu2).trans c2; obtain ⟨Cp, np, ep, C, ccp, rfl⟩ := hTr2.form; obtain ⟨q0, q1, q2, q3, z0, z1, z2, z3⟩ := row4f ((hbW3.block _ hu3).trans hg6)))
        have hbw6 := hbw3.thenCall hbw3.size hbW3
        have hz5 := hbW2.size
        go_wp2_with fail
        refine bodyPost_ret (v := .agg #[.int .i64 T2.kind, .int .i64 T2.rule, .slice Cp np ep, .slice C T2.cs.length ccp]) (by simp [results, Try.results63, go_sem, q0, q1, q2, q3]) rfl ?_
        exact ⟨T2, _, rfl, HT2.out ▸ HFin.out Ta Tb hTa hTb, hTr2.sub (sub_res (R := w.heap.size + 1 + 1 + 1) setCell4 (by omega) (by omega) (by omega)), below_setCell4 hbw6 (by omega)⟩
      · rw [hidx]
        have hno3 : ∀ p ∈ pl, demI rules p s0 = false := fun p hp => by
          obtain ⟨j, hj, rfl⟩ := List.mem_iff_getElem.1 hp
          exact hno2 j hj
        obtain ⟨bs, os, rfl, hbs, hcs⟩ := IS_cell (l := s0 :: r) s5 0 (by simp)
        have hcs' := hcs
        have hcs2 := (sub_below hbw2).trans (sub_part_of w2 S) _ _ _ hcs
        have hbs2 := World.block_lt_of_cell? _ _ hcs2
        simp only [List.getElem_cons_zero, Nat.add_zero] at hcs2 hbs2
        have hx1 : (0 : Int) < (r.length : Int) + 1 := by omega
        clear HI2 hidx hbr hno2
        have hm3s : ∀ u0 u1 u2 u3, w.heap.size ≤ ((((w2.setCell ⟨w.heap.size + 1 + 1 + 1, 0, none⟩ u0).setCell ⟨w.heap.size + 1 + 1 + 1, 1, none⟩ u1).setCell ⟨w.heap.size + 1 + 1 + 1, 2, none⟩ u2).setCell ⟨w.heap.size + 1 + 1 + 1, 3, none⟩ u3).heap.size := fun _ _ _ _ => by simp [World.setCell]; omega
        have hm3b : w.heap.size + 1 + 1 + 1 < w2.heap.size + 1 := by omega
        by_cases hr : r = []
        · subst hr
          clear ih
          simp only [List.length_nil, Nat.zero_add] at *
          go_wp2_with fail
          refine bodyPost_ret (v := .agg #[.int .i64 1, .int .i64 s0, .slice none 0 0, .slice none 0 0]) (by simp [results, Try.results63, go_sem, q0, q1, q2, q3, hm3, hm3b]) rfl ⟨leafT s0, _, rfl, BuildR.leaf _ _ hno3, tr_leaf _ 1 s0, ?_⟩
          exact ((below_setCell4 hbw2 (by omega)).alloc (hm3s _ _ _ _) _).alloc (by simp only [World.size_alloc]; have := hm3s (.int .i64 1) (.int .i64 s0) (.slice none 0 0) (.slice none 0 0); omega) _
        · have hr1 : 0 < r.length := List.length_pos_iff.2 hr
          have hne1 : ((r.length : Int) + 1 == 1) = false := by rw [beq_eq_false_iff_ne]; omega
          have hx2 : (1 : Int) ≤ (r.length : Int) + 1 := by omega
          have hcap : ¬ caps = 1 := by omega
          have hc1 : ¬ caps < r.length + 1 := by omega
          have hist := IS_tail (r := r) s1 s2 s3 s5
          rw [if_neg hcap] at hist
          have hmu : mu rules pl r < N := by simp only [mu] at hN; omega
          have hbnd2 : Bnd rules r pl := hbnd.less (fun i hi => List.mem_cons_of_mem _ hi) (by simp only [mu]; omega)
          have HI3 := fun (W : World) (h : Below w2.heap.size w2 W) => Lib.hid (ih (gap S w.heap.size (w.heap.size + 4)) W _ _ _ _ makers rules r pl hmu (HB.out.sub (HE W h)) (hist.sub (HE W h)) (HP.out.sub (HE W h)) hbnd2)
          have hV : ∀ o1 o2, Below w2.heap.size w2 ((w2.alloc o1).alloc o2) := fun o1 o2 => below2 w2 o1 o2
          have hL := heap2 w2 (.cells #[.int .i64 (-1)] 3) #[.int .i64 1, .int .i64 s0, .slice none 0 0, .slice none 0 0] 74
          clear ih hist s5 hcs hcs2 hbs2 b0 b1 b2 b3 q0 q1 q2 q3 z0 z1 z2 z3
          obtain ⟨b0, b1⟩ := cell2of g0
          have b2 := cell1of g1
          have b3 := cell1of g2
          have hcs2 := (sub_below hbw2).trans (sub_part_of w2 S) _ _ _ hcs'
          simp only [List.getElem_cons_zero, Nat.add_zero] at hcs2
          have hbs2 := World.block_lt_of_cell? _ _ hcs2
          simp only at hbs2
          go_wp2_with fail
          have hVs : ((w2.alloc (.cells #[.int .i64 (-1)] 3)).alloc (.cells #[.int .i64 1, .int .i64 s0, .slice none 0 0, .slice none 0 0] 74)).heap.size = w2.heap.size + 2 := by simp
          have hVb := hV (.cells #[.int .i64 (-1)] 3) (.cells #[.int .i64 1, .int .i64 s0, .slice none 0 0, .slice none 0 0] 74)
          generalize ((w2.alloc (.cells #[.int .i64 (-1)] 3)).alloc (.cells #[.int .i64 1, .int .i64 s0, .slice none 0 0, .slice none 0 0] 74)) = V at *
          obtain ⟨e0, e1, e2, e3⟩ := row4 hL
          have d0 := cellB hVb (Nat.le_refl _) b0
          have d1 := cellB hVb (Nat.le_refl _) b1
          have d2 := cellB hVb (Nat.le_refl _) b2
          have d3 := cellB hVb (Nat.le_refl _) b3
          have hg6 := (hVb.block _ hm3).trans g3
          have hv0 : w.heap.size < V.heap.size := by omega
          have hv1 : w.heap.size + 1 < V.heap.size := by omega
          have hv2 : w.heap.size + 1 + 1 < V.heap.size := by omega
          have hv3 : w.heap.size + 1 + 1 + 1 < V.heap.size := by omega
          have hv4 : w2.heap.size + 1 < V.heap.size := by omega
          have hn1 : ¬ w.heap.size + 1 + 1 + 1 = w2.heap.size + 1 := by omega
          have hn2 : ¬ w2.heap.size + 1 = w.heap.size + 1 + 1 + 1 := by omega
          have hn3 : ¬ w.heap.size + 1 + 1 = w2.heap.size := by omega
          have hn4 : ¬ w2.heap.size = w.heap.size + 1 + 1 := by omega
          have n13 : w2.heap.size + 1 ≠ w.heap.size + 1 + 1 + 1 := by omega
          have n0 : w.heap.size ≠ w.heap.size + 1 + 1 + 1 := by omega
          have n1 : w.heap.size + 1 ≠ w.heap.size + 1 + 1 + 1 := by omega
          have n2 : w.heap.size + 1 + 1 ≠ w.heap.size + 1 + 1 + 1 := by omega
          have HC := HI3 V.drew hVb.drew
          have hbwV := hbw2.thenCall hbw2.size hVb
          clear b0 b1 b2 b3 HI3 hcs2 hbs2 hL hm3s
          go_region_held3 (fun w' => w'.cell? ⟨w2.heap.size + 1, 0, none⟩ = some (.int .i64 1) ∧ w'.cell? ⟨w2.heap.size + 1, 1, none⟩ = some (.int .i64 s0) ∧ w'.cell? ⟨w2.heap.size + 1, 2, none⟩ = some (.slice none 0 0) ∧ w'.cell? ⟨w2.heap.size + 1, 3, none⟩ = some (.slice none 0 0) ∧ w'.cell? ⟨w.heap.size, 0, none⟩ = some (.slice Am makers.length capm) ∧ w'.cell? ⟨w.heap.size, 1, none⟩ = some (.slice Ar rules.length capr) ∧ w'.cell? ⟨w.heap.size + 1, 0, none⟩ = some (.slice (some ⟨bs, os, none⟩) (r.length + 1) caps) ∧ w'.cell? ⟨w.heap.size + 1 + 1, 0, none⟩ = some (.slice Al pl.length capl))
            (first | with_reducible exact ⟨setCell4_keep n13 m0, setCell4_keep n13 m1, setCell4_keep n13 m2, setCell4_keep n13 m3, setCell4_keep n0 m4, setCell4_keep n0 m5, setCell4_keep n1 m6, setCell4_keep n2 m7⟩ | with_reducible exact ⟨m0, m1, m2, m3, m4, m5, m6, m7⟩ | with_reducible exact ⟨k0, k1, k2, k3, k4, k5, k6, k7⟩ | with_reducible exact ⟨e0, e1, e2, e3, d0, d1, d2, d3⟩ | exact ⟨e0, e1, e2, e3, d0, d1, d2, d3⟩ | go_keep)
            (first | (go_at_call 63; refine HC.out.mono ?_; clear HC; rintro _ w3 ⟨T, v, rfl, hT, hTr, hb3⟩; have hbW : Below V.heap.size V w3 := ((Below.refl _ _).drew).trans hb3; have k0 := (hbW.cell (p := ⟨w2.heap.size + 1, 0, none⟩) hv4).trans e0; have k1 := (hbW.cell (p := ⟨w2.heap.size + 1, 1, none⟩) hv4).trans e1; have k2 := (hbW.cell (p := ⟨w2.heap.size + 1, 2, none⟩) hv4).trans e2; have k3 := (hbW.cell (p := ⟨w2.heap.size + 1, 3, none⟩) hv4).trans e3; have k4 := (hbW.cell (p := ⟨w.heap.size, 0, none⟩) hv0).trans d0; have k5 := (hbW.cell (p := ⟨w.heap.size, 1, none⟩) hv0).trans d1; have k6 := (hbW.cell (p := ⟨w.heap.size + 1, 0, none⟩) hv1).trans d2; have k7 := (hbW.cell (p := ⟨w.heap.size + 1 + 1, 0, none⟩) hv2).trans d3; obtain ⟨Ap, lp, cp, A, cap, rfl⟩ := hTr.form; have HO := Lib.hid (or_any w3 (gap S w.heap.size (w.heap.size + 4)) _ _ (leafT s0) T (tr_leaf _ 1 s0) (hTr.sub (sub_keep (Below.refl _ _) (Nat.le_trans (Nat.le_of_eq rfl) (show w.heap.size + 4 ≤ V.drew.heap.size from hv3)))))) | (go_at_call 85; refine HO.out.mono ?_; clear HO; rintro _ w4 ⟨T2, v2, rfl, hT2, hTr2, hb4⟩; have HT2 := Lib.hid hT2; clear hT2; have hbW2 : Below V.heap.size V w4 := hbW.thenCall hbW.size hb4; have m0 := (hbW2.cell (p := ⟨w2.heap.size + 1, 0, none⟩) hv4).trans e0; have m1 := (hbW2.cell (p := ⟨w2.heap.size + 1, 1, none⟩) hv4).trans e1; have m2 := (hbW2.cell (p := ⟨w2.heap.size + 1, 2, none⟩) hv4).trans e2; have m3 := (hbW2.cell (p := ⟨w2.heap.size + 1, 3, none⟩) hv4).trans e3; have m4 := (hbW2.cell (p := ⟨w.heap.size, 0, none⟩) hv0).trans d0; have m5 := (hbW2.cell (p := ⟨w.heap.size, 1, none⟩) hv0).trans d1; have m6 := (hbW2.cell (p := ⟨w.heap.size + 1, 0, none⟩) hv1).trans d2; have m7 := (hbW2.cell (p := ⟨w.heap.size + 1 + 1, 0, none⟩) hv2).trans d3; obtain ⟨Bp, mp, dp, B, cbp, rfl⟩ := hTr2.form; obtain ⟨q0, q1, q2, q3, z0, z1, z2, z3⟩ := row4f ((hbW2.block _ hv3).trans hg6)))
          have hz3 := hbW.size
          have hbw4 := hbwV.thenCall hbwV.size hbW2
          clear HB HS HP
          go_wp2_with fail
          refine bodyPost_ret (v := .agg #[.int .i64 T2.kind, .int .i64 T2.rule, .slice Bp mp dp, .slice B T2.cs.length cbp]) (by simp [results, Try.results63, go_sem, q0, q1, q2, q3]) rfl ?_
          obtain ⟨y1, r1, rfl⟩ := List.exists_cons_of_ne_nil hr
          exact ⟨T2, _, rfl, HT2.out ▸ BuildR.more s0 y1 r1 pl T hno3 hT, hTr2.sub (sub_res (R := w.heap.size + 1 + 1 + 1) setCell4 (by omega) (by omega) (by omega)), below_setCell4 hbw4 (by omega)⟩
end Go.Proofs.Ytnaakhnmbckpmaa.Pats
