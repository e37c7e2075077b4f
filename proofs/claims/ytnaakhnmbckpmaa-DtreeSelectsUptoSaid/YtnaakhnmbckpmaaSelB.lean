/- Contract: dtree.Select. -/
import Derived.Test.YtnaakhnmbckpmaaSelA
import Derived.Test.YtnaakhnmbckpmaaReach
import Derived.Deep.DeepCutAuto
import Derived.Laws.EntriesVeiled
namespace Go.Proofs.Ytnaakhnmbckpmaa.Pats
open Go.ChangeShapes Go.WideShapes Go.ChangeAt Go.RowKit Go.Proofs.Ytnaakhnmbckpmaa.Lift Go.Proofs.Ytnaakhnmbckpmaa.Data Go.Proofs.Ytnaakhnmbckpmaa.Refs Go.Proofs.Ytnaakhnmbckpmaa.Strs
set_option linter.unusedVariables false
set_option linter.unusedSimpArgs false
mutual
/-- what a tree leads to. -/
def selS (mk : List ByteArray) (args : List Tm) : Ct → List Int
  | .mk _ _ k r p cs => if k = 1 then [r] else if k = 3 then selAll mk args cs else if k = 2 then (match reachS args p with | none => [] | some x => selFst mk args x cs) else []
def selAll (mk : List ByteArray) (args : List Tm) : List Ct → List Int
  | [] => []
  | c :: r => selS mk args c ++ selAll mk args r
def selFst (mk : List ByteArray) (args : List Tm) (x : Tm) : List Ct → List Int
  | [] => []
  | c :: r => if fitS mk c x then selS mk args c else selFst mk args x r
end
theorem selAll_append (mk : List ByteArray) (args : List Tm) : ∀ (a b : List Ct), selAll mk args (a ++ b) = selAll mk args a ++ selAll mk args b
  | [], b => by simp [selAll]
  | e :: r, b => by simp [selAll, selAll_append mk args r b]
theorem selFst_hit (mk : List ByteArray) (args : List Tm) (x : Tm) : ∀ {cs : List Ct} {k : Nat} (hk : k < cs.length), fitS mk cs[k] x = true → (∀ j (hj : j < cs.length), j < k → fitS mk cs[j] x = false) → selFst mk args x cs = selS mk args cs[k]
  | [], k, hk, _, _ => by simp at hk
  | c :: r, 0, _, h, _ => by rw [selFst, if_pos (by simpa using h)]; rfl
  | c :: r, k + 1, hk, h, hm => by
    have h0 := hm 0 (by simp) (by omega)
    simp only [List.getElem_cons_zero] at h0
    rw [selFst, h0]
    simp only [Bool.false_eq_true, if_false, List.getElem_cons_succ]
    exact selFst_hit mk args x (by simpa using hk) (by simpa using h) (fun j hj hlt => by have := hm (j + 1) (by simpa using hj) (by omega); simpa using this)
theorem selFst_miss (mk : List ByteArray) (args : List Tm) (x : Tm) : ∀ {cs : List Ct}, (∀ j (hj : j < cs.length), fitS mk cs[j] x = false) → selFst mk args x cs = []
  | [], _ => by rw [selFst]
  | c :: r, hm => by
    have h0 := hm 0 (by simp)
    simp only [List.getElem_cons_zero] at h0
    rw [selFst, h0]
    simp only [Bool.false_eq_true, if_false]
    exact selFst_miss mk args x (fun j hj => by have := hm (j + 1) (by simpa using hj); simpa using this)
theorem idxB_cases2 {α : Type} (f : α → Bool) (ys : List α) : (∃ k, ∃ hk : k < ys.length, f ys[k] = true ∧ (∀ j (hj : j < ys.length), j < k → f ys[j] = false) ∧ idxB f ys = k) ∨ ((∀ j (hj : j < ys.length), f ys[j] = false) ∧ idxB f ys = -1) := by
  by_cases h : ∃ k, ∃ hk : k < ys.length, f ys[k] = true ∧ ∀ j (hj : j < ys.length), j < k → f ys[j] = false
  · obtain ⟨k, hk, h1, h2⟩ := h
    exact .inl ⟨k, hk, h1, h2, idxB_hit hk h1 h2⟩
  · have hall : ∀ j (hj : j < ys.length), f ys[j] = false := by
      intro j
      induction j using Nat.strongRecOn with
      | _ j ih =>
        intro hj
        cases hf : f ys[j] with
        | false => rfl
        | true => exact absurd ⟨j, hj, hf, fun q hq hlt => ih q hlt hq⟩ h
    exact .inr ⟨hall, idxB_miss hall⟩
mutual
theorem sel_le (mk : List ByteArray) (args : List Tm) : ∀ T : Ct, (selS mk args T).length ≤ T.size
  | .mk a b k r p cs => by
    have h1 := selAll_le mk args cs
    rw [selS, Ct.size]
    split
    · simp
    split
    · omega
    split
    · split
      · simp
      · rename_i x _
        have h2 := selFst_le mk args x cs
        omega
    · simp
theorem selAll_le (mk : List ByteArray) (args : List Tm) : ∀ cs : List Ct, (selAll mk args cs).length ≤ CtSize cs
  | [] => by simp [selAll]
  | e :: r => by
    have h1 := sel_le mk args e
    have h2 := selAll_le mk args r
    simp only [selAll, List.length_append, CtSize]
    omega
theorem selFst_le (mk : List ByteArray) (args : List Tm) (x : Tm) : ∀ cs : List Ct, (selFst mk args x cs).length ≤ CtSize cs
  | [] => by simp [selFst]
  | e :: r => by
    have h1 := sel_le mk args e
    have h2 := selFst_le mk args x r
    rw [selFst, CtSize]
    split <;> omega
end
/-- the variables of the closure. -/
structure SelEnv (w : World) (ob db ab mb B : Nat) (argsv mv ov : Value) (acc : List Int) : Prop where
  o : w.heap[ob]? = some (.cells #[ov] 58 (0, 0))
  d : w.heap[db]? = some (.cells #[.func (.func 64) #[] #[.pointer (some ⟨ob, 0, none⟩), .pointer (some ⟨db, 0, none⟩), .pointer (some ⟨ab, 0, none⟩), .pointer (some ⟨mb, 0, none⟩)]] 102 (0, 0))
  a : w.heap[ab]? = some (.cells #[argsv] 27 (0, 0))
  m : w.heap[mb]? = some (.cells #[mv] 51 (0, 0))
  r : w.ownsRow B 3 1 ov acc.length (acc.map (Value.int .i64))
  l : ob < B ∧ db < B ∧ ab < B ∧ mb < B ∧ B ≤ w.heap.size
  n : ob ≠ db ∧ ob ≠ ab ∧ ob ≠ mb
theorem SelEnv.below {w w' : World} {ob db ab mb B : Nat} {argsv mv ov : Value} {acc : List Int} (h : SelEnv w ob db ab mb B argsv mv ov acc) (hb : Below w.heap.size w w') : SelEnv w' ob db ab mb B argsv mv ov acc := by
  obtain ⟨l1, l2, l3, l4, l5⟩ := h.l
  have hz := hb.size
  exact ⟨(hb.block _ (by omega)).trans h.o, (hb.block _ (by omega)).trans h.d, (hb.block _ (by omega)).trans h.a, (hb.block _ (by omega)).trans h.m, own_below h.r hb (Nat.le_refl _), ⟨l1, l2, l3, l4, by omega⟩, h.n⟩
theorem SelEnv.store {w w2 : World} {ob db ab mb B : Nat} {argsv mv ov ov' : Value} {acc acc' : List Int} (h : SelEnv w ob db ab mb B argsv mv ov acc) (hb : Below B w w2) (ho : w2.ownsRow B 3 1 ov' acc'.length (acc'.map (Value.int .i64))) :
    SelEnv (w2.setCell ⟨ob, 0, none⟩ ov') ob db ab mb B argsv mv ov' acc' := by
  obtain ⟨l1, l2, l3, l4, l5⟩ := h.l
  obtain ⟨n1, n2, n3⟩ := h.n
  have hz := hb.size
  refine ⟨one_setCell ((hb.block _ l1).trans h.o), ?_, ?_, ?_, ownsRow_setCell_below ho (a := ⟨ob, 0, none⟩) l1 _, ⟨l1, l2, l3, l4, by simp [World.setCell]; omega⟩, h.n⟩
  · rw [Below.heap_setCell _ _ _ _ (by simp only; omega), hb.block _ l2]; exact h.d
  · rw [Below.heap_setCell _ _ _ _ (by simp only; omega), hb.block _ l3]; exact h.a
  · rw [Below.heap_setCell _ _ _ _ (by simp only; omega), hb.block _ l4]; exact h.m
def SelPost (w0 : World) (ob db ab mb B : Nat) (argsv mv : Value) (acc : List Int) (w : World) (e : Ending) (w' : World) : Prop :=
  (∃ v, e = .returned v) ∧ (∃ ov', SelEnv w' ob db ab mb B argsv mv ov' acc) ∧ Below w0.heap.size w0 w' ∧ w.heap.size ≤ w'.heap.size
set_option maxRecDepth 100000 in
set_option maxHeartbeats 4000000 in
theorem down_any (N : Nat) : ∀ (w0 : World) (T : Ct) (w : World) (v argsv mv ov : Value) (makers : List ByteArray) (args : List Tm) (ob db ab mb B : Nat) (acc : List Int), T.size ≤ N → acc.length + T.size ≤ 1000000 → T.Tr w0 v → Tm.Sl w0 argsv args → StrSl w0 mv makers → Below w0.heap.size w0 w → w0.heap.size ≤ ob → SelEnv w ob db ab mb B argsv mv ov acc →
    Calls Try.prog 64 #[v, .pointer (some ⟨ob, 0, none⟩), .pointer (some ⟨db, 0, none⟩), .pointer (some ⟨ab, 0, none⟩), .pointer (some ⟨mb, 0, none⟩)] w (SelPost w0 ob db ab mb B argsv mv (acc ++ selS makers args T) w) := by
  induction N with
  | zero => intro w0 T w v argsv mv ov makers args ob db ab mb B acc h; cases T; rw [Ct.size] at h; omega
  | succ N ih =>
  intro w0 T w v argsv mv ov makers args ob db ab mb B acc hN hm hv hargs hM h0 hob henv
  cases T with
  | mk con is k rr p cs =>
  obtain ⟨A, cap, pv, rfl, his, ⟨hd1, hd2, hd3, hd4⟩, hs⟩ := hv
  have HIS := Lib.hid his
  obtain ⟨Ap, cp, rfl, -⟩ := his
  rw [Ct.size_mk] at hN hm
  rw [selS]
  have hbV := below1 w (.cells #[.int .i64 k, .int .i64 rr, .slice Ap p.length cp, .slice A cs.length cap] 74)
  have henvV := henv.below hbV
  obtain ⟨i3, hi3, hz30, hz31, hz32⟩ := info_parts info3
  obtain ⟨l1, l2, l3, l4, l5⟩ := henv.l
  have hol := (Array.getElem?_eq_some_iff.1 henv.o).1
  have hfV := heap_alloc_new w (.cells #[.int .i64 k, .int .i64 rr, .slice Ap p.length cp, .slice A cs.length cap] 74)
  have hsV : (w.alloc (.cells #[.int .i64 k, .int .i64 rr, .slice Ap p.length cp, .slice A cs.length cap] 74)).heap.size = w.heap.size + 1 := by simp
  have hb0V := h0.alloc h0.size (.cells #[.int .i64 k, .int .i64 rr, .slice Ap p.length cp, .slice A cs.length cap] 74)
  by_cases h1 : k = 1
  · subst h1
    rw [if_pos rfl]
    obtain ⟨Ao, co, rfl, -, -⟩ := own_form henv.r
    have hg1 : acc.length + 1 ≤ maxLen := by unfold maxLen; omega
    have hg2 : (acc.length + 1) * 8 ≤ 140737488355328 := by omega
    have o0 := cell1of henvV.o
    have hbz := fun o => below2 w (.cells #[.int .i64 1, .int .i64 rr, .slice Ap p.length cp, .slice A cs.length cap] 74) o
    go_enter Try.func64, Try.ntmps64
    go_wp2_with (at_builtin; refine wpList_append_where rfl (.tmp 15) (.tmp 18) 58 rfl B 3 i3 _ 1 8 Try.underlying58 hi3 hz30 hz31 hz32 rfl (by omega) (.slice Ao acc.length co) acc.length (acc.map (Value.int .i64)) rfl (own_below henv.r (hbz _) (Nat.le_refl _)) (some ⟨w.heap.size + 1, 0, none⟩) 1 1 [.int .i64 rr] rfl (Src.of_own (own_new2 w _ 3 1 1 #[.int .i64 rr] rfl (by omega))) (fun h => by cases h) (by simp [Value.oneCell']) hg1 hg2 (Nat.le_trans l5 (hbz _).size) ?_; intro v2 w2 hown2 hg3 hf3; have hb2 := below_grown (own_below henv.r (hbz _) (Nat.le_refl _)) hg3 (Nat.le_trans l5 (hbz _).size); obtain ⟨A2, c2, rfl, h21, h22⟩ := own_form hown2; have hbB : Below B w w2 := ((hbz _).mono l5).trans hb2; have o2 := (hbB.block _ l1).trans henv.o; have o2c := cell1of o2; have hfo : w2.frozen? ⟨ob, 0, none⟩ = false := (by simp [World.frozen?, o2]))
    have hB0 : w0.heap.size ≤ B := by omega
    refine bodyPost_end (results_none rfl _ _ _) rfl ⟨⟨_, rfl⟩, ⟨_, henv.store (acc' := acc ++ [rr]) hbB (by rw [List.length_append, List.map_append]; exact hown2)⟩, Below.setCell (h0.trans (hbB.mono hB0)) hob _, ?_⟩
    have := (hbz (.cells #[.int .i64 rr] 3)).size
    have := hg3.size
    simp only [World.size_alloc] at this
    simp [World.setCell]
    omega
  rw [if_neg h1]
  have hk1 : (k == 1) = false := by simp [h1]
  by_cases h3 : k = 3
  · subst h3
    rw [if_pos rfl]
    clear h1 henv hbV
    go_enter Try.func64, Try.ntmps64
    go_wp2_with fail
    generalize w.alloc (.cells #[.int .i64 3, .int .i64 rr, .slice Ap p.length cp, .slice A cs.length cap] 74) = V at *
    go_loopw [25] (fun i wr => ∃ (j : Nat) (ov' : Value), i = .int .i64 j ∧ j ≤ cs.length ∧ SelEnv wr ob db ab mb B argsv mv ov' (acc ++ selAll makers args (cs.take j)) ∧ Below w0.heap.size w0 wr ∧ w.heap.size ≤ wr.heap.size) (fun i _ => cs.length - (intOf i).toNat)
    case atStart => exact ⟨0, ov, rfl, Nat.zero_le _, by simpa [selAll] using henvV, hb0V, by omega⟩
    case round =>
      obtain ⟨j, ov', rfl, hj, henvj, hbj, hzj⟩ := hrel
      by_cases hlt : j < cs.length
      · obtain ⟨b, o, rfl, hat⟩ := hs.get j hlt
        have hsz := CtSize_get hlt
        have hT : Hid (selAll makers args (cs.take (j + 1)) = selAll makers args (cs.take j) ++ selS makers args cs[j]) := Lib.hid (by rw [take_succ_Ct hlt, selAll_append]; simp [selAll])
        have hle1 := selAll_le makers args (cs.take (j + 1))
        have hle2 := take_le_CtSize cs (j + 1)
        have hle3 := selAll_le makers args (cs.take j)
        have hle4 : CtSize (cs.take (j + 1)) = CtSize (cs.take j) + (cs[j]).size := by rw [take_succ_Ct hlt, CtSize_append]; simp [CtSize]
        generalize cs[j] = y at *
        generalize selAll makers args (cs.take j) = sj at *
        cases y with
        | mk con2 is2 k2 r2 p2 cs2 =>
        obtain ⟨A2, cap2, Ap2, cp2, c0, c1, c2, c3, c4, c5, hv2⟩ := hat.open_
        have d0 := cellB hbj (Nat.le_refl _) c0
        have d1 := cellB hbj (Nat.le_refl _) c1
        have d2 := cellB hbj (Nat.le_refl _) c2
        have d3 := cellB hbj (Nat.le_refl _) c3
        have d4 := cellB hbj (Nat.le_refl _) c4
        have d5 := cellB hbj (Nat.le_refl _) c5
        have hbl := World.block_lt_of_cell? _ _ d0
        simp only at hbl
        have e0 := cell1of henvj.d
        have hdl := (Array.getElem?_eq_some_iff.1 henvj.d).1
        have HC := fun oo => Lib.hid (ih w0 _ (wr.alloc oo) _ argsv mv ov' makers args ob db ab mb B (acc ++ sj) (by omega) (by rw [List.length_append]; omega) hv2 hargs hM (hbj.alloc hbj.size oo) hob (henvj.below (below1 wr oo)))
        clear hat hs c0 c1 c2 c3 c4 c5 ih
        go_wp2_with fail
        refine ((HC _).out).mono ?_
        rintro _ w1 ⟨⟨vr, rfl⟩, ⟨ov2, henv2⟩, hb1, hz1⟩
        simp only [World.size_alloc] at hz1
        go_wp2_with fail
        exact ⟨⟨j + 1, ov2, by go_num, by omega, by rw [hT.out, ← List.append_assoc]; exact henv2, hb1, by omega⟩, by simp [intOf]; omega⟩
      · go_wp2_with fail
        rw [List.take_of_length_le (by omega)] at henvj
        exact bodyPost_end (results_none rfl _ _ _) rfl ⟨⟨_, rfl⟩, ⟨_, henvj⟩, hbj, hzj⟩
  rw [if_neg h3]
  have hk3 : (k == 3) = false := by simp [h3]
  by_cases h2 : k = 2
  · subst h2
    rw [if_pos rfl]
    have hadl := henv.a
    have a0 := cell1of henvV.a
    have hsArgs := hargs
    obtain ⟨Ag, cg, rfl, -⟩ := hargs
    have HR := fun W h => Lib.hid (reach_any p w0 args W _ _ hsArgs HIS.out h)
    have HR1 := HR _ hb0V
    clear h1 h3 HR
    cases hra : reachS args p with
    | none =>
      rw [hra] at HR1
      simp only
      go_enter Try.func64, Try.ntmps64
      go_wp2_with fail
      refine HR1.out.mono ?_
      rintro _ w1 ⟨v1, b1, rfl, hb1, rfl, rfl⟩
      unfold tmZero
      go_wp2_with fail
      have hz1 := hb1.size
      simp only [World.size_alloc] at hz1
      refine bodyPost_end (results_none rfl _ _ _) rfl ⟨⟨_, rfl⟩, ⟨_, by simpa using (henvV.below hb1).below (below1 w1 _)⟩, (hb0V.thenCall hb0V.size hb1).alloc (hb0V.thenCall hb0V.size hb1).size _, by simp; omega⟩
    | some x =>
      rw [hra] at HR1
      simp only
      cases x with
      | mk xk xs xn xys =>
      go_enter Try.func64, Try.ntmps64
      go_wp2_with fail
      refine HR1.out.mono ?_
      rintro _ w1 ⟨v1, b1, rfl, hb1, rfl, hv1⟩
      obtain ⟨Ax, cx, rfl, -⟩ := hv1
      have hz1 := hb1.size
      rw [hsV] at hz1
      have hb01 := hb0V.thenCall hb0V.size hb1
      have henv1 := henvV.below hb1
      have hf1 := (hb1.block _ (by omega)).trans hfV
      obtain ⟨t0, t1, t2, t3⟩ := row4 hf1
      have hlw1 : w.heap.size < w1.heap.size := by omega
      have hbX := below1 w1 (.cells #[.int .i64 xk, .string xs, .int .i64 xn, .slice Ax xys.length cx] 29)
      have hfX := heap_alloc_new w1 (.cells #[.int .i64 xk, .string xs, .int .i64 xn, .slice Ax xys.length cx] 29)
      have hsX : (w1.alloc (.cells #[.int .i64 xk, .string xs, .int .i64 xn, .slice Ax xys.length cx] 29)).heap.size = w1.heap.size + 1 := by simp
      have hb0X := hb01.thenCall hb01.size hbX
      have henvX := henv1.below hbX
      have hmlX := (Array.getElem?_eq_some_iff.1 henvX.m).1
      have HI := Lib.hid (index65_66 (fun c => fitS makers c (.mk xk xs xn xys)) (.pointer (some ⟨mb, 0, none⟩)) (.pointer (some ⟨w1.heap.size, 0, none⟩)) w0 _ cs (.slice A cs.length cap) ⟨A, cap, rfl, ⟨hd1, hd2, hd3, hd4⟩, hs⟩ hb0X
        (fun con9 is9 k9 r9 p9 cs9 Ap9 A9 cp9 cap9 z hz => clo66 w0 z mv makers con9 is9 k9 r9 p9 cs9 Ap9 A9 Ax cp9 cap9 cx xk xs xn xys mb w1.heap.size hM ((Sub.of_below hb0X).then hz) ((hz.block _ hmlX).trans henvX.m) ((hz.block _ (by rw [hsX]; exact Nat.lt_succ_self _)).trans hfX)))
      go_wp2_with fail
      generalize w1.alloc (.cells #[.int .i64 xk, .string xs, .int .i64 xn, .slice Ax xys.length cx] 29) = V1 at *
      refine HI.out.mono ?_
      rintro _ w2 ⟨rfl, hb2⟩
      have hz2 := hb2.size
      have hb02 := hb0X.thenCall hb0X.size hb2
      have henv2 := henvX.below hb2
      rcases idxB_cases2 (fun c => fitS makers c (.mk xk xs xn xys)) cs with ⟨q, hq, hfit, hbefore, hidx⟩ | ⟨hno, hidx⟩
      · rw [hidx]
        have HSF := Lib.hid (selFst_hit makers args (.mk xk xs xn xys) hq hfit hbefore)
        obtain ⟨b, o, rfl, hat⟩ := hs.get q hq
        have hsz := CtSize_get hq
        clear hfit hbefore hidx HI
        generalize cs[q] = y at *
        cases y with
        | mk con2 is2 k2 r2 p2 cs2 =>
        obtain ⟨A2, cap2, Ap2, cp2, c0, c1, c2, c3, c4, c5, hv2⟩ := hat.open_
        have d2 := cellB hb02 (Nat.le_refl _) c2
        have d3 := cellB hb02 (Nat.le_refl _) c3
        have d4 := cellB hb02 (Nat.le_refl _) c4
        have d5 := cellB hb02 (Nat.le_refl _) c5
        have e0 := cell1of henv2.d
        have hlV1 : w.heap.size < V1.heap.size := by omega
        obtain ⟨t0, t1, t2, t3⟩ := row4 ((hb2.block _ hlV1).trans ((hbX.block _ hlw1).trans hf1))
        have hq1 : (q : Int) < cs.length := by omega
        have hq0 : (0 : Int) ≤ q := by omega
        have HC := Lib.hid (ih w0 _ w2.drew _ _ mv ov makers args ob db ab mb B acc (by omega) (by omega) hv2 hsArgs hM hb02.drew hob (henv2.below (Below.refl _ _).drew))
        clear hat hs c0 c1 c2 c3 c4 c5 ih
        go_wp2_with fail
        go_still_tail 7, (by kernel_rfl)
        change wpList _ _ _ _ _ w2.drew
        go_wp2_with fail
        refine HC.out.mono ?_
        rintro _ w3 ⟨⟨vr, rfl⟩, henv3, hb3, hz3⟩
        go_wp2_with fail
        have hz3' : w2.heap.size ≤ w3.heap.size := hz3
        exact bodyPost_end (results_none rfl _ _ _) rfl ⟨⟨_, rfl⟩, by rw [HSF.out]; exact henv3, hb3, by omega⟩
      · rw [hidx]
        have HSF := Lib.hid (selFst_miss makers args (.mk xk xs xn xys) hno)
        go_wp2_with fail
        exact bodyPost_end (results_none rfl _ _ _) rfl ⟨⟨_, rfl⟩, ⟨_, by rw [HSF.out]; simpa using henv2⟩, hb02, by omega⟩
  rw [if_neg h2]
  have hk2 : (k == 2) = false := by simp [h2]
  go_enter Try.func64, Try.ntmps64
  go_wp2_with fail
  exact bodyPost_end (results_none rfl _ _ _) rfl ⟨⟨_, rfl⟩, ⟨_, by simpa using henvV⟩, hb0V, by omega⟩
theorem five {w W : World} {a b c d e : Obj} (h : W = ((((w.alloc a).alloc b).alloc c).alloc d).alloc e) : W.heap[w.heap.size]? = some a ∧ W.heap[w.heap.size + 1]? = some b ∧ W.heap[w.heap.size + 1 + 1]? = some c ∧ W.heap[w.heap.size + 1 + 1 + 1]? = some d ∧ W.heap[w.heap.size + 1 + 1 + 1 + 1]? = some e ∧ W.heap.size = w.heap.size + 5 ∧ Below w.heap.size w W := by
  subst h
  refine ⟨?_, ?_, ?_, ?_, ?_, by simp, (((below2 w _ _).alloc (by simp <;> omega) _).alloc (by simp <;> omega) _).alloc (by simp <;> omega) _⟩
  · rw [heap_alloc_old _ _ (by simp <;> omega), heap_alloc_old _ _ (by simp <;> omega), heap_alloc_old _ _ (by simp <;> omega), heap_alloc_old _ _ (by simp)]; exact heap_alloc_new w a
  · rw [heap_alloc_old _ _ (by simp <;> omega), heap_alloc_old _ _ (by simp <;> omega), heap_alloc_old _ _ (by simp)]; have := heap_alloc_new (w.alloc a) b; rw [World.size_alloc] at this; exact this
  · rw [heap_alloc_old _ _ (by simp <;> omega), heap_alloc_old _ _ (by simp)]; have := heap_alloc_new ((w.alloc a).alloc b) c; simp only [World.size_alloc] at this; exact this
  · rw [heap_alloc_old _ _ (by simp)]; have := heap_alloc_new (((w.alloc a).alloc b).alloc c) d; simp only [World.size_alloc] at this; exact this
  · have := heap_alloc_new ((((w.alloc a).alloc b).alloc c).alloc d) e; simp only [World.size_alloc] at this; exact this
set_option maxRecDepth 100000 in
set_option maxHeartbeats 2000000 in
theorem select_any (w0 : World) (T : Ct) (w : World) (v argsv mv : Value) (makers : List ByteArray) (args : List Tm) (hm : T.size ≤ 1000000) (hv : T.Tr w0 v) (hargs : Tm.Sl w0 argsv args) (hM : StrSl w0 mv makers) (h0 : Below w0.heap.size w0 w) :
    Calls Try.prog 43 #[mv, v, argsv] w fun e w' => ∃ v', e = .returned v' ∧ IntOwn w' w.heap.size v' (selS makers args T) ∧ Below w.heap.size w w' := by
  have hsub := Sub.of_below h0
  have HT := Lib.hid (hv.sub hsub)
  have HA := Lib.hid (hargs.below h0 (Nat.le_refl _))
  have HM := Lib.hid (Data.StrSl.sub hM hsub)
  obtain ⟨Ap, lp, cp, A, cap, rfl⟩ := hv.form
  obtain ⟨Ag, cg, rfl, -⟩ := hargs
  obtain ⟨Am, cm, rfl, -⟩ := hM
  have HD := fun W ob db ab mb B hb hob henv => Lib.hid (down_any T.size w T W _ _ _ (.slice none 0 0) makers args ob db ab mb B [] (Nat.le_refl _) (by simpa using hm) HT.out HA.out HM.out hb hob henv)
  clear hv
  generalize hk : T.kind = k at *
  generalize hr : T.rule = rr at *
  generalize hc : T.cs.length = nc at *
  clear hsub h0 hm hk hr hc
  go_enter Try.func43, Try.ntmps43
  obtain ⟨V0, hV0⟩ : ∃ V, V = (((((w.alloc (.cells #[.slice Am makers.length cm] 51)).alloc (.cells #[.int .i64 k, .int .i64 rr, .slice Ap lp cp, .slice A nc cap] 74)).alloc (.cells #[.slice Ag args.length cg] 27)).alloc (.cells #[.slice none 0 0] 58)).alloc (.cells #[.nilFunc] 102)) := ⟨_, rfl⟩
  obtain ⟨f0, f1, f2, f3, f4, hz0, hb0⟩ := five hV0
  have HV0 := Lib.hid hV0
  clear hV0
  go_upto_region 3 with fail
  rw [← HV0.out]
  clear HV0
  have c4 := cell1of f4
  have hfr : V0.frozen? ⟨w.heap.size + 1 + 1 + 1 + 1, 0, none⟩ = false := by simp [World.frozen?, f4]
  obtain ⟨t0, t1, t2, t3⟩ := row4 f1
  have hne1 : ¬ w.heap.size + 1 + 1 + 1 + 1 = w.heap.size + 1 := by omega
  have hne2 : ¬ w.heap.size + 1 = w.heap.size + 1 + 1 + 1 + 1 := by omega
  have henv : SelEnv (V0.setCell ⟨w.heap.size + 1 + 1 + 1 + 1, 0, none⟩ (.func (.func 64) #[] #[.pointer (some ⟨w.heap.size + 1 + 1 + 1, 0, none⟩), .pointer (some ⟨w.heap.size + 1 + 1 + 1 + 1, 0, none⟩), .pointer (some ⟨w.heap.size + 1 + 1, 0, none⟩), .pointer (some ⟨w.heap.size, 0, none⟩)])) (w.heap.size + 1 + 1 + 1) (w.heap.size + 1 + 1 + 1 + 1) (w.heap.size + 1 + 1) w.heap.size (w.heap.size + 5) (.slice Ag args.length cg) (.slice Am makers.length cm) (.slice none 0 0) [] := by
    refine ⟨?_, one_setCell f4, ?_, ?_, World.ownsRow_nil _ _ _ _, ⟨by omega, by omega, by omega, by omega, by simp [World.setCell]; omega⟩, ⟨by omega, by omega, by omega⟩⟩
    · rw [Below.heap_setCell _ _ _ _ (by simp only; omega)]; exact f3
    · rw [Below.heap_setCell _ _ _ _ (by simp only; omega)]; exact f2
    · rw [Below.heap_setCell _ _ _ _ (by simp only; omega)]; exact f0
  have hbS := Below.setCell hb0 (p := ⟨w.heap.size + 1 + 1 + 1 + 1, 0, none⟩) (by simp only; omega) (.func (.func 64) #[] #[.pointer (some ⟨w.heap.size + 1 + 1 + 1, 0, none⟩), .pointer (some ⟨w.heap.size + 1 + 1 + 1 + 1, 0, none⟩), .pointer (some ⟨w.heap.size + 1 + 1, 0, none⟩), .pointer (some ⟨w.heap.size, 0, none⟩)])
  have HDD := HD _ _ _ _ _ _ hbS (by omega) henv
  clear HD henv
  go_wp2_with fail
  refine HDD.out.mono ?_
  rintro _ w3 ⟨⟨vr, rfl⟩, ⟨ov, henv3⟩, hb3, hz3⟩
  rw [List.nil_append] at henv3
  have o3 := cell1of henv3.o
  obtain ⟨Ao, co, rfl, -, -⟩ := own_form henv3.r
  go_wp2_with fail
  go_ret
  exact ⟨_, rfl, own_less henv3.r (by omega), hb3⟩
end Go.Proofs.Ytnaakhnmbckpmaa.Pats
