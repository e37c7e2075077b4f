/- Contract: the statement's own small and light: they answer. -/
import Derived.Test.YtccknhhjkkbadaaWmT
namespace Go.Proofs.Ytccknhhjkkbadaa.Wm
open Go.ChangeShapes Go.WideShapes Go.ChangeAt Go.RowKit Go.Proofs.Ytccknhhjkkbadaa.Lift Go.Proofs.Ytccknhhjkkbadaa.Arn Go.Proofs.Ytccknhhjkkbadaa.ArnN Go.Proofs.Ytccknhhjkkbadaa.Gr Go.Maps
set_option linter.unusedVariables false
set_option linter.unusedSimpArgs false
/-- a box with one number. -/
def Box1 (w : World) (r : Nat) (z : Int) : Prop := w.heap[r]? = some (.cells #[.int .i64 z] 3 (0, 0))
theorem Box1.cell {w : World} {r : Nat} {z : Int} (h : Box1 w r z) : w.cell? ⟨r, 0, none⟩ = some (.int .i64 z) := by unfold Box1 at h; simp [World.cell?, h]
theorem Box1.froz {w : World} {r : Nat} {z : Int} (h : Box1 w r z) : w.frozen? ⟨r, 0, none⟩ = false := by unfold Box1 at h; simp [World.frozen?, h]
theorem Box1.set {w : World} {r : Nat} {z : Int} (h : Box1 w r z) (u : Int) : Box1 (w.setCell ⟨r, 0, none⟩ (.int .i64 u)) r u := by
  unfold Box1 at h ⊢
  simp [World.setCell, Array.getElem?_modify, h]
theorem Box1.lt {w : World} {r : Nat} {z : Int} (h : Box1 w r z) : r < w.heap.size := (Array.getElem?_eq_some_iff.1 h).1
theorem Box1.below {w w' : World} {r : Nat} {z : Int} (h : Box1 w r z) (hb : Below w.heap.size w w') : Box1 w' r z := (hb.block r h.lt).trans h
/-- what 'm[i]' gives in a later world: its arguments lie in the elder one. -/
theorem MapOk.look0 {w0 w : World} {g : Gph} {N m : Nat} (h : MapOk w0 g N m) (hb : Below w0.heap.size w0 w) {i : Int} (hi : W64 i) : ∃ A cap, (Instr.lookup 48 (.map (some m)) (.int .i64 i) false).run Try.prog w = .ok (.agg #[.int .i64 (g.k i), .int .i64 (g.n i), .slice A (g.a i).length cap]) w ∧ Args w0 ⟨g.k i, g.n i, A, (g.a i).length, cap⟩ (g.a i) := by
  obtain ⟨D, n, h1, h2, h3⟩ := h
  obtain ⟨-, y, a1, a2, a3, a4⟩ := h3 i hi
  obtain ⟨v, ps, hrun, hv⟩ := (own_mapC_keep h1 (hb.block _ h1.lt)).lookup law3 Try.underlying48 (Try.zeroValue43 _) (rC_enc nd0) (keyOf_int_mk Try.underlying3 hi)
  obtain ⟨y2, rfl, hy2⟩ := rC_inv hv
  rw [a1] at hy2
  obtain ⟨b1, b2, b3⟩ := a4.code hy2
  obtain ⟨k, n', A, l, c⟩ := y2
  have e : l = (g.a i).length := b1.1
  subst e
  dsimp only at b2 b3
  have e1 := b2.trans a2
  have e2 := b3.trans a3
  subst e1 e2
  exact ⟨A, c, hrun, b1⟩
def SmPost (r : Nat) (w : World) (e : Ending) (w' : World) : Prop := ∃ (b : Bool) (z : Int), e = .returned (.bool b) ∧ Box1 w' r z ∧ Below r w w' ∧ w.heap.size ≤ w'.heap.size
theorem size_set (w : World) (a : Addr) (v : Value) : (w.setCell a v).heap.size = w.heap.size := by simp [World.setCell]
theorem SmPost.mk {r : Nat} {w w' : World} {z : Int} (b : Bool) (h1 : Box1 w' r z) (h2 : Below r w w') (h3 : w.heap.size ≤ w'.heap.size) : SmPost r w (.returned (.bool b)) w' := ⟨b, z, rfl, h1, h2, h3⟩
set_option maxRecDepth 100000 in
set_option maxHeartbeats 2000000 in
theorem small_any {w0 : World} {g : Gph} {N m : Nat} (hM : MapOk w0 g N m) (hk : Gok g N) (v : Value) (l : List Fg.Pk) (hv : Fg.PkSl w0 v l) (r : Nat) (hr : w0.heap.size ≤ r) : ∀ (M : Nat) (i left z : Int) (w : World), W64 i → (left + 1).toNat ≤ M → -1 ≤ left → left ≤ 65536 → Below w0.heap.size w0 w → Box1 w r z →
    Calls Try.prog 95 #[.map (some m), v, .int .i64 i, .int .i64 left, .pointer (some ⟨r, 0, none⟩)] w (SmPost r w) := by
  have HTh : Hid (∀ (y : World) i, Below w0.heap.size w0 y → W64 i → _) := Lib.hid (fun y i hy hi => lthrough_any hM hk v l hv i hi y hy)
  have H64 : Hid (∀ i, W64 i → W64 (thrG g (Fg.getR l) N i).1) := Lib.hid (fun i hi => thrG64 hk hi)
  have HAr : Hid (∀ i, W64 i → ∀ k, k < (g.a i).length → W64 ((g.a i).getD k 0)) := Lib.hid (fun i hi k hk' => arg64 hk hi hk')
  have HLe : Hid (∀ i, W64 i → (g.a i).length ≤ 1048576) := Lib.hid (fun i hi => (hk.2 i hi).2.2)
  obtain ⟨A0, cap0, rfl, -⟩ := hv
  have HM0 := Lib.hid hM
  clear hM hk
  intro M
  induction M with
  | zero =>
    intro i left z w hi hleft hlo hhi h0 hbx
    have hneg : left < 0 := by omega
    have e1 := hbx.cell
    have e2 := hbx.froz
    have HS := Lib.hid (fun u => hbx.set u)
    have HB : Hid (∀ u : Value, Below r w (w.setCell ⟨r, 0, none⟩ u)) := Lib.hid (fun u => (Below.refl r w).setCell (p := ⟨r, 0, none⟩) (Nat.le_refl r) u)
    have hlt := hbx.lt
    have HI := Lib.hid hi
    clear hbx hi
    go_enter Try.func95, Try.ntmps95
    go_upto_region 2 with fail
    clear e1 e2
    generalize wrap64 (z - 1) = z1 at *
    go_wp2_with fail
    refine (HTh.out _ i (h0.trans ((HB.out _).mono hr)) HI.out).mono ?_
    rintro _ w2 ⟨rfl, q2⟩
    have hb2 := (HS.out z1).below q2
    have k1 := hb2.cell
    have hfin := fun b => Lib.hid (SmPost.mk b hb2 ((HB.out (.int .i64 z1)).trans (q2.mono (by rw [size_set]; omega))) (by have := q2.size; rw [size_set] at this; exact this))
    clear hb2 q2 HS HB
    generalize thrG g (Fg.getR l) N i = q at *
    obtain ⟨i', is⟩ := q
    cases is
    all_goals
      go_wp2_with fail
      go_ret
      exact (hfin _).out
  | succ M ih =>
    intro i left z w hi hleft hlo hhi h0 hbx
    have IH := Lib.hid ih
    have e1 := hbx.cell
    have e2 := hbx.froz
    have HS := Lib.hid (fun u => hbx.set u)
    have HB : Hid (∀ u : Value, Below r w (w.setCell ⟨r, 0, none⟩ u)) := Lib.hid (fun u => (Below.refl r w).setCell (p := ⟨r, 0, none⟩) (Nat.le_refl r) u)
    have hlt := hbx.lt
    have HI := Lib.hid hi
    clear hbx hi ih
    go_enter Try.func95, Try.ntmps95
    go_upto_region 2 with fail
    clear e1 e2
    generalize wrap64 (z - 1) = z1 at *
    go_wp2_with fail
    have h0s := h0.trans ((HB.out (.int .i64 z1)).mono hr)
    refine (HTh.out _ i h0s HI.out).mono ?_
    rintro _ w2 ⟨rfl, q2⟩
    have h02 := h0s.trans (q2.mono (by rw [size_set]; exact h0.size))
    have hb2 := (HS.out z1).below q2
    have k1 := hb2.cell
    have hb02 := (HB.out (.int .i64 z1)).trans (q2.mono (by rw [size_set]; omega))
    have hs02 : w.heap.size ≤ w2.heap.size := by have := q2.size; rw [size_set] at this; exact this
    have hfin := fun b => Lib.hid (SmPost.mk b hb2 hb02 hs02)
    have HB2 := Lib.hid hb2
    have H64' := H64.out i HI.out
    clear hb2 q2 HS HB h0s
    generalize thrG g (Fg.getR l) N i = q at *
    obtain ⟨i', is⟩ := q
    dsimp only at H64'
    cases is with
    | false =>
      go_wp2_with fail
      go_ret
      exact (hfin _).out
    | true =>
      by_cases hneg : left < 0
      · go_wp2_with fail
        go_ret
        exact (hfin _).out
      · obtain ⟨A, cap, hrun, hA⟩ := HM0.out.look0 h02 H64'
        have hfd0 : ∀ (a b : Int) (L : Nat) (w : World), (Instr.field 43 (.agg #[.int .i64 a, .int .i64 b, .slice A L cap]) 0).run Try.prog w = .ok (.int .i64 a) w := fun _ _ _ _ => by kernel_rfl
        have hfd2 : ∀ (a b : Int) (L : Nat) (w : World), (Instr.field 43 (.agg #[.int .i64 a, .int .i64 b, .slice A L cap]) 2).run Try.prog w = .ok (.slice A L cap) w := fun _ _ _ _ => by kernel_rfl
        by_cases hk1 : g.k i' = 1
        · have HA := Lib.hid hA
          have HW := Lib.hid (HAr.out _ H64')
          have hL := HLe.out _ H64'
          rw [hk1] at hrun
          clear hA H64' hk1
          generalize g.a i' = la at *
          go_wp2_with fail
          go_loopw [48] (fun c wr => ∃ (j : Nat) (z' : Int), c = .int .i64 j ∧ j ≤ la.length ∧ Hid (Box1 wr r z') ∧ Below r w2 wr ∧ w2.heap.size ≤ wr.heap.size) (fun c _ => la.length - (intOf c).toNat)
          case atStart => exact ⟨0, z1, rfl, Nat.zero_le _, HB2, Below.refl _ _, Nat.le_refl _⟩
          case round =>
            obtain ⟨j, z', rfl, hj, hbx, hb, hs⟩ := hrel
            have k2 := hbx.out.cell
            have h0r := h02.trans (hb.mono hr)
            clear k1 hrun
            by_cases hlt2 : j < la.length
            · obtain ⟨b, o, e1, e2, e3⟩ := HA.out.2.1 j hlt2
              dsimp only at e1
              subst e1
              have e4 := (h0r.cell (p := ⟨b, o + j, none⟩) e2).trans e3
              have hWj := HW.out j hlt2
              generalize la.getD j 0 = a at *
              have HWj := Lib.hid hWj
              clear e3 hWj
              by_cases hz : z' < 0
              · go_wp2_with fail
                go_ret
                exact SmPost.mk _ hbx.out (hb02.trans hb) (Nat.le_trans hs02 hs)
              · have t1 : IntKind.i64.wrap (left - 1) = left - 1 := IntWalk.i64_in _ (by omega)
                have t2 := IH.out a (left - 1) z' wr HWj.out (by omega) (by omega) (by omega) h0r hbx.out
                have T2 := Lib.hid t2
                clear t2
                go_wp2_with fail
                refine T2.out.mono ?_
                rintro _ w5 ⟨bb, z5, rfl, b5, q5, s5⟩
                have k5 := b5.cell
                have B5 := Lib.hid b5
                clear b5 k2
                cases bb with
                | true =>
                  go_wp2_with fail
                  exact ⟨⟨j + 1, z5, by go_num, by omega, B5, hb.trans q5, Nat.le_trans hs s5⟩, by simp [intOf]; omega⟩
                | false =>
                  go_wp2_with fail
                  go_ret
                  exact SmPost.mk _ B5.out ((hb02.trans hb).trans q5) (Nat.le_trans hs02 (Nat.le_trans hs s5))
            · go_wp2_with fail
              go_ret
              exact SmPost.mk _ hbx.out (hb02.trans hb) (Nat.le_trans hs02 hs)
        · have q1 : (g.k i' == 1) = false := by simpa using hk1
          have q2 : (g.k i' != 1) = true := by simpa using hk1
          clear hA hk1
          generalize g.k i' = K at *
          go_wp2_with fail
          go_ret
          exact (hfin _).out
theorem w64_of {n : Int} (h1 : -9223372036854775808 ≤ n) (h2 : n ≤ 9223372036854775807) : W64 n := WalkArith.wf_i64 (by omega)
theorem light_any {w0 : World} {g : Gph} {N m : Nat} (hM : MapOk w0 g N m) (hk : Gok g N) (v : Value) (l : List Fg.Pk) (hv : Fg.PkSl w0 v l) (i : Int) (hi : W64 i) (w : World) (h0 : Below w0.heap.size w0 w) :
    Calls Try.prog 48 #[.map (some m), v, .int .i64 i] w fun e w' => (∃ b, e = .returned (.bool b)) ∧ Below w.heap.size w w' := by
  have hNb := hk.1
  have HS := Lib.hid (small_any hM hk v l hv w.heap.size h0.size (N + 1) i N 20000 (w.alloc (.cells #[.int .i64 20000] 3)) hi (by omega) (by omega) (by omega) (h0.alloc h0.size _) (heap_alloc_new w _))
  obtain ⟨D, n, hown, hsz, -⟩ := hM
  have hown1 := (own_mapC_keep hown (h0.block _ hown.lt)).alloc (.cells #[.int .i64 20000] 3)
  have hsz := Lib.hid hsz
  obtain ⟨A0, cap0, rfl, -⟩ := hv
  clear hown hk hi h0
  go_enter Try.func48, Try.ntmps48
  go_wp2_with (at_len; refine wpList_len_own _ rfl _ 48 rfl 3 43 Try.underlying48 rC m n D rfl hown1 ?_; rw [hsz.out])
  refine HS.out.mono ?_
  rintro _ w2 ⟨b, z, rfl, hb, q2, s2⟩
  go_wp2_with fail
  go_ret
  exact ⟨⟨b, rfl⟩, ((Below.refl w.heap.size w).alloc (Nat.le_refl _) _).trans q2⟩
end Go.Proofs.Ytccknhhjkkbadaa.Wm
