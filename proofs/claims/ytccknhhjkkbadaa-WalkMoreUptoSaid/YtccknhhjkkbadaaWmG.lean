/- Contracts: Graph.Follow, whatever the graph; walk.Through. -/
import Derived.Test.YtccknhhjkkbadaaWmS
import Derived.Test.YtccknhhjkkbadaaFg
namespace Go.Proofs.Ytccknhhjkkbadaa.Wm
open Go.ChangeShapes Go.WideShapes Go.ChangeAt Go.RowKit Go.Proofs.Ytccknhhjkkbadaa.Lift Go.Proofs.Ytccknhhjkkbadaa.Arn Go.Proofs.Ytccknhhjkkbadaa.ArnN Go.Proofs.Ytccknhhjkkbadaa.Gr Go.Maps
set_option linter.unusedVariables false
set_option linter.unusedSimpArgs false
theorem GrOk.count {w : World} {g : Gph} {N gg : Nat} (h : GrOk w g N gg) : N ≤ 65536 := by
  obtain ⟨F, ga, xs, us, low, most, ⟨_, ⟨_, _, _, _, hh⟩, _⟩, e, _⟩ := h
  have := List.count_le_length (a := true) (l := us)
  omega
/-- a chain of calls from an elder world on. -/
theorem gbelow {w0 w : World} {F : Nat → Prop} {gg ga : Nat} {xs : List Nd} {us : List Bool} {low most : Nat} (h : Gr w0 F gg ga xs us low most) (hb : Below w0.heap.size w0 w) : Gr w F gg ga xs us low most := h.below hb
set_option maxRecDepth 100000 in
set_option maxHeartbeats 1000000 in
theorem gfollow_any {w0 : World} {g : Gph} {N gg : Nat} (hG : GrOk w0 g N gg) (hk : Gok g N) (i : Int) (hi : W64 i) (w : World) (h0 : Below w0.heap.size w0 w) :
    Calls Try.prog 38 #[.pointer (some ⟨gg, 0, none⟩), .int .i64 i] w fun e w' => e = .returned (.int .i64 (fol g N i)) ∧ Below w.heap.size w w' := by
  have hNb := hk.1
  have HK := Lib.hid hk
  obtain ⟨F, ga, xs, us, low, most, h, hc, h3⟩ := hG
  have H3 := Lib.hid h3
  have HL := glen_any (gbelow h h0)
  rw [hc] at HL
  have HL := Lib.hid HL
  have HG : Hid (∀ y, Below w0.heap.size w0 y → Gr y F gg ga xs us low most) := Lib.hid (fun y hy => h.below hy)
  clear h hk h3 hc
  go_enter Try.func38, Try.ntmps38
  go_wp2_with (go_at_call 34; refine HL.out.mono ?_; rintro _ w1 ⟨rfl, rfl⟩)
  go_loopw [1, 9] (fun q c wr => ∃ (j : Nat) (i' : Int), c = .int .i64 j ∧ q = .int .i64 i' ∧ j ≤ N ∧ Hid (W64 i') ∧ Hid (fol g (N - j) i' = fol g N i) ∧ Below w.heap.size w wr) (fun _ c _ => N + 1 - (intOf c).toNat)
  case atStart => exact ⟨0, i, rfl, rfl, Nat.zero_le _, Lib.hid hi, Lib.hid rfl, Below.refl _ _⟩
  case round =>
    obtain ⟨j, i', rfl, rfl, hj, hi', hf, hb⟩ := hrel
    by_cases hlt : j < N
    · have h0r := h0.trans (hb.mono h0.size)
      have HP := Lib.hid (places_any wr gg ga (HG.out _ h0r).1)
      obtain ⟨hh, hxk, hxn, hA⟩ := H3.out i' hi'.out
      have HGt := get_any i' (HG.out _ h0r).2.1
      have hf2 := hf.out
      rw [show N - j = (N - (j + 1)) + 1 by omega] at hf2
      generalize getX xs us i' = x at *
      generalize hasB us i' = bb at *
      obtain ⟨xk, xn, xA, xl, xc⟩ := x
      unfold enc at HGt
      have hl := hA.1
      dsimp only at *
      subst hxk hxn hl
      have HGt := Lib.hid HGt
      by_cases h5 : g.k i' = 5
      · by_cases hl : (g.a i').length = 1
        · rw [fol_step h5 hl] at hf2
          have hw2 := Lib.hid (arg64 HK.out hi'.out (k := 0) (by omega))
          obtain ⟨b, o, e1, e2, e3⟩ := hA.2.1 0 (by omega)
          dsimp only at e1
          subst e1
          rw [Nat.add_zero] at e3
          have e4 := (h0r.cell (p := ⟨b, o, none⟩) e2).trans e3
          have hbl : b < wr.heap.size := Nat.lt_of_lt_of_le e2 h0r.size
          rw [h5, hl] at HGt
          have HF := Lib.hid hf2
          generalize (g.a i').getD 0 0 = z at *
          clear hf hf2 h5 hl hA e3 hi' hh
          go_wp2_with fail
          refine HP.out.mono ?_
          rintro _ w2 ⟨rfl, rfl⟩
          go_wp2_with fail
          refine HGt.out.mono ?_
          rintro _ w2 ⟨rfl, hb2⟩
          have e5 := (hb2.cell (p := ⟨b, o, none⟩) hbl).trans e4
          have hbn := (hb.thenCall hb.size hb2)
          have e6 := fun O => (World.cell?_alloc_lt w2 O ⟨b, o, none⟩ (Nat.lt_of_lt_of_le hbl hb2.size)).trans e5
          have hb3 := fun O => hbn.alloc hbn.size O
          clear e4 e5
          go_wp2_with fail
          exact ⟨⟨j + 1, z, by go_num, rfl, by omega, hw2, HF, hb3 _⟩, by simp [intOf]; omega⟩
        · rw [fol_end (fun e => hl e.2)] at hf2
          have q1 : ((g.a i').length == 1) = false := by simpa using hl
          have q1 : ((g.a i').length != 1) = true := by simpa using hl
          have q3 : (((g.a i').length : Int) == 1) = false := by simp; omega
          have q4 : (((g.a i').length : Int) != 1) = true := by simp; omega
          have HF := Lib.hid hf2
          rw [h5] at HGt
          clear hf hf2 h5 hl hA hi' hh
          generalize (g.a i').length = L at *
          go_wp2_with fail
          refine HP.out.mono ?_
          rintro _ w2 ⟨rfl, rfl⟩
          go_wp2_with fail
          refine HGt.out.mono ?_
          rintro _ w2 ⟨rfl, hb2⟩
          have hbn := (hb.thenCall hb.size hb2)
          have hb3 := fun O => hbn.alloc hbn.size O
          go_wp2_with fail
          go_ret
          exact ⟨by rw [HF.out]; rfl, hb3 _⟩
      · rw [fol_end (fun e => h5 e.1)] at hf2
        have q1 : (g.k i' == 5) = false := by simpa using h5
        have q2 : (g.k i' != 5) = true := by simpa using h5
        have HF := Lib.hid hf2
        clear hf hf2 h5 hi' hA hh
        generalize (g.a i').length = L at *
        generalize g.k i' = K at *
        go_wp2_with fail
        refine HP.out.mono ?_
        rintro _ w2 ⟨rfl, rfl⟩
        go_wp2_with fail
        refine HGt.out.mono ?_
        rintro _ w2 ⟨rfl, hb2⟩
        have hbn := (hb.thenCall hb.size hb2)
        have hb3 := fun O => hbn.alloc hbn.size O
        go_wp2_with fail
        go_ret
        exact ⟨by rw [HF.out]; rfl, hb3 _⟩
    · obtain rfl : j = N := by omega
      have hf2 := hf.out
      rw [Nat.sub_self, fol] at hf2
      have HF := Lib.hid hf2
      clear hf hf2
      go_wp2_with fail
      go_ret
      exact ⟨by rw [HF.out]; rfl, hb⟩
/-- what Get answers. -/
theorem gok_get {w0 : World} {g : Gph} {N gg : Nat} (hG : GrOk w0 g N gg) (i : Int) (hi : W64 i) (w : World) (h0 : Below w0.heap.size w0 w) :
    Calls Try.prog 30 #[.pointer (some ⟨gg, 0, none⟩), .int .i64 i] w fun e w' => ∃ A cap, e = .returned (.tuple #[.agg #[.int .i64 (g.k i), .int .i64 (g.n i), .slice A (g.a i).length cap], .bool (g.has i)]) ∧ Args w' ⟨g.k i, g.n i, A, (g.a i).length, cap⟩ (g.a i) ∧ Below w.heap.size w w' := by
  obtain ⟨F, ga, xs, us, low, most, h, hc, h3⟩ := hG
  obtain ⟨hh, hxk, hxn, hA⟩ := h3 i hi
  refine (gget_any i (g.a i) (h.below h0) (hA.below h0)).mono ?_
  rintro _ w' ⟨A, cap, rfl, a1, a2, a3⟩
  rw [hh, hxk, hxn] at *
  exact ⟨A, cap, rfl, a1, a3⟩
theorem gok_len {w0 : World} {g : Gph} {N gg : Nat} (hG : GrOk w0 g N gg) (w : World) (h0 : Below w0.heap.size w0 w) : Calls Try.prog 34 #[.pointer (some ⟨gg, 0, none⟩)] w fun e w' => e = .returned (.int .i64 (N : Nat)) ∧ w = w' := by
  obtain ⟨F, ga, xs, us, low, most, h, rfl, h3⟩ := hG
  exact glen_any (h.below h0)
set_option maxRecDepth 100000 in
set_option maxHeartbeats 2000000 in
theorem through_any {w0 : World} {g : Gph} {N gg : Nat} (hG : GrOk w0 g N gg) (hk : Gok g N) (v : Value) (l : List Fg.Pk) (hv : Fg.PkSl w0 v l) (i : Int) (hi : W64 i) (w : World) (h0 : Below w0.heap.size w0 w) :
    Calls Try.prog 97 #[.pointer (some ⟨gg, 0, none⟩), .agg #[v], .int .i64 i] w fun e w' => e = .returned (.tuple #[.int .i64 (thrG g (Fg.getF l) N i).1, .bool (thrG g (Fg.getF l) N i).2]) ∧ Below w.heap.size w w' := by
  have hNb := hk.1
  have HK := Lib.hid hk
  have HFo : Hid (∀ (y : World) i, Below w0.heap.size w0 y → W64 i → _) := Lib.hid (fun y i hy hi => gfollow_any hG hk i hi y hy)
  have HGe : Hid (∀ (y : World) (n : Int), Below w0.heap.size w0 y → _) := Lib.hid (fun y n hy => Fg.get_any w0 l n y v hv hy)
  have HGn : Hid (∀ (y : World) i, Below w0.heap.size w0 y → W64 i → _) := Lib.hid (fun y i hy hi => gok_get hG i hi y hy)
  have HLe : Hid (∀ (y : World), Below w0.heap.size w0 y → _) := Lib.hid (fun y hy => gok_len hG y hy)
  have HI := Lib.hid hi
  have hal := fun o => (Below.refl w.heap.size w).alloc (Nat.le_refl _) o
  have hbox : ∀ z, Below (w.alloc (.cells #[v] 84)).heap.size (w.alloc (.cells #[v] 84)) z → z.cell? ⟨w.heap.size, 0, none⟩ = some v := fun z hz => by
    have := (hz.block _ (by simp)).trans (heap_alloc_new w (.cells #[v] 84))
    simp [World.cell?, this]
  have HBx := Lib.hid hbox
  obtain ⟨W1, hW1⟩ : ∃ W1, W1 = w.alloc (.cells #[v] 84) := ⟨_, rfl⟩
  have HW1 := Lib.hid hW1
  have hb1 : Below w.heap.size w W1 := by rw [hW1]; exact hal _
  rw [← hW1] at HBx
  have h01 := h0.thenCall h0.size hb1
  clear hG hk hi hv hbox hal hW1
  go_enter Try.func97, Try.ntmps97
  go_upto_region 1 with fail
  rw [← HW1.out]
  go_wp2_with fail
  refine (HFo.out W1 i h01 HI.out).mono ?_
  rintro _ w1 ⟨rfl, q1⟩
  have h02 := h01.thenCall h01.size q1
  go_wp2_with (go_at_call 34; refine (HLe.out w1 h02).mono ?_; rintro _ w1 ⟨rfl, rfl⟩)
  go_loopw [2, 19] (fun q c wr => ∃ (j : Nat) (i' : Int), c = .int .i64 j ∧ q = .int .i64 i' ∧ j ≤ N ∧ Hid (W64 i') ∧ Hid (thr g (Fg.getF l) N (N - j) i' = thrG g (Fg.getF l) N i) ∧ Below W1.heap.size W1 wr) (fun _ c _ => N + 1 - (intOf c).toNat)
  case atStart => exact ⟨0, fol g N i, rfl, rfl, Nat.zero_le _, Lib.hid (fol64 HK.out _ HI.out), Lib.hid rfl, q1⟩
  case round =>
    obtain ⟨j, i', rfl, rfl, hj, hi', hf, hb⟩ := hrel
    have h0r := h01.trans (hb.mono h01.size)
    have hbw : Below w.heap.size w wr := hb1.thenCall hb1.size hb
    clear h01 h02 q1
    by_cases hlt : j < N
    · have hf2 := hf.out
      rw [show N - j = (N - (j + 1)) + 1 by omega] at hf2
      have HT0 := Lib.hid (thr_no (g := g) (f := Fg.getF l) (N := N) (i := i'))
      have HT1 := Lib.hid (thr_free (g := g) (i := i') (f := Fg.getF l) (N := N) (N - (j + 1)))
      have HT2 := Lib.hid (thr_out (g := g) (i := i') (f := Fg.getF l) (N := N) (N - (j + 1)))
      have HT3 := Lib.hid (thr_step (g := g) (i := i') (f := Fg.getF l) (N := N) (N - (j + 1)))
      have HF := Lib.hid hf2
      have HW : Hid (∀ k, k < (g.a i').length → W64 ((g.a i').getD k 0)) := Lib.hid (fun k hk => arg64 HK.out hi'.out hk)
      go_wp2_with fail
      refine (HGn.out wr i' h0r hi'.out).mono ?_
      rintro _ w2 ⟨A, cap, rfl, hA, q2⟩
      have hb2 := hb.thenCall hb.size q2
      have HA := Lib.hid (fun z (hz : Below w2.heap.size w2 z) => hA.below hz)
      clear hf hf2 hA
      generalize g.a i' = la at *
      generalize hgn : g.n i' = gn at *
      generalize g.k i' = gk at *
      generalize g.has i' = gh at *
      clear hgn
      have hal2 := fun o => (Below.refl w2.heap.size w2).alloc (Nat.le_refl _) o
      obtain ⟨W2, hW2⟩ : ∃ W2, W2 = w2.alloc (.cells #[.int .i64 gk, .int .i64 gn, .slice A la.length cap] 43) := ⟨_, rfl⟩
      have HW2 := Lib.hid hW2
      have hb23 : Below w2.heap.size w2 W2 := by rw [hW2]; exact hal2 _
      have hbx2 : W2.heap[w2.heap.size]? = some (.cells #[.int .i64 gk, .int .i64 gn, .slice A la.length cap] 43 (0, 0)) := by rw [hW2]; exact heap_alloc_new _ _
      have hz2 : w2.heap.size < W2.heap.size := by rw [hW2]; simp
      have hB2 : Below w.heap.size w W2 := (hbw.thenCall hbw.size q2).thenCall (Nat.le_trans hbw.size q2.size) hb23
      have hB1 : Below W1.heap.size W1 W2 := hb2.thenCall hb2.size hb23
      have HA2 := HA.out _ hb23
      have c0 : W2.cell? ⟨w2.heap.size, 0, none⟩ = some (.int .i64 gk) := by simp [World.cell?, hbx2]
      have c1 : W2.cell? ⟨w2.heap.size, 1, none⟩ = some (.int .i64 gn) := by simp [World.cell?, hbx2]
      have c2 : W2.cell? ⟨w2.heap.size, 2, none⟩ = some (.slice A la.length cap) := by simp [World.cell?, hbx2]
      have cb := HBx.out _ hB1
      have HB2 := Lib.hid hB2
      have HB1 := Lib.hid hB1
      have h0W := h0.trans (hB2.mono h0.size)
      have HHA := Lib.hid HA2
      have HX := Lib.hid hbx2
      clear hW2 hal2 hb23 hbx2 hB2 hB1 HA2 HA hb2 q2 hb hbw h0r
      go_upto_region 5 with fail
      rw [← HW2.out]
      clear HW2
      have hkin : gh = false ∨ (gh = true ∧ ¬ gk = 3 ∧ ¬ gk = 11) ∨ ((gk = 3 ∨ gk = 11) ∧ gh = true) := by
        cases gh <;> simp; by_cases h3 : gk = 3 <;> by_cases h4 : gk = 11 <;> simp [h3, h4]
      rcases hkin with rfl | ⟨rfl, hk3, hk11⟩ | ⟨hk3, rfl⟩
      · have HF2 := Lib.hid (HF.out.symm.trans (HT0.out (.inl rfl) _))
        clear HF HT0 HT1 HT2 HT3
        go_wp2_with fail
        go_ret2
        exact ⟨by rw [HF2.out]; rfl, HB2.out⟩
      · have q1 : (gk == 3) = false := by simpa using hk3
        have q2 : (gk != 3) = true := by simpa using hk3
        have q3 : (gk == 11) = false := by simpa using hk11
        have q4 : (gk != 11) = true := by simpa using hk11
        have HF2 := Lib.hid (HF.out.symm.trans (HT0.out (.inr ⟨hk3, hk11⟩) _))
        clear HF HT0 HT1 HT2 HT3 hk3 hk11
        go_wp2_with fail
        go_ret2
        exact ⟨by rw [HF2.out]; rfl, HB2.out⟩
      · have hno : ¬ (true = false ∨ (gk ≠ 3 ∧ gk ≠ 11)) := by
          rintro (e | ⟨e1, e2⟩)
          · cases e
          · rcases hk3 with e | e
            · exact e1 e
            · exact e2 e
        have HU1 := Lib.hid (HT1.out hno)
        have HU2 := Lib.hid (HT2.out hno)
        have HU3 := Lib.hid (HT3.out hno)
        clear HT0 HT1 HT2 HT3 hno
        generalize hq : Fg.getF l gn = q at *
        obtain ⟨at', hs⟩ := q
        have hq := Lib.hid hq
        dsimp only at *
        rcases hk3 with rfl | rfl
        all_goals
          go_wp2_with fail
          refine (HGe.out _ gn h0W).mono ?_
          rintro _ w3 ⟨rfl, q3⟩
          rw [hq.out]
          have b2 : w3.cell? ⟨w2.heap.size, 2, none⟩ = some (.slice A la.length cap) := by
            have := (q3.block _ hz2).trans HX.out
            simp [World.cell?, this]
          clear c0 c1 c2
          have HB3 : Hid (Below w.heap.size w w3) := Lib.hid (HB2.out.thenCall HB2.out.size q3)
          cases hs with
          | false =>
            have HF2 := Lib.hid (HF.out.symm.trans (HU1.out rfl))
            clear HF HU1 HU2 HU3
            go_wp2_with fail
            go_ret2
            exact ⟨by rw [HF2.out]; rfl, HB3.out⟩
          | true =>
            by_cases hat : at' < 0
            · have HF2 := Lib.hid (HF.out.symm.trans (HU2.out (by simp) (.inl hat)))
              clear HF HU1 HU2 HU3
              go_wp2_with fail
              go_ret2
              exact ⟨by rw [HF2.out]; rfl, HB3.out⟩
            · obtain ⟨q, rfl⟩ : ∃ q : Nat, at' = q := ⟨at'.toNat, by omega⟩
              by_cases hqa : q < la.length
              · have HF2 := Lib.hid (HF.out.symm.trans (HU3.out (by simp) (by omega))).symm
                have hWq := Lib.hid (HW.out q hqa)
                obtain ⟨b, o, e1, e2, e3⟩ := HHA.out.2.1 q hqa
                dsimp only at e1
                subst e1
                have e4 := (q3.cell (p := ⟨b, o + q, none⟩) e2).trans e3
                have h03 := h0.trans (HB3.out.mono h0.size)
                have hqi : (q : Int) < la.length := by omega
                have hqn : ¬ ((la.length : Int) ≤ q) := by omega
                clear HF HU1 HU2 HU3 e3 hat
                rw [Int.toNat_natCast] at HF2
                generalize la.getD q 0 = z at *
                go_wp2_with fail
                refine (HFo.out w3 z h03 hWq.out).mono ?_
                rintro _ w4 ⟨rfl, q4⟩
                go_wp2_with fail
                exact ⟨⟨j + 1, fol g N z, by go_num, rfl, by omega, Lib.hid (fol64 HK.out _ hWq.out), Lib.hid HF2, (HB1.out.thenCall HB1.out.size q3).thenCall (Nat.le_trans HB1.out.size q3.size) q4⟩, by simp [intOf]; omega⟩
              · have HF2 := Lib.hid (HF.out.symm.trans (HU2.out (by simp) (.inr (by omega))))
                have hqi : ¬ (q : Int) < la.length := by omega
                have hqn : ((la.length : Int) ≤ q) := by omega
                have hqm : la.length ≤ q := by omega
                clear HF HU1 HU2 HU3
                go_wp2_with fail
                go_ret2
                exact ⟨by rw [HF2.out]; rfl, HB3.out⟩
    · obtain rfl : j = N := by omega
      have hf2 := hf.out
      rw [Nat.sub_self, thr] at hf2
      have HF := Lib.hid hf2.symm
      clear hf hf2
      go_wp2_with fail
      refine (HGn.out wr i' h0r hi'.out).mono ?_
      rintro _ w2 ⟨A, cap, rfl, hA, q2⟩
      clear hA
      have hal2 := Lib.hid (fun o => (hbw.thenCall hbw.size q2).alloc (Nat.le_trans hbw.size q2.size) o)
      go_wp2_with fail
      go_ret2
      exact ⟨by rw [HF.out]; rfl, hal2.out _⟩
end Go.Proofs.Ytccknhhjkkbadaa.Wm
