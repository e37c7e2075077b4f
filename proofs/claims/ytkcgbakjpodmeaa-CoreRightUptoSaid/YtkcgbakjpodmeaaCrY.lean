/- Contract: the law's sound. -/
import Derived.Test.YtkcgbakjpodmeaaCrS
import Derived.Test.YtkcgbakjpodmeaaCrV
import Derived.Test.YtkcgbakjpodmeaaCrG
namespace Go.Proofs.Ytkcgbakjpodmeaa.Co
open Go.ChangeShapes Go.WideShapes Go.ChangeAt Go.RowKit Go.Proofs.Ytkcgbakjpodmeaa.Lift Go.Proofs.Ytkcgbakjpodmeaa.Data
set_option linter.unusedVariables false
set_option linter.unusedSimpArgs false
theorem PgR.numM {W : World} {p : Pg} {Ak Am Af : Option Addr} {ck cm cf : Nat} (h : PgR W p Ak Am Af ck cm cf) : NumAt W 4 Am p.mk' := fun j hj => by
  unfold Pg.mk' at hj ⊢
  rw [List.length_map] at hj
  obtain ⟨b, o, cs, e, hl, ⟨s, rfl⟩, hk, hc⟩ := h.rm j hj
  refine ⟨b, o, e, hl, ?_⟩
  rw [List.getElem_map]
  exact hc 1 _ rfl
theorem okM_ar {p : Pg} {i : Nat} {m : Mk} (h : ¬ (0 ≤ m.ar ∧ m.ar ≤ 8)) : okM p i m = false := by
  unfold okM
  by_cases h0 : 0 ≤ m.ar
  · rw [decide_eq_false (fun h2 => h ⟨h0, h2⟩)]; simp
  · rw [decide_eq_false h0]; simp
/-- whether a function's tree may be. -/
def trB (p : Pg) (f : Fn) : Bool := treeB p.makers.length p.fn' f.ar f.bodies.length f.t
set_option maxRecDepth 100000 in
set_option maxHeartbeats 8000000 in
theorem sound_any (w0 : World) (p : Pg) (Ak Am Af : Option Addr) (ck cm cf : Nat) (hp : PgR w0 p Ak Am Af ck cm cf) (hsm : ∀ f ∈ p.funs, ∀ b ∈ f.bodies, bdSmall b)
    (z : World) (h0 : Below w0.heap.size w0 z) :
    Calls Try.prog 13 #[.agg #[.slice Ak p.kinds.length ck, .slice Am p.makers.length cm, .slice Af p.funs.length cf]] z fun e z' => e = .returned (.bool (rightB p)) ∧ Below z.heap.size z z' := by
  have e1 : p.mk'.length = p.makers.length := by simp [Pg.mk']
  have e2 : p.fn'.length = p.funs.length := by simp [Pg.fn']
  have hTree : ∀ (f : Fn) (y : World) (fs : ByteArray) (At AB : Option Addr) (ct cb : Nat), CaHd At f.t.ys.length ct → Cas w0 At f.t.ys → f.bodies.length ≤ cb → cb ≤ 9223372036854775807 → f.bodies.length ≤ 1048576 → Below w0.heap.size w0 y →
      Calls Try.prog 25 #[.agg #[.slice Ak p.kinds.length ck, .slice Am p.makers.length cm, .slice Af p.funs.length cf], .agg #[.string fs, .int .i64 f.ar, .int .i64 f.t.k, .int .i64 f.t.r, .slice f.t.p.A f.t.p.n f.t.p.c, .slice At f.t.ys.length ct, .slice AB f.bodies.length cb], .agg #[.int .i64 f.t.k, .int .i64 f.t.r, .slice f.t.p.A f.t.p.n f.t.p.c, .slice At f.t.ys.length ct]] y fun e z' => e = .returned (.bool (trB p f)) ∧ Below y.heap.size y z' := by
    intro f y fs At AB ct cb h1 h2 h3 h4 h5 h6
    have hT := rtree_any f.t.size p.fn' f.ar (.slice Ak p.kinds.length ck) (.string fs) (.int .i64 f.t.k) (.int .i64 f.t.r) (.slice f.t.p.A f.t.p.n f.t.p.c) (.slice At f.t.ys.length ct) Am Af AB p.makers.length cm cf f.bodies.length cb hp.m1 hp.m2 hp.m3 (by rw [e2]; exact hp.f1) hp.f2 (by rw [e2]; exact hp.f3) h3 h4 h5 w0 f.t (Nat.le_refl _) hp.fnrows
    rw [e2] at hT
    exact hT y At ct h1 h2 h6
  have hBody : ∀ (b : Bd) (y : World) (v : Value) (A : Option Addr) (c : Nat), b.n + b.core.size ≤ 4194304 → b.core.Val w0 v → InSl y A c (slotsN b.n) → Below w0.heap.size w0 y →
      Calls Try.prog 26 #[.agg #[.slice Ak p.kinds.length ck, .slice Am p.makers.length cm, .slice Af p.funs.length cf], v, .slice A b.n c] y fun r w' => r = .returned (.bool (bdB p b)) ∧ Below y.heap.size y w' := by
    intro b y v A c h1 h2 h3 h4
    have h := law26_any b.core.size w0 p.mk' p.fn' Ak Am Af p.kinds.length ck cm cf hp.numM hp.fnrows (by rw [e1]; have := hp.m3; omega) (by rw [e2]; have := hp.f3; omega) b.core (slotsN b.n) y v A c (Nat.le_refl _) (by rw [slotsN_len]; exact h1) h2 h3 h4
    rw [e1, e2, slotsN_len] at h
    exact h
  have hFB : ∀ f : Fn, funB p f = (decide (0 ≤ f.ar) && (decide (f.ar ≤ 8) && (trB p f && f.bodies.all (bdB p)))) := fun f => rfl
  have hRB : rightB p = (allI (fun k cons => allI (okC p k) 0 cons) 0 p.kinds && (allI (okM p) 0 p.makers && p.funs.all (funB p))) := rfl
  have HRB := Lib.hid hRB
  have HFB := Lib.hid hFB
  have HTree := Lib.hid hTree
  have HBody := Lib.hid hBody
  clear hRB hFB hTree hBody e1 e2
  generalize rightB p = R at *
  generalize trB p = tB at *
  generalize bdB p = bB at *
  generalize funB p = fB at *
  have HNo := Lib.hid (fun k i c => @okC_no p k i c)
  have HYe := Lib.hid (fun k i n => @okC_yes p k i n)
  have HMNo := Lib.hid (fun i m => @okM_no p i m)
  have HMAr := Lib.hid (fun i m => @okM_ar p i m)
  have HMYe := Lib.hid (fun i n m => @okM_yes p i n m)
  generalize okC p = oc at *
  generalize okM p = om at *
  have HKR := Lib.hid hp.rk
  have HMR := Lib.hid hp.rm
  have HFR := Lib.hid hp.rf
  have k1 := hp.k1
  have k2 := hp.k2
  have k3 := hp.k3
  have m1 := hp.m1
  have m2 := hp.m2
  have m3 := hp.m3
  have f1 := hp.f1
  have f2 := hp.f2
  have f3 := hp.f3
  clear hp
  obtain ⟨kinds, makers, funs⟩ := p
  dsimp only at *
  have HSm := Lib.hid hsm
  have HH0 := Lib.hid h0
  clear hsm
  go_enter Try.func13, Try.ntmps13
  go_upto_region 1 with fail
  have e1 := heap_alloc_new z (.cells #[.slice Ak kinds.length ck, .slice Am makers.length cm, .slice Af funs.length cf] 26)
  have hbW := below1C z (.cells #[.slice Ak kinds.length ck, .slice Am makers.length cm, .slice Af funs.length cf] 26)
  generalize z.alloc (.cells #[.slice Ak kinds.length ck, .slice Am makers.length cm, .slice Af funs.length cf] 26) = W at *
  have hpl := (Array.getElem?_eq_some_iff.1 e1).1
  have HP := fun (y : World) (hy : Below W.heap.size W y) => Lib.hid (cells3p ((hy.block _ hpl).trans e1))
  have h0W := h0.trans (hbW.mono h0.size)
  obtain ⟨p0, p1, p2⟩ := (HP W (Below.refl _ _)).out
  have HHW := Lib.hid h0W
  have HHB := Lib.hid hbW
  clear e1 hpl h0W h0 HH0 hbW
  go_wp2_with fail
  go_loopw [18] (fun i wq => ∃ q : Nat, i = .int .i64 q ∧ q ≤ makers.length ∧ Hid (allI om 0 (makers.take q) = true) ∧ Hid (Below W.heap.size W wq)) (fun i _ => makers.length - (intOf i).toNat)
  case atStart => exact ⟨0, rfl, Nat.zero_le _, Lib.hid rfl, Lib.hid (Below.refl _ _)⟩
  case round =>
    rename World => wq
    obtain ⟨q, rfl, hq, hal2, hbq⟩ := hrel
    have hb0q := HHW.out.trans (hbq.out.mono HHW.out.size)
    by_cases hlq : q < makers.length
    · obtain ⟨b2, o2, cs2, hAm, hbl2, ⟨s2, rfl⟩, -, hc2⟩ := HMR.out q hlq
      subst hAm
      have hx2 := fun i u hu => (hb0q.cell (p := ⟨b2, o2 + q * 4 + i, none⟩) hbl2).trans (hc2 i u hu)
      have y0 := hx2 0 _ rfl
      have y1 := hx2 1 _ rfl
      have y2 := hx2 2 _ rfl
      have y3 := hx2 3 _ rfl
      rw [Nat.add_zero] at y0
      have HTq := Lib.hid (allI_take om (l := makers) (j := q) 0 hlq)
      have HMq := Lib.hid (allI_miss om (l := makers) (j := q) 0 hlq)
      rw [Nat.zero_add] at HTq HMq
      clear hx2 hc2
      have HNo2 := HMNo.out q makers[q]
      have HAr2 := HMAr.out q makers[q]
      have HYe2 := fun n => HMYe.out q n makers[q]
      generalize hom : om q makers[q] = ov at *
      clear hom
      generalize makers[q] = mq at *
      obtain ⟨ar, ty, tg⟩ := mq
      dsimp only at *
      go_upto_region 4 with fail
      have hnV := heap_alloc_new wq (.cells #[.string s2, .int .i64 ar, .int .i64 ty, .int .i64 tg] 59)
      have hbV := below1C wq (.cells #[.string s2, .int .i64 ar, .int .i64 ty, .int .i64 tg] 59)
      generalize wq.alloc (.cells #[.string s2, .int .i64 ar, .int .i64 ty, .int .i64 tg] 59) = V at *
      have hVW := hbq.out.thenCall hbq.out.size hbV
      obtain ⟨d0, d1, d2, d3⟩ := cells4p hnV
      have hb0V := HHW.out.trans (hVW.mono HHW.out.size)
      obtain ⟨p0, p1, p2⟩ := (HP V hVW).out
      have HVW := Lib.hid hVW
      clear y0 y1 y2 y3 hnV hbV hVW
      by_cases ha0 : ar < 0
      · have HE : Hid (R = false) := Lib.hid (by rw [HRB.out, HMq.out (HAr2 (by omega))]; simp)
        clear HTq HMq HNo2 HYe2 HAr2
        go_wp2_with fail
        go_ret
        exact ⟨by rw [HE.out]; try rfl, HHB.out.thenCall HHB.out.size HVW.out⟩
      by_cases ha8 : 8 < ar
      · have HE : Hid (R = false) := Lib.hid (by rw [HRB.out, HMq.out (HAr2 (by omega))]; simp)
        clear HTq HMq HNo2 HYe2 HAr2
        go_wp2_with fail
        go_ret
        exact ⟨by rw [HE.out]; try rfl, HHB.out.thenCall HHB.out.size HVW.out⟩
      by_cases ht0 : ty < 0
      · have HE : Hid (R = false) := Lib.hid (by rw [HRB.out, HMq.out (HNo2 (by omega))]; simp)
        clear HTq HMq HNo2 HYe2 HAr2
        go_wp2_with fail
        go_ret
        exact ⟨by rw [HE.out]; try rfl, HHB.out.thenCall HHB.out.size HVW.out⟩
      by_cases ht1 : ty < (kinds.length : Int)
      · obtain ⟨nt, rfl⟩ : ∃ n : Nat, ty = n := ⟨ty.toNat, by omega⟩
        have hnt : nt < kinds.length := by omega
        obtain ⟨b, o, cs, hAk, hbl, ⟨s, A1, c1, rfl, hIn⟩, -, hc⟩ := HKR.out nt hnt
        subst hAk
        have x1 := (hb0V.cell (p := ⟨b, o + nt * 2 + 1, none⟩) hbl).trans (hc 1 _ rfl)
        have HV := HYe2 nt hnt rfl
        have HCn := Lib.hid (in_any V A1 c1 kinds[nt] (q : Int) (hIn.below hb0V (Nat.le_refl _)))
        have hi2 := hIn.2
        obtain ⟨hi21, hi22, hi23, -⟩ := hi2
        rw [decide_eq_true (show 0 ≤ ar by omega), decide_eq_true (show ar ≤ 8 by omega)] at HV
        clear hIn hc HNo2 HYe2 HAr2
        generalize inB kinds[nt] (q : Int) = ib at *
        generalize kinds[nt] = cons at *
        cases ib
        · have HE : Hid (R = false) := Lib.hid (by rw [HRB.out, HMq.out (by rw [HV]; rfl)]; simp)
          clear HV HTq HMq
          go_wp2_with (go_at_call 24; refine HCn.out.mono ?_; rintro _ z1 ⟨rfl, rfl⟩)
          go_ret
          exact ⟨by rw [HE.out]; try rfl, HHB.out.thenCall HHB.out.size HVW.out⟩
        have HN : Hid (allI om 0 (makers.take (q + 1)) = true) := Lib.hid (by rw [HTq.out, hal2.out, HV]; rfl)
        clear HV HTq HMq
        go_wp2_with (go_at_call 24; refine HCn.out.mono ?_; rintro _ z1 ⟨rfl, rfl⟩)
        exact ⟨⟨q + 1, by go_num, by omega, HN, HVW⟩, by simp [intOf]; omega⟩
      · have HE : Hid (R = false) := Lib.hid (by rw [HRB.out, HMq.out (HNo2 (by omega))]; simp)
        clear HTq HMq HNo2 HYe2 HAr2
        go_wp2_with fail
        go_ret
        exact ⟨by rw [HE.out]; try rfl, HHB.out.thenCall HHB.out.size HVW.out⟩
    · have HRK : Hid (R = (allI (fun k cons => allI (oc k) 0 cons) 0 kinds && funs.all fB)) := Lib.hid (by
        have h := hal2.out
        rw [List.take_of_length_le (by omega)] at h
        rw [HRB.out, h]
        rfl)
      obtain ⟨p0, p1, p2⟩ := (HP wq hbq.out).out
      clear HRB hal2
      go_wp2_with fail
      go_loopw [60] (fun i wr => ∃ j : Nat, i = .int .i64 j ∧ j ≤ kinds.length ∧ Hid (allI (fun k cons => allI (oc k) 0 cons) 0 (kinds.take j) = true) ∧ Hid (Below W.heap.size W wr)) (fun i _ => kinds.length - (intOf i).toNat)
      case atStart => exact ⟨0, rfl, Nat.zero_le _, Lib.hid rfl, hbq⟩
      case round =>
        rename World => wr
        obtain ⟨j, rfl, hj, hall, hbb⟩ := hrel
        have hb0 := HHW.out.trans (hbb.out.mono HHW.out.size)
        have hWr := hbb.out.size
        by_cases hlt : j < kinds.length
        · obtain ⟨b, o, cs, hAk, hbl, ⟨s, A1, c1, rfl, hIn⟩, -, hc⟩ := HKR.out j hlt
          subst hAk
          have hx := fun i u hu => (hb0.cell (p := ⟨b, o + j * 2 + i, none⟩) hbl).trans (hc i u hu)
          have x0 := hx 0 _ rfl
          have x1 := hx 1 _ rfl
          rw [Nat.add_zero] at x0
          have HTk := Lib.hid (allI_take (fun k cons => allI (oc k) 0 cons) (l := kinds) (j := j) 0 hlt)
          have HMs := Lib.hid (allI_miss (fun k cons => allI (oc k) 0 cons) (l := kinds) (j := j) 0 hlt)
          rw [Nat.zero_add] at HTk HMs
          have hi2 := hIn.2
          obtain ⟨hi21, hi22, hi23, -⟩ := hi2
          have HIn := Lib.hid hIn.1
          generalize kinds[j] = cons at *
          clear hx hc hIn
          go_upto_region 10 with fail
          have hnV := heap_alloc_new wr (.cells #[.string s, .slice A1 cons.length c1] 56)
          have hbV := below1C wr (.cells #[.string s, .slice A1 cons.length c1] 56)
          generalize wr.alloc (.cells #[.string s, .slice A1 cons.length c1] 56) = V at *
          have hVW := hbb.out.thenCall hbb.out.size hbV
          have d1 := (cells2p hnV).2
          have HVW := Lib.hid hVW
          clear x0 x1 hnV hbV hVW
          go_wp2_with fail
          go_loopw [68] (fun i wq => ∃ q : Nat, i = .int .i64 q ∧ q ≤ cons.length ∧ Hid (allI (oc j) 0 (cons.take q) = true) ∧ Hid (Below V.heap.size V wq)) (fun i _ => cons.length - (intOf i).toNat)
          case atStart => exact ⟨0, rfl, Nat.zero_le _, Lib.hid rfl, Lib.hid (Below.refl _ _)⟩
          case round =>
            rename World => wx
            obtain ⟨q, rfl, hq, hal2, hbq⟩ := hrel
            have hbWq := HVW.out.thenCall HVW.out.size hbq.out
            have hb0q := HHW.out.trans (hbWq.mono HHW.out.size)
            obtain ⟨p0, p1, p2⟩ := (HP wx hbWq).out
            by_cases hlq : q < cons.length
            · obtain ⟨b1, o1, hA1, hbl1, hc1⟩ := HIn.out q hlq
              subst hA1
              have hg : cons.getD q 0 = cons[q] := by simp [List.getD, List.getElem?_eq_getElem hlq]
              rw [hg] at hc1
              have x2 := (hb0q.cell (p := ⟨b1, o1 + q, none⟩) hbl1).trans hc1
              have HTq := Lib.hid (allI_take (oc j) (l := cons) (j := q) 0 hlq)
              have HMq := Lib.hid (allI_miss (oc j) (l := cons) (j := q) 0 hlq)
              rw [Nat.zero_add] at HTq HMq
              clear hg hc1
              generalize cons[q] = c at *
              by_cases hc0 : c < 0
              · have HE : Hid (R = false) := Lib.hid (by rw [HRK.out, HMs.out (HMq.out (HNo.out j q c (by omega)))]; rfl)
                clear HTq HMq HTk HMs
                go_wp2_with fail
                go_ret
                exact ⟨by rw [HE.out]; try rfl, HHB.out.thenCall HHB.out.size hbWq⟩
              by_cases hc1 : c < (makers.length : Int)
              · obtain ⟨nc, rfl⟩ : ∃ n : Nat, c = n := ⟨c.toNat, by omega⟩
                have hnc : nc < makers.length := by omega
                have hnc2 : ¬ makers.length ≤ nc := by omega
                obtain ⟨b2, o2, cs2, hAm, hbl2, ⟨s2, rfl⟩, -, hc2⟩ := HMR.out nc hnc
                subst hAm
                have hx2 := fun i u hu => (hb0q.cell (p := ⟨b2, o2 + nc * 4 + i, none⟩) hbl2).trans (hc2 i u hu)
                have y2 := hx2 2 _ rfl
                have y3 := hx2 3 _ rfl
                have HV := HYe.out j q nc hnc
                generalize makers[nc].ty = ty at *
                generalize makers[nc].tag = tg at *
                clear hx2 hc2
                by_cases ht : ty = (j : Int)
                · by_cases hg : tg = (q : Int)
                  · have HN : Hid (allI (oc j) 0 (cons.take (q + 1)) = true) := Lib.hid (by rw [HTq.out, hal2.out, HV, ht, hg]; simp)
                    subst ht hg
                    clear HV HTq HMq
                    go_wp2_with fail
                    exact ⟨⟨q + 1, by go_num, by omega, HN, hbq⟩, by simp [intOf]; omega⟩
                  · have HE : Hid (R = false) := Lib.hid (by rw [HRK.out, HMs.out (HMq.out (by rw [HV, ht]; simp [hg]))]; rfl)
                    have hg2 : (tg == (q : Int)) = false := by simpa using hg
                    have hg3 : (tg != (q : Int)) = true := by simp [hg]
                    subst ht
                    clear HV HTq HMq HTk HMs
                    go_wp2_with fail
                    go_ret
                    exact ⟨by rw [HE.out]; try rfl, HHB.out.thenCall HHB.out.size hbWq⟩
                · have HE : Hid (R = false) := Lib.hid (by rw [HRK.out, HMs.out (HMq.out (by rw [HV]; simp [ht]))]; rfl)
                  have ht2 : (ty == (j : Int)) = false := by simpa using ht
                  have ht3 : (ty != (j : Int)) = true := by simp [ht]
                  clear HV HTq HMq HTk HMs
                  go_wp2_with fail
                  go_ret
                  exact ⟨by rw [HE.out]; try rfl, HHB.out.thenCall HHB.out.size hbWq⟩
              · have HE : Hid (R = false) := Lib.hid (by rw [HRK.out, HMs.out (HMq.out (HNo.out j q c (by omega)))]; rfl)
                clear HTq HMq HTk HMs
                go_wp2_with fail
                go_ret
                exact ⟨by rw [HE.out]; try rfl, HHB.out.thenCall HHB.out.size hbWq⟩
            · have HN : Hid (allI (fun k cons => allI (oc k) 0 cons) 0 (kinds.take (j + 1)) = true) := Lib.hid (by
                have h := hal2.out
                rw [List.take_of_length_le (by omega)] at h
                rw [HTk.out, hall.out]
                simpa using h)
              clear HTk HMs
              go_wp2_with fail
              exact ⟨⟨j + 1, by go_num, by omega, HN, Lib.hid hbWq⟩, by simp [intOf]; omega⟩
        · have HRF : Hid (R = funs.all fB) := Lib.hid (by
            have h := hall.out
            rw [List.take_of_length_le (by omega)] at h
            rw [HRK.out, h]
            rfl)
          obtain ⟨p0, p1, p2⟩ := (HP wr hbb.out).out
          clear HRK hall HKR HMR HNo HYe HMNo HMAr HMYe
          go_wp2_with fail
          go_loopw [107] (fun i wx => ∃ q : Nat, i = .int .i64 q ∧ q ≤ funs.length ∧ Hid ((funs.take q).all fB = true) ∧ Hid (Below W.heap.size W wx)) (fun i _ => funs.length - (intOf i).toNat)
          case atStart => exact ⟨0, rfl, Nat.zero_le _, Lib.hid rfl, hbb⟩
          case round =>
            rename World => wx
            obtain ⟨q, rfl, hq, hal2, hbq⟩ := hrel
            have hb0q := HHW.out.trans (hbq.out.mono HHW.out.size)
            by_cases hlq : q < funs.length
            · obtain ⟨b, o, cs, hAf, hbl, hF, -, hc⟩ := HFR.out q hlq
              subst hAf
              obtain ⟨fs, At, ct, AB, cb, rfl, h1, h2, h3, h4, h5, h6⟩ := fn_cells hF
              have hx := fun i u hu => (hb0q.cell (p := ⟨b, o + q * 7 + i, none⟩) hbl).trans (hc i u hu)
              have c0 := hx 0 _ rfl
              have c1 := hx 1 _ rfl
              have c2 := hx 2 _ rfl
              have c3 := hx 3 _ rfl
              have c4 := hx 4 _ rfl
              have c5 := hx 5 _ rfl
              have c6 := hx 6 _ rfl
              rw [Nat.add_zero] at c0
              have HTq := Lib.hid (all_takeW fB hlq)
              have HMq := Lib.hid (all_missW fB hlq)
              have HFj := Lib.hid (HFB.out funs[q])
              have HSmj := Lib.hid (HSm.out funs[q] (List.getElem_mem hlq))
              have HTr := fun y hy => Lib.hid (HTree.out funs[q] y fs At AB ct cb h1 h2 h4 h5 h6 hy)
              clear hx hc hF h1 h2
              generalize fB funs[q] = fv at *
              generalize tB funs[q] = tv at *
              generalize funs[q].t.k = tk at *
              generalize funs[q].t.r = tr at *
              generalize funs[q].t.p.A = tpA at *
              generalize funs[q].t.p.n = tpn at *
              generalize funs[q].t.p.c = tpc at *
              generalize funs[q].t.ys.length = tl at *
              generalize funs[q].bodies = bds at *
              generalize funs[q].ar = ar at *
              have HBr := Lib.hid h3
              clear h3
              go_upto_region 20 with fail
              have hnV := heap_alloc_new wx (.cells #[.string fs, .int .i64 ar, .int .i64 tk, .int .i64 tr, .slice tpA tpn tpc, .slice At tl ct, .slice AB bds.length cb] 43)
              have hbV := below1C wx (.cells #[.string fs, .int .i64 ar, .int .i64 tk, .int .i64 tr, .slice tpA tpn tpc, .slice At tl ct, .slice AB bds.length cb] 43)
              generalize wx.alloc (.cells #[.string fs, .int .i64 ar, .int .i64 tk, .int .i64 tr, .slice tpA tpn tpc, .slice At tl ct, .slice AB bds.length cb] 43) = V at *
              have hVW := hbq.out.thenCall hbq.out.size hbV
              have hnl := (Array.getElem?_eq_some_iff.1 hnV).1
              have HFc := fun (y : World) (hy : Below V.heap.size V y) => Lib.hid (cells7p ((hy.block _ hnl).trans hnV))
              obtain ⟨g0, g1, g2, g3, g4, g5, g6⟩ := (HFc V (Below.refl _ _)).out
              obtain ⟨p0, p1, p2⟩ := (HP V hVW).out
              have HTV := HTr V (HHW.out.trans (hVW.mono HHW.out.size))
              have HVW := Lib.hid hVW
              clear c0 c1 c2 c3 c4 c5 c6 hnV hbV hVW hnl HTr
              by_cases ha0 : ar < 0
              · have HE : Hid (R = false) := Lib.hid (by rw [HRF.out, HMq.out (by rw [HFj.out, decide_eq_false (show ¬ 0 ≤ ar by omega)]; rfl)])
                clear HTq HMq HFj
                go_wp2_with fail
                go_ret
                exact ⟨by rw [HE.out]; try rfl, HHB.out.thenCall HHB.out.size HVW.out⟩
              by_cases ha8 : 8 < ar
              · have HE : Hid (R = false) := Lib.hid (by rw [HRF.out, HMq.out (by rw [HFj.out, decide_eq_false (show ¬ ar ≤ 8 by omega)]; simp)])
                clear HTq HMq HFj
                go_wp2_with fail
                go_ret
                exact ⟨by rw [HE.out]; try rfl, HHB.out.thenCall HHB.out.size HVW.out⟩
              cases tv
              · have HE : Hid (R = false) := Lib.hid (by rw [HRF.out, HMq.out (by rw [HFj.out]; simp)])
                clear HTq HMq HFj
                go_wp2_with (go_at_call 25; refine HTV.out.mono ?_; rintro _ z1 ⟨rfl, q1⟩)
                go_ret
                exact ⟨by rw [HE.out]; try rfl, HHB.out.thenCall HHB.out.size (HVW.out.thenCall HVW.out.size q1)⟩
              have HFv : Hid (fv = bds.all bB) := Lib.hid (by rw [HFj.out, decide_eq_true (show 0 ≤ ar by omega), decide_eq_true (show ar ≤ 8 by omega)]; rfl)
              clear HFj
              go_upto_region 22 with (go_at_call 25; refine HTV.out.mono ?_; rintro _ z1 ⟨rfl, q1⟩; obtain ⟨g0, g1, g2, g3, g4, g5, g6⟩ := (HFc z1 q1).out)
              have HQ1 := Lib.hid q1
              clear q1 ha0 ha8 HTV p0 p1 p2
              go_wp2_with fail
              go_loopw [130] (fun i wy => ∃ j : Nat, i = .int .i64 j ∧ j ≤ bds.length ∧ Hid ((bds.take j).all bB = true) ∧ Hid (Below V.heap.size V wy)) (fun i _ => bds.length - (intOf i).toNat)
              case atStart => exact ⟨0, rfl, Nat.zero_le _, Lib.hid (by simp), HQ1⟩
              case round =>
                rename World => wy
                obtain ⟨j, rfl, hj, hallb, hby⟩ := hrel
                have hbWy := HVW.out.thenCall HVW.out.size hby.out
                have hb0y := HHW.out.trans (hbWy.mono HHW.out.size)
                by_cases hltb : j < bds.length
                · obtain ⟨b', o', cs', hAB, hbl', ⟨A1, c1, cc, rfl, hn1, hn2, hn3, hcs⟩, -, hc⟩ := HBr.out j hltb
                  subst hAB
                  have hx := fun i u hu => (hb0y.cell (p := ⟨b', o' + j * 4 + i, none⟩) hbl').trans (hc i u hu)
                  have hsm := HSmj.out bds[j] (List.getElem_mem hltb)
                  unfold bdSmall at hsm
                  have HTk := Lib.hid (all_takeW bB hltb)
                  have HMs := Lib.hid (all_missW bB hltb)
                  have hFj := HBody.out bds[j]
                  generalize bB bds[j] = OK at *
                  generalize bds[j] = bd at *
                  obtain ⟨nb', core⟩ := bd
                  dsimp only at *
                  cases core with
                  | mk ck' cn' cys =>
                  obtain ⟨A2, c2, rfl, hh2, hs2⟩ := hcs
                  have hFj := fun y A c => hFj y (.agg #[.int .i64 ck', .int .i64 cn', .slice A2 cys.length c2]) A c hsm ⟨A2, c2, rfl, hh2, hs2⟩
                  have HFj := Lib.hid hFj
                  have x0 := hx 0 _ rfl
                  have x1 := hx 1 _ rfl
                  have x2 := hx 2 _ rfl
                  have x3 := hx 3 _ rfl
                  rw [Nat.add_zero] at x0
                  clear hx hc hFj hh2 hs2
                  obtain ⟨i0, hi0, hz0, hz1, hz2⟩ := info_parts info3'
                  go_upto_region 25 with fail
                  have hnU := heap_alloc_new wy (.cells #[.slice A1 nb' c1, .int .i64 ck', .int .i64 cn', .slice A2 cys.length c2] 46)
                  have hbU := below1C wy (.cells #[.slice A1 nb' c1, .int .i64 ck', .int .i64 cn', .slice A2 cys.length c2] 46)
                  generalize wy.alloc (.cells #[.slice A1 nb' c1, .int .i64 ck', .int .i64 cn', .slice A2 cys.length c2] 46) = U at *
                  have hUV := hby.out.thenCall hby.out.size hbU
                  have hnl := (Array.getElem?_eq_some_iff.1 hnU).1
                  have d0 := (cells4p hnU).1
                  clear x0 x1 x2 x3
                  go_wp2_with fail
                  go_loopw [13, 137] (fun x i wq => ∃ (q : Nat) (A3 : Option Addr) (c3 : Nat), x = .slice A3 q c3 ∧ i = .int .i64 q ∧ q ≤ nb' ∧ q ≤ c3 ∧ c3 ≤ 9223372036854775807 ∧ Hid (wq.ownsRow U.heap.size 3 1 (.slice A3 q c3) q ((slotsN q).map (Value.int .i64))) ∧ Hid (Below U.heap.size U wq)) (fun _ i _ => nb' - (intOf i).toNat)
                  case atStart => exact ⟨0, none, 0, rfl, rfl, Nat.zero_le _, Nat.le_refl _, by omega, Lib.hid (World.ownsRow_nil _ _ _ _), Lib.hid (Below.refl _ _)⟩
                  case round =>
                    rename World => wz
                    obtain ⟨qq, A3, c3, rfl, rfl, hqq, hq1, hq2, hO, hbz⟩ := hrel
                    have hbVz := hbz.out.size
                    by_cases hlz : qq < nb'
                    · have hone : ∀ u ∈ [Value.int .i64 (qq : Int)], u.oneCell' = true := by simp [Value.oneCell']
                      have hg1 : qq + 1 ≤ maxLen := by unfold maxLen; omega
                      have hg2 : (qq + 1) * 8 ≤ 140737488355328 := by omega
                      go_wp2_with (at_builtin; refine wpList_append_src rfl (.tmp 140) (.tmp 142) 30 rfl U.heap.size 3 i0 _ 1 8 Try.underlying30 hi0 hz0 hz1 hz2 rfl (by omega) (.slice A3 qq c3) qq _ rfl (own_below hO.out (below1C wz (.cells #[.int .i64 (qq : Int)] 3)) (Nat.le_refl _)) (some ⟨wz.heap.size, 0, none⟩) 1 1 [.int .i64 (qq : Int)] rfl (Lift.Src.of_own (own_new wz 3 1 1 #[.int .i64 (qq : Int)] rfl (by omega))) (fun h => nomatch h) hone hg1 hg2 (by simp; omega) ?_; intro v2 w3' ho3 hg3)
                      have h2 := (below_grown (own_below hO.out (below1C wz (.cells #[.int .i64 (qq : Int)] 3)) (Nat.le_refl _)) hg3 (by simp; omega))
                      obtain ⟨A4, c4, rfl, hc4, hc5⟩ := own_form ho3
                      refine ⟨⟨qq + 1, A4, c4, rfl, by go_num, by omega, hc4, hc5, Lib.hid ?_, Lib.hid (hbz.out.trans (((below1C wz _).mono hbVz).trans h2))⟩, by simp [intOf]; omega⟩
                      rw [slotsN_succ]
                      exact ho3
                    · obtain rfl : qq = nb' := by omega
                      have hbV2 := hUV.thenCall hUV.size hbz.out
                      have hbW2 := HVW.out.thenCall HVW.out.size hbV2
                      obtain ⟨p0, p1, p2⟩ := (HP wz hbW2).out
                      obtain ⟨d0q, d1q, d2q, d3q⟩ := cells4p ((hbz.out.block _ hnl).trans hnU)
                      have hO2 : OwnR wz U.heap.size A3 c3 (slotsN qq) := by
                        unfold OwnR
                        rw [slotsN_len]
                        exact hO.out
                      have HC := HFj.out wz A3 c3 (hO2.insl (by rw [slotsN_len]; omega)) (HHW.out.trans (hbW2.mono HHW.out.size))
                      have HC := Lib.hid HC
                      clear hO hO2 hnU d0
                      cases OK
                      · have HE : Hid (R = false) := Lib.hid (by rw [HRF.out, HMq.out (by rw [HFv.out, HMs.out rfl])])
                        clear HMs HTk
                        go_wp2_with (go_at_call 26; refine HC.out.mono ?_; rintro _ z2 ⟨rfl, q2⟩)
                        go_ret
                        exact ⟨by rw [HE.out]; try rfl, HHB.out.thenCall HHB.out.size (hbW2.thenCall hbW2.size q2)⟩
                      · have HN : Hid ((bds.take (j + 1)).all bB = true) := Lib.hid (by rw [HTk.out, hallb.out]; rfl)
                        clear HMs HTk
                        go_wp2_with (go_at_call 26; refine HC.out.mono ?_; rintro _ z2 ⟨rfl, q2⟩)
                        exact ⟨⟨j + 1, by go_num, by omega, HN, Lib.hid (hbV2.thenCall hbV2.size q2)⟩, by simp [intOf]; omega⟩
                · have HN : Hid ((funs.take (q + 1)).all fB = true) := Lib.hid (by
                    have h := hallb.out
                    rw [List.take_of_length_le (by omega)] at h
                    rw [HTq.out, hal2.out, HFv.out, h]
                    rfl)
                  clear hallb
                  go_wp2_with fail
                  exact ⟨⟨q + 1, by go_num, by omega, HN, Lib.hid hbWy⟩, by simp [intOf]; omega⟩
            · have HA : Hid (R = true) := Lib.hid (by
                have h := hal2.out
                rw [List.take_of_length_le (by omega)] at h
                rw [HRF.out, h])
              clear hal2
              go_wp2_with fail
              go_ret
              exact ⟨by rw [HA.out]; try rfl, HHB.out.thenCall HHB.out.size hbq.out⟩
end Go.Proofs.Ytkcgbakjpodmeaa.Co
