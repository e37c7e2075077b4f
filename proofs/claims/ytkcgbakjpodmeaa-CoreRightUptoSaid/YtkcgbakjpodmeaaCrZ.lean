/- The walk of CoreRight. -/
import Derived.Test.YtkcgbakjpodmeaaCrY
namespace Go.Proofs.Ytkcgbakjpodmeaa.coreRight
open Go.ChangeShapes Go.WideShapes Go.ChangeAt Go.RowKit Go.Proofs.Ytkcgbakjpodmeaa.Lift Go.Proofs.Ytkcgbakjpodmeaa.Data Go.Proofs.Ytkcgbakjpodmeaa.Co
set_option linter.unusedVariables false
set_option linter.unusedSimpArgs false
set_option maxRecDepth 100000 in
set_option maxHeartbeats 8000000 in
theorem walk (W : World) (p : Pg) (Ak Am Af : Option Addr) (ck cm cf : Nat) (hp : PgR W p Ak Am Af ck cm cf) (hsm : ∀ f ∈ p.funs, ∀ b ∈ f.bodies, bdSmall b) (n : Int) :
    Calls Try.prog 4 #[.agg #[.slice Ak p.kinds.length ck, .slice Am p.makers.length cm, .slice Af p.funs.length cf], .int .i64 n] W fun e w' => e = .returned (.bool true) ∧ Below W.heap.size W w' := by
  have HRt := fun (y : World) (hy : Below W.heap.size W y) => Lib.hid (right_any W p Ak Am Af ck cm cf hp hsm y hy)
  have HSo := fun (y : World) (hy : Below W.heap.size W y) => Lib.hid (sound_any W p Ak Am Af ck cm cf hp hsm y hy)
  generalize rightB p = R at *
  have HFR := Lib.hid hp.rf
  have HSm := Lib.hid hsm
  have k1 := hp.k1
  have k2 := hp.k2
  have k3 := hp.k3
  have m1 := hp.m1
  have m2 := hp.m2
  have m3 := hp.m3
  have f1 := hp.f1
  have f2 := hp.f2
  have f3 := hp.f3
  clear hp hsm
  obtain ⟨kinds, makers, funs⟩ := p
  dsimp only at *
  go_enter Try.func4, Try.ntmps4
  go_upto_region 1 with fail
  have e1 := heap_alloc_new W (.cells #[.slice Ak kinds.length ck, .slice Am makers.length cm, .slice Af funs.length cf] 26)
  have hbW := below1C W (.cells #[.slice Ak kinds.length ck, .slice Am makers.length cm, .slice Af funs.length cf] 26)
  generalize W.alloc (.cells #[.slice Ak kinds.length ck, .slice Am makers.length cm, .slice Af funs.length cf] 26) = V at *
  have hpl := (Array.getElem?_eq_some_iff.1 e1).1
  have HP := fun (y : World) (hy : Below V.heap.size V y) => Lib.hid (cells3p ((hy.block _ hpl).trans e1))
  have HBV := Lib.hid hbW
  have HAw := Lib.hid (awake_any V)
  clear e1 hpl hbW
  go_upto_region 3 with (go_at_call 5; refine HAw.out.mono ?_; rintro _ V1 ⟨rfl, hb1⟩)
  obtain ⟨p0, p1, p2⟩ := (HP V1 hb1).out
  have HB1 := Lib.hid (HBV.out.thenCall HBV.out.size hb1)
  have HV1 := Lib.hid hb1
  clear HAw hb1
  by_cases hm : 20 < makers.length
  · have hm' : (20 : Int) < (makers.length : Int) := by omega
    go_wp2_with fail
    go_ret
    exact ⟨rfl, HB1.out⟩
  by_cases hf : 10 < funs.length
  · have hf' : (10 : Int) < (funs.length : Int) := by omega
    have hm' : ¬ (20 : Int) < (makers.length : Int) := by omega
    go_wp2_with fail
    go_ret
    exact ⟨rfl, HB1.out⟩
  by_cases hk : 10 < kinds.length
  · have hk' : (10 : Int) < (kinds.length : Int) := by omega
    have hf' : ¬ (10 : Int) < (funs.length : Int) := by omega
    have hm' : ¬ (20 : Int) < (makers.length : Int) := by omega
    go_wp2_with fail
    go_ret
    exact ⟨rfl, HB1.out⟩
  have hk' : ¬ (10 : Int) < (kinds.length : Int) := by omega
  have hf' : ¬ (10 : Int) < (funs.length : Int) := by omega
  have hm' : ¬ (20 : Int) < (makers.length : Int) := by omega
  go_wp2_with fail
  clear hk hf hm hk' hf' hm' p0 p1 p2
  go_loopw [30] (fun i wr => ∃ j : Nat, i = .int .i64 j ∧ j ≤ funs.length ∧ Hid (Below V1.heap.size V1 wr)) (fun i _ => funs.length - (intOf i).toNat)
  case atStart => exact ⟨0, rfl, Nat.zero_le _, Lib.hid (Below.refl _ _)⟩
  case round =>
    obtain ⟨j, rfl, hj, hbb⟩ := hrel
    have hbW := HB1.out.thenCall HB1.out.size hbb.out
    by_cases hlt : j < funs.length
    · obtain ⟨b, o, cs, hAf, hbl, hF, -, hc⟩ := HFR.out j hlt
      subst hAf
      obtain ⟨fs, At, ct, AB, cb, rfl, h1, -, h3, h4, h5, h6⟩ := fn_cells hF
      have ht1 := h1.1
      have ht2 := h1.2.1
      have ht3 := h1.2.2.1
      have hx := fun i u hu => (hbW.cell (p := ⟨b, o + j * 7 + i, none⟩) hbl).trans (hc i u hu)
      have c0 := hx 0 _ rfl
      have c1 := hx 1 _ rfl
      have c2 := hx 2 _ rfl
      have c3 := hx 3 _ rfl
      have c4 := hx 4 _ rfl
      have c5 := hx 5 _ rfl
      have c6 := hx 6 _ rfl
      rw [Nat.add_zero] at c0
      have HSmj := Lib.hid (HSm.out funs[j] (List.getElem_mem hlt))
      clear hx hc hF h1
      generalize funs[j].t.k = tk at *
      generalize funs[j].t.r = tr at *
      generalize funs[j].t.p.A = tpA at *
      generalize funs[j].t.p.n = tpn at *
      generalize funs[j].t.p.c = tpc at *
      generalize funs[j].t.ys.length = tl at *
      generalize funs[j].bodies = bds at *
      generalize funs[j].ar = ar at *
      have HBr := Lib.hid h3
      clear h3
      go_upto_region 8 with fail
      have hnX := heap_alloc_new wr (.cells #[.string fs, .int .i64 ar, .int .i64 tk, .int .i64 tr, .slice tpA tpn tpc, .slice At tl ct, .slice AB bds.length cb] 43)
      have hbX := below1C wr (.cells #[.string fs, .int .i64 ar, .int .i64 tk, .int .i64 tr, .slice tpA tpn tpc, .slice At tl ct, .slice AB bds.length cb] 43)
      generalize wr.alloc (.cells #[.string fs, .int .i64 ar, .int .i64 tk, .int .i64 tr, .slice tpA tpn tpc, .slice At tl ct, .slice AB bds.length cb] 43) = X at *
      have hXV := hbb.out.thenCall hbb.out.size hbX
      obtain ⟨g0, g1, g2, g3, g4, g5, g6⟩ := cells7p hnX
      have HXW := Lib.hid (HB1.out.thenCall HB1.out.size hXV)
      have HXV := Lib.hid hXV
      clear c0 c1 c2 c3 c4 c5 c6 hnX hbX hXV
      by_cases hb8 : 8 < bds.length
      · have hb8' : (8 : Int) < (bds.length : Int) := by omega
        go_wp2_with fail
        go_ret
        exact ⟨rfl, HXW.out⟩
      have hb8' : ¬ (8 : Int) < (bds.length : Int) := by omega
      by_cases ht8 : 8 < tl
      · have ht8' : (8 : Int) < (tl : Int) := by omega
        go_wp2_with fail
        go_ret
        exact ⟨rfl, HXW.out⟩
      have ht8' : ¬ (8 : Int) < (tl : Int) := by omega
      go_wp2_with fail
      clear ht8 ht8' hb8 hb8'
      go_loopw [48] (fun i wy => ∃ q : Nat, i = .int .i64 q ∧ q ≤ bds.length ∧ Hid (Below X.heap.size X wy)) (fun i _ => bds.length - (intOf i).toNat)
      case atStart => exact ⟨0, rfl, Nat.zero_le _, Lib.hid (Below.refl _ _)⟩
      case round =>
        rename World => wy
        obtain ⟨q, rfl, hq, hby⟩ := hrel
        have hbWy := HXW.out.thenCall HXW.out.size hby.out
        by_cases hltb : q < bds.length
        · obtain ⟨b', o', cs', hAB, hbl', ⟨A1, k9, cc, rfl, hn1, hn2, hn3, hcs⟩, -, hc⟩ := HBr.out q hltb
          subst hAB
          have hx := fun i u hu => (hbWy.cell (p := ⟨b', o' + q * 4 + i, none⟩) hbl').trans (hc i u hu)
          have hsm := HSmj.out bds[q] (List.getElem_mem hltb)
          unfold bdSmall at hsm
          generalize bds[q] = bd at *
          obtain ⟨nb', core⟩ := bd
          dsimp only at *
          have hFew := fun y v h1 h2 => few_any W core y v (by omega) h1 h2
          generalize core.size = sz at *
          cases core with
          | mk ck' cn' cys =>
          obtain ⟨A2, c2, rfl, hh2, hs2⟩ := hcs
          have HFew := fun y hy => Lib.hid (hFew y (.agg #[.int .i64 ck', .int .i64 cn', .slice A2 cys.length c2]) ⟨A2, c2, rfl, hh2, hs2⟩ hy)
          have x0 := hx 0 _ rfl
          have x1 := hx 1 _ rfl
          have x2 := hx 2 _ rfl
          have x3 := hx 3 _ rfl
          rw [Nat.add_zero] at x0
          clear hx hc hFew hh2 hs2
          go_upto_region 13 with fail
          have hnU := heap_alloc_new wy (.cells #[.slice A1 nb' k9, .int .i64 ck', .int .i64 cn', .slice A2 cys.length c2] 46)
          have hbU := below1C wy (.cells #[.slice A1 nb' k9, .int .i64 ck', .int .i64 cn', .slice A2 cys.length c2] 46)
          generalize wy.alloc (.cells #[.slice A1 nb' k9, .int .i64 ck', .int .i64 cn', .slice A2 cys.length c2] 46) = U at *
          have hUX := hby.out.thenCall hby.out.size hbU
          have hnl := (Array.getElem?_eq_some_iff.1 hnU).1
          have HU := fun (y : World) (hy : Below U.heap.size U y) => Lib.hid (cells4p ((hy.block _ hnl).trans hnU))
          obtain ⟨d0, d1, d2, d3⟩ := (HU U (Below.refl _ _)).out
          have HUW := Lib.hid (HXW.out.thenCall HXW.out.size hUX)
          have HUX := Lib.hid hUX
          have HFU := HFew U HUW.out
          clear x0 x1 x2 x3 hnU hbU hUX hnl HFew
          by_cases hsz : (sz : Int) ≤ 100
          · rw [decide_eq_true hsz] at HFU
            by_cases h20 : 20 < nb'
            · have h20' : (20 : Int) < (nb' : Int) := by omega
              go_wp2_with (go_at_call 6; refine HFU.out.mono ?_; rintro _ z1 ⟨rfl, q1⟩; obtain ⟨d0, d1, d2, d3⟩ := (HU z1 q1).out)
              go_ret
              exact ⟨rfl, HUW.out.thenCall HUW.out.size q1⟩
            · have h20' : ¬ (20 : Int) < (nb' : Int) := by omega
              go_wp2_with (go_at_call 6; refine HFU.out.mono ?_; rintro _ z1 ⟨rfl, q1⟩; obtain ⟨d0, d1, d2, d3⟩ := (HU z1 q1).out)
              exact ⟨⟨q + 1, by go_num, by omega, Lib.hid (HUX.out.thenCall HUX.out.size q1)⟩, by simp [intOf]; omega⟩
          · rw [decide_eq_false hsz] at HFU
            go_wp2_with (go_at_call 6; refine HFU.out.mono ?_; rintro _ z1 ⟨rfl, q1⟩; obtain ⟨d0, d1, d2, d3⟩ := (HU z1 q1).out)
            go_ret
            exact ⟨rfl, HUW.out.thenCall HUW.out.size q1⟩
        · go_wp2_with fail
          exact ⟨⟨j + 1, by go_num, by omega, Lib.hid (HXV.out.thenCall HXV.out.size hby.out)⟩, by simp [intOf]; omega⟩
    · have HOp := Lib.hid (op_any n wr)
      have HR1 := HRt wr hbW
      have HWr := Lib.hid hbW
      have HP2 := fun y (hy : Below wr.heap.size wr y) => HP y (HV1.out.thenCall HV1.out.size (hbb.out.thenCall hbb.out.size hy))
      obtain ⟨p0, p1, p2⟩ := (HP2 wr (Below.refl _ _)).out
      have HS1 := fun y (hy : Below wr.heap.size wr y) => HSo y (hbW.thenCall hbW.size hy)
      clear HFR HSm HRt HSo hbW
      by_cases hn1 : 1 ≤ n
      · by_cases hn5 : n ≤ 5
        · obtain ⟨t1, t2⟩ := tl_ne (op_in hn1 hn5)
          have t0 := op_in hn1 hn5
          have hn1' : ¬ n < 1 := by omega
          have hn5' : ¬ 5 < n := by omega
          generalize opOf n = s at *
          cases R
          · go_wp2_with (first | (go_at_call 11; refine HOp.out.mono ?_; rintro _ z0 ⟨rfl, rfl⟩) | (go_at_call 12; refine HR1.out.mono ?_; rintro _ z1 ⟨rfl, q1⟩; obtain ⟨p0, p1, p2⟩ := (HP2 z1 q1).out; have HS2 := HS1 z1 q1) | (go_at_call 13; refine HS2.out.mono ?_; rintro _ z2 ⟨rfl, q2⟩))
            go_ret
            exact ⟨rfl, HWr.out.thenCall HWr.out.size (q1.thenCall q1.size q2)⟩
          · go_wp2_with (first | (go_at_call 11; refine HOp.out.mono ?_; rintro _ z0 ⟨rfl, rfl⟩) | (go_at_call 12; refine HR1.out.mono ?_; rintro _ z1 ⟨rfl, q1⟩; obtain ⟨p0, p1, p2⟩ := (HP2 z1 q1).out; have HS2 := HS1 z1 q1) | (go_at_call 13; refine HS2.out.mono ?_; rintro _ z2 ⟨rfl, q2⟩))
            go_ret
            exact ⟨rfl, HWr.out.thenCall HWr.out.size (q1.thenCall q1.size q2)⟩
        · have ht := op_out (n := n) (by omega)
          rw [ht] at HOp
          have hn1' : ¬ n < 1 := by omega
          have hn5' : 5 < n := by omega
          clear ht
          cases R
          · go_wp2_with (first | (go_at_call 11; refine HOp.out.mono ?_; rintro _ z0 ⟨rfl, rfl⟩) | (go_at_call 12; refine HR1.out.mono ?_; rintro _ z1 ⟨rfl, q1⟩; obtain ⟨p0, p1, p2⟩ := (HP2 z1 q1).out; have HS2 := HS1 z1 q1) | (go_at_call 13; refine HS2.out.mono ?_; rintro _ z2 ⟨rfl, q2⟩))
            go_ret
            exact ⟨rfl, HWr.out.thenCall HWr.out.size (q1.thenCall q1.size q2)⟩
          · go_wp2_with (first | (go_at_call 11; refine HOp.out.mono ?_; rintro _ z0 ⟨rfl, rfl⟩) | (go_at_call 12; refine HR1.out.mono ?_; rintro _ z1 ⟨rfl, q1⟩; obtain ⟨p0, p1, p2⟩ := (HP2 z1 q1).out; have HS2 := HS1 z1 q1) | (go_at_call 13; refine HS2.out.mono ?_; rintro _ z2 ⟨rfl, q2⟩))
            go_ret
            exact ⟨rfl, HWr.out.thenCall HWr.out.size (q1.thenCall q1.size q2)⟩
      · have ht := op_out (n := n) (by omega)
        rw [ht] at HOp
        have hn1' : n < 1 := by omega
        clear ht
        cases R
        · go_wp2_with (first | (go_at_call 11; refine HOp.out.mono ?_; rintro _ z0 ⟨rfl, rfl⟩) | (go_at_call 12; refine HR1.out.mono ?_; rintro _ z1 ⟨rfl, q1⟩; obtain ⟨p0, p1, p2⟩ := (HP2 z1 q1).out; have HS2 := HS1 z1 q1) | (go_at_call 13; refine HS2.out.mono ?_; rintro _ z2 ⟨rfl, q2⟩))
          go_ret
          exact ⟨rfl, HWr.out.thenCall HWr.out.size (q1.thenCall q1.size q2)⟩
        · go_wp2_with (first | (go_at_call 11; refine HOp.out.mono ?_; rintro _ z0 ⟨rfl, rfl⟩) | (go_at_call 12; refine HR1.out.mono ?_; rintro _ z1 ⟨rfl, q1⟩; obtain ⟨p0, p1, p2⟩ := (HP2 z1 q1).out; have HS2 := HS1 z1 q1) | (go_at_call 13; refine HS2.out.mono ?_; rintro _ z2 ⟨rfl, q2⟩))
          go_ret
          exact ⟨rfl, HWr.out.thenCall HWr.out.size (q1.thenCall q1.size q2)⟩
end Go.Proofs.Ytkcgbakjpodmeaa.coreRight
