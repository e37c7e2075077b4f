/- Contract: core.fun. -/
import Derived.Test.YtkcgbakjpodmeaaCrU
import Derived.Test.YtkcgbakjpodmeaaCoD
namespace Go.Proofs.Ytkcgbakjpodmeaa.Co
open Go.ChangeShapes Go.WideShapes Go.ChangeAt Go.RowKit Go.Proofs.Ytkcgbakjpodmeaa.Lift Go.Proofs.Ytkcgbakjpodmeaa.Data
set_option linter.unusedVariables false
set_option linter.unusedSimpArgs false
/-- the slots 0 to n - 1. -/
def slotsN (n : Nat) : List Int := (List.range n).map Int.ofNat
theorem slotsN_len (n : Nat) : (slotsN n).length = n := by simp [slotsN]
theorem slotsN_succ (n : Nat) : (slotsN (n + 1)).map (Value.int .i64) = (slotsN n).map (Value.int .i64) ++ [.int .i64 (n : Int)] := by simp [slotsN, List.range_succ]
/-- how a program's slices lie. -/
structure PgR (W : World) (p : Pg) (Ak Am Af : Option Addr) (ck cm cf : Nat) : Prop where
  rk : Lift.RowsIn (KdR W) W 2 Ak p.kinds
  rm : Lift.RowsIn MkR W 4 Am p.makers
  rf : Lift.RowsIn (FnR W) W 7 Af p.funs
  k1 : p.kinds.length ≤ ck
  k2 : ck ≤ 9223372036854775807
  k3 : p.kinds.length ≤ 1048576
  m1 : p.makers.length ≤ cm
  m2 : cm ≤ 9223372036854775807
  m3 : p.makers.length ≤ 1048576
  f1 : p.funs.length ≤ cf
  f2 : cf ≤ 9223372036854775807
  f3 : p.funs.length ≤ 1048576
theorem PgR.below {W W' : World} {p : Pg} {Ak Am Af : Option Addr} {ck cm cf : Nat} (h : PgR W p Ak Am Af ck cm cf) (hb : Below W.heap.size W W') : PgR W' p Ak Am Af ck cm cf := by
  refine ⟨fun i hi => ?_, h.rm.below hb (Nat.le_refl _), fun i hi => ?_, h.k1, h.k2, h.k3, h.m1, h.m2, h.m3, h.f1, h.f2, h.f3⟩
  · obtain ⟨b, o, cs, e, hl, ⟨s, A, cap, e1, h1⟩, hk, hc⟩ := h.rk.below hb (Nat.le_refl _) i hi
    exact ⟨b, o, cs, e, hl, ⟨s, A, cap, e1, h1.below hb (Nat.le_refl _)⟩, hk, hc⟩
  · obtain ⟨b, o, cs, e, hl, h1, hk, hc⟩ := h.rf.below hb (Nat.le_refl _) i hi
    exact ⟨b, o, cs, e, hl, h1.below hb (Nat.le_refl _), hk, hc⟩
theorem fn_cells {W : World} {cs : List Value} {f : Fn} (h : FnR W cs f) : ∃ fs At ct AB cb, cs = [.string fs, .int .i64 f.ar, .int .i64 f.t.k, .int .i64 f.t.r, .slice f.t.p.A f.t.p.n f.t.p.c, .slice At f.t.ys.length ct, .slice AB f.bodies.length cb] ∧
    CaHd At f.t.ys.length ct ∧ Cas W At f.t.ys ∧ Lift.RowsIn (BdR W) W 4 AB f.bodies ∧ f.bodies.length ≤ cb ∧ cb ≤ 9223372036854775807 ∧ f.bodies.length ≤ 1048576 := by
  obtain ⟨s, tc, A, cap, rfl, ⟨A2, cap2, rfl, h1, h2⟩, h3, h4, h5, h6⟩ := h
  exact ⟨s, A2, cap2, A, cap, rfl, h1, h2, h3, h4, h5, h6⟩
theorem PgR.fnrows {W : World} {p : Pg} {Ak Am Af : Option Addr} {ck cm cf : Nat} (h : PgR W p Ak Am Af ck cm cf) : FnRows W Af p.fn' := fun j hj => by
  unfold Pg.fn' at hj ⊢
  rw [List.length_map] at hj
  obtain ⟨b, o, cs, e, hl, hR, hk, hc⟩ := h.rf j hj
  obtain ⟨fs, At, ct, AB, cb, rfl, -⟩ := fn_cells hR
  refine ⟨b, o, e, hl, ?_⟩
  rw [List.getElem_map]
  exact hc 1 _ rfl
theorem PgR.prv {W : World} {p : Pg} {Ak Am Af : Option Addr} {ck cm cf : Nat} (h : PgR W p Ak Am Af ck cm cf) : PrV W (.agg #[.slice Ak p.kinds.length ck, .slice Am p.makers.length cm, .slice Af p.funs.length cf]) p.mk' p.fn' := by
  have e1 : p.mk'.length = p.makers.length := by simp [Pg.mk']
  have e2 : p.fn'.length = p.funs.length := by simp [Pg.fn']
  refine ⟨Ak, p.kinds.length, ck, Am, cm, Af, cf, by rw [e1, e2], fun j hj => ?_, h.fnrows, by have := h.m3; omega, by have := h.f3; omega⟩
  unfold Pg.mk' at hj ⊢
  rw [List.length_map] at hj
  obtain ⟨b, o, cs, e, hl, ⟨s, rfl⟩, hk, hc⟩ := h.rm j hj
  refine ⟨b, o, e, hl, ?_⟩
  rw [List.getElem_map]
  exact hc 1 _ rfl
def bdB (p : Pg) (b : Bd) : Bool := fitsB p.mk' p.fn' b.core (slotsN b.n)
/-- whether a function may be. -/
def funB (p : Pg) (f : Fn) : Bool := decide (0 ≤ f.ar) && (decide (f.ar ≤ 8) && (treeB p.makers.length p.fn' f.ar f.bodies.length f.t && f.bodies.all (bdB p)))
theorem all_takeW {α : Type} (f : α → Bool) {l : List α} {j : Nat} (h : j < l.length) : (l.take (j + 1)).all f = ((l.take j).all f && f l[j]) := by
  rw [List.take_succ_eq_append_getElem h, List.all_append]
  simp
theorem all_missW {α : Type} (f : α → Bool) {l : List α} {j : Nat} (h : j < l.length) (hf : f l[j] = false) : l.all f = false := by
  rw [List.all_eq_false]
  exact ⟨l[j], List.getElem_mem h, by simp [hf]⟩
/-- no core in it is too great. -/
def bdSmall (b : Bd) : Prop := b.n + b.core.size ≤ 4194304
set_option maxRecDepth 100000 in
set_option maxHeartbeats 8000000 in
theorem fun_any (w0 : World) (p : Pg) (f : Fn) (Ak Am Af At AB : Option Addr) (ck cm cf ct cb : Nat) (fs : ByteArray) (hp : PgR w0 p Ak Am Af ck cm cf)
    (hh : CaHd At f.t.ys.length ct) (hs : Cas w0 At f.t.ys) (hB : Lift.RowsIn (BdR w0) w0 4 AB f.bodies) (hb1 : f.bodies.length ≤ cb) (hb2 : cb ≤ 9223372036854775807) (hb3 : f.bodies.length ≤ 1048576) (hsm : ∀ b ∈ f.bodies, bdSmall b)
    (z : World) (h0 : Below w0.heap.size w0 z) :
    Calls Try.prog 23 #[.agg #[.slice Ak p.kinds.length ck, .slice Am p.makers.length cm, .slice Af p.funs.length cf], .agg #[.string fs, .int .i64 f.ar, .int .i64 f.t.k, .int .i64 f.t.r, .slice f.t.p.A f.t.p.n f.t.p.c, .slice At f.t.ys.length ct, .slice AB f.bodies.length cb]] z fun e z' => e = .returned (.bool (funB p f)) ∧ Below z.heap.size z z' := by
  have e2 : p.fn'.length = p.funs.length := by simp [Pg.fn']
  have hT := tree_any f.t.size p.fn' f.ar (.slice Ak p.kinds.length ck) (.string fs) (.int .i64 f.t.k) (.int .i64 f.t.r) (.slice f.t.p.A f.t.p.n f.t.p.c) (.slice At f.t.ys.length ct) Am Af AB p.makers.length cm cf f.bodies.length cb hp.m1 hp.m2 hp.m3 (by rw [e2]; exact hp.f1) hp.f2 (by rw [e2]; exact hp.f3) hb1 hb2 hb3 w0 f.t (Nat.le_refl _) hp.fnrows
  rw [e2] at hT
  have hE : funB p f = (decide (0 ≤ f.ar) && (decide (f.ar ≤ 8) && (treeB p.makers.length p.fn' f.ar f.bodies.length f.t && f.bodies.all (bdB p)))) := rfl
  have hF := fun (e : Co) (bd : List Int) w v A cap h1 h2 h3 h4 => fits_any e.size w0 p.mk' p.fn' (.agg #[.slice Ak p.kinds.length ck, .slice Am p.makers.length cm, .slice Af p.funs.length cf]) hp.prv e bd w v A cap (Nat.le_refl _) h1 h2 h3 h4
  have HF := Lib.hid hF
  generalize funB p f = R at *
  generalize treeB p.makers.length p.fn' f.ar f.bodies.length f.t = tb at *
  have HT := fun y hy => Lib.hid (hT y At ct hh hs hy)
  clear hT hs hp e2 hF
  generalize f.ar = ar at *
  generalize f.bodies = bds at *
  generalize f.t.k = tk at *
  generalize f.t.r = tr at *
  generalize f.t.p.A = tpA at *
  generalize f.t.p.n = tpn at *
  generalize f.t.p.c = tpc at *
  generalize f.t.ys.length = tl at *
  clear f
  generalize hPB : p.kinds.length = nk at *
  generalize hPM : p.makers.length = nm at *
  generalize hPF : p.funs.length = nf at *
  clear hPB hPM hPF
  go_enter Try.func23, Try.ntmps23
  go_upto_region 1 with fail
  have e1 := heap_alloc_new z (.cells #[.slice Ak nk ck, .slice Am nm cm, .slice Af nf cf] 26)
  have e2 := heap_alloc_new (z.alloc (.cells #[.slice Ak nk ck, .slice Am nm cm, .slice Af nf cf] 26)) (.cells #[.string fs, .int .i64 ar, .int .i64 tk, .int .i64 tr, .slice tpA tpn tpc, .slice At tl ct, .slice AB bds.length cb] 43)
  have e1 := (Below.heap_alloc _ (.cells #[.string fs, .int .i64 ar, .int .i64 tk, .int .i64 tr, .slice tpA tpn tpc, .slice At tl ct, .slice AB bds.length cb] 43) z.heap.size (by simp)).trans e1
  rw [World.size_alloc] at e2
  have hbW : Below z.heap.size z ((z.alloc (.cells #[.slice Ak nk ck, .slice Am nm cm, .slice Af nf cf] 26)).alloc (.cells #[.string fs, .int .i64 ar, .int .i64 tk, .int .i64 tr, .slice tpA tpn tpc, .slice At tl ct, .slice AB bds.length cb] 43)) := (below1C z _).alloc (by simp) _
  have hsW : z.heap.size + 2 ≤ ((z.alloc (.cells #[.slice Ak nk ck, .slice Am nm cm, .slice Af nf cf] 26)).alloc (.cells #[.string fs, .int .i64 ar, .int .i64 tk, .int .i64 tr, .slice tpA tpn tpc, .slice At tl ct, .slice AB bds.length cb] 43)).heap.size := by simp
  generalize (z.alloc (.cells #[.slice Ak nk ck, .slice Am nm cm, .slice Af nf cf] 26)).alloc (.cells #[.string fs, .int .i64 ar, .int .i64 tk, .int .i64 tr, .slice tpA tpn tpc, .slice At tl ct, .slice AB bds.length cb] 43) = W at *
  have hpl := (Array.getElem?_eq_some_iff.1 e1).1
  have hfl := (Array.getElem?_eq_some_iff.1 e2).1
  have HP := fun (y : World) (hy : Below W.heap.size W y) => Lib.hid (cells3p ((hy.block _ hpl).trans e1))
  have HFc := fun (y : World) (hy : Below W.heap.size W y) => Lib.hid (cells7p ((hy.block _ hfl).trans e2))
  have h0W := h0.trans (hbW.mono h0.size)
  obtain ⟨p0, p1, p2⟩ := (HP W (Below.refl _ _)).out
  obtain ⟨g0, g1, g2, g3, g4, g5, g6⟩ := (HFc W (Below.refl _ _)).out
  have HTW := HT W h0W
  clear e1 e2 HT hpl hfl
  by_cases ha0 : ar < 0
  · have HE : Hid (R = false) := Lib.hid (by rw [hE, decide_eq_false (show ¬ 0 ≤ ar by omega)]; rfl)
    clear hE hB
    go_wp2_with fail
    go_ret
    exact ⟨by rw [HE.out]; try rfl, hbW⟩
  by_cases ha8 : 8 < ar
  · have HE : Hid (R = false) := Lib.hid (by rw [hE, decide_eq_false (show ¬ ar ≤ 8 by omega)]; simp)
    clear hE hB
    go_wp2_with fail
    go_ret
    exact ⟨by rw [HE.out]; try rfl, hbW⟩
  cases tb
  · have HE : Hid (R = false) := Lib.hid (by rw [hE]; simp)
    clear hE hB
    go_wp2_with (go_at_call 29; refine HTW.out.mono ?_; rintro _ z1 ⟨rfl, q1⟩)
    go_ret
    exact ⟨by rw [HE.out]; try rfl, hbW.thenCall hbW.size q1⟩
  have HE : Hid (R = bds.all (bdB p)) := Lib.hid (by rw [hE, decide_eq_true (show 0 ≤ ar by omega), decide_eq_true (show ar ≤ 8 by omega)]; rfl)
  have HBr := Lib.hid hB
  have HSm := Lib.hid hsm
  have HH0 := Lib.hid h0W
  clear hE hB hsm h0W h0
  go_upto_region 3 with (go_at_call 29; refine HTW.out.mono ?_; rintro _ z1 ⟨rfl, q1⟩; obtain ⟨g0, g1, g2, g3, g4, g5, g6⟩ := (HFc z1 q1).out)
  have HQ1 := Lib.hid q1
  clear q1 ha0 ha8 HTW p0 p1 p2
  go_wp2_with fail
  go_loopw [28] (fun i wr => ∃ j : Nat, i = .int .i64 j ∧ j ≤ bds.length ∧ Hid ((bds.take j).all (bdB p) = true) ∧ Hid (Below W.heap.size W wr)) (fun i _ => bds.length - (intOf i).toNat)
  case atStart => exact ⟨0, rfl, Nat.zero_le _, Lib.hid (by simp), HQ1⟩
  case round =>
    obtain ⟨j, rfl, hj, hall, hbb⟩ := hrel
    have hb0 := HH0.out.trans (hbb.out.mono HH0.out.size)
    have hWr := hbb.out.size
    by_cases hlt : j < bds.length
    · obtain ⟨b, o, cs, rfl, hbl, ⟨A1, c1, cc, rfl, hn1, hn2, hn3, hcs⟩, -, hc⟩ := HBr.out j hlt
      have hx := fun i u hu => (hb0.cell (p := ⟨b, o + j * 4 + i, none⟩) hbl).trans (hc i u hu)
      have hsm := HSm.out bds[j] (List.getElem_mem hlt)
      unfold bdSmall at hsm
      have HTk := Lib.hid (all_takeW (bdB p) hlt)
      have HMs := Lib.hid (all_missW (bdB p) hlt)
      obtain ⟨OK, hOK⟩ : ∃ OK, OK = bdB p bds[j] := ⟨_, rfl⟩
      rw [← hOK] at HTk HMs
      unfold bdB at hOK
      have hFj := HF.out bds[j].core (slotsN bds[j].n)
      rw [← hOK, slotsN_len] at hFj
      generalize bds[j] = bd at *
      obtain ⟨nb', core⟩ := bd
      dsimp only at *
      cases core with
      | mk ck' cn' cys =>
      obtain ⟨A2, c2, rfl, hh2, hs2⟩ := hcs
      have hFj := fun w A cap => hFj w (.agg #[.int .i64 ck', .int .i64 cn', .slice A2 cys.length c2]) A cap (by omega) ⟨A2, c2, rfl, hh2, hs2⟩
      have HFj := Lib.hid hFj
      have x0 := hx 0 _ rfl
      have x1 := hx 1 _ rfl
      have x2 := hx 2 _ rfl
      have x3 := hx 3 _ rfl
      rw [Nat.add_zero] at x0
      clear hx hc hFj hOK hh2 hs2
      obtain ⟨i0, hi0, hz0, hz1, hz2⟩ := info_parts info3'
      go_upto_region 6 with fail
      have hnV := heap_alloc_new wr (.cells #[.slice A1 nb' c1, .int .i64 ck', .int .i64 cn', .slice A2 cys.length c2] 46)
      have hbV := below1C wr (.cells #[.slice A1 nb' c1, .int .i64 ck', .int .i64 cn', .slice A2 cys.length c2] 46)
      generalize wr.alloc (.cells #[.slice A1 nb' c1, .int .i64 ck', .int .i64 cn', .slice A2 cys.length c2] 46) = V at *
      have hVW := hbb.out.thenCall hbb.out.size hbV
      have hnl := (Array.getElem?_eq_some_iff.1 hnV).1
      have d0 := (cells4p hnV).1
      clear x0 x1 x2 x3
      go_wp2_with fail
      go_loopw [7, 35] (fun x i wq => ∃ (q : Nat) (A3 : Option Addr) (c3 : Nat), x = .slice A3 q c3 ∧ i = .int .i64 q ∧ q ≤ nb' ∧ q ≤ c3 ∧ c3 ≤ 9223372036854775807 ∧ Hid (wq.ownsRow V.heap.size 3 1 (.slice A3 q c3) q ((slotsN q).map (Value.int .i64))) ∧ Hid (Below V.heap.size V wq)) (fun _ i _ => nb' - (intOf i).toNat)
      case atStart => exact ⟨0, none, 0, rfl, rfl, Nat.zero_le _, Nat.le_refl _, by omega, Lib.hid (World.ownsRow_nil _ _ _ _), Lib.hid (Below.refl _ _)⟩
      case round =>
        rename World => wq
        obtain ⟨q, A3, c3, rfl, rfl, hq, hq1, hq2, hO, hbq⟩ := hrel
        have hbVq := hbq.out.size
        by_cases hlq : q < nb'
        · have hone : ∀ u ∈ [Value.int .i64 (q : Int)], u.oneCell' = true := by simp [Value.oneCell']
          have hg1 : q + 1 ≤ maxLen := by unfold maxLen; omega
          have hg2 : (q + 1) * 8 ≤ 140737488355328 := by omega
          go_wp2_with (at_builtin; refine wpList_append_src rfl (.tmp 38) (.tmp 40) 30 rfl V.heap.size 3 i0 _ 1 8 Try.underlying30 hi0 hz0 hz1 hz2 rfl (by omega) (.slice A3 q c3) q _ rfl (own_below hO.out (below1C wq (.cells #[.int .i64 (q : Int)] 3)) (Nat.le_refl _)) (some ⟨wq.heap.size, 0, none⟩) 1 1 [.int .i64 (q : Int)] rfl (Lift.Src.of_own (own_new wq 3 1 1 #[.int .i64 (q : Int)] rfl (by omega))) (fun h => nomatch h) hone hg1 hg2 (by simp; omega) ?_; intro v2 w3' ho3 hg3)
          have h2 := (below_grown (own_below hO.out (below1C wq (.cells #[.int .i64 (q : Int)] 3)) (Nat.le_refl _)) hg3 (by simp; omega))
          obtain ⟨A4, c4, rfl, hc4, hc5⟩ := own_form ho3
          refine ⟨⟨q + 1, A4, c4, rfl, by go_num, by omega, hc4, hc5, Lib.hid ?_, Lib.hid (hbq.out.trans (((below1C wq _).mono hbVq).trans h2))⟩, by simp [intOf]; omega⟩
          rw [slotsN_succ]
          exact ho3
        · obtain rfl : q = nb' := by omega
          have hbW2 := hVW.thenCall hVW.size hbq.out
          obtain ⟨p0, p1, p2⟩ := (HP wq hbW2).out
          obtain ⟨d0q, d1q, d2q, d3q⟩ := cells4p ((hbq.out.block _ hnl).trans hnV)
          have hO2 : OwnR wq V.heap.size A3 c3 (slotsN q) := by
            unfold OwnR
            rw [slotsN_len]
            exact hO.out
          have HC := HFj.out wq A3 c3 (hO2.insl (by rw [slotsN_len]; omega)) (HH0.out.trans (hbW2.mono HH0.out.size))
          have HC := Lib.hid HC
          clear hO hO2 hnV d0
          cases OK
          · have HE : Hid (R = false) := Lib.hid (by rw [HE.out, HMs.out rfl])
            clear HMs HTk
            go_wp2_with (go_at_call 7; refine HC.out.mono ?_; rintro _ z2 ⟨rfl, q2⟩)
            go_ret
            exact ⟨by rw [HE.out]; try rfl, hbW.thenCall hbW.size (hbW2.thenCall hbW2.size q2)⟩
          · have HN : Hid ((bds.take (j + 1)).all (bdB p) = true) := Lib.hid (by rw [HTk.out, hall.out]; rfl)
            clear HMs HTk
            go_wp2_with (go_at_call 7; refine HC.out.mono ?_; rintro _ z2 ⟨rfl, q2⟩)
            exact ⟨⟨j + 1, by go_num, by omega, HN, Lib.hid (hbW2.thenCall hbW2.size q2)⟩, by simp [intOf]; omega⟩
    · have HA : Hid (R = true) := Lib.hid (by
        have h := hall.out
        rw [List.take_of_length_le (by omega)] at h
        rw [HE.out, h])
      clear HE hall
      go_wp2_with fail
      go_ret
      exact ⟨by rw [HA.out]; try rfl, hbW.thenCall hbW.size hbb.out⟩
end Go.Proofs.Ytkcgbakjpodmeaa.Co
