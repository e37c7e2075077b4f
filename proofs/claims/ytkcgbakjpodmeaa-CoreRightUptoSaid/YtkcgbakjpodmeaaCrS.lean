/- Contract: core.Right. -/
import Derived.Test.YtkcgbakjpodmeaaCrR
namespace Go.Proofs.Ytkcgbakjpodmeaa.Co
open Go.ChangeShapes Go.WideShapes Go.ChangeAt Go.RowKit Go.Proofs.Ytkcgbakjpodmeaa.Lift Go.Proofs.Ytkcgbakjpodmeaa.Data
set_option linter.unusedVariables false
set_option linter.unusedSimpArgs false
theorem cells2p {w : World} {b : Nat} {v0 v1 : Value} {t : TypeId} (h : w.heap[b]? = some (.cells #[v0, v1] t (0, 0))) : w.cell? ⟨b, 0, none⟩ = some v0 ∧ w.cell? ⟨b, 1, none⟩ = some v1 := by
  refine ⟨?_, ?_⟩ <;> simp [World.cell?, h]
theorem okC_no {p : Pg} {k i : Nat} {c : Int} (h : ¬ (0 ≤ c ∧ c < (p.makers.length : Int))) : okC p k i c = false := by
  unfold okC
  by_cases h0 : 0 ≤ c
  · rw [decide_eq_false (fun h2 => h ⟨h0, h2⟩)]; simp
  · rw [decide_eq_false h0]; simp
theorem okC_yes {p : Pg} {k i n : Nat} (h : n < p.makers.length) : okC p k i (n : Int) = (p.makers[n].ty == (k : Int) && p.makers[n].tag == (i : Int)) := by
  unfold okC
  rw [decide_eq_true (by omega), decide_eq_true (by omega)]
  simp [List.getD, List.getElem?_eq_getElem h]
theorem okM_no {p : Pg} {i : Nat} {m : Mk} (h : ¬ (0 ≤ m.ty ∧ m.ty < (p.kinds.length : Int))) : okM p i m = false := by
  unfold okM
  by_cases h0 : 0 ≤ m.ty
  · rw [decide_eq_false (fun h2 => h ⟨h0, h2⟩)]; simp
  · rw [decide_eq_false h0]; simp
theorem okM_yes {p : Pg} {i n : Nat} {m : Mk} (h : n < p.kinds.length) (hn : m.ty = (n : Int)) : okM p i m = (inB p.kinds[n] (i : Int) && (decide (0 ≤ m.ar) && decide (m.ar ≤ 8))) := by
  unfold okM
  rw [hn, decide_eq_true (by omega), decide_eq_true (by omega)]
  simp [List.getD, List.getElem?_eq_getElem h]
theorem any_not {α : Type} (f : α → Bool) : ∀ l : List α, (!l.any (fun x => !f x)) = l.all f
  | [] => rfl
  | x :: r => by rw [List.any_cons, List.all_cons, ← any_not f r]; cases f x <;> simp
set_option maxRecDepth 100000 in
set_option maxHeartbeats 8000000 in
theorem right_any (w0 : World) (p : Pg) (Ak Am Af : Option Addr) (ck cm cf : Nat) (hp : PgR w0 p Ak Am Af ck cm cf) (hsm : ∀ f ∈ p.funs, ∀ b ∈ f.bodies, bdSmall b)
    (z : World) (h0 : Below w0.heap.size w0 z) :
    Calls Try.prog 12 #[.agg #[.slice Ak p.kinds.length ck, .slice Am p.makers.length cm, .slice Af p.funs.length cf]] z fun e z' => e = .returned (.bool (rightB p)) ∧ Below z.heap.size z z' := by
  have HCF := fun (y : World) (pb : Nat) (hy : Below w0.heap.size w0 y) (hpb : y.heap[pb]? = some (.cells #[.slice Ak p.kinds.length ck, .slice Am p.makers.length cm, .slice Af p.funs.length cf] 26 (0, 0))) =>
    Lib.hid (containsFn (fun f => !funB p f) pb y p.funs Af cf (hp.below hy).rf hp.f1 hp.f2 hp.f3 (fun i hi zz cs hF hb => bad22_any y p _ Ak Am Af ck cm cf pb cs (hp.below hy) hF (hsm _ (List.getElem_mem hi)) zz hb ((hb.block _ (Array.getElem?_eq_some_iff.1 hpb).1).trans hpb)))
  have HFE := Lib.hid (any_not (funB p) p.funs)
  have hRB : rightB p = (allI (fun k cons => allI (okC p k) 0 cons) 0 p.kinds && (allI (okM p) 0 p.makers && p.funs.all (funB p))) := rfl
  have HRB := Lib.hid hRB
  generalize rightB p = R at *
  generalize p.funs.any (fun f => !funB p f) = fa at *
  generalize p.funs.all (funB p) = fb at *
  have HNo := Lib.hid (fun k i c => @okC_no p k i c)
  have HYe := Lib.hid (fun k i n => @okC_yes p k i n)
  have HMNo := Lib.hid (fun i m => @okM_no p i m)
  have HMYe := Lib.hid (fun i n m => @okM_yes p i n m)
  generalize okC p = oc at *
  generalize okM p = om at *
  have HKR := Lib.hid hp.rk
  have HMR := Lib.hid hp.rm
  have k1 := hp.k1
  have k2 := hp.k2
  have k3 := hp.k3
  have m1 := hp.m1
  have m2 := hp.m2
  have m3 := hp.m3
  have f1 := hp.f1
  have f2 := hp.f2
  have f3 := hp.f3
  clear hp hsm hRB
  obtain ⟨kinds, makers, funs⟩ := p
  dsimp only at *
  generalize funs.length = nf at *
  clear funs
  have HH0 := Lib.hid h0
  go_enter Try.func12, Try.ntmps12
  go_upto_region 1 with fail
  have e1 := heap_alloc_new z (.cells #[.slice Ak kinds.length ck, .slice Am makers.length cm, .slice Af nf cf] 26)
  have hbW := below1C z (.cells #[.slice Ak kinds.length ck, .slice Am makers.length cm, .slice Af nf cf] 26)
  generalize z.alloc (.cells #[.slice Ak kinds.length ck, .slice Am makers.length cm, .slice Af nf cf] 26) = W at *
  have hpl := (Array.getElem?_eq_some_iff.1 e1).1
  have HP := fun (y : World) (hy : Below W.heap.size W y) => Lib.hid (cells3p ((hy.block _ hpl).trans e1))
  have h0W := h0.trans (hbW.mono h0.size)
  have HCW := fun (y : World) (hy : Below W.heap.size W y) => HCF y z.heap.size (h0W.trans (hy.mono h0W.size)) ((hy.block _ hpl).trans e1)
  obtain ⟨p0, p1, p2⟩ := (HP W (Below.refl _ _)).out
  have HHW := Lib.hid h0W
  have HHB := Lib.hid hbW
  clear e1 hpl HCF h0W h0 HH0 hbW
  go_wp2_with fail
  go_loopw [12] (fun i wr => ∃ j : Nat, i = .int .i64 j ∧ j ≤ kinds.length ∧ Hid (allI (fun k cons => allI (oc k) 0 cons) 0 (kinds.take j) = true) ∧ Hid (Below W.heap.size W wr)) (fun i _ => kinds.length - (intOf i).toNat)
  case atStart => exact ⟨0, rfl, Nat.zero_le _, Lib.hid rfl, Lib.hid (Below.refl _ _)⟩
  case round =>
    obtain ⟨j, rfl, hj, hall, hbb⟩ := hrel
    have hb0 := HHW.out.trans (hbb.out.mono HHW.out.size)
    have hWr := hbb.out.size
    by_cases hlt : j < kinds.length
    · obtain ⟨b, o, cs, hAk, hbl, ⟨s, A1, c1, rfl, hIn⟩, -, hc⟩ := HKR.out j hlt
      subst hAk
      have hx := fun i u hu => (hb0.cell (p := ⟨b, o + j * 2 + i, none⟩) hbl).trans (hc i u hu)
      have x0 := hx 0 _ rfl
      have x1 := hx 1 _ rfl
      rw [Nat.add_zero] at x0
      have HTk := Lib.hid (allI_take (fun k cons => allI (oc k) 0 cons) (l := kinds) (j := j) 0 hlt)
      have HMs := Lib.hid (allI_miss (fun k cons => allI (oc k) 0 cons) (l := kinds) (j := j) 0 hlt)
      rw [Nat.zero_add] at HTk HMs
      have hi2 := hIn.2
      obtain ⟨hi21, hi22, hi23, -⟩ := hi2
      have HIn := Lib.hid hIn.1
      generalize kinds[j] = cons at *
      clear hx hc hIn
      go_upto_region 4 with fail
      have hnV := heap_alloc_new wr (.cells #[.string s, .slice A1 cons.length c1] 56)
      have hbV := below1C wr (.cells #[.string s, .slice A1 cons.length c1] 56)
      generalize wr.alloc (.cells #[.string s, .slice A1 cons.length c1] 56) = V at *
      have hVW := hbb.out.thenCall hbb.out.size hbV
      have d1 := (cells2p hnV).2
      have HVW := Lib.hid hVW
      clear x0 x1 hnV hbV hVW
      go_wp2_with fail
      go_loopw [20] (fun i wq => ∃ q : Nat, i = .int .i64 q ∧ q ≤ cons.length ∧ Hid (allI (oc j) 0 (cons.take q) = true) ∧ Hid (Below V.heap.size V wq)) (fun i _ => cons.length - (intOf i).toNat)
      case atStart => exact ⟨0, rfl, Nat.zero_le _, Lib.hid rfl, Lib.hid (Below.refl _ _)⟩
      case round =>
        rename World => wq
        obtain ⟨q, rfl, hq, hal2, hbq⟩ := hrel
        have hbWq := HVW.out.thenCall HVW.out.size hbq.out
        have hb0q := HHW.out.trans (hbWq.mono HHW.out.size)
        obtain ⟨p0, p1, p2⟩ := (HP wq hbWq).out
        by_cases hlq : q < cons.length
        · obtain ⟨b1, o1, hA1, hbl1, hc1⟩ := HIn.out q hlq
          subst hA1
          have hg : cons.getD q 0 = cons[q] := by simp [List.getD, List.getElem?_eq_getElem hlq]
          rw [hg] at hc1
          have x2 := (hb0q.cell (p := ⟨b1, o1 + q, none⟩) hbl1).trans hc1
          have HTq := Lib.hid (allI_take (oc j) (l := cons) (j := q) 0 hlq)
          have HMq := Lib.hid (allI_miss (oc j) (l := cons) (j := q) 0 hlq)
          rw [Nat.zero_add] at HTq HMq
          clear hg hc1
          generalize cons[q] = c at *
          by_cases hw : 0 ≤ c ∧ c < (makers.length : Int)
          · obtain ⟨nc, rfl⟩ : ∃ n : Nat, c = n := ⟨c.toNat, by omega⟩
            have hnc : nc < makers.length := by omega
            have HW := fun y => Lib.hid (within_yes hw y)
            obtain ⟨b2, o2, cs2, hAm, hbl2, ⟨s2, rfl⟩, -, hc2⟩ := HMR.out nc hnc
            subst hAm
            have hx2 := fun i u hu => (hb0q.cell (p := ⟨b2, o2 + nc * 4 + i, none⟩) hbl2).trans (hc2 i u hu)
            have y2 := hx2 2 _ rfl
            have y3 := hx2 3 _ rfl
            have HV := HYe.out j q nc hnc
            generalize makers[nc].ty = ty at *
            generalize makers[nc].tag = tg at *
            clear hx2 hc2
            by_cases ht : ty = (j : Int)
            · by_cases hg : tg = (q : Int)
              · have HN : Hid (allI (oc j) 0 (cons.take (q + 1)) = true) := Lib.hid (by rw [HTq.out, hal2.out, HV, ht, hg]; simp)
                subst ht hg
                clear HV HTq HMq
                go_wp2_with (go_at_call 20; refine (HW _).out.mono ?_; rintro _ z1 ⟨rfl, rfl⟩)
                exact ⟨⟨q + 1, by go_num, by omega, HN, hbq⟩, by simp [intOf]; omega⟩
              · have HE : Hid (R = false) := Lib.hid (by rw [HRB.out, HMs.out (HMq.out (by rw [HV, ht]; simp [hg]))]; rfl)
                have hg2 : (tg == (q : Int)) = false := by simpa using hg
                subst ht
                clear HV HTq HMq HTk HMs
                go_wp2_with (go_at_call 20; refine (HW _).out.mono ?_; rintro _ z1 ⟨rfl, rfl⟩)
                go_ret
                exact ⟨by rw [HE.out]; try rfl, HHB.out.thenCall HHB.out.size hbWq⟩
            · have HE : Hid (R = false) := Lib.hid (by rw [HRB.out, HMs.out (HMq.out (by rw [HV]; simp [ht]))]; rfl)
              have ht2 : (ty == (j : Int)) = false := by simpa using ht
              clear HV HTq HMq HTk HMs
              go_wp2_with (go_at_call 20; refine (HW _).out.mono ?_; rintro _ z1 ⟨rfl, rfl⟩)
              go_ret
              exact ⟨by rw [HE.out]; try rfl, HHB.out.thenCall HHB.out.size hbWq⟩
          · have HW := fun y => Lib.hid (within_no hw y)
            have HE : Hid (R = false) := Lib.hid (by rw [HRB.out, HMs.out (HMq.out (HNo.out j q c hw))]; rfl)
            clear HTq HMq HTk HMs hw
            go_wp2_with (go_at_call 20; refine (HW _).out.mono ?_; rintro _ z1 ⟨rfl, rfl⟩)
            go_ret
            exact ⟨by rw [HE.out]; try rfl, HHB.out.thenCall HHB.out.size hbWq⟩
        · have HN : Hid (allI (fun k cons => allI (oc k) 0 cons) 0 (kinds.take (j + 1)) = true) := Lib.hid (by
            have h := hal2.out
            rw [List.take_of_length_le (by omega)] at h
            rw [HTk.out, hall.out]
            simpa using h)
          clear HTk HMs
          go_wp2_with fail
          exact ⟨⟨j + 1, by go_num, by omega, HN, Lib.hid hbWq⟩, by simp [intOf]; omega⟩
    · have HK : Hid (R = (allI om 0 makers && fb)) := Lib.hid (by
        have h := hall.out
        rw [List.take_of_length_le (by omega)] at h
        rw [HRB.out, h]
        rfl)
      obtain ⟨p0, p1, p2⟩ := (HP wr hbb.out).out
      clear HRB hall
      go_wp2_with fail
      go_loopw [56] (fun i wq => ∃ q : Nat, i = .int .i64 q ∧ q ≤ makers.length ∧ Hid (allI om 0 (makers.take q) = true) ∧ Hid (Below W.heap.size W wq)) (fun i _ => makers.length - (intOf i).toNat)
      case atStart => exact ⟨0, rfl, Nat.zero_le _, Lib.hid rfl, hbb⟩
      case round =>
        rename World => wq
        obtain ⟨q, rfl, hq, hal2, hbq⟩ := hrel
        have hb0q := HHW.out.trans (hbq.out.mono HHW.out.size)
        by_cases hlq : q < makers.length
        · obtain ⟨b2, o2, cs2, hAm, hbl2, ⟨s2, rfl⟩, -, hc2⟩ := HMR.out q hlq
          subst hAm
          have hx2 := fun i u hu => (hb0q.cell (p := ⟨b2, o2 + q * 4 + i, none⟩) hbl2).trans (hc2 i u hu)
          have y0 := hx2 0 _ rfl
          have y1 := hx2 1 _ rfl
          have y2 := hx2 2 _ rfl
          have y3 := hx2 3 _ rfl
          rw [Nat.add_zero] at y0
          have HTq := Lib.hid (allI_take om (l := makers) (j := q) 0 hlq)
          have HMq := Lib.hid (allI_miss om (l := makers) (j := q) 0 hlq)
          rw [Nat.zero_add] at HTq HMq
          clear hx2 hc2
          have HNo2 := HMNo.out q makers[q]
          have HYe2 := fun n => HMYe.out q n makers[q]
          generalize hom : om q makers[q] = ov at *
          clear hom
          generalize makers[q] = mq at *
          obtain ⟨ar, ty, tg⟩ := mq
          dsimp only at *
          go_upto_region 14 with fail
          have hnV := heap_alloc_new wq (.cells #[.string s2, .int .i64 ar, .int .i64 ty, .int .i64 tg] 59)
          have hbV := below1C wq (.cells #[.string s2, .int .i64 ar, .int .i64 ty, .int .i64 tg] 59)
          generalize wq.alloc (.cells #[.string s2, .int .i64 ar, .int .i64 ty, .int .i64 tg] 59) = V at *
          have hVW := hbq.out.thenCall hbq.out.size hbV
          obtain ⟨d0, d1, d2, d3⟩ := cells4p hnV
          have hb0V := HHW.out.trans (hVW.mono HHW.out.size)
          obtain ⟨p0, p1, p2⟩ := (HP V hVW).out
          have HVW := Lib.hid hVW
          clear y0 y1 y2 y3 hnV hbV hVW
          by_cases hw : 0 ≤ ty ∧ ty < (kinds.length : Int)
          · obtain ⟨nt, rfl⟩ : ∃ n : Nat, ty = n := ⟨ty.toNat, by omega⟩
            have hnt : nt < kinds.length := by omega
            have HW := fun y => Lib.hid (within_yes hw y)
            obtain ⟨b, o, cs, hAk, hbl, ⟨s, A1, c1, rfl, hIn⟩, -, hc⟩ := HKR.out nt hnt
            subst hAk
            have x1 := (hb0V.cell (p := ⟨b, o + nt * 2 + 1, none⟩) hbl).trans (hc 1 _ rfl)
            have HV := HYe2 nt hnt rfl
            have HCn := Lib.hid (contains_any V A1 c1 kinds[nt] (q : Int) (hIn.below hb0V (Nat.le_refl _)))
            have hi2 := hIn.2
            obtain ⟨hi21, hi22, hi23, -⟩ := hi2
            clear hIn hc HNo2 HYe2
            generalize inB kinds[nt] (q : Int) = ib at *
            generalize kinds[nt] = cons at *
            cases ib
            · have HE : Hid (R = false) := Lib.hid (by rw [HK.out, HMq.out (by rw [HV]; rfl)]; rfl)
              clear HV HTq HMq HK
              go_wp2_with (first | (go_at_call 20; refine (HW _).out.mono ?_; rintro _ z1 ⟨rfl, rfl⟩) | (go_at_call 16; refine HCn.out.mono ?_; rintro _ z1 ⟨rfl, rfl⟩))
              go_ret
              exact ⟨by rw [HE.out]; try rfl, HHB.out.thenCall HHB.out.size HVW.out⟩
            by_cases ha0 : ar < 0
            · have HE : Hid (R = false) := Lib.hid (by rw [HK.out, HMq.out (by rw [HV, decide_eq_false (show ¬ 0 ≤ ar by omega)]; rfl)]; rfl)
              clear HV HTq HMq HK
              go_wp2_with (first | (go_at_call 20; refine (HW _).out.mono ?_; rintro _ z1 ⟨rfl, rfl⟩) | (go_at_call 16; refine HCn.out.mono ?_; rintro _ z1 ⟨rfl, rfl⟩))
              go_ret
              exact ⟨by rw [HE.out]; try rfl, HHB.out.thenCall HHB.out.size HVW.out⟩
            by_cases ha8 : 8 < ar
            · have HE : Hid (R = false) := Lib.hid (by rw [HK.out, HMq.out (by rw [HV, decide_eq_false (show ¬ ar ≤ 8 by omega)]; simp)]; rfl)
              clear HV HTq HMq HK
              go_wp2_with (first | (go_at_call 20; refine (HW _).out.mono ?_; rintro _ z1 ⟨rfl, rfl⟩) | (go_at_call 16; refine HCn.out.mono ?_; rintro _ z1 ⟨rfl, rfl⟩))
              go_ret
              exact ⟨by rw [HE.out]; try rfl, HHB.out.thenCall HHB.out.size HVW.out⟩
            have HN : Hid (allI om 0 (makers.take (q + 1)) = true) := Lib.hid (by rw [HTq.out, hal2.out, HV, decide_eq_true (show 0 ≤ ar by omega), decide_eq_true (show ar ≤ 8 by omega)]; rfl)
            clear HV HTq HMq
            go_wp2_with (first | (go_at_call 20; refine (HW _).out.mono ?_; rintro _ z1 ⟨rfl, rfl⟩) | (go_at_call 16; refine HCn.out.mono ?_; rintro _ z1 ⟨rfl, rfl⟩))
            exact ⟨⟨q + 1, by go_num, by omega, HN, HVW⟩, by simp [intOf]; omega⟩
          · have HW := fun y => Lib.hid (within_no hw y)
            have HE : Hid (R = false) := Lib.hid (by rw [HK.out, HMq.out (HNo2 hw)]; rfl)
            clear HTq HMq HK hw HNo2 HYe2
            go_wp2_with (go_at_call 20; refine (HW _).out.mono ?_; rintro _ z1 ⟨rfl, rfl⟩)
            go_ret
            exact ⟨by rw [HE.out]; try rfl, HHB.out.thenCall HHB.out.size HVW.out⟩
        · have HM : Hid (R = !fa) := Lib.hid (by
            have h := hal2.out
            rw [List.take_of_length_le (by omega)] at h
            rw [HK.out, h, HFE.out]
            rfl)
          have HCq := HCW wq hbq.out
          obtain ⟨p0, p1, p2⟩ := (HP wq hbq.out).out
          clear HK hal2
          go_wp2_with fail
          refine HCq.out.mono ?_
          rintro _ z1 ⟨rfl, q1⟩
          go_wp2_with fail
          go_ret
          exact ⟨by rw [HM.out]; try rfl, HHB.out.thenCall HHB.out.size (hbq.out.thenCall hbq.out.size q1)⟩
end Go.Proofs.Ytkcgbakjpodmeaa.Co
