/- The walk of CoreFits. -/
import Derived.Test.YtkcgbakjpodmeaaCoD
import Derived.Deep.RegionLawGrows
namespace Go.Proofs.Ytkcgbakjpodmeaa.coreFits
open Go.ChangeShapes Go.WideShapes Go.ChangeAt Go.RowKit Go.Proofs.Ytkcgbakjpodmeaa.Lift Go.Proofs.Ytkcgbakjpodmeaa.Data Go.Proofs.Ytkcgbakjpodmeaa.Co
set_option linter.unusedVariables false
set_option linter.unusedSimpArgs false
theorem inB_app (l : List Int) (m x : Int) (h : inB l x = true) : inB (l ++ [m]) x = true := by
  unfold inB at *
  rw [List.any_append, h, Bool.true_or]
theorem inB_more {l l' : List Int} (h : ∀ x, inB l x = true → inB l' x = true) (n x : Int) (hx : inB (l ++ [n]) x = true) : inB (l' ++ [n]) x = true := by
  unfold inB at *
  rw [List.any_append, Bool.or_eq_true] at *
  exact hx.elim (fun e => .inl (h x e)) .inr
theorem around_more {l l' : List Int} (h : ∀ x, inB l x = true → inB l' x = true) (k n : Int) (i : Nat) (x : Int) (hx : inB (around k n i l) x = true) : inB (around k n i l') x = true := by
  unfold around at *
  by_cases hc : k = 10 ∨ (k = 9 ∧ i = 1)
  · rw [if_pos hc] at *
    exact inB_more h n x hx
  · rw [if_neg hc] at *
    exact h x hx
mutual
/-- with more slots bound it fits still. -/
theorem fits_more (mk fn : List Int) : ∀ (e : Co) (l l' : List Int), (∀ x, inB l x = true → inB l' x = true) → fitsB mk fn e l = true → fitsB mk fn e l' = true
  | .mk k n ys, l, l', h, hf => by
    simp only [fitsB, Bool.and_eq_true, Bool.or_eq_true] at hf ⊢
    exact ⟨hf.1, hf.2.1.elim .inl (fun e => .inr (h n e)), fitss_more mk fn k n ys 0 l l' h hf.2.2⟩
theorem fitss_more (mk fn : List Int) (k n : Int) : ∀ (es : List Co) (i : Nat) (l l' : List Int), (∀ x, inB l x = true → inB l' x = true) → fitsBs mk fn k n es i l = true → fitsBs mk fn k n es i l' = true
  | [], _, _, _, _, _ => by rw [fitsBs]
  | e :: r, i, l, l', h, hf => by
    simp only [fitsBs, Bool.and_eq_true] at hf ⊢
    exact ⟨fits_more mk fn e _ _ (around_more h k n i) hf.1, fitss_more mk fn k n r (i + 1) l l' h hf.2⟩
end
theorem fits_part {mk fn : List Int} {k n : Int} {ys : List Co} {bd : List Int} (h : fitsB mk fn (.mk k n ys) bd = true) {j : Nat} (hj : j < ys.length) : fitsB mk fn ys[j] (around k n j bd) = true := by
  cases hf : fitsB mk fn ys[j] (around k n j bd) with
  | true => rfl
  | false =>
    have h2 := fitsBs_false (mk := mk) (fn := fn) (k := k) (n := n) (bd := bd) 0 hj (by rw [Nat.zero_add]; exact hf)
    simp only [fitsB, Bool.and_eq_true] at h
    rw [h2] at h
    exact absurd h.2.2 (by decide)
theorem _root_.Go.Proofs.Ytkcgbakjpodmeaa.Co.PrV.below {w w' : World} {v : Value} {mk fn : List Int} (h : PrV w v mk fn) (hb : Below w.heap.size w w') : PrV w' v mk fn := by
  obtain ⟨Ak, nk, ck, Am, cm, Af, cf, e, h1, h2, h3⟩ := h
  refine ⟨Ak, nk, ck, Am, cm, Af, cf, e, fun j hj => ?_, fun j hj => ?_, h3⟩
  · obtain ⟨b, o, a1, a2, a3⟩ := h1 j hj
    exact ⟨b, o, a1, Nat.lt_of_lt_of_le a2 hb.size, (hb.cell (p := ⟨b, _, none⟩) a2).trans a3⟩
  · obtain ⟨b, o, a1, a2, a3⟩ := h2 j hj
    exact ⟨b, o, a1, Nat.lt_of_lt_of_le a2 hb.size, (hb.cell (p := ⟨b, _, none⟩) a2).trans a3⟩
/-- cells of what came in, at any later world. -/
theorem holds_of {w : World} {A : Option Addr} {l : List Int} (h : IntsAt w A l) : ∀ b, A = some b → ∀ j u, (l.map (Value.int .i64))[j]? = some u → w.cell? (b.add j) = some u := by
  intro b hb j u hu
  have hs := ints_src h
  have hj := (List.getElem?_eq_some_iff.1 hu).1
  rw [List.length_map] at hj
  obtain ⟨b', o', e, _, hc⟩ := h j hj
  rw [hb] at e
  injection e with e
  subst e
  rw [hb] at hs
  exact hs.cells j u hu
set_option maxRecDepth 100000 in
set_option maxHeartbeats 8000000 in
theorem walk (W : World) (mk fn : List Int) (pv : Value) (hp : PrV W pv mk fn) (e : Co) (v : Value) (hm : e.size ≤ 1048577) (hv : e.Val W v) (A : Option Addr) (cap : Nat) (bd : List Int) (hbd : InSl W A cap bd) (more : Int) :
    Calls Try.prog 3 #[pv, v, .slice A bd.length cap, .int .i64 more] W fun e w' => e = .returned (.bool true) ∧ Below W.heap.size W w' := by
  have HP := Lib.hid hp
  have HE := Lib.hid hv
  have HBd0 := Lib.hid hbd
  obtain ⟨Ak, nk, ck, Am, cm, Af, cf, rfl, -, -, hl1, hl2⟩ := hp
  cases e with
  | mk k n ys =>
  obtain ⟨A', cap', rfl, hd, hs⟩ := hv
  have hnone := hbd.2.2.2.2
  have hbl := hbd.2.2.2.1
  have hcp : bd.length ≤ cap := hbd.2.1
  have hcp2 : (bd.length : Int) ≤ (cap : Int) := by omega
  have hcp3 : (0 : Int) ≤ (bd.length : Int) := by omega
  obtain ⟨V, hV⟩ : ∃ V, V = ((W.alloc (.cells #[.slice Ak nk ck, .slice Am mk.length cm, .slice Af fn.length cf] 26)).alloc (.cells #[.int .i64 k, .int .i64 n, .slice A' ys.length cap'] 29)) := ⟨_, rfl⟩
  have hWV : Below W.heap.size W V := by rw [hV]; exact ((Below.refl _ _).alloc (Nat.le_refl _) _).alloc (by simp) _
  have bp : V.heap[W.heap.size]? = some (.cells #[.slice Ak nk ck, .slice Am mk.length cm, .slice Af fn.length cf] 26 (0, 0)) := by
    rw [hV, Below.heap_alloc _ _ _ (by simp)]
    exact heap_alloc_new W _
  have be : V.heap[W.heap.size + 1]? = some (.cells #[.int .i64 k, .int .i64 n, .slice A' ys.length cap'] 29 (0, 0)) := by
    rw [hV]
    have := heap_alloc_new (W.alloc (.cells #[.slice Ak nk ck, .slice Am mk.length cm, .slice Af fn.length cf] 26)) (.cells #[.int .i64 k, .int .i64 n, .slice A' ys.length cap'] 29)
    rwa [World.size_alloc] at this
  have PB := Lib.hid (fun z (hz : Below V.heap.size V z) => two_cells bp hz)
  have EB := Lib.hid (fun z (hz : Below V.heap.size V z) => two_cells be hz)
  have HV := Lib.hid hV
  have HWV := Lib.hid hWV
  have hVs : W.heap.size + 1 < V.heap.size := (Array.getElem?_eq_some_iff.1 be).1
  clear hV hWV bp be hbd
  go_enter Try.func3, Try.ntmps3
  go_wp2_with fail
  rw [← HV.out]
  go_wp2_with fail
  refine (awake_any V).mono ?_
  rintro _ V1 ⟨rfl, hb1⟩
  obtain ⟨e0, e1, e2⟩ := EB.out _ hb1
  have HF := Lib.hid (few_any W (.mk k n ys) V1 _ (by omega) HE.out (HWV.out.thenCall HWV.out.size hb1))
  go_wp2_with fail
  refine HF.out.mono ?_
  rintro _ V2 ⟨rfl, hb2⟩
  have hV2 := hb1.thenCall hb1.size hb2
  clear e0 e1 e2 HF hb1 hb2
  by_cases hq1 : (((Co.mk k n ys).size : Nat) : Int) ≤ 100
  case neg =>
    go_wp2_with fail
    go_ret
    exact ⟨rfl, HWV.out.thenCall HWV.out.size hV2⟩
  obtain ⟨p0, p1, p2⟩ := PB.out _ hV2
  by_cases hq2 : 20 < mk.length
  case pos =>
    go_wp2_with fail
    go_ret
    exact ⟨rfl, HWV.out.thenCall HWV.out.size hV2⟩
  by_cases hq3 : 20 < fn.length
  case pos =>
    go_wp2_with fail
    go_ret
    exact ⟨rfl, HWV.out.thenCall HWV.out.size hV2⟩
  by_cases hq4 : 20 < bd.length
  case pos =>
    go_wp2_with fail
    go_ret
    exact ⟨rfl, HWV.out.thenCall HWV.out.size hV2⟩
  have hsz : (Co.mk k n ys).size ≤ 100 := by omega
  obtain ⟨e0, e1, e2⟩ := EB.out _ hV2
  have HFit := fun (y : World) (hy : Below W.heap.size W y) (l : List Int) (AA : Option Addr) (cc : Nat) (hl : InSl y AA cc l) (hll : l.length ≤ 200) => fits_any (Co.mk k n ys).size W mk fn _ HP.out (.mk k n ys) l y _ AA cc (Nat.le_refl _) (by omega) HE.out hl hy
  have hWV2 := HWV.out.thenCall HWV.out.size hV2
  have hC := HFit V2 hWV2 bd A cap (HBd0.out.below hWV2 (Nat.le_refl _)) (by omega)
  cases hfb : fitsB mk fn (.mk k n ys) bd with
  | false =>
    rw [hfb] at hC
    have HC := Lib.hid hC
    clear hC HFit
    go_wp2_with fail
    refine HC.out.mono ?_
    rintro _ VX ⟨rfl, hbx⟩
    have HVX := Lib.hid (hV2.thenCall hV2.size hbx)
    clear HC hbx hV2 hWV2 e0 e1 e2 p0 p1 p2 hfb hs
    go_wp2_with fail
    have MSF : Hid (∀ y, Below VX.heap.size VX y → (fun w' : World => w'.cell? ⟨W.heap.size + 1, 0, none⟩ = some (.int .i64 k) ∧ w'.cell? ⟨W.heap.size + 1, 1, none⟩ = some (.int .i64 n) ∧ w'.cell? ⟨W.heap.size + 1, 2, none⟩ = some (.slice A' ys.length cap')) y) := Lib.hid (fun y hy => EB.out y (HVX.out.thenCall HVX.out.size hy))
    have hBw : ∀ y, Below VX.heap.size VX y → Below W.heap.size W y := fun y hy => HWV.out.thenCall HWV.out.size (HVX.out.thenCall HVX.out.size hy)
    have HS1 := fun y (hy : Below VX.heap.size VX y) (m : Int) => Lib.hid (slots_any (Co.mk k n ys).size W (.mk k n ys) m y _ (Nat.le_refl _) HE.out (hBw y hy))
    have HS2 := fun y (hy : Below VX.heap.size VX y) => Lib.hid (same_any (Co.mk k n ys).size W (.mk k n ys) y _ _ (Nat.le_refl _) HE.out HE.out (hBw y hy))
    have h5 := slot_ge (.mk k n ys) 5
    have h00 := slot_twice (.mk k n ys) 0
    have HS3 := fun y hy => HS1 y hy 5
    have HS4 := fun y hy => HS1 y hy 0
    have HS5 := fun y hy => HS1 y hy (slotS (.mk k n ys) 0)
    rw [h00] at HS5
    clear h00 HS1
    generalize slotS (.mk k n ys) 5 = q5 at *
    generalize slotS (.mk k n ys) 0 = q0 at *
    have h5' : decide (5 ≤ q5) = true := decide_eq_true h5
    have hB0 : Below VX.heap.size VX VX.drew := (Below.refl _ _).drew
    go_region_held3 (fun w' => w'.cell? ⟨W.heap.size + 1, 0, none⟩ = some (.int .i64 k) ∧ w'.cell? ⟨W.heap.size + 1, 1, none⟩ = some (.int .i64 n) ∧ w'.cell? ⟨W.heap.size + 1, 2, none⟩ = some (.slice A' ys.length cap'))
      (first | exact MSF.out _ hB5 | exact MSF.out _ hB4 | exact MSF.out _ hB3 | exact MSF.out _ hB2 | exact MSF.out _ hB1 | exact MSF.out _ hB0)
      (first
       | (go_at_call 9; ((with_reducible refine (HS3 _ hB0).out.mono ?_); rintro _ y1 ⟨rfl, q1⟩; have hB1 := hB0.thenCall hB0.size q1))
       | (go_at_call 9; ((with_reducible refine (HS4 _ hB1).out.mono ?_); rintro _ y2 ⟨rfl, q2⟩; have hB2 := hB1.thenCall hB1.size q2))
       | (go_at_call 9; ((with_reducible refine (HS5 _ hB2).out.mono ?_); rintro _ y3 ⟨rfl, q3⟩; have hB3 := hB2.thenCall hB2.size q3))
       | (go_at_call 9; ((with_reducible refine (HS4 _ hB3).out.mono ?_); rintro _ y4 ⟨rfl, q4⟩; have hB4 := hB3.thenCall hB3.size q4))
       | (go_at_call 10; ((with_reducible refine (HS2 _ hB4).out.mono ?_); rintro _ y5 ⟨rfl, q5'⟩; have hB5 := hB4.thenCall hB4.size q5')))
    go_wp2_with fail
    go_ret
    exact ⟨rfl, hBw _ hB5⟩
  | true =>
    rw [hfb] at hC
    have HC := Lib.hid hC
    clear hC
    go_wp2_with fail
    refine HC.out.mono ?_
    rintro _ V3 ⟨rfl, hb3⟩
    have hV3 := hV2.thenCall hV2.size hb3
    clear HC hb3 hV2 hWV2 e0 e1 e2 p0 p1 p2
    have hmore := fits_more mk fn (.mk k n ys) bd (bd ++ [more]) (fun x hx => inB_app bd more x hx) hfb
    have HV3 := Lib.hid hV3
    have hWV3 := HWV.out.thenCall HWV.out.size hV3
    obtain ⟨i0, hi0, hz0, hz1, hz2⟩ := info_parts info3'
    have hg1 : bd.length + 1 ≤ maxLen := by unfold maxLen; omega
    have hg2' : (bd.length + 1) * 8 ≤ 140737488355328 := by omega
    have HOL := fun y (hy : Below V3.heap.size V3 y) => Lib.hid (holds_of (HBd0.out.1.below (hWV3.thenCall hWV3.size hy) (Nat.le_refl _)))
    have HNo : Hid (A = none → bd.length = 0 ∧ bd.length = 0) := Lib.hid (fun h => by have := HBd0.out.2.1; have := hnone h; omega)
    have MS : Hid (∀ y, Below V3.heap.size V3 y → (fun w' : World => (w'.cell? ⟨W.heap.size, 0, none⟩ = some (.slice Ak nk ck) ∧ w'.cell? ⟨W.heap.size, 1, none⟩ = some (.slice Am mk.length cm) ∧ w'.cell? ⟨W.heap.size, 2, none⟩ = some (.slice Af fn.length cf)) ∧ w'.cell? ⟨W.heap.size + 1, 0, none⟩ = some (.int .i64 k) ∧ w'.cell? ⟨W.heap.size + 1, 1, none⟩ = some (.int .i64 n) ∧ w'.cell? ⟨W.heap.size + 1, 2, none⟩ = some (.slice A' ys.length cap')) y) := Lib.hid (fun y hy => ⟨PB.out y (HV3.out.thenCall HV3.out.size hy), EB.out y (HV3.out.thenCall HV3.out.size hy)⟩)
    have HFA := fun (y : World) (x : World) (v : Value) (hx : Below V3.heap.size V3 x) (ho : x.ownsRow y.heap.size 3 1 v (bd.length + 1) (bd.map (Value.int .i64) ++ [.int .i64 more])) => inner_fin (W := V3) (x := x) (bd := bd) (n := more) (y := x) (B := y.heap.size) (v := v) hx ho (by omega)
    have HF6 : Hid (∀ y A2 cap2, Below V3.heap.size V3 y → InSl y A2 cap2 (bd ++ [more]) → Calls Try.prog 7 #[.agg #[.slice Ak nk ck, .slice Am mk.length cm, .slice Af fn.length cf], .agg #[.int .i64 k, .int .i64 n, .slice A' ys.length cap'], .slice A2 (bd.length + 1) cap2] y fun r w' => r = .returned (.bool true) ∧ Below y.heap.size y w') := Lib.hid (fun y A2 cap2 hy hin => by
      have := HFit y (hWV3.thenCall hWV3.size hy) (bd ++ [more]) A2 cap2 hin (by simp; omega)
      rw [hmore] at this
      simpa using this)
    have hone : ∀ u ∈ [Value.int .i64 more], u.oneCell' = true := by simp [Value.oneCell']
    have hB0 : Below V3.heap.size V3 V3.drew := (Below.refl _ _).drew
    have hBA : ∀ o, Below V3.heap.size V3 (V3.alloc o).drew := fun o => ((Below.refl _ _).alloc (Nat.le_refl _) o).drew
    have HS := Lib.hid hs
    have HFB := Lib.hid hfb
    clear hmore HFit hs hV3 hfb
    go_wp2_with fail
    go_region_held3 (fun w' => (w'.cell? ⟨W.heap.size, 0, none⟩ = some (.slice Ak nk ck) ∧ w'.cell? ⟨W.heap.size, 1, none⟩ = some (.slice Am mk.length cm) ∧ w'.cell? ⟨W.heap.size, 2, none⟩ = some (.slice Af fn.length cf)) ∧ w'.cell? ⟨W.heap.size + 1, 0, none⟩ = some (.int .i64 k) ∧ w'.cell? ⟨W.heap.size + 1, 1, none⟩ = some (.int .i64 n) ∧ w'.cell? ⟨W.heap.size + 1, 2, none⟩ = some (.slice A' ys.length cap'))
      (first | exact MS.out _ hB2 | exact MS.out _ hB1 | exact MS.out _ (hBA _) | exact MS.out _ (hB0.alloc hB0.size _) | exact MS.out _ hB0)
      (first
       | (refine step_append_grows rfl (.tmp 45) (.tmp 47) 30 rfl 3 i0 _ 1 8 Try.underlying30 hi0 hz0 hz1 hz2 rfl Nat.one_pos A bd.length bd.length (bd.map (Value.int .i64)) rfl HNo.out (by simp) (HOL _ (hBA _)).out ⟨V3.heap.size, 0, none⟩ 1 1 [.int .i64 more] rfl rfl (srcD V3 more).cells hone (Nat.lt_succ_self _) hg1 hg2' ?_; intro v2 y1 hO2 hG2; have hB1 := (hBA (.cells #[.int .i64 more] 3)).trans ((Below.refl _ _).grown hG2 (hBA _).size (fun k h => nomatch h)); obtain ⟨A2, cap2, rfl, hin, -⟩ := HFA _ _ _ hB1 hO2)
       | (go_at_call 7; ((with_reducible refine (HF6.out _ _ _ hB1 hin).mono ?_); rintro _ y2 ⟨rfl, q2⟩; have hB2 := hB1.thenCall hB1.size q2)))
    have hVL := HV3.out.thenCall HV3.out.size hB2
    have HVL := Lib.hid hVL
    clear MS HF6 HFA hin hO2 hG2 hone HOL hB0 hBA hVL hB1 hB2
    obtain ⟨e0, e1, e2⟩ := EB.out _ HVL.out
    go_wp2_with fail
    go_loopw [54] (fun i wr => ∃ j : Nat, i = .int .i64 j ∧ j ≤ ys.length ∧ Below y2.heap.size y2 wr) (fun i _ => ys.length - (intOf i).toNat)
    case atStart => exact ⟨0, rfl, Nat.zero_le _, Below.refl _ _⟩
    case round =>
      obtain ⟨j, rfl, hj, hb⟩ := hrel
      have hlen := hd.2.2.1
      clear e0 e1 e2
      have hVr := HVL.out.thenCall HVL.out.size hb
      by_cases hlt : j < ys.length
      · obtain ⟨b, o, rfl, hat⟩ := HS.out.get j hlt
        have hsx : (ys[j]).size < (Co.mk k n ys).size := by rw [Co.size_mk]; have := CoSize_get hlt; omega
        have hb0 := HWV.out.thenCall HWV.out.size hVr
        obtain ⟨p0, p1, p2⟩ := PB.out _ hVr
        obtain ⟨e0, e1, e2⟩ := EB.out _ hVr
        have hbw : W.heap.size + 1 < wr.heap.size := Nat.lt_of_lt_of_le hVs hVr.size
        have r0 := fun O => (World.cell?_alloc_lt wr O ⟨W.heap.size + 1, 0, none⟩ hbw).trans e0
        have hfx := fits_part HFB.out hlt
        generalize ys[j] = y at *
        cases y with
        | mk k2 n2 ys2 =>
        obtain ⟨A3, cap3, d0, d1, d2, hv2⟩ := Co.At.both hat hb0 (Nat.le_refl _)
        obtain ⟨VR, hVR⟩ : ∃ VR, VR = wr.alloc (.cells #[.int .i64 k2, .int .i64 n2, .slice A3 ys2.length cap3] 29) := ⟨_, rfl⟩
        have hRV : Below wr.heap.size wr VR := by rw [hVR]; exact (Below.refl _ _).alloc (Nat.le_refl _) _
        have hxb : VR.heap[wr.heap.size]? = some (.cells #[.int .i64 k2, .int .i64 n2, .slice A3 ys2.length cap3] 29 (0, 0)) := by rw [hVR]; exact heap_alloc_new wr _
        have XB := Lib.hid (fun z (hz : Below VR.heap.size VR z) => two_cells hxb hz)
        have hVVR := hVr.thenCall hVr.size hRV
        have hWVR := hb0.thenCall hb0.size hRV
        have HRV := Lib.hid hRV
        have HRV2 := Lib.hid (hb.thenCall hb.size hRV)
        have HVR := Lib.hid hVR
        clear hat hVR hRV hxb hb0
        by_cases k10 : k = 10
        · subst k10
          have hrr : around 10 n j bd = bd ++ [n] := by unfold around; rw [if_pos (by omega)]
          rw [hrr] at hfx
          have HNN : ∀ u ∈ [Value.int .i64 n], u.oneCell' = true := by simp [Value.oneCell']
          have HOL2 := fun y (hy : Below VR.heap.size VR y) => Lib.hid (holds_of (HBd0.out.1.below (hWVR.thenCall hWVR.size hy) (Nat.le_refl _)))
          have MS13 : Hid (∀ y, Below VR.heap.size VR y → (fun w' : World => w'.cell? ⟨W.heap.size + 1, 1, none⟩ = some (.int .i64 n)) y) := Lib.hid (fun y hy => (EB.out y (hVVR.thenCall hVVR.size hy)).2.1)
          have HFA2 := fun (y : World) (x : World) (v : Value) (hx : Below VR.heap.size VR x) (ho : x.ownsRow y.heap.size 3 1 v (bd.length + 1) (bd.map (Value.int .i64) ++ [.int .i64 n])) => inner_fin (W := VR) (x := x) (bd := bd) (n := n) (y := x) (B := y.heap.size) (v := v) hx ho (by omega)
          have hR0 : Below VR.heap.size VR VR.drew := (Below.refl _ _).drew
          have hRA : ∀ o, Below VR.heap.size VR (VR.alloc o).drew := fun o => ((Below.refl _ _).alloc (Nat.le_refl _) o).drew
          clear hrr
          go_wp2_with fail
          rw [← HVR.out]
          go_region_held3 (fun w' => w'.cell? ⟨W.heap.size + 1, 1, none⟩ = some (.int .i64 n))
            (first | exact MS13.out _ hR1 | exact MS13.out _ (hRA _) | exact MS13.out _ (hR0.alloc hR0.size _) | exact MS13.out _ hR0)
            ((refine step_append_grows rfl (.tmp 77) (.tmp 80) 30 rfl 3 i0 _ 1 8 Try.underlying30 hi0 hz0 hz1 hz2 rfl Nat.one_pos A bd.length bd.length (bd.map (Value.int .i64)) rfl HNo.out (by simp) (HOL2 _ (hRA _)).out ⟨VR.heap.size, 0, none⟩ 1 1 [.int .i64 n] rfl rfl (srcD VR n).cells HNN (Nat.lt_succ_self _) hg1 hg2' ?_; intro v3 z1 hO3 hG3; have hR1 := (hRA (.cells #[.int .i64 n] 3)).trans ((Below.refl _ _).grown hG3 (hRA _).size (fun k h => nomatch h)); obtain ⟨A4, cap4, rfl, hin4, -⟩ := HFA2 _ _ _ hR1 hO3))
          have HIN4 := Lib.hid hin4
          clear MS13 HOL2 HFA2 hO3 hG3 hin4
          go_wp2_with fail
          have hWY : Below W.heap.size W z1 := hWVR.thenCall hWVR.size hR1
          have hVVY : Below V.heap.size V z1 := hVVR.thenCall hVVR.size hR1
          have MS14 : Hid (∀ y, Below z1.heap.size z1 y → (fun w' : World => (w'.cell? ⟨W.heap.size, 0, none⟩ = some (.slice Ak nk ck) ∧ w'.cell? ⟨W.heap.size, 1, none⟩ = some (.slice Am mk.length cm) ∧ w'.cell? ⟨W.heap.size, 2, none⟩ = some (.slice Af fn.length cf)) ∧ (w'.cell? ⟨W.heap.size + 1, 0, none⟩ = some (.int .i64 10) ∧ w'.cell? ⟨W.heap.size + 1, 1, none⟩ = some (.int .i64 n) ∧ w'.cell? ⟨W.heap.size + 1, 2, none⟩ = some (.slice (some ⟨b, o, none⟩) ys.length cap')) ∧ w'.cell? ⟨wr.heap.size, 0, none⟩ = some (.int .i64 k2) ∧ w'.cell? ⟨wr.heap.size, 1, none⟩ = some (.int .i64 n2) ∧ w'.cell? ⟨wr.heap.size, 2, none⟩ = some (.slice A3 ys2.length cap3)) y) := Lib.hid (fun y hy => ⟨PB.out y (hVVY.thenCall hVVY.size hy), EB.out y (hVVY.thenCall hVVY.size hy), XB.out y (hR1 |>.thenCall (Below.size hR1) hy)⟩)
          have HF14 : Hid (∀ y, Below z1.heap.size z1 y → Calls Try.prog 7 #[.agg #[.slice Ak nk ck, .slice Am mk.length cm, .slice Af fn.length cf], .agg #[.int .i64 k2, .int .i64 n2, .slice A3 ys2.length cap3], .slice A4 (bd.length + 1) cap4] y fun r w' => r = .returned (.bool true) ∧ Below y.heap.size y w') := Lib.hid (fun y hy => by
            have := fits_any (Co.mk k2 n2 ys2).size W mk fn _ (HP.out) (.mk k2 n2 ys2) (bd ++ [n]) y _ A4 cap4 (Nat.le_refl _) (by (try simp only [List.length_append, List.length_cons, List.length_nil]); omega) hv2 (HIN4.out.below hy (Nat.le_refl _)) (hWY.thenCall hWY.size hy)
            rw [hfx] at this
            simpa using this)
          have HSX := fun y (hy : Below z1.heap.size z1 y) => Lib.hid (size_any (Co.mk k2 n2 ys2).size W (.mk k2 n2 ys2) y _ (Nat.le_refl _) (by omega) hv2 (hWY.thenCall hWY.size hy))
          have HSE := fun y (hy : Below z1.heap.size z1 y) => Lib.hid (size_any (Co.mk 10 n ys).size W (.mk 10 n ys) y _ (Nat.le_refl _) (by omega) HE.out (hWY.thenCall hWY.size hy))
          generalize (Co.mk k2 n2 ys2).size = sx at *
          generalize (Co.mk 10 n ys).size = se at *
          have hcmp : decide (se ≤ sx) = false := decide_eq_false (by omega)
          have hcmp2 : decide ((se : Int) ≤ (sx : Int)) = false := decide_eq_false (by omega)
          have hY0 : Below z1.heap.size z1 z1.drew := (Below.refl _ _).drew
          have HWY := Lib.hid hWY
          clear hfx hWY hVVY hv2 XB hsx
          go_region_held3 (fun w' => (w'.cell? ⟨W.heap.size, 0, none⟩ = some (.slice Ak nk ck) ∧ w'.cell? ⟨W.heap.size, 1, none⟩ = some (.slice Am mk.length cm) ∧ w'.cell? ⟨W.heap.size, 2, none⟩ = some (.slice Af fn.length cf)) ∧ (w'.cell? ⟨W.heap.size + 1, 0, none⟩ = some (.int .i64 10) ∧ w'.cell? ⟨W.heap.size + 1, 1, none⟩ = some (.int .i64 n) ∧ w'.cell? ⟨W.heap.size + 1, 2, none⟩ = some (.slice (some ⟨b, o, none⟩) ys.length cap')) ∧ w'.cell? ⟨wr.heap.size, 0, none⟩ = some (.int .i64 k2) ∧ w'.cell? ⟨wr.heap.size, 1, none⟩ = some (.int .i64 n2) ∧ w'.cell? ⟨wr.heap.size, 2, none⟩ = some (.slice A3 ys2.length cap3))
            (first | exact MS14.out _ hY3 | exact MS14.out _ hY2 | exact MS14.out _ hY1 | exact MS14.out _ hY0)
            (first
             | (go_at_call 7; ((with_reducible refine (HF14.out _ hY0).mono ?_); rintro _ u1 ⟨rfl, t1⟩; have hY1 := hY0.thenCall hY0.size t1))
             | (go_at_call 8; ((with_reducible refine (HSX _ hY1).out.mono ?_); rintro _ u2 ⟨rfl, t2⟩; have hY2 := hY1.thenCall hY1.size t2))
             | (go_at_call 8; ((with_reducible refine (HSE _ hY2).out.mono ?_); rintro _ u3 ⟨rfl, t3⟩; have hY3 := hY2.thenCall hY2.size t3)))
          go_wp2_with fail
          exact ⟨⟨j + 1, by go_num, by omega, HRV2.out.thenCall HRV2.out.size (hR1 |>.thenCall (Below.size hR1) hY3)⟩, by simp [intOf]; omega⟩
        · have k10' : (k == 10) = false := by simpa using k10
          by_cases k9 : k = 9
          · subst k9
            by_cases j1 : j = 1
            · subst j1
              have hrr : around 9 n 1 bd = bd ++ [n] := by unfold around; rw [if_pos (by omega)]
              rw [hrr] at hfx
              have HNN : ∀ u ∈ [Value.int .i64 n], u.oneCell' = true := by simp [Value.oneCell']
              have HOL2 := fun y (hy : Below VR.heap.size VR y) => Lib.hid (holds_of (HBd0.out.1.below (hWVR.thenCall hWVR.size hy) (Nat.le_refl _)))
              have MS13 : Hid (∀ y, Below VR.heap.size VR y → (fun w' : World => w'.cell? ⟨W.heap.size + 1, 1, none⟩ = some (.int .i64 n)) y) := Lib.hid (fun y hy => (EB.out y (hVVR.thenCall hVVR.size hy)).2.1)
              have HFA2 := fun (y : World) (x : World) (v : Value) (hx : Below VR.heap.size VR x) (ho : x.ownsRow y.heap.size 3 1 v (bd.length + 1) (bd.map (Value.int .i64) ++ [.int .i64 n])) => inner_fin (W := VR) (x := x) (bd := bd) (n := n) (y := x) (B := y.heap.size) (v := v) hx ho (by omega)
              have hR0 : Below VR.heap.size VR VR.drew := (Below.refl _ _).drew
              have hRA : ∀ o, Below VR.heap.size VR (VR.alloc o).drew := fun o => ((Below.refl _ _).alloc (Nat.le_refl _) o).drew
              clear hrr
              go_wp2_with fail
              rw [← HVR.out]
              go_region_held3 (fun w' => w'.cell? ⟨W.heap.size + 1, 1, none⟩ = some (.int .i64 n))
                (first | exact MS13.out _ hR1 | exact MS13.out _ (hRA _) | exact MS13.out _ (hR0.alloc hR0.size _) | exact MS13.out _ hR0)
                ((refine step_append_grows rfl (.tmp 77) (.tmp 80) 30 rfl 3 i0 _ 1 8 Try.underlying30 hi0 hz0 hz1 hz2 rfl Nat.one_pos A bd.length bd.length (bd.map (Value.int .i64)) rfl HNo.out (by simp) (HOL2 _ (hRA _)).out ⟨VR.heap.size, 0, none⟩ 1 1 [.int .i64 n] rfl rfl (srcD VR n).cells HNN (Nat.lt_succ_self _) hg1 hg2' ?_; intro v3 z1 hO3 hG3; have hR1 := (hRA (.cells #[.int .i64 n] 3)).trans ((Below.refl _ _).grown hG3 (hRA _).size (fun k h => nomatch h)); obtain ⟨A4, cap4, rfl, hin4, -⟩ := HFA2 _ _ _ hR1 hO3))
              have HIN4 := Lib.hid hin4
              clear MS13 HOL2 HFA2 hO3 hG3 hin4
              go_wp2_with fail
              have hWY : Below W.heap.size W z1 := hWVR.thenCall hWVR.size hR1
              have hVVY : Below V.heap.size V z1 := hVVR.thenCall hVVR.size hR1
              have MS14 : Hid (∀ y, Below z1.heap.size z1 y → (fun w' : World => (w'.cell? ⟨W.heap.size, 0, none⟩ = some (.slice Ak nk ck) ∧ w'.cell? ⟨W.heap.size, 1, none⟩ = some (.slice Am mk.length cm) ∧ w'.cell? ⟨W.heap.size, 2, none⟩ = some (.slice Af fn.length cf)) ∧ (w'.cell? ⟨W.heap.size + 1, 0, none⟩ = some (.int .i64 9) ∧ w'.cell? ⟨W.heap.size + 1, 1, none⟩ = some (.int .i64 n) ∧ w'.cell? ⟨W.heap.size + 1, 2, none⟩ = some (.slice (some ⟨b, o, none⟩) ys.length cap')) ∧ w'.cell? ⟨wr.heap.size, 0, none⟩ = some (.int .i64 k2) ∧ w'.cell? ⟨wr.heap.size, 1, none⟩ = some (.int .i64 n2) ∧ w'.cell? ⟨wr.heap.size, 2, none⟩ = some (.slice A3 ys2.length cap3)) y) := Lib.hid (fun y hy => ⟨PB.out y (hVVY.thenCall hVVY.size hy), EB.out y (hVVY.thenCall hVVY.size hy), XB.out y (hR1 |>.thenCall (Below.size hR1) hy)⟩)
              have HF14 : Hid (∀ y, Below z1.heap.size z1 y → Calls Try.prog 7 #[.agg #[.slice Ak nk ck, .slice Am mk.length cm, .slice Af fn.length cf], .agg #[.int .i64 k2, .int .i64 n2, .slice A3 ys2.length cap3], .slice A4 (bd.length + 1) cap4] y fun r w' => r = .returned (.bool true) ∧ Below y.heap.size y w') := Lib.hid (fun y hy => by
                have := fits_any (Co.mk k2 n2 ys2).size W mk fn _ (HP.out) (.mk k2 n2 ys2) (bd ++ [n]) y _ A4 cap4 (Nat.le_refl _) (by (try simp only [List.length_append, List.length_cons, List.length_nil]); omega) hv2 (HIN4.out.below hy (Nat.le_refl _)) (hWY.thenCall hWY.size hy)
                rw [hfx] at this
                simpa using this)
              have HSX := fun y (hy : Below z1.heap.size z1 y) => Lib.hid (size_any (Co.mk k2 n2 ys2).size W (.mk k2 n2 ys2) y _ (Nat.le_refl _) (by omega) hv2 (hWY.thenCall hWY.size hy))
              have HSE := fun y (hy : Below z1.heap.size z1 y) => Lib.hid (size_any (Co.mk 9 n ys).size W (.mk 9 n ys) y _ (Nat.le_refl _) (by omega) HE.out (hWY.thenCall hWY.size hy))
              generalize (Co.mk k2 n2 ys2).size = sx at *
              generalize (Co.mk 9 n ys).size = se at *
              have hcmp : decide (se ≤ sx) = false := decide_eq_false (by omega)
              have hcmp2 : decide ((se : Int) ≤ (sx : Int)) = false := decide_eq_false (by omega)
              have hY0 : Below z1.heap.size z1 z1.drew := (Below.refl _ _).drew
              have HWY := Lib.hid hWY
              clear hfx hWY hVVY hv2 XB hsx
              go_region_held3 (fun w' => (w'.cell? ⟨W.heap.size, 0, none⟩ = some (.slice Ak nk ck) ∧ w'.cell? ⟨W.heap.size, 1, none⟩ = some (.slice Am mk.length cm) ∧ w'.cell? ⟨W.heap.size, 2, none⟩ = some (.slice Af fn.length cf)) ∧ (w'.cell? ⟨W.heap.size + 1, 0, none⟩ = some (.int .i64 9) ∧ w'.cell? ⟨W.heap.size + 1, 1, none⟩ = some (.int .i64 n) ∧ w'.cell? ⟨W.heap.size + 1, 2, none⟩ = some (.slice (some ⟨b, o, none⟩) ys.length cap')) ∧ w'.cell? ⟨wr.heap.size, 0, none⟩ = some (.int .i64 k2) ∧ w'.cell? ⟨wr.heap.size, 1, none⟩ = some (.int .i64 n2) ∧ w'.cell? ⟨wr.heap.size, 2, none⟩ = some (.slice A3 ys2.length cap3))
                (first | exact MS14.out _ hY3 | exact MS14.out _ hY2 | exact MS14.out _ hY1 | exact MS14.out _ hY0)
                (first
                 | (go_at_call 7; ((with_reducible refine (HF14.out _ hY0).mono ?_); rintro _ u1 ⟨rfl, t1⟩; have hY1 := hY0.thenCall hY0.size t1))
                 | (go_at_call 8; ((with_reducible refine (HSX _ hY1).out.mono ?_); rintro _ u2 ⟨rfl, t2⟩; have hY2 := hY1.thenCall hY1.size t2))
                 | (go_at_call 8; ((with_reducible refine (HSE _ hY2).out.mono ?_); rintro _ u3 ⟨rfl, t3⟩; have hY3 := hY2.thenCall hY2.size t3)))
              go_wp2_with fail
              exact ⟨⟨1 + 1, by go_num, by omega, HRV2.out.thenCall HRV2.out.size (hR1 |>.thenCall (Below.size hR1) hY3)⟩, by simp [intOf]; omega⟩
            · have j1' : ((j : Int) == 1) = false := by simp; omega
              have hrr : around 9 n j bd = bd := by unfold around; rw [if_neg (by omega)]
              rw [hrr] at hfx
              have hRr := Below.refl VR.heap.size VR
              have HIN4 := Lib.hid (HBd0.out.below hWVR (Nat.le_refl _))
              clear hrr
              clear j1
              go_wp2_with fail
              rw [← HVR.out]
              have hWY : Below W.heap.size W VR := hWVR.thenCall hWVR.size hRr
              have hVVY : Below V.heap.size V VR := hVVR.thenCall hVVR.size hRr
              have MS14 : Hid (∀ y, Below VR.heap.size VR y → (fun w' : World => (w'.cell? ⟨W.heap.size, 0, none⟩ = some (.slice Ak nk ck) ∧ w'.cell? ⟨W.heap.size, 1, none⟩ = some (.slice Am mk.length cm) ∧ w'.cell? ⟨W.heap.size, 2, none⟩ = some (.slice Af fn.length cf)) ∧ (w'.cell? ⟨W.heap.size + 1, 0, none⟩ = some (.int .i64 9) ∧ w'.cell? ⟨W.heap.size + 1, 1, none⟩ = some (.int .i64 n) ∧ w'.cell? ⟨W.heap.size + 1, 2, none⟩ = some (.slice (some ⟨b, o, none⟩) ys.length cap')) ∧ w'.cell? ⟨wr.heap.size, 0, none⟩ = some (.int .i64 k2) ∧ w'.cell? ⟨wr.heap.size, 1, none⟩ = some (.int .i64 n2) ∧ w'.cell? ⟨wr.heap.size, 2, none⟩ = some (.slice A3 ys2.length cap3)) y) := Lib.hid (fun y hy => ⟨PB.out y (hVVY.thenCall hVVY.size hy), EB.out y (hVVY.thenCall hVVY.size hy), XB.out y (hRr |>.thenCall (Below.size hRr) hy)⟩)
              have HF14 : Hid (∀ y, Below VR.heap.size VR y → Calls Try.prog 7 #[.agg #[.slice Ak nk ck, .slice Am mk.length cm, .slice Af fn.length cf], .agg #[.int .i64 k2, .int .i64 n2, .slice A3 ys2.length cap3], .slice A (bd.length) cap] y fun r w' => r = .returned (.bool true) ∧ Below y.heap.size y w') := Lib.hid (fun y hy => by
                have := fits_any (Co.mk k2 n2 ys2).size W mk fn _ (HP.out) (.mk k2 n2 ys2) (bd) y _ A cap (Nat.le_refl _) (by (try simp only [List.length_append, List.length_cons, List.length_nil]); omega) hv2 (HIN4.out.below hy (Nat.le_refl _)) (hWY.thenCall hWY.size hy)
                rw [hfx] at this
                simpa using this)
              have HSX := fun y (hy : Below VR.heap.size VR y) => Lib.hid (size_any (Co.mk k2 n2 ys2).size W (.mk k2 n2 ys2) y _ (Nat.le_refl _) (by omega) hv2 (hWY.thenCall hWY.size hy))
              have HSE := fun y (hy : Below VR.heap.size VR y) => Lib.hid (size_any (Co.mk 9 n ys).size W (.mk 9 n ys) y _ (Nat.le_refl _) (by omega) HE.out (hWY.thenCall hWY.size hy))
              generalize (Co.mk k2 n2 ys2).size = sx at *
              generalize (Co.mk 9 n ys).size = se at *
              have hcmp : decide (se ≤ sx) = false := decide_eq_false (by omega)
              have hcmp2 : decide ((se : Int) ≤ (sx : Int)) = false := decide_eq_false (by omega)
              have hY0 : Below VR.heap.size VR VR.drew := (Below.refl _ _).drew
              have HWY := Lib.hid hWY
              clear hfx hWY hVVY hv2 XB hsx
              go_region_held3 (fun w' => (w'.cell? ⟨W.heap.size, 0, none⟩ = some (.slice Ak nk ck) ∧ w'.cell? ⟨W.heap.size, 1, none⟩ = some (.slice Am mk.length cm) ∧ w'.cell? ⟨W.heap.size, 2, none⟩ = some (.slice Af fn.length cf)) ∧ (w'.cell? ⟨W.heap.size + 1, 0, none⟩ = some (.int .i64 9) ∧ w'.cell? ⟨W.heap.size + 1, 1, none⟩ = some (.int .i64 n) ∧ w'.cell? ⟨W.heap.size + 1, 2, none⟩ = some (.slice (some ⟨b, o, none⟩) ys.length cap')) ∧ w'.cell? ⟨wr.heap.size, 0, none⟩ = some (.int .i64 k2) ∧ w'.cell? ⟨wr.heap.size, 1, none⟩ = some (.int .i64 n2) ∧ w'.cell? ⟨wr.heap.size, 2, none⟩ = some (.slice A3 ys2.length cap3))
                (first | exact MS14.out _ hY3 | exact MS14.out _ hY2 | exact MS14.out _ hY1 | exact MS14.out _ hY0)
                (first
                 | (go_at_call 7; ((with_reducible refine (HF14.out _ hY0).mono ?_); rintro _ u1 ⟨rfl, t1⟩; have hY1 := hY0.thenCall hY0.size t1))
                 | (go_at_call 8; ((with_reducible refine (HSX _ hY1).out.mono ?_); rintro _ u2 ⟨rfl, t2⟩; have hY2 := hY1.thenCall hY1.size t2))
                 | (go_at_call 8; ((with_reducible refine (HSE _ hY2).out.mono ?_); rintro _ u3 ⟨rfl, t3⟩; have hY3 := hY2.thenCall hY2.size t3)))
              go_wp2_with fail
              exact ⟨⟨j + 1, by go_num, by omega, HRV2.out.thenCall HRV2.out.size (hRr |>.thenCall (Below.size hRr) hY3)⟩, by simp [intOf]; omega⟩
          · have k9' : (k == 9) = false := by simpa using k9
            have hrr : around k n j bd = bd := by unfold around; rw [if_neg (by omega)]
            rw [hrr] at hfx
            have hRr := Below.refl VR.heap.size VR
            have HIN4 := Lib.hid (HBd0.out.below hWVR (Nat.le_refl _))
            clear hrr
            clear k9 k10
            go_wp2_with fail
            rw [← HVR.out]
            have hWY : Below W.heap.size W VR := hWVR.thenCall hWVR.size hRr
            have hVVY : Below V.heap.size V VR := hVVR.thenCall hVVR.size hRr
            have MS14 : Hid (∀ y, Below VR.heap.size VR y → (fun w' : World => (w'.cell? ⟨W.heap.size, 0, none⟩ = some (.slice Ak nk ck) ∧ w'.cell? ⟨W.heap.size, 1, none⟩ = some (.slice Am mk.length cm) ∧ w'.cell? ⟨W.heap.size, 2, none⟩ = some (.slice Af fn.length cf)) ∧ (w'.cell? ⟨W.heap.size + 1, 0, none⟩ = some (.int .i64 k) ∧ w'.cell? ⟨W.heap.size + 1, 1, none⟩ = some (.int .i64 n) ∧ w'.cell? ⟨W.heap.size + 1, 2, none⟩ = some (.slice (some ⟨b, o, none⟩) ys.length cap')) ∧ w'.cell? ⟨wr.heap.size, 0, none⟩ = some (.int .i64 k2) ∧ w'.cell? ⟨wr.heap.size, 1, none⟩ = some (.int .i64 n2) ∧ w'.cell? ⟨wr.heap.size, 2, none⟩ = some (.slice A3 ys2.length cap3)) y) := Lib.hid (fun y hy => ⟨PB.out y (hVVY.thenCall hVVY.size hy), EB.out y (hVVY.thenCall hVVY.size hy), XB.out y (hRr |>.thenCall (Below.size hRr) hy)⟩)
            have HF14 : Hid (∀ y, Below VR.heap.size VR y → Calls Try.prog 7 #[.agg #[.slice Ak nk ck, .slice Am mk.length cm, .slice Af fn.length cf], .agg #[.int .i64 k2, .int .i64 n2, .slice A3 ys2.length cap3], .slice A (bd.length) cap] y fun r w' => r = .returned (.bool true) ∧ Below y.heap.size y w') := Lib.hid (fun y hy => by
              have := fits_any (Co.mk k2 n2 ys2).size W mk fn _ (HP.out) (.mk k2 n2 ys2) (bd) y _ A cap (Nat.le_refl _) (by (try simp only [List.length_append, List.length_cons, List.length_nil]); omega) hv2 (HIN4.out.below hy (Nat.le_refl _)) (hWY.thenCall hWY.size hy)
              rw [hfx] at this
              simpa using this)
            have HSX := fun y (hy : Below VR.heap.size VR y) => Lib.hid (size_any (Co.mk k2 n2 ys2).size W (.mk k2 n2 ys2) y _ (Nat.le_refl _) (by omega) hv2 (hWY.thenCall hWY.size hy))
            have HSE := fun y (hy : Below VR.heap.size VR y) => Lib.hid (size_any (Co.mk k n ys).size W (.mk k n ys) y _ (Nat.le_refl _) (by omega) HE.out (hWY.thenCall hWY.size hy))
            generalize (Co.mk k2 n2 ys2).size = sx at *
            generalize (Co.mk k n ys).size = se at *
            have hcmp : decide (se ≤ sx) = false := decide_eq_false (by omega)
            have hcmp2 : decide ((se : Int) ≤ (sx : Int)) = false := decide_eq_false (by omega)
            have hY0 : Below VR.heap.size VR VR.drew := (Below.refl _ _).drew
            have HWY := Lib.hid hWY
            clear hfx hWY hVVY hv2 XB hsx
            go_region_held3 (fun w' => (w'.cell? ⟨W.heap.size, 0, none⟩ = some (.slice Ak nk ck) ∧ w'.cell? ⟨W.heap.size, 1, none⟩ = some (.slice Am mk.length cm) ∧ w'.cell? ⟨W.heap.size, 2, none⟩ = some (.slice Af fn.length cf)) ∧ (w'.cell? ⟨W.heap.size + 1, 0, none⟩ = some (.int .i64 k) ∧ w'.cell? ⟨W.heap.size + 1, 1, none⟩ = some (.int .i64 n) ∧ w'.cell? ⟨W.heap.size + 1, 2, none⟩ = some (.slice (some ⟨b, o, none⟩) ys.length cap')) ∧ w'.cell? ⟨wr.heap.size, 0, none⟩ = some (.int .i64 k2) ∧ w'.cell? ⟨wr.heap.size, 1, none⟩ = some (.int .i64 n2) ∧ w'.cell? ⟨wr.heap.size, 2, none⟩ = some (.slice A3 ys2.length cap3))
              (first | exact MS14.out _ hY3 | exact MS14.out _ hY2 | exact MS14.out _ hY1 | exact MS14.out _ hY0)
              (first
               | (go_at_call 7; ((with_reducible refine (HF14.out _ hY0).mono ?_); rintro _ u1 ⟨rfl, t1⟩; have hY1 := hY0.thenCall hY0.size t1))
               | (go_at_call 8; ((with_reducible refine (HSX _ hY1).out.mono ?_); rintro _ u2 ⟨rfl, t2⟩; have hY2 := hY1.thenCall hY1.size t2))
               | (go_at_call 8; ((with_reducible refine (HSE _ hY2).out.mono ?_); rintro _ u3 ⟨rfl, t3⟩; have hY3 := hY2.thenCall hY2.size t3)))
            go_wp2_with fail
            exact ⟨⟨j + 1, by go_num, by omega, HRV2.out.thenCall HRV2.out.size (hRr |>.thenCall (Below.size hRr) hY3)⟩, by simp [intOf]; omega⟩
      · have HVX := Lib.hid hVr
        obtain ⟨VX, hVX⟩ : ∃ VX, VX = wr := ⟨_, rfl⟩
        subst hVX
        go_wp2_with fail
        have MSF : Hid (∀ y, Below VX.heap.size VX y → (fun w' : World => w'.cell? ⟨W.heap.size + 1, 0, none⟩ = some (.int .i64 k) ∧ w'.cell? ⟨W.heap.size + 1, 1, none⟩ = some (.int .i64 n) ∧ w'.cell? ⟨W.heap.size + 1, 2, none⟩ = some (.slice A' ys.length cap')) y) := Lib.hid (fun y hy => EB.out y (HVX.out.thenCall HVX.out.size hy))
        have hBw : ∀ y, Below VX.heap.size VX y → Below W.heap.size W y := fun y hy => HWV.out.thenCall HWV.out.size (HVX.out.thenCall HVX.out.size hy)
        have HS1 := fun y (hy : Below VX.heap.size VX y) (m : Int) => Lib.hid (slots_any (Co.mk k n ys).size W (.mk k n ys) m y _ (Nat.le_refl _) HE.out (hBw y hy))
        have HS2 := fun y (hy : Below VX.heap.size VX y) => Lib.hid (same_any (Co.mk k n ys).size W (.mk k n ys) y _ _ (Nat.le_refl _) HE.out HE.out (hBw y hy))
        have h5 := slot_ge (.mk k n ys) 5
        have h00 := slot_twice (.mk k n ys) 0
        have HS3 := fun y hy => HS1 y hy 5
        have HS4 := fun y hy => HS1 y hy 0
        have HS5 := fun y hy => HS1 y hy (slotS (.mk k n ys) 0)
        rw [h00] at HS5
        clear h00 HS1
        generalize slotS (.mk k n ys) 5 = q5 at *
        generalize slotS (.mk k n ys) 0 = q0 at *
        have h5' : decide (5 ≤ q5) = true := decide_eq_true h5
        have hB0 : Below VX.heap.size VX VX.drew := (Below.refl _ _).drew
        go_region_held3 (fun w' => w'.cell? ⟨W.heap.size + 1, 0, none⟩ = some (.int .i64 k) ∧ w'.cell? ⟨W.heap.size + 1, 1, none⟩ = some (.int .i64 n) ∧ w'.cell? ⟨W.heap.size + 1, 2, none⟩ = some (.slice A' ys.length cap'))
          (first | exact MSF.out _ hB5 | exact MSF.out _ hB4 | exact MSF.out _ hB3 | exact MSF.out _ hB2 | exact MSF.out _ hB1 | exact MSF.out _ hB0)
          (first
           | (go_at_call 9; ((with_reducible refine (HS3 _ hB0).out.mono ?_); rintro _ y1 ⟨rfl, q1⟩; have hB1 := hB0.thenCall hB0.size q1))
           | (go_at_call 9; ((with_reducible refine (HS4 _ hB1).out.mono ?_); rintro _ y2 ⟨rfl, q2⟩; have hB2 := hB1.thenCall hB1.size q2))
           | (go_at_call 9; ((with_reducible refine (HS5 _ hB2).out.mono ?_); rintro _ y3 ⟨rfl, q3⟩; have hB3 := hB2.thenCall hB2.size q3))
           | (go_at_call 9; ((with_reducible refine (HS4 _ hB3).out.mono ?_); rintro _ y4 ⟨rfl, q4⟩; have hB4 := hB3.thenCall hB3.size q4))
           | (go_at_call 10; ((with_reducible refine (HS2 _ hB4).out.mono ?_); rintro _ y5 ⟨rfl, q5'⟩; have hB5 := hB4.thenCall hB4.size q5')))
        go_wp2_with fail
        go_ret
        exact ⟨rfl, hBw _ hB5⟩
end Go.Proofs.Ytkcgbakjpodmeaa.coreFits
