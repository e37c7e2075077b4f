/- Contract: whimbrellaw20.Made where all deeds put: what the graph has then. Chapter 26's example. -/
import Derived.Test.YtccknhhjkkbadaaWmK
import Derived.Test.YtccknhhjkkbadaaWith
import Derived.Test.YtccknhhjkkbadaaAwk
namespace Go.Proofs.Ytccknhhjkkbadaa.Gr
open Go.ChangeShapes Go.WideShapes Go.ChangeAt Go.RowKit Go.Proofs.Ytccknhhjkkbadaa.Lift Go.Proofs.Ytccknhhjkkbadaa.Arn Go.Proofs.Ytccknhhjkkbadaa.ArnN Go.Maps
set_option linter.unusedVariables false
set_option linter.unusedSimpArgs false
/-- what a graph has after so many puts. -/
def MadeX (P : Int → List Int → Prop) (B : Nat) (w0 w wr : World) (gg g m k most : Nat) (ds : List Dd) : Prop :=
  ∃ (F : Nat → Prop) (xs : List Nd) (us : List Bool) (low : Nat), Gr wr F gg g xs us low most ∧ MqP P w0 wr F m k xs us ∧ ¬ F m ∧ (∀ b, F b → B ≤ b) ∧ Below B w wr ∧ us = List.replicate k true ∧
    ∀ j (h : j < ds.length), j < k → (getX xs us j).k = ds[j].x.k ∧ (getX xs us j).n = ds[j].x.n ∧ XV wr F (getX xs us j) ds[j].l
theorem firstF_rep (k : Nat) : firstF (List.replicate k true) = k := firstF_eq (by simp) (fun j hj _ => by simp) (fun h => by simp at h)
theorem setU_rep (k : Nat) : setU (List.replicate k true) = List.replicate (k + 1) true := by
  unfold setU
  rw [firstF_rep, if_neg (by simp), List.replicate_succ']
theorem closex {P : Int → List Int → Prop} {B k n most gg g m low' : Nat} {w0 w V w2 w3 : World} {F F' : Nat → Prop} {xs : List Nd} {us : List Bool} {x' : Nd} {D' : DataW Unit} {ds : List Dd} (hBF : ∀ b, F b → B ≤ b) (hbV : Below B w V) (hBV : B ≤ V.heap.size) (hFm : ¬ F m) (hmV : m < V.heap.size) (hBm : B ≤ m)
    (hG : Gr w2 F' gg g (setX xs us x') (setU us) low' most) (hT : Turn F V w2) (hgr : Grows F F' V w2) (hgg : ¬ gg = m) {D2 : DataW Unit} {n2 : Nat} (hD2 : w2.ownsMap Try.prog 3 rC m n2 D2) (hD : w3.ownsMap Try.prog 3 rC m n D') (hh : ∀ i : Int, (Lit.int .i64 i).wf = true → Maps.has D' (.int .i64 i) = hasB (setU us) i) (hs : Maps.size D' = (setU us).count true)
    (hS : SaidP P w0 w2 F' D' (setX xs us x') (setU us)) (hg3 : w2.grownBy w3 (some m)) (hus : us = List.replicate k true)
    (hx : ∀ j (h : j < ds.length), j < k → (getX xs us j).k = ds[j].x.k ∧ (getX xs us j).n = ds[j].x.n ∧ XV V F (getX xs us j) ds[j].l) (hk : k < ds.length) (hlen : xs.length = us.length)
    (hn : x'.k = ds[k].x.k ∧ x'.n = ds[k].x.n ∧ XV w2 F' x' ds[k].l) (hnk : n = k + 1) : MadeX P B w0 w w3 gg g m n most ds := by
  have hF'm : ¬ F' m := fun e => (hgr m e).elim hFm (fun e => by omega)
  have hB' : ∀ b, F' b → B ≤ b := fun b e => (hgr b e).elim (hBF b) (fun e => by omega)
  have hz2 : B ≤ w2.heap.size := Nat.le_trans hBV hT.size
  refine ⟨F', setX xs us x', setU us, low', hG.keepT (turn_grown hg3) (fun b hb e => hF'm (e ▸ hb)) hgg, ⟨D', hD, hh, hs, hS.map hD2 hg3⟩, hF'm, hB', ?_, by rw [hus, setU_rep, hnk], fun j hj hjk => ?_⟩
  · exact (hbV.trans (hT.below hBF hBV)).trans ((turn_grown hg3).below (fun b e => by rw [e]; exact hBm) hz2)
  · have hfk : firstF us = k := by rw [hus, firstF_rep]
    by_cases e : j = k
    · subst e
      have := getX_hit hlen x'
      rw [hfk] at this
      rw [this]
      exact ⟨hn.1, hn.2.1, hn.2.2.map hD2 hg3⟩
    · rw [getX_put_other hlen x' (by rw [hfk]; omega)]
      obtain ⟨a1, a2, a3⟩ := hx j hj (by omega)
      exact ⟨a1, a2, (a3.turn hT hgr).map hD2 hg3⟩
set_option maxRecDepth 100000 in
set_option maxHeartbeats 4000000 in
theorem madex_any {P : Int → List Int → Prop} (hP0 : P 0 []) (w0 : World) (n : Int) (A : Option Addr) (cap : Nat) (ds : List Dd) (h : Lift.RowsIn (DdR w0) w0 5 A ds) (hPd : ∀ d ∈ ds, P d.x.n d.l) (hm : ds.length ≤ 1000) (h00 : ∀ d ∈ ds, d.kind = 0) (hmn : ds.length ≤ mostN n) (w : World) (h0 : Below w0.heap.size w0 w) :
    Calls Try.prog 26 #[.int .i64 n, .slice A ds.length cap] w fun e w' => ∃ gg g m, e = .returned (.tuple #[.pointer (some ⟨gg, 0, none⟩), .map (some m)]) ∧ MadeX P w.heap.size w0 w w' gg g m ds.length (mostN n) ds ∧ w.heap.size ≤ gg ∧ w.heap.size ≤ m := by
  have hmm := @run_makeMap Try.prog
  have HN := Lib.hid (gnew_any n w)
  go_enter Try.func26, Try.ntmps26
  go_wp2_with fail
  refine HN.out.mono ?_
  rintro _ w1 ⟨F0, gg, g, rfl, hG, hFb, hgb, hb⟩
  have hm0 : Below w1.heap.size w1 (w1.alloc (.map #[] 0)) := (Below.refl _ _).alloc (Nat.le_refl _) _
  have HI0 : MadeX P w.heap.size w0 w (w1.alloc (.map #[] 0)) gg g w1.heap.size 0 (mostN n) ds := ⟨F0, [], [], 0, hG.below hm0, MqP.made hP0 w0 w1 F0, fun e => by have := hG.2.2.2 _ e; omega, hFb, hb.thenCall hb.size hm0, rfl, fun j hj h => absurd h (Nat.not_lt_zero _)⟩
  have hmb := hb.size
  obtain ⟨m, hmw⟩ : ∃ m, m = w1.heap.size := ⟨_, rfl⟩
  have HI := Lib.hid HI0
  clear HI0 hG hFb hb hm0 HN
  go_wp2_with fail
  rw [← hmw]
  rw [← hmw] at HI
  have hBm : w.heap.size ≤ m := by omega
  clear hmw
  go_loopw [19] (fun i wr => ∃ k : Nat, i = .int .i64 k ∧ k ≤ ds.length ∧ MadeX P w.heap.size w0 w wr gg g m k (mostN n) ds) (fun i _ => ds.length - (intOf i).toNat)
  case atStart => exact ⟨0, rfl, Nat.zero_le _, HI.out⟩
  case round =>
    obtain ⟨k, rfl, hk, hI⟩ := hrel
    by_cases hlt : k < ds.length
    · obtain ⟨F, xs, us, low, hG, hM, hFm, hBF, hbw, hus, hX⟩ := hI
      have HUS := Lib.hid hus
      have HX := Lib.hid hX
      have hkz := h00 ds[k] (List.getElem_mem hlt)
      clear hus hX
      obtain ⟨b, o, rfl, hbl, c0, c1, c2, c3, c4, hwf, hA⟩ := deed_cells h hlt
      have hbb := h0.trans (hbw.mono h0.size)
      have x0 := (hbb.cell (p := ⟨b, o + k * 5, none⟩) hbl).trans c0
      have x1 := (hbb.cell (p := ⟨b, o + k * 5 + 1, none⟩) hbl).trans c1
      have x2 := (hbb.cell (p := ⟨b, o + k * 5 + 2, none⟩) hbl).trans c2
      have x3 := (hbb.cell (p := ⟨b, o + k * 5 + 3, none⟩) hbl).trans c3
      have x4 := (hbb.cell (p := ⟨b, o + k * 5 + 4, none⟩) hbl).trans c4
      have hA1 : Args wr ds[k].x ds[k].l := ⟨hA.1, hA.2.1.below hbb (Nat.le_refl _), hA.2.2⟩
      have hA0 : Args w0 ds[k].x ds[k].l := hA
      have hPk := hPd ds[k] (List.getElem_mem hlt)
      clear c0 c1 c2 c3 c4 hA h hbb h0 hPd h00
      generalize hdd : ds[k] = dd at *
      have HDk := Lib.hid hdd
      clear hdd
      obtain ⟨dk, di, ⟨xk, xn, xA, xl, xc⟩, l⟩ := dd
      dsimp only at *
      subst hkz
      have hkey := keyOf_int_mk Try.underlying3 hwf
      obtain ⟨D, hown, hhas, hsz, hsaid⟩ := hM
      have hlen := gr_len hG
      have hgg := ggC_ne hG hown
      have hown1 := hown.alloc (.cells #[.int .i64 0, .int .i64 di, .int .i64 xk, .int .i64 xn, .slice xA xl xc] 46)
      have hHas := hhas di hwf
      have hHas := Lib.hid hHas
      have hmlt : m < wr.heap.size := by obtain ⟨es, cl, h1, _⟩ := hown; exact (Array.getElem?_eq_some_iff.1 h1).1
      have hTidy := hown.tidy law3
      go_wp2_with (at_lookup; refine wpList_lookup_own_ok _ rfl _ _ 48 rfl 3 43 law3 Try.underlying48 rC (Try.zeroValue43 _) (codeN nd0) [] rfl m k D rfl hown1 _ _ rfl hkey ?_; intro v ps hv; obtain ⟨⟨yk, yn, yA, yl, yc⟩, rfl, -⟩ := rC_inv hv; rw [hHas.out]; clear hv)
      obtain ⟨V, hV⟩ : ∃ V, V = ((wr.alloc (.cells #[.int .i64 0, .int .i64 di, .int .i64 xk, .int .i64 xn, .slice xA xl xc] 46)).alloc (.cells #[.int .i64 yk, .int .i64 yn, .slice yA yl yc] 43)) := ⟨_, rfl⟩
      have hbV : Below wr.heap.size wr V := by rw [hV]; exact ((Below.refl _ _).alloc (Nat.le_refl _) _).alloc (by simp) _
      have hbx : V.heap[wr.heap.size]? = some (.cells #[.int .i64 0, .int .i64 di, .int .i64 xk, .int .i64 xn, .slice xA xl xc] 46) := by
        rw [hV, Below.heap_alloc _ _ _ (by simp)]
        exact heap_alloc_new wr _
      rw [← hV]
      clear hV
      have hGV := hG.below hbV
      have hownV := own_mapC_keep hown (hbV.block _ hmlt)
      have hbwV := hbw.thenCall hbw.size hbV
      have hBV : w.heap.size ≤ V.heap.size := Nat.le_trans hbw.size hbV.size
      have hmV : m < V.heap.size := Nat.lt_of_lt_of_le hmlt hbV.size
      have hFx : ¬ F wr.heap.size := fun e => by have := hG.2.2.2 _ e; omega
      have hMV : MqP P w0 V F m k xs us := ⟨D, hownV, hhas, hsz, hsaid.turn (Turn.of_below hbV) (Grows.refl _ _ _)⟩
      have hle : us.count true ≤ mostN n := by
        obtain ⟨_, ⟨_, _, _, _, hh⟩, _⟩ := hG
        exact Nat.le_trans List.count_le_length hh.2.2.2.2.2.2.2.1
      have hc : us.count true < mostN n := by have := HUS.out; rw [this, List.count_replicate_self]; omega
      · refine (gput_room ⟨xk, xn, xA, xl, xc⟩ l hGV hc (hA1.below hbV)).mono ?_
        rintro _ w2 ⟨rfl, F', x', hG2, hk2, hn2, ha2, ho2, hgr, hT2⟩
        have hbx2 := (hT2.block _ (Array.getElem?_eq_some_iff.1 hbx).1 hFx).trans hbx
        have hown2 := own_mapC_keep hownV (hT2.block _ hmV hFm)
        have hwf2 : (Lit.int .i64 (firstF us)).wf = true := by
          have h6 := firstF_le us
          obtain ⟨_, ⟨_, _, _, _, hh⟩, _⟩ := hG
          exact WalkArith.wf_i64 (by omega)
        have hkey2 := keyOf_int_mk Try.underlying3 hwf2
        have hp := mp_put hTidy hhas hsz hwf2 (codeN ⟨xk, xn, xA, xl, xc⟩)
        have hsd := saidp_put hTidy (hsaid.turn (Turn.of_below hbV) (Grows.refl _ _ _) |>.turn hT2 hgr) hlen hwf2 (y := ⟨xk, xn, xA, xl, xc⟩) hk2 hn2 hA0 (XV.of ha2 ho2) hPk
        have HI2 : Hid (∀ w3, w3.ownsMap Try.prog 3 rC m (k + 1) (D.put (.int .i64 (firstF us)) (codeN ⟨xk, xn, xA, xl, xc⟩)) → w2.grownBy w3 (some m) → MadeX P w.heap.size w0 w w3 gg g m (k + 1) (mostN n) ds) := Lib.hid (fun w3 hown3 hg3 => closex hBF hbwV hBV hFm hmV hBm hG2 hT2 hgr hgg hown2 hown3 hp.1 hp.2 hsd hg3 HUS.out (fun j hj hjk => ⟨(HX.out j hj hjk).1, (HX.out j hj hjk).2.1, (HX.out j hj hjk).2.2.turn (Turn.of_below hbV) (Grows.refl _ _ _)⟩) hlt hlen ⟨by rw [HDk.out]; exact hk2, by rw [HDk.out]; exact hn2, by rw [HDk.out]; exact XV.of ha2 ho2⟩ rfl)
        have b1 : w2.cell? ⟨wr.heap.size, 1, none⟩ = some (.int .i64 di) := by simp [World.cell?, hbx2]
        have b2 : w2.cell? ⟨wr.heap.size, 2, none⟩ = some (.int .i64 xk) := by simp [World.cell?, hbx2]
        have b3 : w2.cell? ⟨wr.heap.size, 3, none⟩ = some (.int .i64 xn) := by simp [World.cell?, hbx2]
        have b4 : w2.cell? ⟨wr.heap.size, 4, none⟩ = some (.slice xA xl xc) := by simp [World.cell?, hbx2]
        clear hG2 hT2 hbx hbx2 hMV hGV hG hA1 hp hgr hsd hsaid hA0 ha2 ho2 hPk
        go_wp2_with (at_mapUpdate; refine wpList_mapUpdate_own _ rfl _ _ _ 48 rfl 3 43 law3 Try.underlying48 rC m k D rfl hown2 (by unfold maxLen; omega) _ _ _ rfl rfl hkey2 _ [] (rC_enc ⟨xk, xn, xA, xl, xc⟩) ?_; intro w3 hown3 hg3)
        exact ⟨⟨k + 1, by go_num, by omega, HI2.out _ hown3 hg3⟩, by simp [intOf]; omega⟩
    · obtain rfl : k = ds.length := by omega
      have HI2 := Lib.hid hI
      clear hI
      go_wp2_with fail
      go_ret2
      exact ⟨gg, g, m, rfl, HI2.out, hgb, hBm⟩
end Go.Proofs.Ytccknhhjkkbadaa.Gr
namespace Go.Proofs.Ytccknhhjkkbadaa.Wm
open Go.ChangeShapes Go.WideShapes Go.ChangeAt Go.RowKit Go.Proofs.Ytccknhhjkkbadaa.Lift Go.Proofs.Ytccknhhjkkbadaa.Arn Go.Proofs.Ytccknhhjkkbadaa.ArnN Go.Proofs.Ytccknhhjkkbadaa.Gr Go.Maps
/-- the example's graph. -/
def gA : Gph := ⟨fun i => if i = 0 then 7 else if i = 1 then 3 else 0, fun i => if i = 1 then 5 else 0, fun i => if i = 1 then [0] else [], fun i => decide (i = 0) || decide (i = 1)⟩
theorem look_gA : (look gA (Fg.getF []) 2 3 1 (fun _ => false)).1 = (2, 1) := by decide
theorem gA_ok : Gok gA 2 := ⟨by omega, fun i hi => by
  refine ⟨?_, fun a ha => ?_, ?_⟩
  · unfold gA; dsimp only; split <;> exact w64_of (by omega) (by omega)
  · unfold gA at ha; dsimp only at ha; split at ha
    · simp at ha; subst ha; exact w64_of (by omega) (by omega)
    · simp at ha
  · unfold gA; dsimp only; split <;> simp⟩
theorem gA_fin : Fin gA 2 := ⟨[0, 1], by simp, fun i hi => by unfold gA at hi; simp at hi; simpa using hi⟩
def dsA (b : Nat) : List Dd := [⟨0, 0, ⟨7, 0, none, 0, 0⟩, []⟩, ⟨0, 0, ⟨3, 5, some ⟨b, 0, none⟩, 1, 1⟩, [0]⟩]
theorem gr_gA {w : World} {F : Nat → Prop} {gg g low most b : Nat} {xs : List Nd} {us : List Bool} (h : Gr w F gg g xs us low most) (hus : us = List.replicate 2 true)
    (hx : ∀ j (h : j < (dsA b).length), j < 2 → (getX xs us j).k = (dsA b)[j].x.k ∧ (getX xs us j).n = (dsA b)[j].x.n ∧ XV w F (getX xs us j) (dsA b)[j].l) : GrOk w gA 2 gg := by
  refine ⟨F, g, xs, us, low, most, h, by rw [hus]; rfl, fun i hi => ?_⟩
  by_cases h0 : i = 0
  · subst h0
    obtain ⟨a1, a2, a3⟩ := hx 0 (by simp [dsA]) (by omega)
    exact ⟨by rw [hus]; rfl, a1, a2, a3.args⟩
  · by_cases h1 : i = 1
    · subst h1
      obtain ⟨a1, a2, a3⟩ := hx 1 (by simp [dsA]) (by omega)
      exact ⟨by rw [hus]; rfl, a1, a2, a3.args⟩
    · have hb : hasB us i = false := by
        rw [hus]
        by_cases hi : i < 0
        · exact hasB_neg hi
        · obtain ⟨j, rfl⟩ : ∃ j : Nat, i = j := ⟨i.toNat, by omega⟩
          exact hasB_far (by simp; omega)
      have hx : getX xs us i = nd0 := by unfold getX; rw [hb]; rfl
      rw [hb, hx]
      unfold gA
      simp only [h0, h1, if_false]
      exact ⟨by simp, rfl, rfl, Args.nd0 _⟩
set_option maxRecDepth 100000 in
set_option maxHeartbeats 2000000 in
theorem awake_any (w : World) : Calls Try.prog 46 #[] w fun e w' => e = .returned (.bool true) ∧ Below w.heap.size w w' := by
  obtain ⟨V, hV⟩ : ∃ V, V = (w.alloc (.cells #[.int .i64 0] 3)).alloc (.cells #[.int .i64 0, .int .i64 0, .int .i64 7, .int .i64 0, .slice none 0 0, .int .i64 0, .int .i64 0, .int .i64 3, .int .i64 5, .slice (some ⟨w.heap.size, 0, none⟩) 1 1] 46) := ⟨_, rfl⟩
  have hbV : Below w.heap.size w V := by rw [hV]; exact ((Below.refl _ _).alloc (Nat.le_refl _) _).alloc (by simp) _
  have h1 : V.heap[w.heap.size]? = some (.cells #[.int .i64 0] 3 (0, 0)) := by rw [hV, Below.heap_alloc _ _ _ (by simp)]; exact heap_alloc_new w _
  have h2 : V.heap[w.heap.size + 1]? = some (.cells #[.int .i64 0, .int .i64 0, .int .i64 7, .int .i64 0, .slice none 0 0, .int .i64 0, .int .i64 0, .int .i64 3, .int .i64 5, .slice (some ⟨w.heap.size, 0, none⟩) 1 1] 46 (0, 0)) := by
    have := heap_alloc_new (w.alloc (.cells #[.int .i64 0] 3)) (.cells #[.int .i64 0, .int .i64 0, .int .i64 7, .int .i64 0, .slice none 0 0, .int .i64 0, .int .i64 0, .int .i64 3, .int .i64 5, .slice (some ⟨w.heap.size, 0, none⟩) 1 1] 46)
    rw [World.size_alloc, ← hV] at this
    exact this
  have hl1 := (Array.getElem?_eq_some_iff.1 h1).1
  have hl2 := (Array.getElem?_eq_some_iff.1 h2).1
  have hR : Lift.RowsIn (DdR V) V 5 (some ⟨w.heap.size + 1, 0, none⟩) (dsA w.heap.size) := by
    intro i hi
    have hi2 : i = 0 ∨ i = 1 := by simp [dsA] at hi; omega
    rcases hi2 with rfl | rfl
    · refine ⟨_, _, [.int .i64 0, .int .i64 0, .int .i64 7, .int .i64 0, .slice none 0 0], rfl, hl2, ⟨rfl, w64_of (n := 0) (by omega) (by omega), rfl, fun k hk => by simp [dsA] at hk, by simp [dsA], fun _ => rfl⟩, rfl, fun j u hu => ?_⟩
      simp only [World.cell?, h2]
      match j, hu with
      | 0, hu => exact hu
      | 1, hu => exact hu
      | 2, hu => exact hu
      | 3, hu => exact hu
      | 4, hu => exact hu
    · refine ⟨_, _, [.int .i64 0, .int .i64 0, .int .i64 3, .int .i64 5, .slice (some ⟨w.heap.size, 0, none⟩) 1 1], rfl, hl2, ⟨rfl, w64_of (n := 0) (by omega) (by omega), rfl, fun k hk => ?_, by simp [dsA], fun h => by simp [dsA] at h⟩, rfl, fun j u hu => ?_⟩
      · have hk0 : k = 0 := by simp [dsA] at hk; omega
        subst hk0
        exact ⟨_, _, rfl, hl1, by simp only [World.cell?, h1]; rfl⟩
      · simp only [World.cell?, h2]
        match j, hu with
        | 0, hu => exact hu
        | 1, hu => exact hu
        | 2, hu => exact hu
        | 3, hu => exact hu
        | 4, hu => exact hu
  have HMd := Lib.hid (madex_any (P := fun _ _ => True) trivial V 9 (some ⟨w.heap.size + 1, 0, none⟩) 2 (dsA w.heap.size) hR (fun _ _ => trivial) (by simp [dsA]) (fun d hd => by simp [dsA] at hd; rcases hd with rfl | rfl <;> rfl) (by simp [dsA, mostN]) V (Below.refl _ _))
  have HV := Lib.hid hV
  clear hV h1 h2 hR
  go_enter Try.func46, Try.ntmps46
  go_wp2_with fail
  rw [← HV.out]
  clear HV
  refine HMd.out.mono ?_
  rintro _ w1 ⟨gg, g, m, rfl, ⟨F, xs, us, low, hG, hM, hFm, hFb, hb1, hus, hx⟩, hgg, hm⟩
  have hGr := Lib.hid (gr_gA hG hus hx)
  have hb01 := hbV.thenCall hbV.size hb1
  clear hG hM hFm hFb hus hx
  go_wp2_with fail
  refine (Fg.of_any w1 [] w1 _ (Fg.PkSl.nil w1) (Below.refl _ _) (by simp)).mono ?_
  rintro _ w2 ⟨v, rfl, hv, q2⟩
  rw [show Fg.ofF [] = [] from rfl] at hv
  have HL := look_any (hGr.out.below q2) gA_ok gA_fin v [] hv 1 (w64_of (by omega) (by omega)) w2 (Below.refl _ _)
  rw [look_gA] at HL
  go_wp2_with fail
  refine HL.mono ?_
  rintro _ w3 ⟨rfl, q3⟩
  go_wp2_with fail
  go_ret
  exact ⟨rfl, (hb01.thenCall hb01.size q2).thenCall (Nat.le_trans hb01.size q2.size) q3⟩
end Go.Proofs.Ytccknhhjkkbadaa.Wm
