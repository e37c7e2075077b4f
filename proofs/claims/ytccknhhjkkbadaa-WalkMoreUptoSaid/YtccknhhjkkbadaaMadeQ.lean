/- Contract: whimbrellaw20.Made, with what the map and the graph have. -/
import Derived.Test.YtccknhhjkkbadaaMq
namespace Go.Proofs.Ytccknhhjkkbadaa.Gr
open Go.ChangeShapes Go.WideShapes Go.ChangeAt Go.RowKit Go.Proofs.Ytccknhhjkkbadaa.Lift Go.Proofs.Ytccknhhjkkbadaa.Arn Go.Proofs.Ytccknhhjkkbadaa.ArnN Go.Maps
set_option linter.unusedVariables false
set_option linter.unusedSimpArgs false
theorem ggC_ne {w : World} {F : Nat → Prop} {gg g m n : Nat} {xs : List Nd} {us : List Bool} {low most : Nat} {D : DataW Unit} (h : Gr w F gg g xs us low most) (hm : w.ownsMap Try.prog 3 rC m n D) : ¬ gg = m := by
  obtain ⟨es, cl, h1, _⟩ := hm
  rintro rfl
  rw [h.1] at h1
  injection h1 with h1
  cases h1
theorem gr_len {w : World} {F : Nat → Prop} {gg g : Nat} {xs : List Nd} {us : List Bool} {low most : Nat} (h : Gr w F gg g xs us low most) : xs.length = us.length := by
  obtain ⟨_, ⟨_, _, _, _, hh⟩, _⟩ := h
  exact hh.2.2.2.2.1
/-- what a graph and its map are between two deeds. -/
def MadeJ (B : Nat) (w0 w wr : World) (gg g m k most : Nat) : Prop :=
  ∃ (F : Nat → Prop) (xs : List Nd) (us : List Bool) (low : Nat), Gr wr F gg g xs us low most ∧ Mq w0 wr F m k xs us ∧ ¬ F m ∧ (∀ b, F b → B ≤ b) ∧ Below B w wr
theorem closeq2 {B n most gg g m low' : Nat} {w0 w V w2 w3 : World} {F F' : Nat → Prop} {xs' : List Nd} {us' : List Bool} {D' : DataW Unit} (hBF : ∀ b, F b → B ≤ b) (hbV : Below B w V) (hBV : B ≤ V.heap.size) (hFm : ¬ F m) (hmV : m < V.heap.size) (hBm : B ≤ m)
    (hG : Gr w2 F' gg g xs' us' low' most) (hT : Turn F V w2) (hgr : Grows F F' V w2) (hgg : ¬ gg = m) {D2 : DataW Unit} {n2 : Nat} (hD2 : w2.ownsMap Try.prog 3 rC m n2 D2) (hD : w3.ownsMap Try.prog 3 rC m n D') (hh : ∀ i : Int, (Lit.int .i64 i).wf = true → Maps.has D' (.int .i64 i) = hasB us' i) (hs : Maps.size D' = us'.count true)
    (hS : Said w0 w2 F' D' xs' us') (hg3 : w2.grownBy w3 (some m)) : MadeJ B w0 w w3 gg g m n most := by
  have hF'm : ¬ F' m := fun e => (hgr m e).elim hFm (fun e => by omega)
  have hB' : ∀ b, F' b → B ≤ b := fun b e => (hgr b e).elim (hBF b) (fun e => by omega)
  have hz2 : B ≤ w2.heap.size := Nat.le_trans hBV hT.size
  refine ⟨F', xs', us', low', hG.keepT (turn_grown hg3) (fun b hb e => hF'm (e ▸ hb)) hgg, ⟨D', hD, hh, hs, hS.map hD2 hg3⟩, hF'm, hB', ?_⟩
  exact (hbV.trans (hT.below hBF hBV)).trans ((turn_grown hg3).below (fun b e => by rw [e]; exact hBm) hz2)
theorem closeq1 {B k n most gg g m low' : Nat} {w0 w V w2 : World} {F F' : Nat → Prop} {xs xs' : List Nd} {us' : List Bool} (hBF : ∀ b, F b → B ≤ b) (hbV : Below B w V) (hBV : B ≤ V.heap.size) (hFm : ¬ F m) (hM : Mq w0 V F m k xs' us') (hkn : k ≤ n)
    (hG : Gr w2 F' gg g xs' us' low' most) (hT : Turn F V w2) (hgr : Grows F F' V w2) : MadeJ B w0 w w2 gg g m n most := by
  have hlt := hM.lt
  obtain ⟨D, hD, h1, h2, h3⟩ := hM.turn hT hgr hFm
  exact ⟨F', xs', us', low', hG, ⟨D, hD.mono hkn, h1, h2, h3⟩, fun e => (hgr m e).elim hFm (fun e => by omega), fun b e => (hgr b e).elim (hBF b) (fun e => by omega), hbV.trans (hT.below hBF hBV)⟩
set_option maxRecDepth 100000 in
set_option maxHeartbeats 4000000 in
theorem madeq_any (w0 : World) (n : Int) (A : Option Addr) (cap : Nat) (ds : List Dd) (h : Lift.RowsIn (DdR w0) w0 5 A ds) (hm : ds.length ≤ 1000) (w : World) (h0 : Below w0.heap.size w0 w) :
    Calls Try.prog 26 #[.int .i64 n, .slice A ds.length cap] w fun e w' => ∃ gg g m, e = .returned (.tuple #[.pointer (some ⟨gg, 0, none⟩), .map (some m)]) ∧ MadeJ w.heap.size w0 w w' gg g m ds.length (mostN n) ∧ w.heap.size ≤ gg ∧ w.heap.size ≤ m := by
  have hmm := @run_makeMap Try.prog
  have HN := Lib.hid (gnew_any n w)
  go_enter Try.func26, Try.ntmps26
  go_wp2_with fail
  refine HN.out.mono ?_
  rintro _ w1 ⟨F0, gg, g, rfl, hG, hFb, hgb, hb⟩
  have hm0 : Below w1.heap.size w1 (w1.alloc (.map #[] 0)) := (Below.refl _ _).alloc (Nat.le_refl _) _
  have HI0 : MadeJ w.heap.size w0 w (w1.alloc (.map #[] 0)) gg g w1.heap.size 0 (mostN n) := ⟨F0, [], [], 0, hG.below hm0, Mq.made w0 w1 F0, fun e => by have := hG.2.2.2 _ e; omega, hFb, hb.thenCall hb.size hm0⟩
  have hmb := hb.size
  obtain ⟨m, hmw⟩ : ∃ m, m = w1.heap.size := ⟨_, rfl⟩
  have HI := Lib.hid HI0
  clear HI0 hG hFb hb hm0 HN
  go_wp2_with fail
  rw [← hmw]
  rw [← hmw] at HI
  have hBm : w.heap.size ≤ m := by omega
  clear hmw
  go_loopw [19] (fun i wr => ∃ k : Nat, i = .int .i64 k ∧ k ≤ ds.length ∧ MadeJ w.heap.size w0 w wr gg g m k (mostN n)) (fun i _ => ds.length - (intOf i).toNat)
  case atStart => exact ⟨0, rfl, Nat.zero_le _, HI.out⟩
  case round =>
    obtain ⟨k, rfl, hk, hI⟩ := hrel
    by_cases hlt : k < ds.length
    · obtain ⟨F, xs, us, low, hG, hM, hFm, hBF, hbw⟩ := hI
      obtain ⟨b, o, rfl, hbl, c0, c1, c2, c3, c4, hwf, hA⟩ := deed_cells h hlt
      have hbb := h0.trans (hbw.mono h0.size)
      have x0 := (hbb.cell (p := ⟨b, o + k * 5, none⟩) hbl).trans c0
      have x1 := (hbb.cell (p := ⟨b, o + k * 5 + 1, none⟩) hbl).trans c1
      have x2 := (hbb.cell (p := ⟨b, o + k * 5 + 2, none⟩) hbl).trans c2
      have x3 := (hbb.cell (p := ⟨b, o + k * 5 + 3, none⟩) hbl).trans c3
      have x4 := (hbb.cell (p := ⟨b, o + k * 5 + 4, none⟩) hbl).trans c4
      have hA1 : Args wr ds[k].x ds[k].l := ⟨hA.1, hA.2.1.below hbb (Nat.le_refl _), hA.2.2⟩
      have hA0 : Args w0 ds[k].x ds[k].l := hA
      clear c0 c1 c2 c3 c4 hA h hbb h0
      generalize ds[k] = d at *
      obtain ⟨dk, di, ⟨xk, xn, xA, xl, xc⟩, l⟩ := d
      dsimp only at *
      have hkey := keyOf_int_mk Try.underlying3 hwf
      obtain ⟨D, hown, hhas, hsz, hsaid⟩ := hM
      have hlen := gr_len hG
      have hgg := ggC_ne hG hown
      have hown1 := hown.alloc (.cells #[.int .i64 dk, .int .i64 di, .int .i64 xk, .int .i64 xn, .slice xA xl xc] 46)
      have hHas := hhas di hwf
      have hHas := Lib.hid hHas
      have hmlt : m < wr.heap.size := by obtain ⟨es, cl, h1, _⟩ := hown; exact (Array.getElem?_eq_some_iff.1 h1).1
      have hTidy := hown.tidy law3
      by_cases h1 : dk = 1
      · have q1 : (dk == 1) = true := by simp [h1]
        clear h1
        go_wp2_with (at_lookup; refine wpList_lookup_own_ok _ rfl _ _ 48 rfl 3 43 law3 Try.underlying48 rC (Try.zeroValue43 _) (codeN nd0) [] rfl m k D rfl hown1 _ _ rfl hkey ?_; intro v ps hv; obtain ⟨⟨yk, yn, yA, yl, yc⟩, rfl, -⟩ := rC_inv hv; rw [hHas.out]; clear hv)
        obtain ⟨V, hV⟩ : ∃ V, V = ((wr.alloc (.cells #[.int .i64 dk, .int .i64 di, .int .i64 xk, .int .i64 xn, .slice xA xl xc] 46)).alloc (.cells #[.int .i64 yk, .int .i64 yn, .slice yA yl yc] 43)) := ⟨_, rfl⟩
        have hbV : Below wr.heap.size wr V := by rw [hV]; exact ((Below.refl _ _).alloc (Nat.le_refl _) _).alloc (by simp) _
        have hbx : V.heap[wr.heap.size]? = some (.cells #[.int .i64 dk, .int .i64 di, .int .i64 xk, .int .i64 xn, .slice xA xl xc] 46) := by
          rw [hV, Below.heap_alloc _ _ _ (by simp)]
          exact heap_alloc_new wr _
        rw [← hV]
        clear hV
        have hGV := hG.below hbV
        have hownV := own_mapC_keep hown (hbV.block _ hmlt)
        have hbwV := hbw.thenCall hbw.size hbV
        have hBV : w.heap.size ≤ V.heap.size := Nat.le_trans hbw.size hbV.size
        have hmV : m < V.heap.size := Nat.lt_of_lt_of_le hmlt hbV.size
        have hFx : ¬ F wr.heap.size := fun e => by have := hG.2.2.2 _ e; omega
        have hMV : Mq w0 V F m k xs us := ⟨D, hownV, hhas, hsz, hsaid.turn (Turn.of_below hbV) (Grows.refl _ _ _)⟩
        refine (gset_any di ⟨xk, xn, xA, xl, xc⟩ l hGV (hA1.below hbV)).mono ?_
        rintro _ w2 ⟨rfl, x', hG2, hk2, hn2, ha2, ho2, hT2⟩
        have hS2 := hMV.turn hT2 (Grows.refl _ _ _) hFm
        have hbx2 := (hT2.block _ (Array.getElem?_eq_some_iff.1 hbx).1 hFx).trans hbx
        have hown2 := own_mapC_keep hownV (hT2.block _ hmV hFm)
        cases hu : hasB us di with
        | false =>
          rw [hu] at hG2
          have HI2 := Lib.hid (closeq1 (xs := xs) (n := k + 1) hBF hbwV hBV hFm hMV (Nat.le_succ _) hG2 hT2 (Grows.refl _ _ _))
          clear hG2 hT2 hbx hbx2 hMV hGV hG hA1 hsaid hA0
          go_wp2_with fail
          exact ⟨⟨k + 1, by go_num, by omega, HI2.out⟩, by simp [intOf]; omega⟩
        | true =>
          rw [hu] at hG2
          have hp := mp_set hTidy hhas hsz hwf hu (codeN ⟨xk, xn, xA, xl, xc⟩)
          have hsd := said_set hTidy (hsaid.turn (Turn.of_below hbV) (Grows.refl _ _ _) |>.turn hT2 (Grows.refl _ _ _)) hlen hwf hu (y := ⟨xk, xn, xA, xl, xc⟩) hk2 hn2 hA0 (XV.of ha2 ho2)
          have HI2 : Hid (∀ w3, w3.ownsMap Try.prog 3 rC m (k + 1) (D.put (.int .i64 di) (codeN ⟨xk, xn, xA, xl, xc⟩)) → w2.grownBy w3 (some m) → MadeJ w.heap.size w0 w w3 gg g m (k + 1) (mostN n)) := Lib.hid (fun w3 hown3 hg3 => closeq2 hBF hbwV hBV hFm hmV hBm hG2 hT2 (Grows.refl _ _ _) hgg hown2 hown3 hp.1 hp.2 hsd hg3)
          have b1 : w2.cell? ⟨wr.heap.size, 1, none⟩ = some (.int .i64 di) := by simp [World.cell?, hbx2]
          have b2 : w2.cell? ⟨wr.heap.size, 2, none⟩ = some (.int .i64 xk) := by simp [World.cell?, hbx2]
          have b3 : w2.cell? ⟨wr.heap.size, 3, none⟩ = some (.int .i64 xn) := by simp [World.cell?, hbx2]
          have b4 : w2.cell? ⟨wr.heap.size, 4, none⟩ = some (.slice xA xl xc) := by simp [World.cell?, hbx2]
          clear hG2 hT2 hbx hbx2 hMV hGV hG hA1 hp hsd hsaid hA0
          go_wp2_with (at_mapUpdate; refine wpList_mapUpdate_own _ rfl _ _ _ 48 rfl 3 43 law3 Try.underlying48 rC m k D rfl hown2 (by unfold maxLen; omega) _ _ _ rfl rfl hkey _ [] (rC_enc ⟨xk, xn, xA, xl, xc⟩) ?_; intro w3 hown3 hg3)
          exact ⟨⟨k + 1, by go_num, by omega, HI2.out _ hown3 hg3⟩, by simp [intOf]; omega⟩
      · have q1 : (dk == 1) = false := by simp [h1]
        by_cases h2 : dk = 2
        · have q2 : (dk == 2) = true := by simp [h2]
          clear h1 h2
          go_wp2_with (at_lookup; refine wpList_lookup_own_ok _ rfl _ _ 48 rfl 3 43 law3 Try.underlying48 rC (Try.zeroValue43 _) (codeN nd0) [] rfl m k D rfl hown1 _ _ rfl hkey ?_; intro v ps hv; obtain ⟨⟨yk, yn, yA, yl, yc⟩, rfl, -⟩ := rC_inv hv; rw [hHas.out]; clear hv)
          obtain ⟨V, hV⟩ : ∃ V, V = ((wr.alloc (.cells #[.int .i64 dk, .int .i64 di, .int .i64 xk, .int .i64 xn, .slice xA xl xc] 46)).alloc (.cells #[.int .i64 yk, .int .i64 yn, .slice yA yl yc] 43)) := ⟨_, rfl⟩
          have hbV : Below wr.heap.size wr V := by rw [hV]; exact ((Below.refl _ _).alloc (Nat.le_refl _) _).alloc (by simp) _
          have hbx : V.heap[wr.heap.size]? = some (.cells #[.int .i64 dk, .int .i64 di, .int .i64 xk, .int .i64 xn, .slice xA xl xc] 46) := by
            rw [hV, Below.heap_alloc _ _ _ (by simp)]
            exact heap_alloc_new wr _
          rw [← hV]
          clear hV
          have hGV := hG.below hbV
          have hownV := own_mapC_keep hown (hbV.block _ hmlt)
          have hbwV := hbw.thenCall hbw.size hbV
          have hBV : w.heap.size ≤ V.heap.size := Nat.le_trans hbw.size hbV.size
          have hmV : m < V.heap.size := Nat.lt_of_lt_of_le hmlt hbV.size
          have hFx : ¬ F wr.heap.size := fun e => by have := hG.2.2.2 _ e; omega
          have hMV : Mq w0 V F m k xs us := ⟨D, hownV, hhas, hsz, hsaid.turn (Turn.of_below hbV) (Grows.refl _ _ _)⟩
          refine (gfree_any di hGV).mono ?_
          rintro _ w2 ⟨rfl, hG2, hT2⟩
          have hbx2 := (hT2.block _ (Array.getElem?_eq_some_iff.1 hbx).1 hFx).trans hbx
          have hown2 := own_mapC_keep hownV (hT2.block _ hmV hFm)
          have hp := mp_del hTidy hhas hsz hwf
          have hsd := said_del hhas (hsaid.turn (Turn.of_below hbV) (Grows.refl _ _ _) |>.turn hT2 (Grows.refl _ _ _)) hwf
          have HI2 : Hid (∀ w3, w3.ownsMap Try.prog 3 rC m k (D.del (.int .i64 di)) → w2.grownBy w3 (some m) → MadeJ w.heap.size w0 w w3 gg g m (k + 1) (mostN n)) := Lib.hid (fun w3 hown3 hg3 => closeq2 hBF hbwV hBV hFm hmV hBm hG2 hT2 (Grows.refl _ _ _) hgg hown2 (hown3.mono (Nat.le_succ _)) hp.1 hp.2 hsd hg3)
          have b1 : w2.cell? ⟨wr.heap.size, 1, none⟩ = some (.int .i64 di) := by simp [World.cell?, hbx2]
          have b2 : w2.cell? ⟨wr.heap.size, 2, none⟩ = some (.int .i64 xk) := by simp [World.cell?, hbx2]
          have b3 : w2.cell? ⟨wr.heap.size, 3, none⟩ = some (.int .i64 xn) := by simp [World.cell?, hbx2]
          have b4 : w2.cell? ⟨wr.heap.size, 4, none⟩ = some (.slice xA xl xc) := by simp [World.cell?, hbx2]
          clear hG2 hT2 hbx hbx2 hMV hGV hG hA1 hp hsd hsaid hA0
          go_wp2_with (at_delete; refine wpList_delete_own _ rfl _ _ 48 3 rfl 43 law3 Try.underlying48 rC m k D rfl hown2 _ _ rfl hkey ?_; intro w3 hown3 hg3)
          exact ⟨⟨k + 1, by go_num, by omega, HI2.out _ hown3 hg3.grown⟩, by simp [intOf]; omega⟩
        · have q2 : (dk == 2) = false := by simp [h2]
          clear h1 h2
          go_wp2_with (at_lookup; refine wpList_lookup_own_ok _ rfl _ _ 48 rfl 3 43 law3 Try.underlying48 rC (Try.zeroValue43 _) (codeN nd0) [] rfl m k D rfl hown1 _ _ rfl hkey ?_; intro v ps hv; obtain ⟨⟨yk, yn, yA, yl, yc⟩, rfl, -⟩ := rC_inv hv; rw [hHas.out]; clear hv)
          obtain ⟨V, hV⟩ : ∃ V, V = ((wr.alloc (.cells #[.int .i64 dk, .int .i64 di, .int .i64 xk, .int .i64 xn, .slice xA xl xc] 46)).alloc (.cells #[.int .i64 yk, .int .i64 yn, .slice yA yl yc] 43)) := ⟨_, rfl⟩
          have hbV : Below wr.heap.size wr V := by rw [hV]; exact ((Below.refl _ _).alloc (Nat.le_refl _) _).alloc (by simp) _
          have hbx : V.heap[wr.heap.size]? = some (.cells #[.int .i64 dk, .int .i64 di, .int .i64 xk, .int .i64 xn, .slice xA xl xc] 46) := by
            rw [hV, Below.heap_alloc _ _ _ (by simp)]
            exact heap_alloc_new wr _
          rw [← hV]
          clear hV
          have hGV := hG.below hbV
          have hownV := own_mapC_keep hown (hbV.block _ hmlt)
          have hbwV := hbw.thenCall hbw.size hbV
          have hBV : w.heap.size ≤ V.heap.size := Nat.le_trans hbw.size hbV.size
          have hmV : m < V.heap.size := Nat.lt_of_lt_of_le hmlt hbV.size
          have hFx : ¬ F wr.heap.size := fun e => by have := hG.2.2.2 _ e; omega
          have hMV : Mq w0 V F m k xs us := ⟨D, hownV, hhas, hsz, hsaid.turn (Turn.of_below hbV) (Grows.refl _ _ _)⟩
          have hle : us.count true ≤ mostN n := by
            obtain ⟨_, ⟨_, _, _, _, hh⟩, _⟩ := hG
            exact Nat.le_trans List.count_le_length hh.2.2.2.2.2.2.2.1
          rcases Nat.lt_or_eq_of_le hle with hc | hc
          · refine (gput_room ⟨xk, xn, xA, xl, xc⟩ l hGV hc (hA1.below hbV)).mono ?_
            rintro _ w2 ⟨rfl, F', x', hG2, hk2, hn2, ha2, ho2, hgr, hT2⟩
            have hbx2 := (hT2.block _ (Array.getElem?_eq_some_iff.1 hbx).1 hFx).trans hbx
            have hown2 := own_mapC_keep hownV (hT2.block _ hmV hFm)
            have hwf2 : (Lit.int .i64 (firstF us)).wf = true := by
              have h6 := firstF_le us
              obtain ⟨_, ⟨_, _, _, _, hh⟩, _⟩ := hG
              exact WalkArith.wf_i64 (by omega)
            have hkey2 := keyOf_int_mk Try.underlying3 hwf2
            have hp := mp_put hTidy hhas hsz hwf2 (codeN ⟨xk, xn, xA, xl, xc⟩)
            have hsd := said_put hTidy (hsaid.turn (Turn.of_below hbV) (Grows.refl _ _ _) |>.turn hT2 hgr) hlen hwf2 (y := ⟨xk, xn, xA, xl, xc⟩) hk2 hn2 hA0 (XV.of ha2 ho2)
            have HI2 : Hid (∀ w3, w3.ownsMap Try.prog 3 rC m (k + 1) (D.put (.int .i64 (firstF us)) (codeN ⟨xk, xn, xA, xl, xc⟩)) → w2.grownBy w3 (some m) → MadeJ w.heap.size w0 w w3 gg g m (k + 1) (mostN n)) := Lib.hid (fun w3 hown3 hg3 => closeq2 hBF hbwV hBV hFm hmV hBm hG2 hT2 hgr hgg hown2 hown3 hp.1 hp.2 hsd hg3)
            have b1 : w2.cell? ⟨wr.heap.size, 1, none⟩ = some (.int .i64 di) := by simp [World.cell?, hbx2]
            have b2 : w2.cell? ⟨wr.heap.size, 2, none⟩ = some (.int .i64 xk) := by simp [World.cell?, hbx2]
            have b3 : w2.cell? ⟨wr.heap.size, 3, none⟩ = some (.int .i64 xn) := by simp [World.cell?, hbx2]
            have b4 : w2.cell? ⟨wr.heap.size, 4, none⟩ = some (.slice xA xl xc) := by simp [World.cell?, hbx2]
            clear hG2 hT2 hbx hbx2 hMV hGV hG hA1 hp hgr hsd hsaid hA0 ha2 ho2
            go_wp2_with (at_mapUpdate; refine wpList_mapUpdate_own _ rfl _ _ _ 48 rfl 3 43 law3 Try.underlying48 rC m k D rfl hown2 (by unfold maxLen; omega) _ _ _ rfl rfl hkey2 _ [] (rC_enc ⟨xk, xn, xA, xl, xc⟩) ?_; intro w3 hown3 hg3)
            exact ⟨⟨k + 1, by go_num, by omega, HI2.out _ hown3 hg3⟩, by simp [intOf]; omega⟩
          · refine (gput_full ⟨xk, xn, xA, xl, xc⟩ l hGV hc (hA1.below hbV)).mono ?_
            rintro _ w2 ⟨rfl, hb2⟩
            have HI2 := Lib.hid (closeq1 (xs := xs) (n := k + 1) hBF hbwV hBV hFm hMV (Nat.le_succ _) (hGV.below hb2) (Turn.of_below hb2) (Grows.refl _ _ _))
            clear hb2 hbx hMV hGV hG hA1 hsaid hA0
            go_wp2_with fail
            exact ⟨⟨k + 1, by go_num, by omega, HI2.out⟩, by simp [intOf]; omega⟩
    · obtain rfl : k = ds.length := by omega
      have HI2 := Lib.hid hI
      clear hI
      go_wp2_with fail
      go_ret2
      exact ⟨gg, g, m, rfl, HI2.out, hgb, hBm⟩
end Go.Proofs.Ytccknhhjkkbadaa.Gr
