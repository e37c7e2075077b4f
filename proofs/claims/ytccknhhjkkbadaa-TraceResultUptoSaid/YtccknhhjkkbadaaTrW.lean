/- The walk of TraceResult. -/
import Derived.Test.YtccknhhjkkbadaaRsT
import Derived.Deep.QuietTactic
import Derived.BigQuiet
namespace Go.Proofs.Ytccknhhjkkbadaa.Shw
open Go.ChangeShapes Go.WideShapes Go.ChangeAt Go.RowKit Go.Proofs.Ytccknhhjkkbadaa.Lift Go.Proofs.Ytccknhhjkkbadaa.Data Go.Proofs.Ytccknhhjkkbadaa.Dig Go.Proofs.Ytccknhhjkkbadaa.Tmr
set_option linter.unusedVariables false
set_option linter.unusedSimpArgs false
theorem bindsB_L (ns : List ByteArray) : ∀ (bs : List Tm) (s : ByteArray) (i : Nat), (bindsB ns s i bs).data.toList = s.data.toList ++ (bindsB ns ⟨#[]⟩ i bs).data.toList
  | [], s, i => by simp [bindsB]
  | t :: r, s, i => by
    rw [bindsB, bindsB, bindsB_L ns r (s ++ piece ns i t), bindsB_L ns r (⟨#[]⟩ ++ piece ns i t)]
    simp
theorem ba_ext {a b : ByteArray} (h : a.data.toList = b.data.toList) : a = b := by
  cases a; cases b
  simp only [ByteArray.mk.injEq]
  exact Array.toList_inj.1 h
theorem status6_any (w : World) : Calls Try.prog 42 #[.int .i64 6] w fun e w' => e = .returned (.string ⟨#[102, 117, 101, 108]⟩) ∧ Below w.heap.size w w' := by
  have hal := fun o => (Below.refl w.heap.size w).alloc (Nat.le_refl _) o
  go_enter Try.func42, Try.ntmps42
  go_wp2_with fail
  go_ret
  exact ⟨rfl, hal _⟩
theorem event0_any (w : World) : Calls Try.prog 84 #[.int .i64 0] w fun e w' => e = .returned (.string ⟨#[105, 100, 108, 101]⟩) ∧ Below w.heap.size w w' := by
  have hal := fun o => (Below.refl w.heap.size w).alloc (Nat.le_refl _) o
  go_enter Try.func84, Try.ntmps84
  go_wp2_with fail
  go_ret
  exact ⟨rfl, hal _⟩
theorem awake_any (w : World) : Calls Try.prog 39 #[] w fun e w' => e = .returned (.bool true) ∧ Below w.heap.size w w' := by
  have H1 := Lib.hid (status6_any w)
  have H2 := fun y => Lib.hid (event0_any y)
  go_enter Try.func39, Try.ntmps39
  go_wp2_with fail
  refine H1.out.mono ?_
  rintro _ w1 ⟨rfl, q1⟩
  go_wp2_with fail
  refine (H2 _).out.mono ?_
  rintro _ w2 ⟨rfl, q2⟩
  go_wp2_with fail
  go_ret
  exact ⟨rfl, q1.thenCall q1.size q2⟩
set_option maxRecDepth 100000 in
set_option maxHeartbeats 8000000 in
theorem walk (w0 : World) (A AA : Option Addr) (cap ca M : Nat) (ns : List ByteArray) (l : List An) (err line col stuck steps : Int) (hN : Names w0 A cap M ns) (hL : Anss w0 AA ca M l)
    (hw1 : W64 line) (hw2 : W64 col) (hw3 : W64 stuck) :
    Calls Try.prog 7 #[.slice A ns.length cap, .agg #[.int .i64 err, .int .i64 line, .int .i64 col, .slice AA l.length ca, .int .i64 stuck, .int .i64 steps]] w0 fun r w' => r = .returned (.bool true) ∧ Below w0.heap.size w0 w' := by
  obtain ⟨w, hw⟩ : ∃ w, w = w0 := ⟨_, rfl⟩
  have h0 : Below w0.heap.size w0 w := by rw [hw]; exact Below.refl _ _
  have HRes0 := fun (z : World) (hz : Below w0.heap.size w0 z) => result_any w0 A AA cap ca M ns l err line col stuck steps z hN hL hw1 hw2 hw3 hz
  obtain ⟨RR, hRR0⟩ : ∃ RR : ByteArray, RR = ⟨(resultL ns l err line col stuck).toArray⟩ := ⟨_, rfl⟩
  rw [← hRR0] at HRes0
  have HRes := fun z hz => Lib.hid (HRes0 z hz)
  have hRR : RR.data.toList = resultL ns l err line col stuck := by rw [hRR0]
  clear HRes0 hRR0
  obtain ⟨hR, hc1, hc2, hlm, hgood, hsz, hW⟩ := hL
  have hM := hN.2.2.2.2.1
  have hMl := hN.2.2.2.2.2
  have hcn := hN.2.1
  have hcm := hN.2.2.1
  have hw4 : W64 (l.length : Int) := by unfold W64; omega
  have HF := fun (z : World) (hz : Below w0.heap.size w0 z) => Lib.hid (few30_any w0 AA ca l z hR (fun a ha => (hsz a ha).1) hlm hz)
  rw [← hw]
  clear hw
  go_enter Try.func7, Try.ntmps7
  go_wp2_with fail
  have hbx := heap_alloc_new w (.cells #[.int .i64 err, .int .i64 line, .int .i64 col, .slice AA l.length ca, .int .i64 stuck, .int .i64 steps] 67)
  have hbW := below1T w (.cells #[.int .i64 err, .int .i64 line, .int .i64 col, .slice AA l.length ca, .int .i64 stuck, .int .i64 steps] 67)
  have hsW : w.heap.size + 1 ≤ (w.alloc (.cells #[.int .i64 err, .int .i64 line, .int .i64 col, .slice AA l.length ca, .int .i64 stuck, .int .i64 steps] 67)).heap.size := by simp
  generalize w.alloc (.cells #[.int .i64 err, .int .i64 line, .int .i64 col, .slice AA l.length ca, .int .i64 stuck, .int .i64 steps] 67) = W at *
  have hwW := hbW.size
  refine (awake_any W).mono ?_
  rintro e W1 ⟨rfl, q1⟩
  have HX := fun (y : World) (hy : Below (w.heap.size + 1) W y) => Lib.hid (cells6R ((hy.block w.heap.size (Nat.lt_succ_self _)).trans hbx))
  have hB1 := (Below.refl (w.heap.size + 1) W).trans (q1.mono hsW)
  have HB0 := fun (y : World) (hy : Below (w.heap.size + 1) W y) => h0.trans ((hbW.trans (hy.mono (Nat.le_succ _))).mono h0.size)
  obtain ⟨x0, x1, x2, x3, x4, x5⟩ := (HX _ hB1).out
  have HF1 := HF _ (HB0 _ hB1)
  clear hbx q1 HF
  go_wp2_with fail
  refine HF1.out.mono ?_
  rintro e W2 ⟨fb, rfl, q2⟩
  have hB2 := hB1.trans (q2.mono (Nat.le_trans hsW hB1.size))
  obtain ⟨y0, y1, y2, y3, y4, y5⟩ := (HX _ hB2).out
  have hfin := fun (y : World) (hy : Below (w.heap.size + 1) W y) => Lib.hid (hbW.trans (hy.mono (Nat.le_succ _)))
  have hF2 := (hfin _ hB2)
  clear q2 x0 x1 x2 x3 x4 x5
  cases fb
  · go_wp2_with fail
    go_ret
    exact ⟨rfl, hF2.out⟩
  by_cases g1 : (10 : Int) < ns.length
  · go_wp2_with fail
    go_ret
    exact ⟨rfl, hF2.out⟩
  by_cases g2 : stuck < 0
  · go_wp2_with fail
    go_ret
    exact ⟨rfl, hF2.out⟩
  by_cases g3 : line < 0
  · go_wp2_with fail
    go_ret
    exact ⟨rfl, hF2.out⟩
  by_cases g4 : col < 0
  · go_wp2_with fail
    go_ret
    exact ⟨rfl, hF2.out⟩
  go_wp2_with fail
  have HB2 := Lib.hid hB2
  clear g1 g2 g3 g4 y0 y1 y2 y3 y4 y5 hB1 hB2 hF2 HF1
  go_loopw [5, 42] (fun t i wr => ∃ (j : Nat) (s : ByteArray), i = .int .i64 j ∧ j ≤ l.length ∧ t = .string s ∧ Hid (s.data.toList = resL ns (l.take j)) ∧ Hid (Below (w.heap.size + 1) W wr)) (fun _ i _ => l.length - (intOf i).toNat)
  case atStart => exact ⟨0, _, rfl, Nat.zero_le _, rfl, Lib.hid (by rw [List.take_zero]; rfl), HB2⟩
  case round =>
    obtain ⟨j, s, rfl, hj, rfl, hS, hbb⟩ := hrel
    have hbr : w.heap.size + 1 ≤ wr.heap.size := Nat.le_trans hsW hbb.out.size
    have hb0 := HB0 _ hbb.out
    have hPl := resL_lenT hM l j hgood
    have hsl : s.size = (resL ns (l.take j)).length := by rw [← hS.out, lenL]
    by_cases hlt : j < l.length
    · obtain ⟨bo, o, A1, c1, A2, c2, rfl, hbl, x0, x1, x2, x3, x4, h1, h2, h3, h4⟩ := an_cells hR hb0 hlt
      have hT := resL_take ns hlt
      have hAB : ansB ns l[j] = bindsB ns ⟨#[]⟩ 0 l[j].binds ++ showB l[j].v := rfl
      rw [hAB] at hT
      have hgA := hgood _ (List.getElem_mem hlt)
      have hsA := hsz _ (List.getElem_mem hlt)
      unfold anGood at hgA
      unfold An.size at hsA
      unfold An.v at hT hgA hsA
      clear hAB
      generalize l[j] = a at *
      obtain ⟨bs, k, sx, n, ys⟩ := a
      dsimp only at *
      have hlast := ref_any (Tm.size (.mk k sx n ys)) w0 (.mk k sx n ys) (Nat.le_refl _) hgA.2 (by omega)
      have hlv := showB_len _ hgA.2
      have hg1 := hgA.1
      have hbl2 := TmSize_len bs
      have hb3 : bs.length * (M + 6) ≤ 1048576 * 1048582 := Nat.mul_le_mul (by omega) (by omega)
      have hTs := fun i => bindsB_sizeT hM bs i s hg1
      have hTB := bindsB_L ns bs s 0
      have hdc := h1.1
      have hdc2 := h1.2.1
      generalize resL ns (l.take j) = P at *
      have hsl2 : s.size ≤ 35184372088832 := by omega
      have hc3 := h3
      have HlastV := fun (y : World) (hy : Below w0.heap.size w0 y) => Lib.hid (hlast y (.agg #[.int .i64 k, .string sx, .int .i64 n, .slice A2 ys.length c2]) ⟨A2, c2, rfl, h3, h4⟩ hy)
      generalize showB (.mk k sx n ys) = SV at *
      have HT : Hid (resL ns (l.take (j + 1)) = P ++ (bindsB ns ⟨#[]⟩ 0 bs ++ SV ++ ⟨#[10]⟩ : ByteArray).data.toList) := Lib.hid hT
      have HTB := Lib.hid hTB
      clear hT hTB hlast hR hgood hsz h4 h3 hc3
      go_wp2_with fail
      have hnV := heap_alloc_new wr (.cells #[.slice A1 bs.length c1, .int .i64 k, .string sx, .int .i64 n, .slice A2 ys.length c2] 73)
      have hbV := below1T wr (.cells #[.slice A1 bs.length c1, .int .i64 k, .string sx, .int .i64 n, .slice A2 ys.length c2] 73)
      have hsV : wr.heap.size + 1 ≤ (wr.alloc (.cells #[.slice A1 bs.length c1, .int .i64 k, .string sx, .int .i64 n, .slice A2 ys.length c2] 73)).heap.size := by simp
      generalize wr.alloc (.cells #[.slice A1 bs.length c1, .int .i64 k, .string sx, .int .i64 n, .slice A2 ys.length c2] 73) = V at *
      have hbVV := hbb.out.trans (hbV.mono hbr)
      have c0 := (cells5A hnV).1
      clear x0 x1 x2 x3 x4 hb0
      go_wp2_with fail
      go_loopw [5, 49] (fun t i wq => ∃ q : Nat, i = .int .i64 q ∧ q ≤ bs.length ∧ t = .string (bindsB ns s 0 (bs.take q)) ∧ Hid (Below (wr.heap.size + 1) V wq)) (fun _ i _ => bs.length - (intOf i).toNat)
      case atStart => exact ⟨0, rfl, Nat.zero_le _, by rw [List.take_zero, bindsB], Lib.hid (Below.refl _ _)⟩
      case round =>
        rename World => wq
        obtain ⟨q, rfl, hq, rfl, hbq⟩ := hrel
        have hsq : wr.heap.size + 1 ≤ wq.heap.size := Nat.le_trans hsV hbq.out.size
        have hBq : Below (w.heap.size + 1) W wq := hbVV.trans (hbq.out.mono (by omega))
        have hb0 := HB0 _ hBq
        have hPs := hTs q
        by_cases hlq : q < bs.length
        · obtain ⟨b, o, rfl, hat⟩ := h2.get q hlq
          have HTT := bindsB_take ns s 0 hlq
          rw [Nat.zero_add] at HTT
          have hgy := goods_get hg1 hlq
          have hwy := wts_get hlq
          have hsy := TmSize_get hlq
          have hC := ref_any (Tm.size bs[q]) w0 bs[q] (Nat.le_refl _) hgy (by omega)
          have hSy := showB_len _ hgy
          have hPe : piece ns q bs[q] = nm ns q ++ ⟨#[32, 61, 32]⟩ ++ showB bs[q] ++ ⟨#[44, 32]⟩ := rfl
          rw [hPe] at HTT
          clear hPe
          generalize bs[q] = y at *
          cases y with
          | mk k' s' n' ys' =>
          obtain ⟨A', cap', d0, d1, d2, d3, hv'⟩ := Tm.At.both hat hb0 (Nat.le_refl _)
          have HC := Lib.hid (fun o => hC (wq.alloc o) _ hv' (hb0.alloc hb0.size o))
          have hnN := nm_size hM q
          generalize showB (.mk k' s' n' ys') = S at *
          generalize hP : bindsB ns s 0 (bs.take q) = PP at *
          have HTT := Lib.hid HTT
          clear hP hC hat h2 hnV hTs
          by_cases hjn : q < ns.length
          · obtain ⟨bn, on, rfl, hnl, hcell⟩ := name_cell hN hb0 hjn
            have hcellA := fun O => (World.cell?_alloc_lt wq O ⟨bn, on + q, none⟩ hnl).trans hcell
            generalize nm ns q = nn at *
            have t1 : ¬ 9223372036854775807 < nn.size + 3 := by omega
            have t2 : ¬ 9223372036854775807 < nn.size + 3 + S.size := by omega
            have t3 : ¬ 9223372036854775807 < nn.size + 3 + S.size + 2 := by omega
            have t4 : ¬ 9223372036854775807 < PP.size + (nn.size + 3 + S.size + 2) := by omega
            have hji : (q : Int) < ns.length := by omega
            clear hN h0 hb0 hv'
            go_wp2_with (go_at_call 41; refine (HC.out _).mono ?_; rintro e w1 ⟨rfl, hb1⟩; have hbn := hbq.out.thenCall hsq (Below.call1 hb1); clear hb1)
            exact ⟨⟨q + 1, by go_num, by omega, by rw [HTT.out], Lib.hid hbn⟩, by simp [intOf]; omega⟩
          · have hnq : nm ns q = ⟨#[63]⟩ := by unfold nm; rw [List.getD_eq_getElem?_getD, List.getElem?_eq_none (by omega)]; rfl
            rw [hnq] at HTT hnN
            have t2 : ¬ 9223372036854775807 < 4 + S.size := by omega
            have t3 : ¬ 9223372036854775807 < 4 + S.size + 2 := by omega
            have t4 : ¬ 9223372036854775807 < PP.size + (4 + S.size + 2) := by omega
            clear hN h0 hb0 hv'
            go_wp2_with (go_at_call 41; refine (HC.out _).mono ?_; rintro e w1 ⟨rfl, hb1⟩; have hbn := hbq.out.thenCall hsq (Below.call1 hb1); clear hb1)
            exact ⟨⟨q + 1, by go_num, by omega, by rw [HTT.out], Lib.hid hbn⟩, by simp [intOf]; omega⟩
        · have e : bs.take q = bs := List.take_of_length_le (by omega)
          rw [e] at hPs ⊢
          obtain ⟨d0, d1, d2, d3, d4⟩ := cells5A ((hbq.out.block wr.heap.size (Nat.lt_succ_self _)).trans hnV)
          generalize hP : bindsB ns s 0 bs = PP at *
          have HL := Lib.hid (HlastV wq hb0)
          have t1 : ¬ 9223372036854775807 < SV.size + 1 := by omega
          have t2 : ¬ 9223372036854775807 < PP.size + (SV.size + 1) := by omega
          have HNEW : Hid ((PP ++ (SV ++ ⟨#[10]⟩) : ByteArray).data.toList = resL ns (l.take (j + 1))) := Lib.hid (by
            rw [HT.out, ← hS.out]
            simp only [ByteArray.data_append, Array.toList_append, HTB.out, List.append_assoc])
          clear hnV h2 hTs hP HlastV hb0 e
          go_wp2_with (go_at_call 41; refine HL.out.out.mono ?_; rintro e w1 ⟨rfl, hb1⟩; have hbn := hBq.trans (hb1.mono (by omega)); clear hb1)
          exact ⟨⟨j + 1, _, by go_num, by omega, rfl, HNEW, Lib.hid hbn⟩, by simp [intOf]; omega⟩
    · have e : l.take j = l := List.take_of_length_le (by omega)
      rw [e] at hS hPl hsl
      obtain ⟨x0, x1, x2, x3, x4, x5⟩ := (HX wr hbb.out).out
      have hst := stB_len err
      have HSt := Lib.hid (status_any err wr)
      have hRL : resultL ns l err line col stuck = ((resL ns l ++ (stB err).data.toList) ++ (if line = 0 ∧ col = 0 then [] else (atB line col).data.toList)) ++ (tailB l.length stuck).data.toList := rfl
      rw [hRL] at hRR
      unfold atB tailB at hRR
      have hd1 := digB_len hw1
      have hd2 := digB_len hw2
      have hd3 := digB_len hw3
      have hd4 := digB_len hw4
      have D1 := fun w => Lib.hid (refDigits_any line w hw1.1 hw1.2)
      have D2 := fun w => Lib.hid (refDigits_any col w hw2.1 hw2.2)
      have D3 := fun w => Lib.hid (refDigits_any stuck w hw3.1 hw3.2)
      have D4 := fun w => Lib.hid (refDigits_any l.length w hw4.1 hw4.2)
      have e0 : ∀ n, (⟨(digS n).toArray⟩ : ByteArray) = digB n := fun _ => rfl
      rw [e0] at D1 D2 D3 D4
      rw [← hS.out] at hRR
      generalize stB err = ST at *
      generalize digB line = d1 at *
      generalize digB col = d2 at *
      generalize digB stuck = d3 at *
      generalize digB (l.length : Int) = d4 at *
      generalize resL ns l = P at *
      have t0 : ¬ 9223372036854775807 < s.size + ST.size := by omega
      clear hR hgood hsz hN h0 hb0 hM e e0 hS hRL
      by_cases hl0 : line = 0
      · subst hl0
        by_cases hc0 : col = 0
        · subst hc0
          have HRR := Lib.hid hRR
          clear hRR
          go_wp2_with (go_at_call 42; refine HSt.out.mono ?_; rintro e W3 ⟨rfl, q3⟩; have hB3 := hbb.out.trans (q3.mono hbr); obtain ⟨y0, y1, y2, y3, y4, y5⟩ := (HX _ hB3).out; clear x0 x1 x2 x3 x4 x5 q3)
          obtain ⟨s1, hs1⟩ : ∃ s1 : ByteArray, s1 = s ++ ST := ⟨_, rfl⟩
          have hz1 : s1.size ≤ 35184372088842 := by rw [hs1, ByteArray.size_append]; omega
          rw [← hs1]
          have HS1 := Lib.hid hs1
          clear hs1
          have hBZ := hB3
          obtain ⟨s2, hs2⟩ : ∃ s2 : ByteArray, s2 = s1 := ⟨_, rfl⟩
          have hz2 : s2.size ≤ 70368744177664 := by rw [hs2]; omega
          have HS2 : Hid (s2.data.toList = s.data.toList ++ ST.data.toList) := Lib.hid (by rw [hs2, HS1.out]; simp only [ByteArray.data_append, Array.toList_append])
          rw [← hs2]
          clear hs2
          have hsZ : w.heap.size + 1 ≤ W3.heap.size := Nat.le_trans hsW hBZ.size
          have MS' : Hid (∀ z, Below (w.heap.size + 1) W3 z → (fun w' : World => w'.cell? ⟨w.heap.size, 0, none⟩ = some (.int .i64 err) ∧ w'.cell? ⟨w.heap.size, 1, none⟩ = some (.int .i64 0) ∧ w'.cell? ⟨w.heap.size, 2, none⟩ = some (.int .i64 0) ∧ w'.cell? ⟨w.heap.size, 3, none⟩ = some (.slice AA l.length ca) ∧ w'.cell? ⟨w.heap.size, 4, none⟩ = some (.int .i64 stuck) ∧ w'.cell? ⟨w.heap.size, 5, none⟩ = some (.int .i64 steps)) z) := Lib.hid (fun z hz => (HX _ (hBZ.trans hz)).out)
          have hb0' : Below W3.heap.size W3 W3.drew := (Below.refl _ _).drew
          have RC := HRes W3.drew (HB0 _ (hBZ.trans (hb0'.mono hsZ)))
          have u1 : ¬ 9223372036854775807 < s2.size + 2 := by omega
          have u2 : ¬ 9223372036854775807 < s2.size + 2 + d4.size := by omega
          have u3 : ¬ 9223372036854775807 < s2.size + 2 + d4.size + 10 := by omega
          have u4 : ¬ 9223372036854775807 < s2.size + 2 + d4.size + 10 + d3.size := by omega
          have u5 : ¬ 9223372036854775807 < s2.size + 2 + d4.size + 10 + d3.size + 6 := by omega
          have HEQ : Hid (RR = s2 ++ ⟨#[44, 32]⟩ ++ d4 ++ ⟨#[32, 97, 110, 115, 119, 101, 114, 115, 44, 32]⟩ ++ d3 ++ ⟨#[32, 115, 116, 117, 99, 107]⟩) := Lib.hid (ba_ext (by
            rw [HRR.out, if_pos (by simp)]
            simp only [ByteArray.data_append, Array.toList_append, HS2.out, List.append_assoc, List.nil_append]))
          go_region_held3 (fun w' => w'.cell? ⟨w.heap.size, 0, none⟩ = some (.int .i64 err) ∧ w'.cell? ⟨w.heap.size, 1, none⟩ = some (.int .i64 0) ∧ w'.cell? ⟨w.heap.size, 2, none⟩ = some (.int .i64 0) ∧ w'.cell? ⟨w.heap.size, 3, none⟩ = some (.slice AA l.length ca) ∧ w'.cell? ⟨w.heap.size, 4, none⟩ = some (.int .i64 stuck) ∧ w'.cell? ⟨w.heap.size, 5, none⟩ = some (.int .i64 steps))
            (first | exact MS'.out _ (hb3'.mono hsZ) | exact MS'.out _ (hb2'.mono hsZ) | exact MS'.out _ (hb1'.mono hsZ) | exact MS'.out _ (hb0'.mono hsZ))
            (first
             | (go_at_call 44; ((with_reducible refine RC.out.mono ?_); rintro _ v1 ⟨rfl, q1'⟩; have hb1' := hb0'.thenCall hb0'.size q1'))
             | (go_at_call 43; ((with_reducible refine (D4 _).out.mono ?_); rintro _ v2 ⟨rfl, q2'⟩; have hb2' := hb1'.thenCall hb1'.size q2'))
             | (go_at_call 43; ((with_reducible refine (D3 _).out.mono ?_); rintro _ v3 ⟨rfl, q3'⟩; have hb3' := hb2'.thenCall hb2'.size q3')))
          all_goals
            have hF := (hfin _ (hBZ.trans (hb3'.mono hsZ)))
            go_wp2_with fail
            go_ret
            exact ⟨by simp [HEQ.out], hF.out⟩
        · have HRR := Lib.hid hRR
          clear hRR
          go_wp2_with (go_at_call 42; refine HSt.out.mono ?_; rintro e W3 ⟨rfl, q3⟩; have hB3 := hbb.out.trans (q3.mono hbr); obtain ⟨y0, y1, y2, y3, y4, y5⟩ := (HX _ hB3).out; clear x0 x1 x2 x3 x4 x5 q3)
          obtain ⟨s1, hs1⟩ : ∃ s1 : ByteArray, s1 = s ++ ST := ⟨_, rfl⟩
          have hz1 : s1.size ≤ 35184372088842 := by rw [hs1, ByteArray.size_append]; omega
          rw [← hs1]
          have HS1 := Lib.hid hs1
          clear hs1
          have hs3 : w.heap.size + 1 ≤ W3.heap.size := Nat.le_trans hsW hB3.size
          have MS : Hid (∀ z, Below (w.heap.size + 1) W3 z → (fun w' : World => w'.cell? ⟨w.heap.size, 1, none⟩ = some (.int .i64 0) ∧ w'.cell? ⟨w.heap.size, 2, none⟩ = some (.int .i64 col)) z) := Lib.hid (fun z hz => ⟨(HX _ (hB3.trans hz)).out.2.1, (HX _ (hB3.trans hz)).out.2.2.1⟩)
          have hb0 : Below W3.heap.size W3 W3.drew := (Below.refl _ _).drew
          have t1 : ¬ 9223372036854775807 < 4 + d1.size := by omega
          have t2 : ¬ 9223372036854775807 < 4 + d1.size + 1 := by omega
          have t3 : ¬ 9223372036854775807 < 4 + d1.size + 1 + d2.size := by omega
          have t4 : ¬ 9223372036854775807 < s1.size + (4 + d1.size + 1 + d2.size) := by omega
          go_region_held3 (fun w' => w'.cell? ⟨w.heap.size, 1, none⟩ = some (.int .i64 0) ∧ w'.cell? ⟨w.heap.size, 2, none⟩ = some (.int .i64 col))
            (first | exact MS.out _ (hb2.mono hs3) | exact MS.out _ (hb1.mono hs3) | exact MS.out _ (hb0.mono hs3))
            (first
             | (go_at_call 43; ((with_reducible refine (D1 _).out.mono ?_); rintro _ z1 ⟨rfl, q1⟩; have hb1 := hb0.thenCall hb0.size q1))
             | (go_at_call 43; ((with_reducible refine (D2 _).out.mono ?_); rintro _ z2 ⟨rfl, q2⟩; have hb2 := hb1.thenCall hb1.size q2)))
          have hBZ := hB3.trans (hb2.mono hs3)
          obtain ⟨s2, hs2⟩ : ∃ s2 : ByteArray, s2 = s1 ++ (⟨#[32, 97, 116, 32]⟩ ++ d1 ++ ⟨#[58]⟩ ++ d2) := ⟨_, rfl⟩
          have hz2 : s2.size ≤ 70368744177664 := by
            rw [hs2]
            simp only [ByteArray.size_append, bsize]
            simp
            omega
          have HS2 : Hid (s2.data.toList = s.data.toList ++ ST.data.toList ++ (⟨#[32, 97, 116, 32]⟩ ++ d1 ++ ⟨#[58]⟩ ++ d2 : ByteArray).data.toList) := Lib.hid (by rw [hs2, HS1.out]; simp only [ByteArray.data_append, Array.toList_append])
          go_wp2_with fail
          rw [← hs2]
          clear hs2 MS hb0
          have hsZ : w.heap.size + 1 ≤ z2.heap.size := Nat.le_trans hsW hBZ.size
          have MS' : Hid (∀ z, Below (w.heap.size + 1) z2 z → (fun w' : World => w'.cell? ⟨w.heap.size, 0, none⟩ = some (.int .i64 err) ∧ w'.cell? ⟨w.heap.size, 1, none⟩ = some (.int .i64 0) ∧ w'.cell? ⟨w.heap.size, 2, none⟩ = some (.int .i64 col) ∧ w'.cell? ⟨w.heap.size, 3, none⟩ = some (.slice AA l.length ca) ∧ w'.cell? ⟨w.heap.size, 4, none⟩ = some (.int .i64 stuck) ∧ w'.cell? ⟨w.heap.size, 5, none⟩ = some (.int .i64 steps)) z) := Lib.hid (fun z hz => (HX _ (hBZ.trans hz)).out)
          have hb0' : Below z2.heap.size z2 z2.drew := (Below.refl _ _).drew
          have RC := HRes z2.drew (HB0 _ (hBZ.trans (hb0'.mono hsZ)))
          have u1 : ¬ 9223372036854775807 < s2.size + 2 := by omega
          have u2 : ¬ 9223372036854775807 < s2.size + 2 + d4.size := by omega
          have u3 : ¬ 9223372036854775807 < s2.size + 2 + d4.size + 10 := by omega
          have u4 : ¬ 9223372036854775807 < s2.size + 2 + d4.size + 10 + d3.size := by omega
          have u5 : ¬ 9223372036854775807 < s2.size + 2 + d4.size + 10 + d3.size + 6 := by omega
          have HEQ : Hid (RR = s2 ++ ⟨#[44, 32]⟩ ++ d4 ++ ⟨#[32, 97, 110, 115, 119, 101, 114, 115, 44, 32]⟩ ++ d3 ++ ⟨#[32, 115, 116, 117, 99, 107]⟩) := Lib.hid (ba_ext (by
            rw [HRR.out, if_neg (fun h => hc0 h.2)]
            simp only [ByteArray.data_append, Array.toList_append, HS2.out, List.append_assoc, List.nil_append]))
          go_region_held3 (fun w' => w'.cell? ⟨w.heap.size, 0, none⟩ = some (.int .i64 err) ∧ w'.cell? ⟨w.heap.size, 1, none⟩ = some (.int .i64 0) ∧ w'.cell? ⟨w.heap.size, 2, none⟩ = some (.int .i64 col) ∧ w'.cell? ⟨w.heap.size, 3, none⟩ = some (.slice AA l.length ca) ∧ w'.cell? ⟨w.heap.size, 4, none⟩ = some (.int .i64 stuck) ∧ w'.cell? ⟨w.heap.size, 5, none⟩ = some (.int .i64 steps))
            (first | exact MS'.out _ (hb3'.mono hsZ) | exact MS'.out _ (hb2'.mono hsZ) | exact MS'.out _ (hb1'.mono hsZ) | exact MS'.out _ (hb0'.mono hsZ))
            (first
             | (go_at_call 44; ((with_reducible refine RC.out.mono ?_); rintro _ v1 ⟨rfl, q1'⟩; have hb1' := hb0'.thenCall hb0'.size q1'))
             | (go_at_call 43; ((with_reducible refine (D4 _).out.mono ?_); rintro _ v2 ⟨rfl, q2'⟩; have hb2' := hb1'.thenCall hb1'.size q2'))
             | (go_at_call 43; ((with_reducible refine (D3 _).out.mono ?_); rintro _ v3 ⟨rfl, q3'⟩; have hb3' := hb2'.thenCall hb2'.size q3')))
          all_goals
            have hF := (hfin _ (hBZ.trans (hb3'.mono hsZ)))
            go_wp2_with fail
            go_ret
            exact ⟨by simp [HEQ.out], hF.out⟩
      · have HRR := Lib.hid hRR
        clear hRR
        go_wp2_with (go_at_call 42; refine HSt.out.mono ?_; rintro e W3 ⟨rfl, q3⟩; have hB3 := hbb.out.trans (q3.mono hbr); obtain ⟨y0, y1, y2, y3, y4, y5⟩ := (HX _ hB3).out; clear x0 x1 x2 x3 x4 x5 q3)
        obtain ⟨s1, hs1⟩ : ∃ s1 : ByteArray, s1 = s ++ ST := ⟨_, rfl⟩
        have hz1 : s1.size ≤ 35184372088842 := by rw [hs1, ByteArray.size_append]; omega
        rw [← hs1]
        have HS1 := Lib.hid hs1
        clear hs1
        have hs3 : w.heap.size + 1 ≤ W3.heap.size := Nat.le_trans hsW hB3.size
        have MS : Hid (∀ z, Below (w.heap.size + 1) W3 z → (fun w' : World => w'.cell? ⟨w.heap.size, 1, none⟩ = some (.int .i64 line) ∧ w'.cell? ⟨w.heap.size, 2, none⟩ = some (.int .i64 col)) z) := Lib.hid (fun z hz => ⟨(HX _ (hB3.trans hz)).out.2.1, (HX _ (hB3.trans hz)).out.2.2.1⟩)
        have hb0 : Below W3.heap.size W3 W3.drew := (Below.refl _ _).drew
        have t1 : ¬ 9223372036854775807 < 4 + d1.size := by omega
        have t2 : ¬ 9223372036854775807 < 4 + d1.size + 1 := by omega
        have t3 : ¬ 9223372036854775807 < 4 + d1.size + 1 + d2.size := by omega
        have t4 : ¬ 9223372036854775807 < s1.size + (4 + d1.size + 1 + d2.size) := by omega
        go_region_held3 (fun w' => w'.cell? ⟨w.heap.size, 1, none⟩ = some (.int .i64 line) ∧ w'.cell? ⟨w.heap.size, 2, none⟩ = some (.int .i64 col))
          (first | exact MS.out _ (hb2.mono hs3) | exact MS.out _ (hb1.mono hs3) | exact MS.out _ (hb0.mono hs3))
          (first
           | (go_at_call 43; ((with_reducible refine (D1 _).out.mono ?_); rintro _ z1 ⟨rfl, q1⟩; have hb1 := hb0.thenCall hb0.size q1))
           | (go_at_call 43; ((with_reducible refine (D2 _).out.mono ?_); rintro _ z2 ⟨rfl, q2⟩; have hb2 := hb1.thenCall hb1.size q2)))
        have hBZ := hB3.trans (hb2.mono hs3)
        obtain ⟨s2, hs2⟩ : ∃ s2 : ByteArray, s2 = s1 ++ (⟨#[32, 97, 116, 32]⟩ ++ d1 ++ ⟨#[58]⟩ ++ d2) := ⟨_, rfl⟩
        have hz2 : s2.size ≤ 70368744177664 := by
          rw [hs2]
          simp only [ByteArray.size_append, bsize]
          simp
          omega
        have HS2 : Hid (s2.data.toList = s.data.toList ++ ST.data.toList ++ (⟨#[32, 97, 116, 32]⟩ ++ d1 ++ ⟨#[58]⟩ ++ d2 : ByteArray).data.toList) := Lib.hid (by rw [hs2, HS1.out]; simp only [ByteArray.data_append, Array.toList_append])
        go_wp2_with fail
        rw [← hs2]
        clear hs2 MS hb0
        have hsZ : w.heap.size + 1 ≤ z2.heap.size := Nat.le_trans hsW hBZ.size
        have MS' : Hid (∀ z, Below (w.heap.size + 1) z2 z → (fun w' : World => w'.cell? ⟨w.heap.size, 0, none⟩ = some (.int .i64 err) ∧ w'.cell? ⟨w.heap.size, 1, none⟩ = some (.int .i64 line) ∧ w'.cell? ⟨w.heap.size, 2, none⟩ = some (.int .i64 col) ∧ w'.cell? ⟨w.heap.size, 3, none⟩ = some (.slice AA l.length ca) ∧ w'.cell? ⟨w.heap.size, 4, none⟩ = some (.int .i64 stuck) ∧ w'.cell? ⟨w.heap.size, 5, none⟩ = some (.int .i64 steps)) z) := Lib.hid (fun z hz => (HX _ (hBZ.trans hz)).out)
        have hb0' : Below z2.heap.size z2 z2.drew := (Below.refl _ _).drew
        have RC := HRes z2.drew (HB0 _ (hBZ.trans (hb0'.mono hsZ)))
        have u1 : ¬ 9223372036854775807 < s2.size + 2 := by omega
        have u2 : ¬ 9223372036854775807 < s2.size + 2 + d4.size := by omega
        have u3 : ¬ 9223372036854775807 < s2.size + 2 + d4.size + 10 := by omega
        have u4 : ¬ 9223372036854775807 < s2.size + 2 + d4.size + 10 + d3.size := by omega
        have u5 : ¬ 9223372036854775807 < s2.size + 2 + d4.size + 10 + d3.size + 6 := by omega
        have HEQ : Hid (RR = s2 ++ ⟨#[44, 32]⟩ ++ d4 ++ ⟨#[32, 97, 110, 115, 119, 101, 114, 115, 44, 32]⟩ ++ d3 ++ ⟨#[32, 115, 116, 117, 99, 107]⟩) := Lib.hid (ba_ext (by
          rw [HRR.out, if_neg (fun h => hl0 h.1)]
          simp only [ByteArray.data_append, Array.toList_append, HS2.out, List.append_assoc, List.nil_append]))
        go_region_held3 (fun w' => w'.cell? ⟨w.heap.size, 0, none⟩ = some (.int .i64 err) ∧ w'.cell? ⟨w.heap.size, 1, none⟩ = some (.int .i64 line) ∧ w'.cell? ⟨w.heap.size, 2, none⟩ = some (.int .i64 col) ∧ w'.cell? ⟨w.heap.size, 3, none⟩ = some (.slice AA l.length ca) ∧ w'.cell? ⟨w.heap.size, 4, none⟩ = some (.int .i64 stuck) ∧ w'.cell? ⟨w.heap.size, 5, none⟩ = some (.int .i64 steps))
          (first | exact MS'.out _ (hb3'.mono hsZ) | exact MS'.out _ (hb2'.mono hsZ) | exact MS'.out _ (hb1'.mono hsZ) | exact MS'.out _ (hb0'.mono hsZ))
          (first
           | (go_at_call 44; ((with_reducible refine RC.out.mono ?_); rintro _ v1 ⟨rfl, q1'⟩; have hb1' := hb0'.thenCall hb0'.size q1'))
           | (go_at_call 43; ((with_reducible refine (D4 _).out.mono ?_); rintro _ v2 ⟨rfl, q2'⟩; have hb2' := hb1'.thenCall hb1'.size q2'))
           | (go_at_call 43; ((with_reducible refine (D3 _).out.mono ?_); rintro _ v3 ⟨rfl, q3'⟩; have hb3' := hb2'.thenCall hb2'.size q3')))
        all_goals
          have hF := (hfin _ (hBZ.trans (hb3'.mono hsZ)))
          go_wp2_with fail
          go_ret
          exact ⟨by simp [HEQ.out], hF.out⟩
end Go.Proofs.Ytccknhhjkkbadaa.Shw

