/- Contract: whimbrelref15.All. -/
import Derived.Test.YtnaakhnmbckpmaaRefM
namespace Go.Proofs.Ytnaakhnmbckpmaa.Pats
open Go.ChangeShapes Go.WideShapes Go.ChangeAt Go.RowKit Go.Proofs.Ytnaakhnmbckpmaa.Lift Go.Proofs.Ytnaakhnmbckpmaa.Data Go.Proofs.Ytnaakhnmbckpmaa.Refs
set_option linter.unusedVariables false
set_option linter.unusedSimpArgs false
set_option maxRecDepth 100000 in
set_option maxHeartbeats 4000000 in
theorem refAll_any (w0 : World) (ps : List Ex) (ts : List Tm) (w : World) (v u : Value) (hB : ExSize ps ≤ 1048576) (hv : Ex.Sl w0 v ps) (hu : Tm.Sl w0 u ts) (hb0 : Below w0.heap.size w0 w) :
    Calls Try.prog 16 #[v, u] w (MatchRes 86 36 w0 (allS ps ts) w) := by
  obtain ⟨A, cap, rfl, ⟨hd1, hd2, hd3, hd4⟩, hs⟩ := hv
  obtain ⟨A2, cap2, rfl, ⟨he1, he2, he3, he4⟩, hs2⟩ := hu
  have hI := fun p t wr v u out n xs h1 h2 h3 h4 h5 h6 => Lib.hid (refMatch_any (Ex.size p) w0 p t wr v u out n xs w.heap.size (Nat.le_refl _) h1 h2 h3 h4 hb0.size h5 h6)
  by_cases hL : ps.length = ts.length
  · rw [← hL]
    have HL := Lib.hid hL
    have hL1 : ts.length ≤ ps.length := by omega
    have hL2 : ps.length ≤ ts.length := by omega
    clear hL
    go_enter Try.func16, Try.ntmps16
    go_wp2_with fail
    go_loopw [6, 16] (fun t i wr => RefRel w0 w.heap.size 0 [] ps ts w t i wr) (fun _ i _ => ps.length - (intOf i).toNat)
    case atStart => exact ⟨0, [], [], rfl, Nat.zero_le _, own_nil _ _ _ _, by rw [BdCells], by simp [allS], Below.refl _ _, Stays.refl _ _⟩
    case round =>
      obtain ⟨j, acc, ys2, rfl, hj, hown, hcells, hacc, hb, hst⟩ := hrel
      by_cases hlt : j < ps.length
      · have hlt2 : j < ts.length := by omega
        obtain ⟨b, o, rfl, hat⟩ := hs.get j hlt
        obtain ⟨b', o', rfl, hat2⟩ := hs2.get j hlt2
        have hz := ExSize_get hlt
        have hb01 := hb0.trans (hb.mono hb0.size)
        have HT := Lib.hid (fun b => allS_take (b := b) hlt hlt2 hacc)
        have HF := Lib.hid (allS_none hlt hlt2)
        have hal := allS_size _ _ _ hacc
        have HS := ExSize_take hlt
        have hle2 := ExSize_take_le (ys := ps) (j := j + 1)
        generalize ps[j] = y at *
        generalize ts[j] = z at *
        have HI := fun v u => Lib.hid (fun hv hu => hI y z wr.drew v u u6 (0 + acc.length) ([] ++ ys2) (by omega) hv hu hb01.drew hb.size hown)
        cases y with
        | mk k' s' n' ys' l' c' =>
        cases z with
        | mk k'' s'' n'' ys'' =>
        obtain ⟨A', cap', c0, c1, c2, c3, c4, c5, hv'⟩ := Ex.At.both hat hb01 (Nat.le_refl _)
        obtain ⟨A'', cap'', d0, d1, d2, d3, hu'⟩ := Tm.At.both hat2 hb01 (Nat.le_refl _)
        obtain ⟨_, _, x0, _⟩ := Ex.At.open_ hat
        obtain ⟨_, _, y0, _⟩ := Tm.At.open_ hat2
        have hblB : b < w.heap.size := Nat.lt_of_lt_of_le (World.block_lt_of_cell? _ _ x0) hb0.size
        have hblB2 : b' < w.heap.size := Nat.lt_of_lt_of_le (World.block_lt_of_cell? _ _ y0) hb0.size
        have hbl : b < wr.heap.size := Nat.lt_of_lt_of_le hblB hb.size
        have hbl2 : b' < wr.heap.size := Nat.lt_of_lt_of_le hblB2 hb.size
        have HC := Lib.hid (((HI _ _).out hv' hu').out)
        clear HI hat hat2 hs hs2 x0 y0 hI
        go_wp2_with fail
        go_region_held3 (fun w' => w'.cell? ⟨b, o + j * 6, none⟩ = some (.int .i64 k') ∧ w'.cell? ⟨b, o + j * 6 + 1, none⟩ = some (.string s') ∧ w'.cell? ⟨b, o + j * 6 + 2, none⟩ = some (.int .i64 n') ∧ w'.cell? ⟨b, o + j * 6 + 3, none⟩ = some (.slice A' ys'.length cap') ∧ w'.cell? ⟨b, o + j * 6 + 4, none⟩ = some (.int .i64 l') ∧ w'.cell? ⟨b, o + j * 6 + 5, none⟩ = some (.int .i64 c') ∧ w'.cell? ⟨b', o' + j * 4, none⟩ = some (.int .i64 k'') ∧ w'.cell? ⟨b', o' + j * 4 + 1, none⟩ = some (.string s'') ∧ w'.cell? ⟨b', o' + j * 4 + 2, none⟩ = some (.int .i64 n'') ∧ w'.cell? ⟨b', o' + j * 4 + 3, none⟩ = some (.slice A'' ys''.length cap''))
          (first | go_keep | exact ⟨c0, c1, c2, c3, c4, c5, d0, d1, d2, d3⟩ | exact ⟨k0, k1, k2, k3, k4, k5, k6, k7, k8, k9⟩)
          ((go_at_call 14; refine HC.out.mono ?_; rintro e w3 ⟨A6, m6, cap6, b6, xs6, rfl, hown6, hb6, hst6, hm6⟩; have hbW : Below w.heap.size wr w3 := ((Below.refl _ _).drew).trans hb6; have hstW : Stays 86 wr w3 := ((Stays.refl _ _).drew).trans hst6; have k0 := (hbW.cell (p := ⟨b, o + j * 6, none⟩) hblB).trans c0; have k1 := (hbW.cell (p := ⟨b, o + j * 6 + 1, none⟩) hblB).trans c1; have k2 := (hbW.cell (p := ⟨b, o + j * 6 + 2, none⟩) hblB).trans c2; have k3 := (hbW.cell (p := ⟨b, o + j * 6 + 3, none⟩) hblB).trans c3; have k4 := (hbW.cell (p := ⟨b, o + j * 6 + 4, none⟩) hblB).trans c4; have k5 := (hbW.cell (p := ⟨b, o + j * 6 + 5, none⟩) hblB).trans c5; have k6 := (hbW.cell (p := ⟨b', o' + j * 4, none⟩) hblB2).trans d0; have k7 := (hbW.cell (p := ⟨b', o' + j * 4 + 1, none⟩) hblB2).trans d1; have k8 := (hbW.cell (p := ⟨b', o' + j * 4 + 2, none⟩) hblB2).trans d2; have k9 := (hbW.cell (p := ⟨b', o' + j * 4 + 3, none⟩) hblB2).trans d3; skip))
        clear k0 k1 k2 k3 k4 k5 k6 k7 k8 k9 c0 c1 c2 c3 c4 c5 d0 d1 d2 d3 HC
        cases hm : matchS (Ex.mk k' s' n' ys' l' c') (Tm.mk k'' s'' n'' ys'') with
        | none =>
          rw [hm] at hm6
          obtain rfl := hm6
          have HF1 := HF.out hm
          clear HF HT hm
          go_wp2_with fail
          go_ret2
          try rw [HF1]
          exact ⟨none, 0, 0, false, [], rfl, own_nil _ _ _ _, hb.trans hbW, rfl, rfl, rfl⟩
        | some l9 =>
          rw [hm] at hm6
          obtain ⟨rfl, rfl, ys6, rfl, hcells6⟩ := hm6
          have HT1 := HT.out l9 hm
          clear HF HT hm
          go_wp2_with fail
          refine ⟨⟨j + 1, acc ++ l9, ys2 ++ ys6, by go_num, by omega, ?_, hcells.append hcells6, HT1, hb.trans hbW, hst.trans hstW⟩, by simp [intOf]; omega⟩
          rw [List.length_append, ← Nat.add_assoc, ← List.append_assoc]
          exact hown6
      · have hj2 : j = ps.length := by omega
        subst hj2
        go_wp2_with fail
        go_ret2
        rw [List.take_of_length_le (Nat.le_refl _), List.take_of_length_le (Nat.le_of_eq HL.out.symm)] at hacc
        obtain ⟨A7, cap7, rfl, _, _⟩ := own_form hown
        rw [hacc]
        rw [Nat.zero_add, List.nil_append] at hown
        rw [Nat.zero_add]
        exact ⟨A7, _, cap7, true, _, rfl, hown, hb, rfl, rfl, hcells⟩
  · have hm := allS_len hL
    rw [hm]
    have hL3 : ¬ ((ps.length : Int) = ts.length) := by omega
    clear hm hL
    go_enter Try.func16, Try.ntmps16
    go_wp2_with fail
    go_ret2
    exact ⟨none, 0, 0, false, [], rfl, own_nil _ _ _ _, Below.refl _ _, rfl, rfl, rfl⟩
end Go.Proofs.Ytnaakhnmbckpmaa.Pats
