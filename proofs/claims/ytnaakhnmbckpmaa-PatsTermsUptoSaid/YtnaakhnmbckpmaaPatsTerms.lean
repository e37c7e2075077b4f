/- PatsTerms is true of all patterns whose bulk is at most 1048576. -/
import Derived.Test.YtnaakhnmbckpmaaPtL
import Derived.Test.YtnaakhnmbckpmaaAwake
import Derived.Test.YtnaakhnmbckpmaaOpen
import Derived.Test.YtnaakhnmbckpmaaOne
import Derived.Test.YtnaakhnmbckpmaaSameB
import Derived.Test.YtnaakhnmbckpmaaRefInts
import Derived.OpenShut
namespace Go.Proofs.Ytnaakhnmbckpmaa.patsTerms
open Go.ChangeShapes Go.WideShapes Go.ChangeAt Go.RowKit Go.Proofs.Ytnaakhnmbckpmaa.Lift Go.Proofs.Ytnaakhnmbckpmaa.Data Go.Proofs.Ytnaakhnmbckpmaa.Refs Go.Proofs.Ytnaakhnmbckpmaa.Pats
set_option linter.unusedVariables false
set_option linter.unusedSimpArgs false
theorem tmCells_one {w : World} {e : Tm} {c : List Value} (h : e.Cs w c) : TmCells w [e] c := TmCells.single h
theorem intsSelf_any (w : World) (v : Value) (l : List Int) (hv : IS w v l) (hm : l.length ≤ 1000000) :
    Calls Try.prog 36 #[v, v] w fun e w' => e = .returned (.bool true) ∧ Below w.heap.size w w' := by
  obtain ⟨A, cap, rfl, g1, g2, g3, g4, g5⟩ := hv
  have ha : IntsAt w A l := fun k hk => by
    obtain ⟨b, o, e, h1, h2⟩ := IS_cell g5 k hk
    refine ⟨b, o, e, h1, ?_⟩
    rw [h2]
    simp [List.getD, List.getElem?_eq_getElem hk]
  have h := RefInts.ints_any w A A cap cap l l ha ha rfl hm
  simpa using h
set_option maxRecDepth 100000 in
set_option maxHeartbeats 4000000 in
theorem walk (w : World) (p : Ex) (v : Value) (hv : p.Val w v) (hz : p.size ≤ 1048576) :
    Calls Try.prog 7 #[v] w (fun r w' => r = .returned (.bool true) ∧ Below w.heap.size w w') := by
  have HV := Lib.hid hv
  have hExS : ExSize [p] = p.size := by simp [ExSize]
  have hTs := termS_size p 0
  have hTle := termS_le p 0
  have hvars := varsS_term p
  have hplen := placesS_le [p] [] 0
  have hoverS := (over_refl (ExSize [p])).2 [p] (Nat.le_refl _)
  have HG := Lib.hid (pattern_good p)
  have HF := fun W V u hv hb => Lib.hid (fewEx_any W [p] V u hv (by omega) hb)
  have HPat := fun W hb => Lib.hid (pattern_any p.size w p W v (Nat.le_refl _) HV.out hb)
  have HTerm := fun W hb => Lib.hid (term_any w p W v (by omega) HV.out hb)
  have HM := fun w0 W u hu hb hb0 => Lib.hid ((both_any w0 p.size).1 w p (termS p 0).1 W v u (Nat.le_refl _) (by omega) HV.out hu hb hb0)
  have HPl := fun W V u hv hb => Lib.hid (placesTop_any W [p] V u (by omega) hv hb)
  have HO := fun W V u u' hu hu' hb => Lib.hid ((one_over (ExSize [p])).2 W [p] [p] V u u' (Nat.le_refl _) hu hu' hb)
  have HVa := fun W V u hu hb => Lib.hid (vars_any W [(termS p 0).1] V u hu (by simp only [TmSize]; omega) hb)
  rw [hoverS] at HO
  rw [hvars] at HVa
  have hfewk : fewEx [p] = true → (termS p 0).2 ≤ 200 := fun h => by simp only [fewEx, Bool.and_eq_true, decide_eq_true_eq] at h; omega
  have HFK := Lib.hid hfewk
  clear hfewk
  generalize htk : termS p 0 = tk at *
  obtain ⟨t, k⟩ := tk
  have HTQ := Lib.hid htk
  clear htk
  simp only at *
  cases p with
  | mk kk s n ys l c =>
  obtain ⟨A, cap, rfl, hd, hs⟩ := hv
  have hcs := fun W hb => (show (Ex.mk kk s n ys l c).Cs w [.int .i64 kk, .string s, .int .i64 n, .slice A ys.length cap, .int .i64 l, .int .i64 c] from ⟨A, cap, rfl, hd, hs⟩).below (w' := W) (B := w.heap.size) hb (Nat.le_refl _)
  have hslP : ∀ W, Below w.heap.size w W → Ex.Sl (W.alloc (.cells #[.int .i64 kk, .string s, .int .i64 n, .slice A ys.length cap, .int .i64 l, .int .i64 c] 26)) (.slice (some ⟨W.heap.size, 0, none⟩) 1 1) [.mk kk s n ys l c] := fun W hb =>
    Ex.Sl.of_own (own_new W 26 6 1 #[.int .i64 kk, .string s, .int .i64 n, .slice A ys.length cap, .int .i64 l, .int .i64 c] rfl (by omega)) (exCells_one (hcs _ (hb.alloc hb.size _))) (by simp)
  have hbx := heap_alloc_new w (.cells #[.int .i64 kk, .string s, .int .i64 n, .slice A ys.length cap, .int .i64 l, .int .i64 c] 26)
  have hB1 : Below w.heap.size w (w.alloc (.cells #[.int .i64 kk, .string s, .int .i64 n, .slice A ys.length cap, .int .i64 l, .int .i64 c] 26)) := (Below.refl _ _).alloc (Nat.le_refl _) _
  have hW1s : (w.alloc (.cells #[.int .i64 kk, .string s, .int .i64 n, .slice A ys.length cap, .int .i64 l, .int .i64 c] 26)).heap.size = w.heap.size + 1 := by simp
  clear hcs hd hs
  go_enter Try.func7, Try.ntmps7
  go_wp2_with fail
  generalize hW1 : w.alloc (.cells #[.int .i64 kk, .string s, .int .i64 n, .slice A ys.length cap, .int .i64 l, .int .i64 c] 26) = W1 at *
  clear hW1
  refine (awake15_any _).mono ?_
  rintro _ w1 ⟨rfl, hb1⟩
  have hbw1 := hB1.thenCall hB1.size hb1
  obtain ⟨p0, p1, p2, p3, p4, p5, -⟩ := row6 ((hb1.block _ (by omega)).trans hbx)
  go_wp2_with fail
  refine ((HF _ _ _ (hslP _ hbw1) (Below.refl _ _)).out).mono ?_
  rintro _ w2 ⟨rfl, hb2⟩
  have hb2c := Below.call1 hb2
  have hbw2 := hbw1.thenCall hbw1.size hb2c
  have hb12 := hb1.trans (hb2c.mono hb1.size)
  obtain ⟨p0, p1, p2, p3, p4, p5, -⟩ := row6 ((hb12.block _ (by omega)).trans hbx)
  clear HF
  cases hq1 : fewEx [.mk kk s n ys l c] with
  | false =>
    go_wp2_with fail
    go_ret
    exact ⟨rfl, hbw2⟩
  | true =>
  have hk := HFK.out hq1
  clear HFK hq1
  go_wp2_with fail
  refine ((HPat _ hbw2).out).mono ?_
  rintro _ w3 ⟨rfl, hb3⟩
  have hbw3 := hbw2.thenCall hbw2.size hb3
  have hb13 := hb12.trans (hb3.mono hb12.size)
  obtain ⟨p0, p1, p2, p3, p4, p5, -⟩ := row6 ((hb13.block _ (by omega)).trans hbx)
  clear HPat
  cases hq2 : patS (.mk kk s n ys l c) with
  | false =>
    go_wp2_with fail
    go_ret
    exact ⟨rfl, hbw3⟩
  | true =>
  obtain ⟨bs, hbs, hgood⟩ := HG.out hq2
  clear HG hq2
  go_wp2_with fail
  refine ((HTerm _ hbw3).out).mono ?_
  rintro _ w4 ⟨tv, rfl, htv, hb4⟩
  have hbw4 := hbw3.thenCall hbw3.size hb4
  have hb14 := hb13.trans (hb4.mono hb13.size)
  clear HTerm
  rw [HTQ.out] at htv
  simp only at htv
  clear HTQ
  have HTV := Lib.hid htv
  have HM2 := fun o => Lib.hid ((HM w4 (w4.alloc o) _ htv (hbw4.alloc hbw4.size o) ((Below.refl _ _).alloc (Nat.le_refl _) o)).out)
  clear HM
  have hlen1 := goodL_len hgood
  rw [hbs] at HM2
  have hplen2 : (placesS [.mk kk s n ys l c] [] 0).length ≤ 1048576 := by omega
  generalize placesS [.mk kk s n ys l c] [] 0 = pl at *
  have HGOOD := Lib.hid hgood
  clear hgood hbs
  cases t with
  | mk k4 s4 n4 ys4 =>
  obtain ⟨A4, cap4, rfl, hd4, hs4⟩ := htv
  have hbx4 := heap_alloc_new w4 (.cells #[.int .i64 k4, .string s4, .int .i64 n4, .slice A4 ys4.length cap4] 29)
  have hcs4 : (Tm.mk k4 s4 n4 ys4).Cs w4 [.int .i64 k4, .string s4, .int .i64 n4, .slice A4 ys4.length cap4] := ⟨A4, cap4, rfl, hd4, hs4⟩
  have hslT : ∀ W, Below w4.heap.size w4 W → Tm.Sl (W.alloc (.cells #[.int .i64 k4, .string s4, .int .i64 n4, .slice A4 ys4.length cap4] 29)) (.slice (some ⟨W.heap.size, 0, none⟩) 1 1) [.mk k4 s4 n4 ys4] := fun W hb =>
    Tm.Sl.of_own (own_new W 29 4 1 #[.int .i64 k4, .string s4, .int .i64 n4, .slice A4 ys4.length cap4] rfl (by omega)) (TmCells.single (hcs4.below (hb.alloc hb.size _) (Nat.le_refl _))) (by simp)
  have hz4 := hb4.size
  have hz14 := hb14.size
  obtain ⟨p0, p1, p2, p3, p4, p5, -⟩ := row6 ((hb14.block _ (by omega)).trans hbx)
  have hlt4 : w.heap.size < w4.heap.size := by omega
  clear hd4 hs4 hcs4
  go_wp2_with fail
  refine ((HM2 _).out).mono ?_
  rintro _ w6 ⟨A6, n6, cap6, b6, xs6, rfl, hown6, hb6, rfl, rfl, hbd⟩
  have hb46 := Below.call1 hb6
  have hbw6 := hbw4.thenCall hbw4.size hb46
  have hb16 := hb14.trans (hb46.mono hb14.size)
  obtain ⟨p0, p1, p2, p3, p4, p5, -⟩ := row6 ((hb16.block _ (by omega)).trans hbx)
  have hbx6 := (hb6.block _ (by simp)).trans hbx4
  clear HM2 hbx4
  go_wp2_with fail
  refine ((HPl _ _ _ (hslP _ hbw6) (Below.refl _ _)).out).mono ?_
  rintro _ w7 ⟨v7, rfl, hps, hb7⟩
  have hb67 := Below.call1 hb7
  have hbw7 := hbw6.thenCall hbw6.size hb67
  have hb17 := hb16.trans (hb67.mono hb16.size)
  have hb47 := hb46.trans (hb67.mono hb46.size)
  have hbx7 := (hb67.block _ (Array.getElem?_eq_some_iff.1 hbx6).1).trans hbx6
  have hbxp := (hb17.block _ (by omega)).trans hbx
  have hown7 := own_below hown6 hb67 (Nat.le_refl _)
  obtain ⟨A7, cap7, xs7, rfl, hp1, hp2, hp3, hp4, hp5, hp6⟩ := hps
  have hz17 := hb17.size
  have hz47 := hb47.size
  have hz46 := hb6.size
  have hz67 := hb67.size
  simp only [World.size_alloc] at hz46
  clear HPl hown6 hbx6 hb6 hb7 p0 p1 p2 p3 p4 p5
  go_wp2_with fail
  have hlt7 : w.heap.size < w7.heap.size := by omega
  have hlt47 : w4.heap.size < w7.heap.size := by omega
  clear hz17 hz47 hz46 hz67 hz4 hz14
  go_loopw [49] (fun i wr => ∃ j : Nat, i = .int .i64 j ∧ j ≤ pl.length ∧ Below w7.heap.size w7 wr) (fun i _ => pl.length - (intOf i).toNat)
  case atStart => exact ⟨0, rfl, Nat.zero_le _, Below.refl _ _⟩
  case round =>
    obtain ⟨j, rfl, hj, hb⟩ := hrel
    have hbwr := hbw7.thenCall hbw7.size hb
    have hb4r := hb47.trans (hb.mono hb47.size)
    have hzr := hb.size
    have hlwr : w.heap.size < wr.heap.size := by omega
    have hlw4 : w4.heap.size < wr.heap.size := by omega
    obtain ⟨p0, p1, p2, p3, p4, p5, -⟩ := row6 ((hb.block _ hlt7).trans hbxp)
    obtain ⟨t0, t1, t2, t3⟩ := row4 ((hb.block _ hlt47).trans hbx7)
    by_cases hlt : j < pl.length
    · obtain ⟨bP, oP, pv, rfl, hblP, hcP, hisP⟩ := PS_get hp5 hp6 j hlt
      have hcP2 := cellB hb (Nat.le_refl _) hcP
      have hblP2 : bP < wr.heap.size := by omega
      obtain ⟨ex, g1, g2, g3, g4, g5⟩ := goodL_get HGOOD.out j (by omega) hlt
      obtain ⟨g, A1, cap1, rfl, r0, r1, r2, r3, r4, hvb⟩ := bdRow hown7 hbd rfl j (by omega)
      have hlg7 : g < w7.heap.size := World.block_lt_of_cell? _ _ r0
      generalize bs[j]'(by omega) = bd at *
      obtain ⟨nm, x⟩ := bd
      cases x with
      | mk kx sx nx ysx =>
      cases ex with
      | mk ke se ne yse le ce =>
      simp only [Ex.k, Ex.s, Tm.k, Tm.s, Tm.n, Tm.ys] at g2 g3 g5 r0 r1 r2 r3 r4 hvb
      subst g2 g3 g5
      have HIS := Lib.hid hisP
      generalize pl[j] = path at *
      obtain ⟨Ap, capp, rfl, -⟩ := hisP
      have HR := Lib.hid (reach_any path _ _ _ _ _ (hslT wr hb4r) ((HIS.out.sub (Sub.of_below hb)).sub (Sub.of_below ((Below.refl _ _).alloc (Nat.le_refl _) _))) (Below.refl _ _))
      rw [g4] at HR
      clear hcP g4
      go_wp2_with (go_at_call 32; refine HR.out.mono ?_; rintro _ w8 ⟨v8, b8, rfl, hb8, rfl, hv8⟩; have hb8c := Below.call1 hb8; have HV8 := Lib.hid hv8; obtain ⟨A8, cap8, rfl, -⟩ := hv8; have hb78 := hb.thenCall hb.size hb8c; have hbw8 := hbwr.thenCall hbwr.size hb8c; have hz8 := hb8c.size; have hlw8 : w.heap.size < w8.heap.size := (by omega); obtain ⟨p0, p1, p2, p3, p4, p5, -⟩ := row6 ((hb78.block _ hlt7).trans hbxp))
      have hbo8 : Below w8.heap.size w8 (w8.alloc (.cells #[.int .i64 3, .string sx, .int .i64 nx, .slice A8 ysx.length cap8] 29)) := (Below.refl _ _).alloc (Nat.le_refl _) _
      have hsP := hslP _ (hbw8.thenCall hbw8.size hbo8)
      have hisP2 := HIS.out.sub (Sub.of_below (hb78.thenCall hb78.size hbo8))
      have hbx8 := heap_alloc_new w8 (.cells #[.int .i64 3, .string sx, .int .i64 nx, .slice A8 ysx.length cap8] 29)
      have HAt := Lib.hid (at_any path _ _ _ _ _ hsP (hisP2.sub (Sub.of_below ((Below.refl _ _).alloc (Nat.le_refl _) _))) (Data.Sub.refl _))
      rw [World.size_alloc] at HAt
      rw [g1] at HAt
      clear hsP hisP2 HIS HR g1
      refine HAt.out.mono ?_
      rintro _ w9 ⟨v9, b9, rfl, hb9, rfl, w91, hv9, -, -⟩
      obtain ⟨A9, cap9, rfl, -⟩ := hv9
      have hb9c := Below.call1 hb9
      have hb89 : Below w8.heap.size w8 w9 := hbo8.thenCall hbo8.size hb9c
      have hb79 := hb78.thenCall hb78.size hb89
      have hbx9 := (hb9c.block _ (by simp)).trans hbx8
      obtain ⟨f0, f1, f2, f3⟩ := row4 hbx9
      have q0 := cellB hb79 (Nat.le_refl _) r0
      have q1 := cellB hb79 (Nat.le_refl _) r1
      have q2 := cellB hb79 (Nat.le_refl _) r2
      have q3 := cellB hb79 (Nat.le_refl _) r3
      have q4 := cellB hb79 (Nat.le_refl _) r4
      have hz9 := hb89.size
      have hlw9 : w8.heap.size < w9.heap.size := by have := hb9c.size; simp only [World.size_alloc] at this; omega
      have hx9 : (Tm.mk 3 sx nx ysx).Val w9 (.agg #[.int .i64 3, .string sx, .int .i64 nx, .slice A8 ysx.length cap8]) := HV8.out.below ((Below.refl _ _).trans (hb8.mono (Nat.le_refl _) |>.trans (hb89.mono hb8.size))) (Nat.le_refl _)
      have hy9 : (Tm.mk 3 sx nx ysx).Val w9 (.agg #[.int .i64 3, .string sx, .int .i64 nx, .slice A1 ysx.length cap1]) := hvb.below (hb47.trans (hb79.mono hb47.size)) (Nat.le_refl _)
      have HCmp := fun o => Lib.hid (cmpSelf_any (Tm.mk 3 sx nx ysx).size w9 (.mk 3 sx nx ysx) (w9.alloc o).drew _ _ (Nat.le_refl _) hx9 hy9 ((Below.refl _ _).alloc (Nat.le_refl _) o).drew)
      have hlg9 : g < w9.heap.size := World.block_lt_of_cell? _ _ q0
      have HC1 := HCmp (.cells #[.int .i64 1, .string se, .int .i64 ne, .slice A9 yse.length cap9, .int .i64 le, .int .i64 ce] 26)
      have hbE := (Below.refl w9.heap.size w9).alloc (Nat.le_refl _) (.cells #[.int .i64 1, .string se, .int .i64 ne, .slice A9 yse.length cap9, .int .i64 le, .int .i64 ce] 26)
      have hbxE := heap_alloc_new w9 (.cells #[.int .i64 1, .string se, .int .i64 ne, .slice A9 yse.length cap9, .int .i64 le, .int .i64 ce] 26)
      have hbn := hb79.thenCall hb79.size hbE
      clear HCmp hx9 hy9 HV8 hvb hslP hslT HO HVa
      clear p0 p1 p2 p3 p4 p5 t0 t1 t2 t3 r0 r1 r2 r3 r4
      go_wp2_with fail
      generalize hWE : w9.alloc (.cells #[.int .i64 1, .string se, .int .i64 ne, .slice A9 yse.length cap9, .int .i64 le, .int .i64 ce] 26) = W at *
      have hWs : W.heap.size = w9.heap.size + 1 := by rw [← hWE]; simp
      clear hWE
      obtain ⟨e0, e1, -⟩ := row6 hbxE
      have f0 := cellB hbE (Nat.le_refl _) f0
      have f1 := cellB hbE (Nat.le_refl _) f1
      have f2 := cellB hbE (Nat.le_refl _) f2
      have f3 := cellB hbE (Nat.le_refl _) f3
      have r0 := cellB hbE (Nat.le_refl _) q0
      have r1 := cellB hbE (Nat.le_refl _) q1
      have r2 := cellB hbE (Nat.le_refl _) q2
      have r3 := cellB hbE (Nat.le_refl _) q3
      have r4 := cellB hbE (Nat.le_refl _) q4
      have hl9 : w9.heap.size < W.heap.size := by omega
      have hl8 : w8.heap.size < W.heap.size := by omega
      have hlg10 : g < W.heap.size := by omega
      clear q0 q1 q2 q3 q4 hbxE hbx9 hbx8 hWs hbE
      go_region_held3 (fun w' => w'.cell? ⟨w9.heap.size, 0, none⟩ = some (.int .i64 1) ∧ w'.cell? ⟨w9.heap.size, 1, none⟩ = some (.string se) ∧ w'.cell? ⟨g, j * 5, none⟩ = some (.string se) ∧ w'.cell? ⟨g, j * 5 + 1, none⟩ = some (.int .i64 3) ∧ w'.cell? ⟨g, j * 5 + 2, none⟩ = some (.string sx) ∧ w'.cell? ⟨g, j * 5 + 3, none⟩ = some (.int .i64 nx) ∧ w'.cell? ⟨g, j * 5 + 4, none⟩ = some (.slice A1 ysx.length cap1) ∧ w'.cell? ⟨w8.heap.size, 0, none⟩ = some (.int .i64 3) ∧ w'.cell? ⟨w8.heap.size, 1, none⟩ = some (.string sx) ∧ w'.cell? ⟨w8.heap.size, 2, none⟩ = some (.int .i64 nx) ∧ w'.cell? ⟨w8.heap.size, 3, none⟩ = some (.slice A8 ysx.length cap8))
        (first | go_keep | exact ⟨e0, e1, r0, r1, r2, r3, r4, f0, f1, f2, f3⟩ | exact ⟨k0, k1, k2, k3, k4, k5, k6, k7, k8, k9, k10⟩)
        ((go_at_call 34; refine HC1.out.mono ?_; rintro _ w11 ⟨rfl, hb11⟩; have hbW : Below W.heap.size W w11 := ((Below.refl _ _).drew).trans hb11; have k0 := (hbW.cell (p := ⟨w9.heap.size, 0, none⟩) hl9).trans e0; have k1 := (hbW.cell (p := ⟨w9.heap.size, 1, none⟩) hl9).trans e1; have k2 := (hbW.cell (p := ⟨g, j * 5, none⟩) hlg10).trans r0; have k3 := (hbW.cell (p := ⟨g, j * 5 + 1, none⟩) hlg10).trans r1; have k4 := (hbW.cell (p := ⟨g, j * 5 + 2, none⟩) hlg10).trans r2; have k5 := (hbW.cell (p := ⟨g, j * 5 + 3, none⟩) hlg10).trans r3; have k6 := (hbW.cell (p := ⟨g, j * 5 + 4, none⟩) hlg10).trans r4; have k7 := (hbW.cell (p := ⟨w8.heap.size, 0, none⟩) hl8).trans f0; have k8 := (hbW.cell (p := ⟨w8.heap.size, 1, none⟩) hl8).trans f1; have k9 := (hbW.cell (p := ⟨w8.heap.size, 2, none⟩) hl8).trans f2; have k10 := (hbW.cell (p := ⟨w8.heap.size, 3, none⟩) hl8).trans f3))
      go_wp2_with fail
      exact ⟨⟨j + 1, by go_num, by omega, hbn.thenCall hbn.size hbW⟩, by simp [intOf]; omega⟩
    · clear HGOOD hp5 hp6
      have HVr := Lib.hid ((HVa _ _ _ (hslT wr hb4r) (Below.refl _ _)).out)
      clear HVa hslT
      go_wp2_with fail
      refine HVr.out.mono ?_
      rintro _ w8 ⟨v8, rfl, hvs, hb8⟩
      have hb8c := Below.call1 hb8
      have hb78 := hb.thenCall hb.size hb8c
      have hbw8 := hbwr.thenCall hbwr.size hb8c
      have hkl : (upto k).length = k := by simp [upto]
      have hkg : ∀ i (h : i < (upto k).length), (upto k)[i] = (i : Int) := by intro i h; simp [upto]
      generalize upto k = us at *
      subst hkl
      have HVS := Lib.hid hvs
      obtain ⟨A8, cap8, rfl, u1, u2', u3, u4, u5⟩ := hvs
      have hlw8 : w.heap.size < w8.heap.size := Nat.lt_of_lt_of_le hlwr hb8c.size
      go_wp2_with fail
      go_loopw [110] (fun i wr' => ∃ m : Nat, i = .int .i64 m ∧ m ≤ us.length ∧ wr' = w8) (fun i _ => us.length - (intOf i).toNat)
      case atStart => exact ⟨0, rfl, Nat.zero_le _, rfl⟩
      case round =>
        obtain ⟨m, rfl, hm, rfl⟩ := hrel
        by_cases hltm : m < us.length
        · obtain ⟨b9, o9, rfl, hbl9, hc9⟩ := IS_cell u5 m hltm
          rw [hkg m hltm] at hc9
          go_wp2_with fail
          exact ⟨⟨m + 1, by go_num, by omega, trivial⟩, by simp [intOf]; omega⟩
        · obtain ⟨p0, p1, p2, p3, p4, p5, -⟩ := row6 ((hb78.block _ hlt7).trans hbxp)
          have hsA := (hslP wr hbw8).alloc (.cells #[.int .i64 kk, .string s, .int .i64 n, .slice A ys.length cap, .int .i64 l, .int .i64 c] 26)
          have hsB := hslP (wr.alloc (.cells #[.int .i64 kk, .string s, .int .i64 n, .slice A ys.length cap, .int .i64 l, .int .i64 c] 26)) (hbw8.alloc hbw8.size _)
          rw [World.size_alloc] at hsB
          have HO2 := HO _ _ _ _ hsA hsB (Below.refl _ _)
          clear hsA hsB HO hslP
          go_wp2_with fail
          refine HO2.out.mono ?_
          rintro _ w10 ⟨rfl, hb10⟩
          have hb10c := Below.call2 hb10
          have hI := intsSelf_any w10 _ us (HVS.out.sub (Sub.of_below hb10c)) (by omega)
          go_wp2_with fail
          refine hI.mono ?_
          rintro _ w11 ⟨rfl, hb11⟩
          go_wp2_with fail
          go_ret
          exact ⟨rfl, (hbw8.thenCall hbw8.size hb10c).thenCall (hbw8.thenCall hbw8.size hb10c).size hb11⟩
set_option maxRecDepth 100000 in
set_option maxRecDepth 100000 in
theorem contract (H : Type) (enc : TypeId × Value → H) (W : World) (base : Nat) (args : Array Value) (ds gs : List (DataW H)) (before : List MemPlace)
    (hval : ∀ (j : Nat) t v, Try.f7.params[j]? = some t → args[j]? = some v → Value.okWide Try.prog W .any base t v)
    (hW : DataW.Whole enc Try.prog Try.f7.params.toList Rows.patsTermsSpec.vars false W args.toList ds gs before)
    (hk : Rows.uptoSmall H (ds ++ gs) = true) :
    Calls Try.prog 7 args W fun e W' => ∃ v, e = .returned v ∧ Rows.patsTermsSpec.post enc Try.prog Try.f7 false true false false W args v W' := by
  have hW' := hW
  obtain ⟨p, q, hA0, hV, rfl, hfz, hnd⟩ := hW
  have hA : DataW.TrodAll enc Try.prog W 0 (fun _ => true) true Try.f7.params.toList args.toList ds p := hA0
  rw [Try.params7] at hA hval
  obtain ⟨v0, vs0, d0, ds0, p0, q0, hargs, rfl, rfl, h0, r0⟩ := trodAll_cons hA
  obtain ⟨rfl, rfl, rfl⟩ := trodAll_nil r0
  obtain rfl : args = #[v0] := by cases args; simp_all
  obtain ⟨rfl, -⟩ := trodVars_none (show DataW.TrodVars enc Try.prog W _ [] gs q from hV)
  have hbulk : Rows.uptoBulkAll [d0] ≤ 1048576 := by have h := of_decide_eq_true hk; simpa only [List.append_nil] using h
  clear hk
  obtain ⟨e0, he0, hs0⟩ := openEx_arg (hval 0 26 v0 rfl rfl) h0 (by simp only [Rows.uptoBulkAll] at hbulk; omega)
  simp only [Rows.uptoBulkAll] at hbulk
  refine (walk W e0 v0 he0 (by omega)).mono fun e W1 ⟨he, hb⟩ => ?_
  exact ⟨_, he, law_post laidOut hW' rfl (by kernel_rfl) 4 Try.underlying4 rfl (fun _ => rfl) hb⟩

set_option maxRecDepth 100000 in
theorem lifted (os : Os) (started : os.Started) (H : Type) (enc : TypeId × Value → H) (F : Stop.Interp) :
    ReturnsInHanded {} Try.checked os 7 .any ((Rows.OpenSpec.upto Rows.patsTermsSpec).pre6 enc Try.prog Try.f7 Rows.patsTermsUptoRow.domain false) (((Rows.OpenSpec.upto Rows.patsTermsSpec).at F).post enc Try.prog Try.f7 false true false false) := by
  refine returnsInHanded_of_cond (C := Try.checked) (s := Rows.OpenSpec.upto Rows.patsTermsSpec) (k := Rows.uptoSmall) rfl own started (by kernel_rfl) Try.func7
    (OpenSpec.witness (enc := enc) (C := Try.checked) (s := Rows.OpenSpec.upto Rows.patsTermsSpec) (k := Rows.uptoSmall) rfl false ⟨#[], #[.agg #[.int .i64 0, .string ⟨#[]⟩, .int .i64 0, .slice none 0 0, .int .i64 0, .int .i64 0]], []⟩ 8 (by kernel_rfl) (by kernel_rfl) (by kernel_rfl)
      (x := ([.agg [.lit (.int .i64 0), .lit (.string []), .lit (.int .i64 0), .nil, .agg [.lit (.int .i64 0), .lit (.int .i64 0)]]], [], [])) (by kernel_rfl) rfl (by kernel_rfl)) ?_
  intro W base args ds gs before hval hW _ hk _
  exact contract H enc W base args ds gs before hval hW hk
theorem over : Rows.patsTermsUptoRow.holds Try.pinned (Rows.OpenSpec.upto Rows.patsTermsSpec) :=
  OpenClaim.holds_of_cond 7 Try.f7 rfl rfl rfl rfl rfl rfl rfl ⟨rfl, rfl, rfl, rfl, rfl⟩ rfl rfl rfl rfl rfl (by kernel_rfl) Try.func7 (by kernel_rfl)
    (of_decide_eq_true (by kernel_rfl)) (by unfold Func.isWrapper; first | (rw [if_pos (by decide +kernel)]; kernel_rfl) | (rw [if_neg (by decide +kernel)]; exact ⟨rfl, rfl⟩))
    (fun os started H enc _ F => lifted os started H enc F)
/-- THE STATEMENT -/
theorem proved : Rows.PatsTermsUptoSaid :=
  over
#print axioms proved
end Go.Proofs.Ytnaakhnmbckpmaa.patsTerms
