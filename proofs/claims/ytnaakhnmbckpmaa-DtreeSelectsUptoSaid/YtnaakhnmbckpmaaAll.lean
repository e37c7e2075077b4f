/- Contract: pats.All, by that of pats.Match. -/
import Derived.Test.YtnaakhnmbckpmaaMatch
import Derived.Deep.RegionHeld3
namespace Go.Proofs.Ytnaakhnmbckpmaa.Pats
open Go.ChangeShapes Go.WideShapes Go.ChangeAt Go.RowKit Go.Proofs.Ytnaakhnmbckpmaa.Lift Go.Proofs.Ytnaakhnmbckpmaa.Data Go.Proofs.Ytnaakhnmbckpmaa.Refs
set_option linter.unusedVariables false
set_option linter.unusedSimpArgs false
theorem info64 : (Try.prog.info? 64).map (fun i => (i.zero, i.size, i.bytes)) = some (some (.agg #[.string ⟨#[]⟩, .int .i64 0, .string ⟨#[]⟩, .int .i64 0, .slice none 0 0]), 5, 72) := by kernel_rfl
/-- at the label, every time. -/
def AllJ (w0 w : World) (ps : List Ex) (ts : List Tm) (A : Option Addr) (cap : Nat) (A2 : Option Addr) (cap2 : Nat) (a' : Act) (w' : World) : Prop :=
  ∃ (j : Nat) (out : Value) (acc : List Bd) (xs : List Value) (u8 u9 u10 u11 u12 u13 u14 u15 u16 u17 u18 u19 u20 u21 u22 u23 u24 u25 u26 u27 u28 u29 u30 u31 u32 u33 u34 u35 u36 u37 u38 : Value), a' = { tmps := #[.slice A ps.length cap, .slice A2 ps.length cap2, undef, undef, .slice none 0 0, .bool false, out, .int .i64 j, u8, u9, u10, u11, u12, u13, u14, u15, u16, u17, u18, u19, u20, u21, u22, u23, u24, u25, u26, u27, u28, u29, u30, u31, u32, u33, u34, u35, u36, u37, u38], defers := [] } ∧
    j ≤ ps.length ∧ w'.ownsRow w.heap.size 64 5 out acc.length xs ∧ BdCells w0 acc xs ∧ allS (ps.take j) (ts.take j) = some acc ∧ Below w.heap.size w w'
/-- the way to the label goes on as every pass does. -/
theorem wp_scope_pass {P : Program} {a : Act} {w : World} {Q : Exit → Act → World → Prop} {c rest : Code} (l : Nat) (J : Act → World → Prop) (μ : Act → World → Nat) (hf : findLabel c l = some (.seq .skip rest))
    (pass : ∀ a w, J a w → rest.wp P (Exit.jump l (fun a' w' => J a' w' ∧ μ a' w' < μ a w) Q) a w)
    (first : (∀ a w, J a w → rest.wp P (Exit.jump l J Q) a w) → c.wp P (Exit.jump l J Q) a w) : (Code.scope c).wp P Q a w := by
  refine wp_scope_jumps l J μ hf (first fun a w h => Code.wp_mono ?_ (pass a w h)) fun a w h => wp_seq (wp_skip (pass a w h))
  intro e a' w' he
  cases e <;> first | exact he | exact ⟨he.1, he.2.1⟩
set_option maxRecDepth 100000 in
set_option maxHeartbeats 4000000 in
theorem all_step (N : Nat) (w0 : World) (hmatch : MatchOk 13 64 33 N w0) : AllOk 15 64 33 N w0 := by
  intro we ps ts w v u hN hB hv hu hbe hb0
  obtain ⟨A, cap, rfl, ⟨hd1, hd2, hd3, hd4⟩, hs⟩ := hv
  obtain ⟨A2, cap2, rfl, ⟨he1, he2, he3, he4⟩, hs2⟩ := hu
  by_cases hL : ps.length = ts.length
  · obtain ⟨i0, hi, hz0, hz1, hz2⟩ := info_parts info64
    rw [← hL]
    have HL := Lib.hid hL
    have hL1 : ts.length ≤ ps.length := by omega
    have hL2 : ps.length ≤ ts.length := by omega
    clear hL
    go_enter Try.func15, Try.ntmps15
    go_wp2_with fail
    refine wp_scope_pass 0 (fun a' w' => AllJ w0 w ps ts A cap A2 cap2 a' w') (fun a' _ => ps.length - (intOf (a'.tmps.getD 7 undef)).toNat) rfl ?_ ?_
    · rintro a' wr ⟨j, out, acc, xs, u8, u9, u10, u11, u12, u13, u14, u15, u16, u17, u18, u19, u20, u21, u22, u23, u24, u25, u26, u27, u28, u29, u30, u31, u32, u33, u34, u35, u36, u37, u38, rfl, hj, hown, hcells, hacc, hb⟩
      by_cases hlt : j < ps.length
      · have hlt2 : j < ts.length := by omega
        have hne : ((j : Int) == ps.length) = false := by rw [beq_eq_false_iff_ne]; omega
        obtain ⟨b, o, rfl, hat⟩ := hs.get j hlt
        obtain ⟨b', o', rfl, hat2⟩ := hs2.get j hlt2
        have hz := ExSize_get hlt
        have hbe1 := hbe.trans (hb.mono hbe.size)
        have hb01 := hb0.trans (hb.mono hb0.size)
        have HT := Lib.hid (fun b => allS_take (b := b) hlt hlt2 hacc)
        have HF := Lib.hid (allS_none hlt hlt2)
        have hal := Nat.le_trans (allS_size _ _ _ hacc) (ExSize_take_le (ys := ps) (j := j))
        generalize ps[j] = y at *
        generalize ts[j] = z at *
        have HI := fun v u => Lib.hid (fun hv hu => hmatch we y z wr.drew v u (by omega) (by omega) hv hu hbe1.drew hb01.drew)
        have hms := Lib.hid (matchS_size y z)
        cases y with
        | mk k' s' n' ys' l' c' =>
        cases z with
        | mk k'' s'' n'' ys'' =>
        obtain ⟨A', cap', c0, c1, c2, c3, c4, c5, hv'⟩ := Ex.At.both hat hbe1 (Nat.le_refl _)
        obtain ⟨A'', cap'', d0, d1, d2, d3, hu'⟩ := Tm.At.both hat2 hb01 (Nat.le_refl _)
        clear hat hat2 hs hs2
        have hbl : b < wr.heap.size := World.block_lt_of_cell? _ _ c0
        have hbl2 : b' < wr.heap.size := World.block_lt_of_cell? _ _ d0
        have HC := Lib.hid ((HI _ _).out hv' hu')
        clear HI
        go_wp2_with fail
        go_region_held3 (fun w' => w'.cell? ⟨b, o + j * 6, none⟩ = some (.int .i64 k') ∧ w'.cell? ⟨b, o + j * 6 + 1, none⟩ = some (.string s') ∧ w'.cell? ⟨b, o + j * 6 + 2, none⟩ = some (.int .i64 n') ∧ w'.cell? ⟨b, o + j * 6 + 3, none⟩ = some (.slice A' ys'.length cap') ∧ w'.cell? ⟨b, o + j * 6 + 4, none⟩ = some (.int .i64 l') ∧ w'.cell? ⟨b, o + j * 6 + 5, none⟩ = some (.int .i64 c') ∧ w'.cell? ⟨b', o' + j * 4, none⟩ = some (.int .i64 k'') ∧ w'.cell? ⟨b', o' + j * 4 + 1, none⟩ = some (.string s'') ∧ w'.cell? ⟨b', o' + j * 4 + 2, none⟩ = some (.int .i64 n'') ∧ w'.cell? ⟨b', o' + j * 4 + 3, none⟩ = some (.slice A'' ys''.length cap''))
          (first | go_keep | exact ⟨c0, c1, c2, c3, c4, c5, d0, d1, d2, d3⟩ | exact ⟨k0, k1, k2, k3, k4, k5, k6, k7, k8, k9⟩)
          ((go_at_call 13; refine HC.out.mono ?_; rintro e w1 ⟨A1, m1, cap1, bo, xs1, rfl, hown1, hb1, hmt⟩; have hbW : Below wr.heap.size wr w1 := ((Below.refl _ _).drew).trans hb1; have k0 := (hbW.cell (p := ⟨b, o + j * 6, none⟩) hbl).trans c0; have k1 := (hbW.cell (p := ⟨b, o + j * 6 + 1, none⟩) hbl).trans c1; have k2 := (hbW.cell (p := ⟨b, o + j * 6 + 2, none⟩) hbl).trans c2; have k3 := (hbW.cell (p := ⟨b, o + j * 6 + 3, none⟩) hbl).trans c3; have k4 := (hbW.cell (p := ⟨b, o + j * 6 + 4, none⟩) hbl).trans c4; have k5 := (hbW.cell (p := ⟨b, o + j * 6 + 5, none⟩) hbl).trans c5; have k6 := (hbW.cell (p := ⟨b', o' + j * 4, none⟩) hbl2).trans d0; have k7 := (hbW.cell (p := ⟨b', o' + j * 4 + 1, none⟩) hbl2).trans d1; have k8 := (hbW.cell (p := ⟨b', o' + j * 4 + 2, none⟩) hbl2).trans d2; have k9 := (hbW.cell (p := ⟨b', o' + j * 4 + 3, none⟩) hbl2).trans d3; skip))
        clear k0 k1 k2 k3 k4 k5 k6 k7 k8 k9 c0 c1 c2 c3 c4 c5 d0 d1 d2 d3
        have hbn := hb.thenCall hb.size hbW
        have hown' := own_below hown hbW (Nat.le_refl _)
        clear HC
        cases hm : matchS (Ex.mk k' s' n' ys' l' c') (Tm.mk k'' s'' n'' ys'') with
        | none =>
          rw [hm] at hmt
          obtain ⟨rfl, rfl, rfl⟩ := hmt
          have HF1 := HF.out hm
          clear HF HT hm hms
          go_wp2_with fail
          all_goals (try simp only [Exit.jump])
          go_ret2
          try rw [HF1]
          exact ⟨none, 0, 0, false, [], rfl, own_nil _ _ _ _, hbn, rfl, rfl, rfl⟩
        | some l =>
          rw [hm] at hmt
          obtain ⟨rfl, rfl, hcells1⟩ := hmt
          have HT1 := Lib.hid (HT.out l hm)
          have hl := Nat.le_trans (hms.out l hm) hz
          clear HF HT hm hms
          have hsrc := Src.of_own hown1
          have hcp := own_cap hown1
          have hone1 := hcells1.one
          have hg4 : acc.length + l.length ≤ maxLen := by unfold maxLen; omega
          have hg5 : (acc.length + l.length) * 72 ≤ 140737488355328 := by omega
          go_wp2_with (at_builtin; refine wpList_append_src rfl (.tmp 34) (.tmp 35) 33 rfl w.heap.size 64 i0 _ 5 72 Try.underlying33 hi hz0 hz1 hz2 rfl (by omega) out acc.length xs rfl hown' A1 l.length cap1 xs1 rfl hsrc hcp hone1 hg4 hg5 hbn.size ?_; intro v2 w2 hown2 hg2)
          have hb2 := below_grown hown' hg2 hbn.size
          all_goals (try simp only [Exit.jump])
          go_step3
          change Exit.jump 0 _ _ (Exit.goto 0) _ _
          simp only [Exit.jump]
          refine ⟨trivial, ⟨j + 1, v2, acc ++ l, xs ++ xs1, _, _, _, _, _, _, _, _, _, _, _, _, _, _, _, _, _, _, _, _, _, _, _, _, _, _, _, _, _, _, _, rfl, by omega, ?_, hcells.append hcells1, HT1.out, hbn.trans hb2⟩, by simp [intOf]; omega⟩
          rw [List.length_append]
          exact hown2
      · have hj2 : j = ps.length := by omega
        subst hj2
        go_wp2_with fail
        all_goals (try simp only [Exit.jump])
        go_ret2
        rw [List.take_of_length_le (Nat.le_refl _), List.take_of_length_le (Nat.le_of_eq HL.out.symm)] at hacc
        obtain ⟨A1, cap1, rfl, _, _⟩ := own_form hown
        rw [hacc]
        exact ⟨A1, _, cap1, true, xs, rfl, hown, hb, rfl, rfl, hcells⟩
    · intro HP
      go_wp2_with fail
      go_step3
      rename_i hK
      refine hK _ _ (HP _ _ ?_)
      exact ⟨0, .slice none 0 0, [], [], _, _, _, _, _, _, _, _, _, _, _, _, _, _, _, _, _, _, _, _, _, _, _, _, _, _, _, _, _, _, _, rfl, Nat.zero_le _, own_nil _ _ _ _, rfl, by simp [allS], Below.refl _ _⟩
  · have hm := allS_len hL
    rw [hm]
    have hL3 : ¬ ((ps.length : Int) = ts.length) := by omega
    clear hm hL
    go_enter Try.func15, Try.ntmps15
    go_wp2_with fail
    refine wp_scope_jumps 0 (fun a' w' => False) (fun a' _ => 0) rfl ?_ (fun _ _ h => h.elim)
    go_wp2_with fail
    all_goals (try simp only [Exit.jump])
    go_ret2
    exact ⟨none, 0, 0, false, [], rfl, own_nil _ _ _ _, Below.refl _ _, rfl, rfl, rfl⟩
theorem both_any (w0 : World) : ∀ N, MatchOk 13 64 33 N w0 ∧ AllOk 15 64 33 N w0 := by
  intro N
  induction N with
  | zero =>
    have h0 : MatchOk 13 64 33 0 w0 := by
      intro we p t w v u hN
      cases p with
      | mk k s n ys l c => rw [Ex.size_mk] at hN; omega
    exact ⟨h0, all_step 0 w0 h0⟩
  | succ N ih => 
    have h1 := match_step N w0 ih.2
    exact ⟨h1, all_step _ w0 h1⟩
end Go.Proofs.Ytnaakhnmbckpmaa.Pats
