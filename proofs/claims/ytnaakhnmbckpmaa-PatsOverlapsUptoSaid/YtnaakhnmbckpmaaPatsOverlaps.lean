/- PatsOverlaps is true of all lists of patterns and of terms whose bulk is at most 1048576. -/
import Derived.Test.YtnaakhnmbckpmaaAwake
import Derived.Test.YtnaakhnmbckpmaaOpen
import Derived.Test.YtnaakhnmbckpmaaOne
import Derived.Test.YtnaakhnmbckpmaaPtn
import Derived.OpenShut
namespace Go.Proofs.Ytnaakhnmbckpmaa.patsOverlaps
open Go.ChangeShapes Go.WideShapes Go.ChangeAt Go.RowKit Go.Proofs.Ytnaakhnmbckpmaa.Lift Go.Proofs.Ytnaakhnmbckpmaa.Data Go.Proofs.Ytnaakhnmbckpmaa.Refs Go.Proofs.Ytnaakhnmbckpmaa.Pats
set_option linter.unusedVariables false
set_option linter.unusedSimpArgs false
set_option maxRecDepth 100000 in
set_option maxHeartbeats 4000000 in
theorem walk (w : World) (la lb : List Ex) (ts : List Tm) (v0 v1 v2 : Value) (h0 : Ex.Sl w v0 la) (h1 : Ex.Sl w v1 lb) (h2 : Tm.Sl w v2 ts)
    (z0 : ExSize la + ExSize lb ≤ 1048576) (z2 : TmSize ts ≤ 1048576) :
    Calls Try.prog 5 #[v0, v1, v2] w (fun r w' => r = .returned (.bool true) ∧ Below w.heap.size w w') := by
  have H0 := Lib.hid h0
  have H1 := Lib.hid h1
  have H2 := Lib.hid h2
  obtain ⟨A0, cap0, rfl, ⟨a1, a2, a3, a4⟩, hs0⟩ := h0
  obtain ⟨A1, cap1, rfl, ⟨b1, b2, b3, b4⟩, hs1⟩ := h1
  obtain ⟨A2, cap2, rfl, ⟨c1, c2, c3, c4⟩, hs2⟩ := h2
  have HF1 := fun w1 hb => Lib.hid (fewEx_any w la w1 _ H0.out (by omega) hb)
  have HF2 := fun w1 hb => Lib.hid (fewEx_any w lb w1 _ H1.out (by omega) hb)
  have HF3 := fun w1 hb => Lib.hid (fewTm_any w ts w1 _ H2.out z2 hb)
  have HA := fun w1 hb => Lib.hid ((both_any w (ExSize la)).2 w la ts w1 (.slice A0 la.length cap0) (.slice A2 ts.length cap2) (Nat.le_refl _) (by omega) H0.out H2.out hb hb)
  have HB := fun w1 hb => Lib.hid ((both_any w (ExSize lb)).2 w lb ts w1 (.slice A1 lb.length cap1) (.slice A2 ts.length cap2) (Nat.le_refl _) (by omega) H1.out H2.out hb hb)
  have HO := fun w1 hb => Lib.hid ((one_over (ExSize la)).2 w la lb w1 (.slice A0 la.length cap0) (.slice A1 lb.length cap1) (Nat.le_refl _) H0.out H1.out hb)
  have HO2 := fun w1 hb => Lib.hid ((one_over (ExSize lb)).2 w lb la w1 (.slice A1 lb.length cap1) (.slice A0 la.length cap0) (Nat.le_refl _) H1.out H0.out hb)
  have hsym := (over_symm (ExSize lb)).2 lb la (Nat.le_refl _)
  simp only [hsym] at HO2
  have HM : Hid ((allS la ts).isSome = true → (allS lb ts).isSome = true → overS la lb = true) := Lib.hid ((over_match (ExSize la)).2 la lb ts (Nat.le_refl _))
  clear hsym
  go_enter Try.func5, Try.ntmps5
  go_wp2_with fail
  refine (awake15_any _).mono ?_
  rintro _ w1 ⟨rfl, hb1⟩
  go_wp2_with fail
  refine ((HF1 _ hb1).out).mono ?_
  rintro _ w2 ⟨rfl, hb2⟩
  have hb2 := hb1.thenCall hb1.size hb2
  cases hq1 : fewEx la with
  | false =>
    go_wp2_with fail
    go_ret
    exact ⟨rfl, hb2⟩
  | true =>
  go_wp2_with fail
  refine ((HF2 _ hb2).out).mono ?_
  rintro _ w3 ⟨rfl, hb3⟩
  have hb3 := hb2.thenCall hb2.size hb3
  cases hq2 : fewEx lb with
  | false =>
    go_wp2_with fail
    go_ret
    exact ⟨rfl, hb3⟩
  | true =>
  go_wp2_with fail
  refine ((HF3 _ hb3).out).mono ?_
  rintro _ w4 ⟨rfl, hb4⟩
  have hb4 := hb3.thenCall hb3.size hb4
  cases hq3 : fewTm ts with
  | false =>
    go_wp2_with fail
    go_ret
    exact ⟨rfl, hb4⟩
  | true =>
  clear HF1 HF2 HF3 hb1 hb2 hb3
  go_wp2_with fail
  refine ((HA _ hb4).out).mono ?_
  rintro _ w5 ⟨A5, n5, cap5, q5, xs5, rfl, hown5, hb5, hm5⟩
  have hb5 := hb4.thenCall hb4.size hb5
  have hq5 : q5 = (allS la ts).isSome := by cases h : allS la ts <;> rw [h] at hm5 <;> exact hm5.1
  clear hm5 hown5 HA hb4
  subst hq5
  go_wp2_with fail
  refine ((HB _ hb5).out).mono ?_
  rintro _ w6 ⟨A6, n6, cap6, q6, xs6, rfl, hown6, hb6, hm6⟩
  have hb6 := hb5.thenCall hb5.size hb6
  have hq6 : q6 = (allS lb ts).isSome := by cases h : allS lb ts <;> rw [h] at hm6 <;> exact hm6.1
  clear hm6 hown6 HB hb5
  subst hq6
  generalize (allS la ts).isSome = p1 at *
  generalize (allS lb ts).isSome = p2 at *
  go_wp2_with fail
  refine ((HO _ hb6).out).mono ?_
  rintro _ w7 ⟨rfl, hb7⟩
  have hb7 := hb6.thenCall hb6.size hb7
  generalize overS la lb = p3 at *
  clear HO hb6
  obtain ⟨i0, hi, hz0, hz1, hz2⟩ := info_parts info26
  obtain ⟨xs0, hsrc0, hcells0⟩ := hs0.cells
  obtain ⟨xs1, hsrc1, hcells1⟩ := hs1.cells
  have hone0 := hcells0.one
  have hone1 := hcells1.one
  have hsr0 := hsrc0.below hb7 (Nat.le_refl _)
  have hown0 := World.ownsRow_nil w7 w7.heap.size 26 6
  have hg1 : 0 + la.length ≤ maxLen := by unfold maxLen; omega
  have hg2 : (0 + la.length) * 72 ≤ 140737488355328 := by omega
  have hg3 : 0 + la.length + lb.length ≤ maxLen := by unfold maxLen; omega
  have hg4 : (0 + la.length + lb.length) * 72 ≤ 140737488355328 := by omega
  have hbase := Nat.le_refl w7.heap.size
  have hlen : la.length + lb.length ≤ 1048576 := by have := ExSize_len la; have := ExSize_len lb; omega
  clear hsrc0 hs0 hs1 H2 c1 c2 c3 c4 hs2
  go_wp2_with (at_builtin; first | (refine wpList_append_src rfl (.const (.slice none 0 0)) (.tmp 44) 22 rfl w7.heap.size 26 i0 _ 6 72 Try.underlying22 hi hz0 hz1 hz2 rfl (by omega) (.slice none 0 0) 0 [] rfl hown0 A0 la.length cap0 xs0 rfl hsr0 a4 hone0 hg1 hg2 hbase ?_; intro v8 w8 hown8 hg8; have hb8 := below_grown hown0 hg8 hbase; have hsr1 := hsrc1.below (hb7.thenCall hb7.size hb8) (Nat.le_refl _)) | (refine wpList_append_src rfl (.tmp 45) (.tmp 46) 22 rfl w7.heap.size 26 i0 _ 6 72 Try.underlying22 hi hz0 hz1 hz2 rfl (by omega) v8 _ _ rfl hown8 A1 lb.length cap1 xs1 rfl hsr1 b4 hone1 hg3 hg4 hb8.size ?_; (intro v9 w9 hown9 hg9; have hb9 := hb8.trans (below_grown hown8 hg9 hb8.size); have hcells9 : ExCells w (la ++ lb) (xs0 ++ xs1) := hcells0.append hcells1; have hlen9 : (la ++ lb).length ≤ 1048576 := List.length_append ▸ hlen; rw [Nat.zero_add, ← List.length_append, List.nil_append] at hown9; generalize la ++ lb = ls at hown9 hcells9 hlen9; generalize xs0 ++ xs1 = xs9 at hown9 hcells9; have hsl9 := Ex.Sl.of_own hown9 (hcells9.below (hb7.thenCall hb7.size hb9) (Nat.le_refl _)) hlen9; clear hown9 hcells9 hg9; obtain ⟨A9, cap9, rfl, ⟨d1, d2, d3, d4⟩, hs9⟩ := hsl9)))
  have hb9 := hb7.thenCall hb7.size hb9
  clear hown8 hg8 hb8 hsr1 hsr0 hown0 hcells0 hcells1 hb7
  go_loopw [49] (fun i wr => ∃ j : Nat, i = .int .i64 j ∧ j ≤ ls.length ∧ Below w9.heap.size w9 wr) (fun i _ => ls.length - (intOf i).toNat)
  case atStart => exact ⟨0, rfl, Nat.zero_le _, Below.refl _ _⟩
  case round =>
    obtain ⟨j, rfl, hj, hb⟩ := hrel
    have hbw := hb9.thenCall hb9.size hb
    by_cases hlt : j < ls.length
    · obtain ⟨b, o, rfl, hat⟩ := hs9.get j hlt
      generalize ls[j] = y at *
      cases y with
      | mk k2 s2 n2 ys2 l2 c2 =>
      obtain ⟨A2, cap2, d0, d1, d2, d3, d4, d5, hv2⟩ := Ex.At.both hat hb (Nat.le_refl _)
      clear hat hs9
      have HC := fun o => Lib.hid (pattern_any _ w9 _ (wr.alloc o) _ (Nat.le_refl _) hv2 (hb.alloc hb.size o))
      cases hsm : patS (.mk k2 s2 n2 ys2 l2 c2)
      · rw [hsm] at HC
        clear hsm
        go_wp2_with (go_at_call 24; refine (HC _).out.mono ?_; rintro e w1 ⟨rfl, hb1'⟩)
        go_ret
        exact ⟨rfl, hbw.thenCall hbw.size (Below.call1 hb1')⟩
      · rw [hsm] at HC
        clear hsm
        go_wp2_with (go_at_call 24; refine (HC _).out.mono ?_; rintro e w1 ⟨rfl, hb1'⟩)
        exact ⟨⟨j + 1, by go_num, by omega, hb.thenCall hb.size (Below.call1 hb1')⟩, by simp [intOf]; omega⟩
    · go_wp2_with fail
      refine ((HO2 _ hbw).out).mono ?_
      rintro _ w10 ⟨rfl, hb10⟩
      have hbw := hbw.thenCall hbw.size hb10
      clear HO2
      cases p1 <;> cases p2 <;> cases p3
      all_goals try (exact absurd (HM.out rfl rfl) (by decide))
      all_goals
        go_wp2_with fail
        go_ret
        exact ⟨rfl, hbw⟩
set_option maxRecDepth 100000 in
theorem contract (H : Type) (enc : TypeId × Value → H) (W : World) (base : Nat) (args : Array Value) (ds gs : List (DataW H)) (before : List MemPlace)
    (hval : ∀ (j : Nat) t v, Try.f5.params[j]? = some t → args[j]? = some v → Value.okWide Try.prog W .any base t v)
    (hW : DataW.Whole enc Try.prog Try.f5.params.toList Rows.patsOverlapsSpec.vars false W args.toList ds gs before)
    (hk : Rows.uptoSmall H (ds ++ gs) = true) :
    Calls Try.prog 5 args W fun e W' => ∃ v, e = .returned v ∧ Rows.patsOverlapsSpec.post enc Try.prog Try.f5 false true false false W args v W' := by
  have hW' := hW
  obtain ⟨p, q, hA0, hV, rfl, hfz, hnd⟩ := hW
  have hA : DataW.TrodAll enc Try.prog W 0 (fun _ => true) true Try.f5.params.toList args.toList ds p := hA0
  rw [Try.params5] at hA hval
  obtain ⟨v0, vs0, d0, ds0, p0, q0, hargs, rfl, rfl, h0, r0⟩ := trodAll_cons hA
  obtain ⟨v1, vs1, d1, ds1, p1, q1, rfl, rfl, rfl, h1, r1⟩ := trodAll_cons r0
  obtain ⟨v2, vs2, d2, ds2, p2, q2, rfl, rfl, rfl, h2, r2⟩ := trodAll_cons r1
  obtain ⟨rfl, rfl, rfl⟩ := trodAll_nil r2
  obtain rfl : args = #[v0, v1, v2] := by cases args; simp_all
  obtain ⟨rfl, -⟩ := trodVars_none (show DataW.TrodVars enc Try.prog W _ [] gs q from hV)
  have hbulk : Rows.uptoBulkAll [d0, d1, d2] ≤ 1048576 := by have h := of_decide_eq_true hk; simpa only [List.append_nil] using h
  clear hk
  obtain ⟨e0, he0, hs0⟩ := openEx_sl (hval 0 22 v0 rfl rfl) h0 (by simp only [Rows.uptoBulkAll] at hbulk; omega)
  obtain ⟨e1, he1, hs1⟩ := openEx_sl (hval 1 22 v1 rfl rfl) h1 (by simp only [Rows.uptoBulkAll] at hbulk; omega)
  obtain ⟨e2, he2, hs2⟩ := openTm_sl (hval 2 27 v2 rfl rfl) h2 (by simp only [Rows.uptoBulkAll] at hbulk; omega)
  simp only [Rows.uptoBulkAll] at hbulk
  refine (walk W e0 e1 e2 v0 v1 v2 he0 he1 he2 (by omega) (by omega)).mono fun e W1 ⟨he, hb⟩ => ?_
  exact ⟨_, he, law_post laidOut hW' rfl (by kernel_rfl) 4 Try.underlying4 rfl (fun _ => rfl) hb⟩

set_option maxRecDepth 100000 in
theorem lifted (os : Os) (started : os.Started) (H : Type) (enc : TypeId × Value → H) (F : Stop.Interp) :
    ReturnsInHanded {} Try.checked os 5 .any ((Rows.OpenSpec.upto Rows.patsOverlapsSpec).pre6 enc Try.prog Try.f5 Rows.patsOverlapsUptoRow.domain false) (((Rows.OpenSpec.upto Rows.patsOverlapsSpec).at F).post enc Try.prog Try.f5 false true false false) := by
  refine returnsInHanded_of_cond (C := Try.checked) (s := Rows.OpenSpec.upto Rows.patsOverlapsSpec) (k := Rows.uptoSmall) rfl own started (by kernel_rfl) Try.func5
    (OpenSpec.witness (enc := enc) (C := Try.checked) (s := Rows.OpenSpec.upto Rows.patsOverlapsSpec) (k := Rows.uptoSmall) rfl false ⟨#[], #[.slice none 0 0, .slice none 0 0, .slice none 0 0], []⟩ 8 (by kernel_rfl) (by kernel_rfl) (by kernel_rfl)
      (x := ([.nil, .nil, .nil], [], [])) (by kernel_rfl) rfl (by kernel_rfl)) ?_
  intro W base args ds gs before hval hW _ hk _
  exact contract H enc W base args ds gs before hval hW hk
theorem over : Rows.patsOverlapsUptoRow.holds Try.pinned (Rows.OpenSpec.upto Rows.patsOverlapsSpec) :=
  OpenClaim.holds_of_cond 5 Try.f5 rfl rfl rfl rfl rfl rfl rfl ⟨rfl, rfl, rfl, rfl, rfl⟩ rfl rfl rfl rfl rfl (by kernel_rfl) Try.func5 (by kernel_rfl)
    (of_decide_eq_true (by kernel_rfl)) (by unfold Func.isWrapper; first | (rw [if_pos (by decide +kernel)]; kernel_rfl) | (rw [if_neg (by decide +kernel)]; exact ⟨rfl, rfl⟩))
    (fun os started H enc _ F => lifted os started H enc F)
/-- THE STATEMENT -/
theorem proved : Rows.PatsOverlapsUptoSaid :=
  over
#print axioms proved
end Go.Proofs.Ytnaakhnmbckpmaa.patsOverlaps
