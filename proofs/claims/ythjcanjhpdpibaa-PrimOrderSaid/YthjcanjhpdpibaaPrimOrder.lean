/- The law PrimOrder returns true at every input, and its arguments read afterwards as before. -/
import Derived.Test.YthjcanjhpdpibaaPrim
import Derived.OpenShut
namespace Go.Proofs.Ythjcanjhpdpibaa.primOrder
open Go.ChangeShapes Go.WideShapes Go.ChangeAt Go.RowKit Go.Proofs.Ythjcanjhpdpibaa.Prim
set_option linter.unusedVariables false

theorem own : ownKnob Try.prog.godebug = none := by kernel_rfl
theorem lt_X {a b : Int} (h : fitsB a = true) (g : fitsB b = true) : doX 5 a b = oneI (decide (a < b)) := by simp [doX, good, h, g, rankI]
theorem eq_X {a b : Int} (h : fitsB a = true) (g : fitsB b = true) : doX 4 a b = oneI (a == b) := by simp [doX, good, h, g, rankI]
theorem lt_E {a b : Int} (h : fitsB a = true) (g : fitsB b = true) : doE 5 a b = 0 := by simp [doE, good, h, g, rankI]
theorem bad_E1 {op a b : Int} (h : fitsB a = false) : doE op a b = 4 := by simp [doE, good, h]
theorem bad_E2 {op a b : Int} (h : fitsB b = false) : doE op a b = 4 := by simp [doE, good, h]

set_option maxHeartbeats 8000000 in
theorem walk_good (a b c : Int) (w : World) (x y z p q r : Int) (ha : fitsB a = true) (hb : fitsB b = true) (hc : fitsB c = true)
    (hx : doX 5 a b = x) (hy : doX 5 b c = y) (hz : doX 5 a c = z) (hp : doX 4 a b = p) (hq : doX 4 b c = q) (hr : doX 4 a c = r)
    (x0 : 0 ≤ x) (x1 : x ≤ 1) (y0 : 0 ≤ y) (y1 : y ≤ 1) (z0 : 0 ≤ z) (z1 : z ≤ 1) (p0 : 0 ≤ p) (p1 : p ≤ 1) (q0 : 0 ≤ q) (q1 : q ≤ 1) (r0 : 0 ≤ r) (r1 : r ≤ 1)
    (h1 : x + y < 2 ∨ z = 1) (h2 : p + q < 2 ∨ r = 1) (h3 : p = 0 ∨ y = z) (h4 : q = 0 ∨ x = z) :
    Calls Try.prog 5 #[.int .i64 a, .int .i64 b, .int .i64 c] w fun e w' => e = .returned (.bool true) ∧ Grown w w' := by
  have e1 := lt_E ha hb
  have e2 := lt_E hb hc
  have e3 := lt_E ha hc
  obtain rfl | rfl : x = 0 ∨ x = 1 := by omega
  all_goals
    obtain rfl | rfl : y = 0 ∨ y = 1 := by omega
    all_goals
      obtain rfl | rfl : z = 0 ∨ z = 1 := by omega
      all_goals
        obtain rfl | rfl : p = 0 ∨ p = 1 := by omega
        all_goals
          obtain rfl | rfl : q = 0 ∨ q = 1 := by omega
          all_goals
            obtain rfl | rfl : r = 0 ∨ r = 1 := by omega
            all_goals
              first
              | (exfalso; clear hx hy hz hp hq hr; omega)
              | (clear ha hb hc x0 x1 y0 y1 z0 z1 p0 p1 q0 q1 r0 r1 h1 h2 h3 h4
                 go_enter Try.func5, Try.ntmps5
                 go_wp2_with (first | (go_at_call 13; refine (awake_any _).mono ?_; rintro e w' ⟨rfl, rfl⟩) | (go_at_call 14; refine (do_any _ _ _ _).mono ?_; rintro e w' ⟨rfl, rfl⟩; try simp only [hx, hy, hz, hp, hq, hr, e1, e2, e3]) | (go_at_call 15; refine (fits_any _ _).mono ?_; rintro e w' ⟨rfl, rfl⟩))
                 go_ret
                 exact ⟨rfl, Grown.refl _⟩)
theorem walk (a : Int) (b : Int) (c : Int) (w0 : (Lit.int .i64 a).wf = true) (w1 : (Lit.int .i64 b).wf = true) (w2 : (Lit.int .i64 c).wf = true) (w : World) :
    Calls Try.prog 5 #[.int .i64 a, .int .i64 b, .int .i64 c] w fun e w' => e = .returned (.bool true) ∧ Grown w w' := by
  by_cases h : fitsB a = true ∧ fitsB b = true ∧ fitsB c = true
  · obtain ⟨ha, hb, hc⟩ := h
    refine walk_good a b c w _ _ _ _ _ _ ha hb hc rfl rfl rfl rfl rfl rfl ?_ ?_ ?_ ?_ ?_ ?_ ?_ ?_ ?_ ?_ ?_ ?_ ?_ ?_ ?_ ?_ <;>
      simp only [lt_X ha hb, lt_X hb hc, lt_X ha hc, eq_X ha hb, eq_X hb hc, eq_X ha hc, oneI, beq_iff_eq, decide_eq_true_eq] <;> (repeat' split) <;> omega
  · cases ha : fitsB a
    · have e1 : doE 5 a b = 4 := bad_E1 ha
      clear h
      go_enter Try.func5, Try.ntmps5
      go_wp2_with (first | (go_at_call 13; refine (awake_any _).mono ?_; rintro e w' ⟨rfl, rfl⟩) | (go_at_call 14; refine (do_any _ _ _ _).mono ?_; rintro e w' ⟨rfl, rfl⟩; try simp only [e1]) | (go_at_call 15; refine (fits_any _ _).mono ?_; rintro e w' ⟨rfl, rfl⟩))
      go_ret
      exact ⟨rfl, Grown.refl _⟩
    · cases hb : fitsB b
      · have e1 : doE 5 a b = 4 := bad_E2 hb
        clear h
        go_enter Try.func5, Try.ntmps5
        go_wp2_with (first | (go_at_call 13; refine (awake_any _).mono ?_; rintro e w' ⟨rfl, rfl⟩) | (go_at_call 14; refine (do_any _ _ _ _).mono ?_; rintro e w' ⟨rfl, rfl⟩; try simp only [e1]) | (go_at_call 15; refine (fits_any _ _).mono ?_; rintro e w' ⟨rfl, rfl⟩))
        go_ret
        exact ⟨rfl, Grown.refl _⟩
      · have hc : fitsB c = false := by simpa [ha, hb] using h
        have e1 : doE 5 a b = 0 := lt_E ha hb
        have e2 : doE 5 b c = 4 := bad_E2 hc
        clear h
        go_enter Try.func5, Try.ntmps5
        go_wp2_with (first | (go_at_call 13; refine (awake_any _).mono ?_; rintro e w' ⟨rfl, rfl⟩) | (go_at_call 14; refine (do_any _ _ _ _).mono ?_; rintro e w' ⟨rfl, rfl⟩; try simp only [e1, e2]) | (go_at_call 15; refine (fits_any _ _).mono ?_; rintro e w' ⟨rfl, rfl⟩))
        go_ret
        exact ⟨rfl, Grown.refl _⟩

/-! ### THE ROW's STEP: WRITTEN OUT: LEAVE IT -/
set_option maxRecDepth 100000 in
theorem lifted (os : Os) (started : os.Started) (H : Type) (enc : TypeId × Value → H) :
    ReturnsInHanded {} Try.checked os 5 .any (Rows.primOrderSpec.pre6 enc Try.prog Try.f5 Rows.primOrderRow.domain false) (Rows.primOrderSpec.post enc Try.prog Try.f5 false true false false) := by
  refine returnsInHanded_of_change (C := Try.checked) own started (by kernel_rfl) Try.func5
    (ChangeSpec.witness6 (enc := enc) (C := Try.checked) false ⟨#[], #[.int .i64 0, .int .i64 0, .int .i64 0], []⟩ 8 (by kernel_rfl) (by kernel_rfl) (by kernel_rfl) (by kernel_rfl)) ?_
  intro W base args ds gs before hval0 hW hcnd _
  have hval : ∀ (j : Nat) t v, Try.f5.params[j]? = some t → args[j]? = some v → Value.okWide Try.prog W .any base t v := hval0
  have hW' := hW
  obtain ⟨p, q, hA0, hV, rfl, hfz, hnd⟩ := hW
  have hA : DataW.TrodAll enc Try.prog W 0 (fun _ => true) true Try.f5.params.toList args.toList ds p := hA0
  rw [Try.params5] at hA hval
  obtain ⟨v0, vs0, d0, ds0, p0, q0, hargs, rfl, rfl, h0, r0⟩ := trodAll_cons hA
  obtain ⟨v1, vs1, d1, ds1, p1, q1, rfl, rfl, rfl, h1, r1⟩ := trodAll_cons r0
  obtain ⟨v2, vs2, d2, ds2, p2, q2, rfl, rfl, rfl, h2, r2⟩ := trodAll_cons r1
  obtain ⟨rfl, rfl, rfl⟩ := trodAll_nil r2
  obtain rfl : args = #[v0, v1, v2] := by cases args; simp_all
  obtain ⟨rfl, rfl⟩ := trodVars_none hV
  obtain ⟨a0, rfl, rfl, rfl, w0⟩ := open_int Try.underlying3 (hval 0 3 v0 rfl rfl) h0
  obtain ⟨a1, rfl, rfl, rfl, w1⟩ := open_int Try.underlying3 (hval 1 3 v1 rfl rfl) h1
  obtain ⟨a2, rfl, rfl, rfl, w2⟩ := open_int Try.underlying3 (hval 2 3 v2 rfl rfl) h2
  clear hA0 hval0
  simp only [List.append_nil] at hW'
  refine (walk a0 a1 a2 w0 w1 w2 W).mono fun e W' ⟨he, hg⟩ => ?_
  subst he
  exact ⟨_, rfl, post_of_same (pa := []) (pv := []) hW' (fun _ _ _ => (trodAll_cons_mk (shut_bool Try.underlying4 _) trodAll_mk0)) (fun sp _ => (trodAll_cons_mk (shut_int Try.underlying3 w0) (trodAll_cons_mk (shut_int Try.underlying3 w1) (trodAll_cons_mk (shut_int Try.underlying3 w2) trodAll_mk0)))) (fun _ _ => rfl) rfl
    (hg.frame _) hg.2.1 (ok_one (by kernel_rfl) rfl (okWide_bool_mk Try.underlying4 _))⟩

theorem over : Rows.primOrderRow.holds Try.pinned (OpenSpec.ofChange Rows.primOrderSpec) :=
  OpenClaim.holds_of_wide 5 Try.f5 rfl rfl rfl rfl rfl rfl rfl ⟨rfl, rfl, rfl, rfl, rfl⟩ rfl rfl rfl rfl rfl (by kernel_rfl) Try.func5 (by kernel_rfl)
    (of_decide_eq_true (by kernel_rfl)) (by unfold Func.isWrapper; first | (rw [if_pos (by decide +kernel)]; kernel_rfl) | (rw [if_neg (by decide +kernel)]; exact ⟨rfl, rfl⟩))
    (fun os started H enc _ => lifted os started H enc)

/-- ████ THE STATEMENT ████ -/
theorem proved : Rows.PrimOrderSaid :=
  over
#print axioms proved
end Go.Proofs.Ythjcanjhpdpibaa.primOrder
