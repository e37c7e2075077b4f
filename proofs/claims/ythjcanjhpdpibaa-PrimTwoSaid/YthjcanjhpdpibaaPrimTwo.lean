/- The law PrimTwo returns true at every input, and its arguments read afterwards as before. -/
import Derived.Test.YthjcanjhpdpibaaPrim
import Derived.OpenShut
namespace Go.Proofs.Ythjcanjhpdpibaa.primTwo
open Go.ChangeShapes Go.WideShapes Go.ChangeAt Go.RowKit Go.Proofs.Ythjcanjhpdpibaa.Prim
set_option linter.unusedVariables false

theorem own : ownKnob Try.prog.godebug = none := by kernel_rfl
theorem add_comm_X (a b : Int) : doX 1 b a = doX 1 a b := by simp [doX, good, Int.add_comm b a, Bool.and_assoc, Bool.and_comm (fitsB b) (fitsB a)]
theorem add_comm_E (a b : Int) : doE 1 b a = doE 1 a b := by simp [doE, good, Int.add_comm b a, Bool.and_assoc, Bool.and_comm (fitsB b) (fitsB a)]
theorem mul_comm_X (a b : Int) : doX 3 b a = doX 3 a b := by simp [doX, good, Int.mul_comm b a, Bool.and_assoc, Bool.and_comm (fitsB b) (fitsB a)]
theorem mul_comm_E (a b : Int) : doE 3 b a = doE 3 a b := by simp [doE, good, Int.mul_comm b a, Bool.and_assoc, Bool.and_comm (fitsB b) (fitsB a)]
theorem bad_X {op a b : Int} (h : (fitsB a && fitsB b) = false) : doX op a b = 0 := by simp [doX, good, Bool.and_assoc, h]
theorem bad_E {op a b : Int} (h : (fitsB a && fitsB b) = false) : doE op a b = 4 := by simp [doE, good, Bool.and_assoc, h]

theorem lt_X {a b : Int} (h : (fitsB a && fitsB b) = true) : doX 5 a b = oneI (decide (a < b)) := by simp [doX, good, Bool.and_assoc, h, rankI]
theorem eq_X {a b : Int} (h : (fitsB a && fitsB b) = true) : doX 4 a b = oneI (a == b) := by simp [doX, good, Bool.and_assoc, h, rankI]
theorem lt_E {a b : Int} (h : (fitsB a && fitsB b) = true) : doE 5 a b = 0 := by simp [doE, good, Bool.and_assoc, h, rankI]
theorem eq_E {a b : Int} (h : (fitsB a && fitsB b) = true) : doE 4 a b = 0 := by simp [doE, good, Bool.and_assoc, h, rankI]
theorem add_X {a b : Int} (h : (fitsB a && fitsB b) = true) : doX 1 a b = bX (a + b) := by simp [doX, good, Bool.and_assoc, h, rankI]
theorem add_E {a b : Int} (h : (fitsB a && fitsB b) = true) : doE 1 a b = bE (a + b) := by simp [doE, good, Bool.and_assoc, h, rankI]
theorem sub_X {a b : Int} (h : (fitsB a && fitsB b) = true) (g : fitsB (a + b) = true) : doX 2 (a + b) b = a := by
  have h1 : fitsB a = true ∧ fitsB b = true := by simpa using h
  simp [doX, good, g, h1, rankI, Int.add_sub_cancel, bX]
theorem sub_E {a b : Int} (h : (fitsB a && fitsB b) = true) (g : fitsB (a + b) = true) : doE 2 (a + b) b = 0 := by
  have h1 : fitsB a = true ∧ fitsB b = true := by simpa using h
  simp [doE, good, g, h1, rankI, Int.add_sub_cancel, bE]

theorem walk_good (a : Int) (b : Int) (w : World) (h : (fitsB a && fitsB b) = true) (x y z : Int) (hx : doX 5 a b = x) (hy : doX 5 b a = y) (hz : doX 4 a b = z) (hs : (x + y + z == 1) = true)
    (x0 : 0 ≤ x) (x1 : x ≤ 1) (y0 : 0 ≤ y) (y1 : y ≤ 1) (z0 : 0 ≤ z) (z1 : z ≤ 1) :
    Calls Try.prog 4 #[.int .i64 a, .int .i64 b] w fun e w' => e = .returned (.bool true) ∧ Grown w w' := by
  have h' : (fitsB b && fitsB a) = true := by rw [Bool.and_comm]; exact h
  have e1 := lt_E h
  have e2 := lt_E h'
  have e3 := eq_E h
  have c1 := add_comm_X a b
  have c2 := add_comm_E a b
  have c3 := mul_comm_X a b
  have c4 := mul_comm_E a b
  have a1 := add_X h
  have a2 := add_E h
  cases g : fitsB (a + b)
  · have b1 : bX (a + b) = 0 := by simp [bX, g]
    have b2 : bE (a + b) = 7 := by simp [bE, g]
    rw [b1] at a1
    rw [b2] at a2
    clear b1 b2 g h h'
    go_enter Try.func4, Try.ntmps4
    go_wp2_with (first | (go_at_call 13; refine (awake_any _).mono ?_; rintro e w' ⟨rfl, rfl⟩) | (go_at_call 14; refine (do_any _ _ _ _).mono ?_; rintro e w' ⟨rfl, rfl⟩; try simp only [hx, hy, hz, e1, e2, e3, c1, c2, c3, c4, a1, a2]))
    go_ret
    exact ⟨rfl, Grown.refl _⟩
  · have b1 : bX (a + b) = a + b := by simp [bX, g]
    have b2 : bE (a + b) = 0 := by simp [bE, g]
    rw [b1] at a1
    rw [b2] at a2
    have s1 := sub_X h g
    have s2 := sub_E h g
    clear b1 b2 g h h'
    go_enter Try.func4, Try.ntmps4
    go_wp2_with (first | (go_at_call 13; refine (awake_any _).mono ?_; rintro e w' ⟨rfl, rfl⟩) | (go_at_call 14; refine (do_any _ _ _ _).mono ?_; rintro e w' ⟨rfl, rfl⟩; try simp only [hx, hy, hz, e1, e2, e3, c1, c2, c3, c4, a1, a2, s1, s2]))
    go_ret
    exact ⟨rfl, Grown.refl _⟩
theorem walk (a : Int) (b : Int) (w0 : (Lit.int .i64 a).wf = true) (w1 : (Lit.int .i64 b).wf = true) (w : World) :
    Calls Try.prog 4 #[.int .i64 a, .int .i64 b] w fun e w' => e = .returned (.bool true) ∧ Grown w w' := by
  cases h : (fitsB a && fitsB b)
  · have h' : (fitsB b && fitsB a) = false := by rw [Bool.and_comm]; exact h
    go_enter Try.func4, Try.ntmps4
    go_wp2_with (first | (go_at_call 13; refine (awake_any _).mono ?_; rintro e w' ⟨rfl, rfl⟩) | (go_at_call 14; refine (do_any _ _ _ _).mono ?_; rintro e w' ⟨rfl, rfl⟩; simp only [bad_X h, bad_E h, bad_X h', bad_E h']))
    go_ret
    exact ⟨rfl, Grown.refl _⟩
  · have h' : (fitsB b && fitsB a) = true := by rw [Bool.and_comm]; exact h
    refine walk_good a b w h _ _ _ rfl rfl rfl ?_ ?_ ?_ ?_ ?_ ?_ ?_ <;> simp only [lt_X h, lt_X h', eq_X h, oneI] <;> by_cases c : a < b <;> by_cases d : b < a <;> by_cases e : a = b <;> simp [c, d, e] <;> omega

/-! ### THE ROW's STEP: WRITTEN OUT: LEAVE IT -/
set_option maxRecDepth 100000 in
theorem lifted (os : Os) (started : os.Started) (H : Type) (enc : TypeId × Value → H) :
    ReturnsInHanded {} Try.checked os 4 .any (Rows.primTwoSpec.pre6 enc Try.prog Try.f4 Rows.primTwoRow.domain false) (Rows.primTwoSpec.post enc Try.prog Try.f4 false true false false) := by
  refine returnsInHanded_of_change (C := Try.checked) own started (by kernel_rfl) Try.func4
    (ChangeSpec.witness6 (enc := enc) (C := Try.checked) false ⟨#[], #[.int .i64 0, .int .i64 0], []⟩ 8 (by kernel_rfl) (by kernel_rfl) (by kernel_rfl) (by kernel_rfl)) ?_
  intro W base args ds gs before hval0 hW hcnd _
  have hval : ∀ (j : Nat) t v, Try.f4.params[j]? = some t → args[j]? = some v → Value.okWide Try.prog W .any base t v := hval0
  have hW' := hW
  obtain ⟨p, q, hA0, hV, rfl, hfz, hnd⟩ := hW
  have hA : DataW.TrodAll enc Try.prog W 0 (fun _ => true) true Try.f4.params.toList args.toList ds p := hA0
  rw [Try.params4] at hA hval
  obtain ⟨v0, vs0, d0, ds0, p0, q0, hargs, rfl, rfl, h0, r0⟩ := trodAll_cons hA
  obtain ⟨v1, vs1, d1, ds1, p1, q1, rfl, rfl, rfl, h1, r1⟩ := trodAll_cons r0
  obtain ⟨rfl, rfl, rfl⟩ := trodAll_nil r1
  obtain rfl : args = #[v0, v1] := by cases args; simp_all
  obtain ⟨rfl, rfl⟩ := trodVars_none hV
  obtain ⟨a0, rfl, rfl, rfl, w0⟩ := open_int Try.underlying3 (hval 0 3 v0 rfl rfl) h0
  obtain ⟨a1, rfl, rfl, rfl, w1⟩ := open_int Try.underlying3 (hval 1 3 v1 rfl rfl) h1
  clear hA0 hval0
  simp only [List.append_nil] at hW'
  refine (walk a0 a1 w0 w1 W).mono fun e W' ⟨he, hg⟩ => ?_
  subst he
  exact ⟨_, rfl, post_of_same (pa := []) (pv := []) hW' (fun _ _ _ => (trodAll_cons_mk (shut_bool Try.underlying4 _) trodAll_mk0)) (fun sp _ => (trodAll_cons_mk (shut_int Try.underlying3 w0) (trodAll_cons_mk (shut_int Try.underlying3 w1) trodAll_mk0))) (fun _ _ => rfl) rfl
    (hg.frame _) hg.2.1 (ok_one (by kernel_rfl) rfl (okWide_bool_mk Try.underlying4 _))⟩

theorem over : Rows.primTwoRow.holds Try.pinned (OpenSpec.ofChange Rows.primTwoSpec) :=
  OpenClaim.holds_of_wide 4 Try.f4 rfl rfl rfl rfl rfl rfl rfl ⟨rfl, rfl, rfl, rfl, rfl⟩ rfl rfl rfl rfl rfl (by kernel_rfl) Try.func4 (by kernel_rfl)
    (of_decide_eq_true (by kernel_rfl)) (by unfold Func.isWrapper; first | (rw [if_pos (by decide +kernel)]; kernel_rfl) | (rw [if_neg (by decide +kernel)]; exact ⟨rfl, rfl⟩))
    (fun os started H enc _ => lifted os started H enc)

/-- ████ THE STATEMENT ████ -/
theorem proved : Rows.PrimTwoSaid :=
  over
#print axioms proved
end Go.Proofs.Ythjcanjhpdpibaa.primTwo
