/- CoreRight is true of any program and number whose bulk is at most 1048576. -/
import Derived.Test.YtkcgbakjpodmeaaCrZ
import Derived.Test.YtkcgbakjpodmeaaCrO
namespace Go.Proofs.Ytkcgbakjpodmeaa.coreRight
open Go.ChangeShapes Go.WideShapes Go.ChangeAt Go.RowKit Go.Proofs.Ytkcgbakjpodmeaa.Lift Go.Proofs.Ytkcgbakjpodmeaa.Data Go.Proofs.Ytkcgbakjpodmeaa.Co
set_option linter.unusedVariables false
set_option linter.unusedSimpArgs false
set_option maxRecDepth 100000 in
theorem contract (H : Type) (enc : TypeId × Value → H) (W : World) (base : Nat) (args : Array Value) (ds gs : List (DataW H)) (before : List MemPlace)
    (hval : ∀ (j : Nat) t v, Try.f4.params[j]? = some t → args[j]? = some v → Value.okWide Try.prog W .any base t v)
    (hW : DataW.Whole enc Try.prog Try.f4.params.toList Rows.coreRightSpec.vars false W args.toList ds gs before)
    (hk : Rows.uptoSmall H (ds ++ gs) = true) :
    Calls Try.prog 4 args W fun e W' => ∃ v, e = .returned v ∧ Rows.coreRightSpec.post enc Try.prog Try.f4 false true false false W args v W' := by
  have hW' := hW
  obtain ⟨p, q, hA0, hV, rfl, hfz, hnd⟩ := hW
  have hA : DataW.TrodAll enc Try.prog W 0 (fun _ => true) true Try.f4.params.toList args.toList ds p := hA0
  rw [Try.params4] at hA hval
  obtain ⟨v0, vs0, d0, ds0, p0, q0, hargs, rfl, rfl, h0, r0⟩ := trodAll_cons hA
  obtain ⟨v1, vs1, d1, ds1, p1, q1, rfl, rfl, rfl, h1, r1⟩ := trodAll_cons r0
  obtain ⟨rfl, rfl, rfl⟩ := trodAll_nil r1
  obtain rfl : args = #[v0, v1] := by cases args; simp_all
  obtain ⟨rfl, -⟩ := trodVars_none (show DataW.TrodVars enc Try.prog W _ [] gs q from hV)
  have hbulk : Rows.uptoBulkAll [d0, d1] ≤ 1048576 := by have h := of_decide_eq_true hk; simpa only [List.append_nil] using h
  clear hk
  obtain ⟨pg0, Ak0, Am0, Af0, ck0, cm0, cf0, rfl, hp0, hs0⟩ := openPg_arg (hval 0 26 v0 rfl rfl) h0 (by simp only [Rows.uptoBulkAll] at hbulk; omega)
  obtain ⟨n1, rfl, -, -, wn1⟩ := open_int Try.underlying3 (hval 1 3 v1 rfl rfl) h1
  refine (walk W pg0 Ak0 Am0 Af0 ck0 cm0 cf0 hp0 hs0 n1).mono fun e W1 ⟨he, hb⟩ => ?_
  exact ⟨_, he, law_post laidOut hW' rfl (by kernel_rfl) 4 Try.underlying4 rfl (fun _ => rfl) hb⟩

set_option maxRecDepth 100000 in
theorem lifted (os : Os) (started : os.Started) (H : Type) (enc : TypeId × Value → H) (F : Stop.Interp) :
    ReturnsInHanded {} Try.checked os 4 .any ((Rows.OpenSpec.upto Rows.coreRightSpec).pre6 enc Try.prog Try.f4 Rows.coreRightUptoRow.domain false) (((Rows.OpenSpec.upto Rows.coreRightSpec).at F).post enc Try.prog Try.f4 false true false false) := by
  refine returnsInHanded_of_cond (C := Try.checked) (s := Rows.OpenSpec.upto Rows.coreRightSpec) (k := Rows.uptoSmall) rfl own started (by kernel_rfl) Try.func4
    (OpenSpec.witness (enc := enc) (C := Try.checked) (s := Rows.OpenSpec.upto Rows.coreRightSpec) (k := Rows.uptoSmall) rfl false ⟨#[], #[.agg #[.slice none 0 0, .slice none 0 0, .slice none 0 0], .int .i64 0], []⟩ 8 (by kernel_rfl) (by kernel_rfl) (by kernel_rfl)
      (x := ([.agg [.nil, .nil, .nil], .lit (.int .i64 0)], [], [])) (by kernel_rfl) rfl (by kernel_rfl)) ?_
  intro W base args ds gs before hval hW _ hk _
  exact contract H enc W base args ds gs before hval hW hk
theorem over : Rows.coreRightUptoRow.holds Try.pinned (Rows.OpenSpec.upto Rows.coreRightSpec) :=
  OpenClaim.holds_of_cond 4 Try.f4 rfl rfl rfl rfl rfl rfl rfl ⟨rfl, rfl, rfl, rfl, rfl⟩ rfl rfl rfl rfl rfl (by kernel_rfl) Try.func4 (by kernel_rfl)
    (of_decide_eq_true (by kernel_rfl)) (by unfold Func.isWrapper; first | (rw [if_pos (by decide +kernel)]; kernel_rfl) | (rw [if_neg (by decide +kernel)]; exact ⟨rfl, rfl⟩))
    (fun os started H enc _ F => lifted os started H enc F)
/-- THE STATEMENT -/
theorem proved : Rows.CoreRightUptoSaid :=
  over
#print axioms proved
end Go.Proofs.Ytkcgbakjpodmeaa.coreRight
