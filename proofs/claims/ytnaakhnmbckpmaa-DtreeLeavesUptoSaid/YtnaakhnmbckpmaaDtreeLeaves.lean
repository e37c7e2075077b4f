/- DtreeLeaves is true of all rules, terms and names whose bulk is at most 1048576. -/
import Derived.Test.YtnaakhnmbckpmaaDlW
import Derived.Test.YtnaakhnmbckpmaaOpR
import Derived.OpenShut
namespace Go.Proofs.Ytnaakhnmbckpmaa.dtreeLeaves
open Go.ChangeShapes Go.WideShapes Go.ChangeAt Go.RowKit Go.Proofs.Ytnaakhnmbckpmaa.Lift Go.Proofs.Ytnaakhnmbckpmaa.Data Go.Proofs.Ytnaakhnmbckpmaa.Refs Go.Proofs.Ytnaakhnmbckpmaa.Pats
set_option linter.unusedVariables false
set_option linter.unusedSimpArgs false
set_option maxRecDepth 100000 in
theorem contract (H : Type) (enc : TypeId × Value → H) (W : World) (base : Nat) (args : Array Value) (ds gs : List (DataW H)) (before : List MemPlace)
    (hval : ∀ (j : Nat) t v, Try.f9.params[j]? = some t → args[j]? = some v → Value.okWide Try.prog W .any base t v)
    (hW : DataW.Whole enc Try.prog Try.f9.params.toList Rows.dtreeLeavesSpec.vars false W args.toList ds gs before)
    (hk : Rows.uptoSmall H (ds ++ gs) = true) :
    Calls Try.prog 9 args W fun e W' => ∃ v, e = .returned v ∧ Rows.dtreeLeavesSpec.post enc Try.prog Try.f9 false true false false W args v W' := by
  have hW' := hW
  obtain ⟨p, q, hA0, hV, rfl, hfz, hnd⟩ := hW
  have hA : DataW.TrodAll enc Try.prog W 0 (fun _ => true) true Try.f9.params.toList args.toList ds p := hA0
  rw [Try.params9] at hA hval
  obtain ⟨v0, vs0, d0, ds0, p0, q0, hargs, rfl, rfl, h0, r0⟩ := trodAll_cons hA
  obtain ⟨v1, vs1, d1, ds1, p1, q1, rfl, rfl, rfl, h1, r1⟩ := trodAll_cons r0
  obtain ⟨v2, vs2, d2, ds2, p2, q2, rfl, rfl, rfl, h2, r2⟩ := trodAll_cons r1
  obtain ⟨v3, vs3, d3, ds3, p3, q3, rfl, rfl, rfl, h3, r3⟩ := trodAll_cons r2
  obtain ⟨rfl, rfl, rfl⟩ := trodAll_nil r3
  obtain rfl : args = #[v0, v1, v2, v3] := by cases args; simp_all
  obtain ⟨rfl, -⟩ := trodVars_none (show DataW.TrodVars enc Try.prog W _ [] gs q from hV)
  have hbulk : Rows.uptoBulkAll [d0, d1, d2, d3] ≤ 1048576 := by have h := of_decide_eq_true hk; simpa only [List.append_nil] using h
  clear hk
  obtain ⟨e0, he0⟩ := openStrs (hval 0 51 v0 rfl rfl) h0 (by simp only [Rows.uptoBulkAll] at hbulk; omega)
  obtain ⟨e1, he1, hs1⟩ := openRS (hval 1 68 v1 rfl rfl) h1 (by simp only [Rows.uptoBulkAll] at hbulk; omega)
  obtain ⟨e2, he2, hs2⟩ := openTm_sl (hval 2 27 v2 rfl rfl) h2 (by simp only [Rows.uptoBulkAll] at hbulk; omega)
  obtain ⟨e3, he3⟩ := openStrs (hval 3 51 v3 rfl rfl) h3 (by simp only [Rows.uptoBulkAll] at hbulk; omega)
  simp only [Rows.uptoBulkAll] at hbulk
  refine (leaves_walk W v0 v1 v2 v3 e0 e1 e2 e3 he0 he1 he2 he3 hs1 (by omega)).mono fun e W1 ⟨he, hb⟩ => ?_
  exact ⟨_, he, law_post laidOut hW' rfl (by kernel_rfl) 4 Try.underlying4 rfl (fun _ => rfl) hb⟩

set_option maxRecDepth 100000 in
theorem lifted (os : Os) (started : os.Started) (H : Type) (enc : TypeId × Value → H) (F : Stop.Interp) :
    ReturnsInHanded {} Try.checked os 9 .any ((Rows.OpenSpec.upto Rows.dtreeLeavesSpec).pre6 enc Try.prog Try.f9 Rows.dtreeLeavesUptoRow.domain false) (((Rows.OpenSpec.upto Rows.dtreeLeavesSpec).at F).post enc Try.prog Try.f9 false true false false) := by
  refine returnsInHanded_of_cond (C := Try.checked) (s := Rows.OpenSpec.upto Rows.dtreeLeavesSpec) (k := Rows.uptoSmall) rfl own started (by kernel_rfl) Try.func9
    (OpenSpec.witness (enc := enc) (C := Try.checked) (s := Rows.OpenSpec.upto Rows.dtreeLeavesSpec) (k := Rows.uptoSmall) rfl false ⟨#[], #[.slice none 0 0, .slice none 0 0, .slice none 0 0, .slice none 0 0], []⟩ 8 (by kernel_rfl) (by kernel_rfl) (by kernel_rfl)
      (x := ([.nil, .nil, .nil, .nil], [], [])) (by kernel_rfl) rfl (by kernel_rfl)) ?_
  intro W base args ds gs before hval hW _ hk _
  exact contract H enc W base args ds gs before hval hW hk
theorem over : Rows.dtreeLeavesUptoRow.holds Try.pinned (Rows.OpenSpec.upto Rows.dtreeLeavesSpec) :=
  OpenClaim.holds_of_cond 9 Try.f9 rfl rfl rfl rfl rfl rfl rfl ⟨rfl, rfl, rfl, rfl, rfl⟩ rfl rfl rfl rfl rfl (by kernel_rfl) Try.func9 (by kernel_rfl)
    (of_decide_eq_true (by kernel_rfl)) (by unfold Func.isWrapper; first | (rw [if_pos (by decide +kernel)]; kernel_rfl) | (rw [if_neg (by decide +kernel)]; exact ⟨rfl, rfl⟩))
    (fun os started H enc _ F => lifted os started H enc F)
/-- THE STATEMENT -/
theorem proved : Rows.DtreeLeavesUptoSaid :=
  over
#print axioms proved
end Go.Proofs.Ytnaakhnmbckpmaa.dtreeLeaves
