/- StackDoes is true of any numbers, deeds and number whose bulk is at most 1048576. -/
import Derived.Test.YthjcanjhpdpibaaDoesW
import Derived.OpenShut
namespace Go.Proofs.Ythjcanjhpdpibaa.stackDoes
open Go.ChangeShapes Go.WideShapes Go.ChangeAt Go.RowKit Go.Proofs.Ythjcanjhpdpibaa.Lift Go.Proofs.Ythjcanjhpdpibaa.Stk Go.Proofs.Ythjcanjhpdpibaa.Sl
set_option linter.unusedVariables false
set_option linter.unusedSimpArgs false
theorem walk (w : World) (A D : Option Addr) (c c' : Nat) (l : List Int) (ds : List (Int × Int)) (most : Int) (h : InSl w A c l) (hD : Lift.RowsIn DeedR w 2 D ds) (hm : ds.length ≤ 1048576) :
    Calls Try.prog 8 #[.slice A l.length c, .slice D ds.length c', .int .i64 most] w fun e w' => e = .returned (.bool true) ∧ Below w.heap.size w w' := by
  by_cases hl : 40 < l.length
  · exact long w A D c c' l ds most h hm (.inl hl)
  by_cases hl2 : 60 < ds.length
  · exact long w A D c c' l ds most h hm (.inr ⟨hl, hl2⟩)
  exact mid w A D c c' l ds most h hD (by omega) (by omega)
set_option maxRecDepth 100000 in
theorem contract (H : Type) (enc : TypeId × Value → H) (W : World) (base : Nat) (args : Array Value) (ds gs : List (DataW H)) (before : List MemPlace)
    (hval : ∀ (j : Nat) t v, Try.f8.params[j]? = some t → args[j]? = some v → Value.okWide Try.prog W .any base t v)
    (hW : DataW.Whole enc Try.prog Try.f8.params.toList Rows.stackDoesSpec.vars false W args.toList ds gs before)
    (hk : Rows.uptoSmall H (ds ++ gs) = true) :
    Calls Try.prog 8 args W fun e W' => ∃ v, e = .returned v ∧ Rows.stackDoesSpec.post enc Try.prog Try.f8 false true false false W args v W' := by
  have hW' := hW
  obtain ⟨p, q, hA0, hV, rfl, hfz, hnd⟩ := hW
  have hA : DataW.TrodAll enc Try.prog W 0 (fun _ => true) true Try.f8.params.toList args.toList ds p := hA0
  rw [Try.params8] at hA hval
  obtain ⟨v0, vs0, d0, ds0, p0, q0, hargs, rfl, rfl, h0, r0⟩ := trodAll_cons hA
  obtain ⟨v1, vs1, d1, ds1, p1, q1, rfl, rfl, rfl, h1, r1⟩ := trodAll_cons r0
  obtain ⟨v2, vs2, d2, ds2, p2, q2, rfl, rfl, rfl, h2, r2⟩ := trodAll_cons r1
  obtain ⟨rfl, rfl, rfl⟩ := trodAll_nil r2
  obtain rfl : args = #[v0, v1, v2] := by cases args; simp_all
  obtain ⟨rfl, -⟩ := trodVars_none (show DataW.TrodVars enc Try.prog W _ [] gs q from hV)
  have hbulk : Rows.uptoBulkAll [d0, d1, d2] ≤ 1048576 := by have h := of_decide_eq_true hk; simpa only [List.append_nil] using h
  clear hk
  obtain ⟨A0, c0, l0, rfl, hr0⟩ := openB_arg (hval 0 22 v0 rfl rfl) h0 (by simp only [Rows.uptoBulkAll] at hbulk; omega)
  obtain ⟨A1, c1, l1, rfl, hr1, hm1⟩ := openDeed_sl (hval 1 39 v1 rfl rfl) h1 (by simp only [Rows.uptoBulkAll] at hbulk; omega)
  obtain ⟨n2, rfl, -, -, wn2⟩ := open_int Try.underlying3 (hval 2 3 v2 rfl rfl) h2
  refine (walk W A0 A1 c0 c1 l0 l1 n2 hr0 hr1 hm1).mono fun e W1 ⟨he, hb⟩ => ?_
  exact ⟨_, he, law_post laidOut hW' rfl (by kernel_rfl) 4 Try.underlying4 rfl (fun _ => rfl) hb⟩

set_option maxRecDepth 100000 in
theorem lifted (os : Os) (started : os.Started) (H : Type) (enc : TypeId × Value → H) (F : Stop.Interp) :
    ReturnsInHanded {} Try.checked os 8 .any ((Rows.OpenSpec.upto Rows.stackDoesSpec).pre6 enc Try.prog Try.f8 Rows.stackDoesUptoRow.domain false) (((Rows.OpenSpec.upto Rows.stackDoesSpec).at F).post enc Try.prog Try.f8 false true false false) := by
  refine returnsInHanded_of_cond (C := Try.checked) (s := Rows.OpenSpec.upto Rows.stackDoesSpec) (k := Rows.uptoSmall) rfl own started (by kernel_rfl) Try.func8
    (OpenSpec.witness (enc := enc) (C := Try.checked) (s := Rows.OpenSpec.upto Rows.stackDoesSpec) (k := Rows.uptoSmall) rfl false ⟨#[], #[.slice none 0 0, .slice none 0 0, .int .i64 0], []⟩ 8 (by kernel_rfl) (by kernel_rfl) (by kernel_rfl)
      (x := ([.nil, .nil, .lit (.int .i64 0)], [], [])) (by kernel_rfl) rfl (by kernel_rfl)) ?_
  intro W base args ds gs before hval hW _ hk _
  exact contract H enc W base args ds gs before hval hW hk
theorem over : Rows.stackDoesUptoRow.holds Try.pinned (Rows.OpenSpec.upto Rows.stackDoesSpec) :=
  OpenClaim.holds_of_cond 8 Try.f8 rfl rfl rfl rfl rfl rfl rfl ⟨rfl, rfl, rfl, rfl, rfl⟩ rfl rfl rfl rfl rfl (by kernel_rfl) Try.func8 (by kernel_rfl)
    (of_decide_eq_true (by kernel_rfl)) (by unfold Func.isWrapper; first | (rw [if_pos (by decide +kernel)]; kernel_rfl) | (rw [if_neg (by decide +kernel)]; exact ⟨rfl, rfl⟩))
    (fun os started H enc _ F => lifted os started H enc F)
/-- THE STATEMENT -/
theorem proved : Rows.StackDoesUptoSaid :=
  over
#print axioms proved
end Go.Proofs.Ythjcanjhpdpibaa.stackDoes
