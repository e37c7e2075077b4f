/- Contracts: pats.Demands and its reference; slices.Clone at expressions; ast.Head. -/
import Derived.Test.YtnaakhnmbckpmaaFew
import Derived.WalkSpells
namespace Go.Proofs.Ytnaakhnmbckpmaa.Pats
open Go.ChangeShapes Go.WideShapes Go.ChangeAt Go.RowKit Go.Proofs.Ytnaakhnmbckpmaa.Lift Go.Proofs.Ytnaakhnmbckpmaa.Data Go.Proofs.Ytnaakhnmbckpmaa.Refs
set_option linter.unusedVariables false
set_option linter.unusedSimpArgs false
def demB (e : Ex) : Bool := e.k == 3 || e.k == 2 || e.k == 4
theorem demands_any (w0 : World) (e : Ex) (w : World) (v : Value) (hv : e.Val w0 v) : Calls Try.prog 18 #[v] w fun r w' => r = .returned (.bool (demB e)) ∧ Below w.heap.size w w' := by
  cases e with
  | mk k s n ys l c =>
  obtain ⟨A, cap, rfl, hd, hs⟩ := hv
  go_enter Try.func18, Try.ntmps18
  go_wp2_with fail
  all_goals
    go_ret
    exact ⟨ret_bool (by simp_all [demB, Ex.k]), (Below.refl _ _).alloc (Nat.le_refl _) _⟩
theorem demandsRef_any (w0 : World) (e : Ex) (w : World) (v : Value) (hv : e.Val w0 v) : Calls Try.prog 19 #[v] w fun r w' => r = .returned (.bool (demB e)) ∧ Below w.heap.size w w' := by
  cases e with
  | mk k s n ys l c =>
  obtain ⟨A, cap, rfl, hd, hs⟩ := hv
  go_enter Try.func19, Try.ntmps19
  go_wp2_with fail
  all_goals
    go_ret
    exact ⟨ret_bool (by simp_all [demB, Ex.k]), (Below.refl _ _).alloc (Nat.le_refl _) _⟩
set_option maxRecDepth 100000 in
theorem cloneEx_any (w0 : World) (es : List Ex) (w : World) (v : Value) (hv : Ex.Sl w0 v es) (h0 : Below w0.heap.size w0 w) : Calls Try.prog 70 #[v] w (NewEx w0 w.heap.size es w) := by
  obtain ⟨A, cap, rfl, ⟨hd1, hd2, hd3, hd4⟩, hs⟩ := hv
  cases A with
  | none =>
    have hc := hd4 rfl
    obtain rfl : es = [] := List.eq_nil_of_length_eq_zero (by omega)
    subst hc
    have he := fun (w : World) => Lib.run_eql_slice_nil (P := Try.prog) w 22 26 none 0 0 0 0 Try.underlying22
    go_enter Try.func70, Try.ntmps70
    go_wp2_with fail
    go_ret
    exact ⟨none, 0, [], rfl, World.ownsRow_nil _ _ _ _, by rw [ExCells], Below.refl _ _⟩
  | some a =>
    have he := fun (w : World) => Lib.run_eql_slice_nil (P := Try.prog) w 22 26 (some a) es.length cap 0 0 Try.underlying22
    obtain ⟨xs, hsrc, hcells⟩ := hs.cells
    obtain ⟨i0, hi, hz0, hz1, hz2⟩ := info_parts info26
    have hone := hcells.one
    have hb1 : Below w.heap.size w (w.alloc (.cells #[] 26)) := (Below.refl _ _).alloc (Nat.le_refl _) _
    have hown := own_new w 26 6 0 #[] rfl (by omega)
    have hs1 := hsrc.below (h0.trans (hb1.mono h0.size)) (Nat.le_refl _)
    have hcap : some a = none → cap = 0 := fun h => by cases h
    clear hd4 hsrc
    go_enter Try.func70, Try.ntmps70
    go_wp2_with (at_builtin; refine wpList_append_src rfl (.tmp 5) (.tmp 6) 22 rfl w.heap.size 26 i0 _ 6 72 Try.underlying22 hi hz0 hz1 hz2 rfl (by omega) _ 0 [] rfl hown (some a) es.length cap xs rfl hs1 hcap hone (by unfold maxLen; omega) (by omega) hb1.size ?_; intro v2 w2 hown2 hg2)
    go_ret
    obtain ⟨A2, cap2, rfl, _, _⟩ := own_form hown2
    have hb2 := below_grown hown hg2 hb1.size
    rw [Nat.zero_add] at hown2
    exact ⟨A2, cap2, _, by simp, hown2, hcells, hb1.trans hb2⟩
end Go.Proofs.Ytnaakhnmbckpmaa.Pats
