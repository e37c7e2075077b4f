/- A range over a function in a walk as any other's; a function that has one. -/
import Derived.RangeFuncNested
import Derived.RangeFuncBound
import Derived.RangeFuncCalls
import Derived.RangeFuncLeaves
import Derived.Test.YtccknhhjkkbadaaLift
namespace Go.Proofs.Ytccknhhjkkbadaa.Rf
open Go.RowKit
set_option linter.unusedVariables false
set_option linter.unusedSimpArgs false
variable {P : Program}
/-- a loop over a function that never calls its yield. -/
theorem wp_range_none {g : Operand} {ps : Array Tmp} {assign body : Code} {Q : Exit → Act → World → Prop} {a : Act} {w : World} {gf : Nat} {lb : Array Value}
    (hg : a.eval g = .func (.func gf) #[] lb) (eg : ∀ args w, (callFunc gf args).run P w = .ok (.enter gf args) w)
    (hcall : ∀ (l : Nat) (W : World), Below w.heap.size w W → Calls P gf (#[.func (.yield l) #[] #[]] ++ lb) W fun e W' => (∃ v, e = .returned v) ∧ W = W')
    (hdone : ∀ (D : Nat) (W : World), w.heap.size ≤ D → Below w.heap.size w W → W.heap[D]? = some (.deferred (some [])) → Q .normal { a with defers := { target := .collected D, args := #[] } :: a.defers } W) :
    (Code.rangeFunc g ps assign body).wp P Q a w :=
  (wpIn_wide (n := 5)).1 (wpIn_rangeFunc_ownF (F := Fence.wide) (n := 5) rfl (by omega) hg trivial eg (α := Empty) (encs := fun x => nomatch x) (Kp := fun _ _ => True) (S := fun xs => xs = []) (Sp := fun _ => False) (N := 0) (w0 := w)
    (fun l J Jx W hW hJ hJx hY h0 => callsIn_wide.2 ((hcall l W hW).mono fun e W' ⟨h1, h2⟩ => ⟨h1, .inl ⟨[], rfl, h2 ▸ h0⟩⟩))
    (fun _ _ => trivial) (fun _ _ _ _ _ _ _ _ => trivial) (Below.refl _ _) (fun x => nomatch x)
    (fun _ W => Below w.heap.size w W) (fun _ _ _ => False) (ownFrom_below (Nat.le_refl _) (Nat.le_refl _)) (fun _ _ _ _ _ h => h.elim) (Below.refl _ _) (fun x => nomatch x)
    (fun l x => nomatch x) (fun l pre x => nomatch x)
    (fun D xs W hD hS hI hK => hdone D W hD hI hK) (fun D c pre W _ h => h.elim))
/-- what a function's body must achieve, the loops' marks and all. -/
abbrev postM (P : Program) (fn : Func) (R : Ending → World → Prop) : Exit → Act → World → Prop := bodyPostM Fence.wide 5 P fn R
theorem calls_of_wp_marks {f : FuncId} {fn : Func} {c : Code} {args : Array Value} {w : World} {R : Ending → World → Prop} (hf : P.funcs[f]? = some fn) (hb : fn.body = some c)
    (h : c.wp P (postM P fn R) { tmps := args ++ Array.replicate (fn.ntmps - args.size) undef, defers := [] } w) : Calls P f args w R :=
  (callsIn_wide (n := 5)).1 (callsIn_of_wp_marks (F := Fence.wide) hf hb trivial ((wpIn_wide (n := 5)).2 h) rfl)
theorem postM_ret {fn : Func} {R : Ending → World → Prop} {a : Act} {w : World} {v : Value} (hr : (results fn a.tmps).run P w = .ok v w) (hd : a.defers = []) (h : R (.returned v) w) : postM P fn R .ret a w := by
  show LeavesInM Fence.wide 5 P fn a.tmps R a.defers .returning w
  rw [hd]
  exact ⟨v, hr, h⟩
/-- behind one such loop. -/
theorem postM_ret1 {fn : Func} {R : Ending → World → Prop} {a : Act} {w : World} {v : Value} {D : Nat} (hd : a.defers = [{ target := .collected D, args := #[] }]) (hK : w.heap[D]? = some (.deferred (some []))) (hr : ∀ w', (results fn a.tmps).run P w' = .ok v w') (h : R (.returned v) (w.putObj D (.deferred none))) : postM P fn R .ret a w := by
  show LeavesInM Fence.wide 5 P fn a.tmps R a.defers .returning w
  rw [hd]
  exact ⟨by simp, .inl ⟨D, _, rfl, run_takeDeferred hK, ⟨v, hr _, h⟩⟩⟩
theorem below_put {B D : Nat} {w0 w : World} (hb : Below B w0 w) (hB : B ≤ w.heap.size) (hD : B ≤ D) (hK : w.heap[D]? = some (.deferred (some []))) : Below B w0 (w.putObj D (.deferred none)) :=
  hb.grown (grownBy_putObj' w D _) hB (fun k e => by cases e; exact hD)
end Go.Proofs.Ytccknhhjkkbadaa.Rf
