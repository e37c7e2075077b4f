/- A range over a function in a walk as any other's; a function that has one. -/
import Derived.RangeFuncNested
import Derived.RangeFuncBound
import Derived.RangeFuncCalls
import Derived.RangeFuncLeaves
import Derived.Test.YtccknhhjkkbadaaLift
namespace Go.Proofs.Ytccknhhjkkbadaa.Rf
open Go.RowKit
set_option linter.unusedVariables false
set_option linter.unusedSimpArgs false
variable {P : Program}
/-- a loop over a function that never calls its yield. -/
theorem wp_range_none {g : Operand} {ps : Array Tmp} {assign body : Code} {Q : Exit → Act → World → Prop} {a : Act} {w : World} {gf : Nat} {lb : Array Value}
    (hg : a.eval g = .func (.func gf) #[] lb) (eg : ∀ args w, (callFunc gf args).run P w = .ok (.enter gf args) w)
    (hcall : ∀ (l : Nat) (W : World), Below w.heap.size w W → Calls P gf (#[.func (.yield l) #[] #[]] ++ lb) W fun e W' => (∃ v, e = .returned v) ∧ W = W')
    (hdone : ∀ (D : Nat) (W : World), w.heap.size ≤ D → Below w.heap.size w W → W.heap[D]? = some (.deferred (some [])) → Q .normal { a with defers := { target := .collected D, args := #[] } :: a.defers } W) :
    (Code.rangeFunc g ps assign body).wp P Q a w :=
  (wpIn_wide (n := 5)).1 (wpIn_rangeFunc_ownF (F := Fence.wide) (n := 5) rfl (by omega) hg trivial eg (α := Empty) (encs := fun x => nomatch x) (Kp := fun _ _ => True) (S := fun xs => xs = []) (Sp := fun _ => False) (N := 0) (w0 := w)
    (fun l J Jx W hW hJ hJx hY h0 => callsIn_wide.2 ((hcall l W hW).mono fun e W' ⟨h1, h2⟩ => ⟨h1, .inl ⟨[], rfl, h2 ▸ h0⟩⟩))
    (fun _ _ => trivial) (fun _ _ _ _ _ _ _ _ => trivial) (Below.refl _ _) (fun x => nomatch x)
    (fun _ W => Below w.heap.size w W) (fun _ _ _ => False) (ownFrom_below (Nat.le_refl _) (Nat.le_refl _)) (fun _ _ _ _ _ h => h.elim) (Below.refl _ _) (fun x => nomatch x)
    (fun l x => nomatch x) (fun l pre x => nomatch x)
    (fun D xs W hD hS hI hK => hdone D W hD hI hK) (fun D c pre W _ h => h.elim))
/-- what a function's body must achieve, the loops' marks and all. -/
abbrev postM (P : Program) (fn : Func) (R : Ending → World → Prop) : Exit → Act → World → Prop := bodyPostM Fence.wide 5 P fn R
theorem calls_of_wp_marks {f : FuncId} {fn : Func} {c : Code} {args : Array Value} {w : World} {R : Ending → World → Prop} (hf : P.funcs[f]? = some fn) (hb : fn.body = some c)
    (h : c.wp P (postM P fn R) { tmps := args ++ Array.replicate (fn.ntmps - args.size) undef, defers := [] } w) : Calls P f args w R :=
  (callsIn_wide (n := 5)).1 (callsIn_of_wp_marks (F := Fence.wide) hf hb trivial ((wpIn_wide (n := 5)).2 h) rfl)
theorem postM_ret {fn : Func} {R : Ending → World → Prop} {a : Act} {w : World} {v : Value} (hr : (results fn a.tmps).run P w = .ok v w) (hd : a.defers = []) (h : R (.returned v) w) : postM P fn R .ret a w := by
  show LeavesInM Fence.wide 5 P fn a.tmps R a.defers .returning w
  rw [hd]
  exact ⟨v, hr, h⟩
/-- behind one such loop. -/
theorem postM_ret1 {fn : Func} {R : Ending → World → Prop} {a : Act} {w : World} {v : Value} {D : Nat} (hd : a.defers = [{ target := .collected D, args := #[] }]) (hK : w.heap[D]? = some (.deferred (some []))) (hr : ∀ w', (results fn a.tmps).run P w' = .ok v w') (h : R (.returned v) (w.putObj D (.deferred none))) : postM P fn R .ret a w := by
  show LeavesInM Fence.wide 5 P fn a.tmps R a.defers .returning w
  rw [hd]
  exact ⟨by simp, .inl ⟨D, _, rfl, run_takeDeferred hK, ⟨v, hr _, h⟩⟩⟩
/-- behind one such loop, the result in a cell. -/
theorem postM_ret1c {fn : Func} {R : Ending → World → Prop} {a : Act} {w : World} {v : Value} {D : Nat} (hd : a.defers = [{ target := .collected D, args := #[] }]) (hK : w.heap[D]? = some (.deferred (some []))) (hr : (results fn a.tmps).run P (w.putObj D (.deferred none)) = .ok v (w.putObj D (.deferred none))) (h : R (.returned v) (w.putObj D (.deferred none))) : postM P fn R .ret a w := by
  show LeavesInM Fence.wide 5 P fn a.tmps R a.defers .returning w
  rw [hd]
  exact ⟨by simp, .inl ⟨D, _, rfl, run_takeDeferred hK, ⟨v, hr, h⟩⟩⟩
theorem below_put {B D : Nat} {w0 w : World} (hb : Below B w0 w) (hB : B ≤ w.heap.size) (hD : B ≤ D) (hK : w.heap[D]? = some (.deferred (some []))) : Below B w0 (w.putObj D (.deferred none)) :=
  hb.grown (grownBy_putObj' w D _) hB (fun k e => by cases e; exact hD)
/-- a loop over a function that may be left by one exit: both ways out say the same. -/
theorem wp_range_upto {α : Type} {g : Operand} {ps : Array Tmp} {assign body : Code} {Q : Exit → Act → World → Prop} {a : Act} {w : World} {gf : Nat} {lb : Array Value} {k : Nat}
    (hg : a.eval g = .func (.func gf) #[] lb) (eg : ∀ args w, (callFunc gf args).run P w = .ok (.enter gf args) w)
    {encs : α → Array Value} {Kp : World → World → Prop} {S Sp : List α → Prop} {N : Nat} (hseq : SeqStopsK Fence.wide 4 P gf lb encs Kp S Sp N w)
    (hKt : ∀ {A B C : World}, Kp A B → Kp B C → Kp A C) (hKb : ∀ (W : World) (l : Nat) (o o' : Obj), w.heap.size ≤ l → W.heap[l]? = some o → o.isCells = false → o.isWalk = false → Kp W (W.putObj l o')) (hps : ∀ x, (encs x).size = ps.size)
    (I : List α → World → Prop) (Ix : Code → List α → World → Prop) (hI : OwnFrom w.heap.size I) (hIx : ∀ c, OwnFrom w.heap.size (Ix c)) (h0 : I [] w)
    (hQ : ∀ a W, Q .normal a W → Q (.exit k) a W) (E : World → Prop) (hE1 : ∀ xs W, S xs → I xs W → E W) (hE2 : ∀ c pre W, Sp pre → Ix c pre W → c = .exit k ∧ E W)
    (hab : ∃ a₁ : α → Act,
      (∀ (l : Nat) (x : α) (W : World) (K : Act → World → Prop), K (a₁ x) W →
        assign.wpIn (Fence.wide.inRound l) 3 P (Exit.then K (fun _ _ _ => False)) { tmps := (ps.zip (encs x)).foldl (fun t (p, v) => t.setIfInBounds p v) a.tmps, defers := [] } W) ∧
      (∀ (l : Nat) (pre : List α) (x : α) (W : World), I pre W → pre.length < N → body.wpIn (Fence.wide.inRound l) 3 P (ownPostK Kp I Ix (pre ++ [x]) W) (a₁ x) W))
    (hend : ∀ (D : Nat) (W : World), w.heap.size ≤ D → E W → W.heap[D]? = some (.deferred (some [])) → Q .normal { a with defers := { target := .collected D, args := #[] } :: a.defers } W) :
    (Code.rangeFunc g ps assign body).wp P Q a w :=
  let ⟨a₁, hassign, hbody⟩ := hab
  (wpIn_wide (n := 5)).1 (wpIn_rangeFunc_ownF (F := Fence.wide) (n := 5) rfl (by omega) hg trivial eg hseq hKt hKb (Below.refl _ _) hps I Ix hI hIx h0 a₁ hassign hbody
    (fun D xs W hD hS hi hK => hend D W hD (hE1 xs W hS hi) hK)
    (fun D c pre W hD hS hi hK => by
      obtain ⟨rfl, hE⟩ := hE2 c pre W hS hi
      exact (wpIn_wide (n := 5)).2 (wp_exit (hQ _ _ (hend D W hD hE hK)))))
/-- behind two such loops. -/
theorem postM_ret2 {fn : Func} {R : Ending → World → Prop} {a : Act} {w : World} {v : Value} {D D2 : Nat} (hd : a.defers = [{ target := .collected D2, args := #[] }, { target := .collected D, args := #[] }]) (hne : D ≠ D2) (hK2 : w.heap[D2]? = some (.deferred (some []))) (hK : w.heap[D]? = some (.deferred (some []))) (hr : ∀ w', (results fn a.tmps).run P w' = .ok v w') (h : R (.returned v) ((w.putObj D2 (.deferred none)).putObj D (.deferred none))) : postM P fn R .ret a w := by
  show LeavesInM Fence.wide 5 P fn a.tmps R a.defers .returning w
  rw [hd]
  refine ⟨by simp, .inl ⟨D2, _, rfl, run_takeDeferred hK2, ?_⟩⟩
  have hK' : (w.putObj D2 (.deferred none)).heap[D]? = some (.deferred (some [])) := by
    rw [← hK]
    exact (grownBy_putObj' w D2 (.deferred none)).block D (Array.getElem?_eq_some_iff.1 hK).1 (by simpa using hne)
  refine ⟨by simp, .inl ⟨D, _, rfl, run_takeDeferred hK', ⟨v, hr _, h⟩⟩⟩
end Go.Proofs.Ytccknhhjkkbadaa.Rf
