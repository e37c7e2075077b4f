/- From a walk to a row: a law that answers true and leaves all memory below the old heap's end alone. -/
import Derived.Test.YtnaakhnmbckpmaaRows
import Derived.WalkKit
import Derived.ProofKit
import Derived.OpenShut
import Derived.JoinedCond
import Derived.Lib.Hide
import Derived.Deep.QuietTactic
import Derived.BigQuiet
import Derived.StillTailTactics
namespace Go.Proofs.Ytnaakhnmbckpmaa.Lift
open Go.ChangeShapes Go.WideShapes Go.ChangeAt Go.RowKit
set_option linter.unusedVariables false
set_option linter.unusedSimpArgs false

theorem own : ownKnob Try.prog.godebug = none := by kernel_rfl
theorem laidOut : laidOutB Try.prog = true := by kernel_rfl
def readB (P : Program) (ts : List TypeId) : Bool := ts.all fun t => P.readableRec t && decide (t < P.types.size)

/-- what a call leaves alone, as rules of the walk. -/
theorem bcell {W w1 : World} (hb : Below W.heap.size W w1) : ∀ b o, b < W.heap.size → w1.cell? ⟨b, o, none⟩ = W.cell? ⟨b, o, none⟩ :=
  fun b o h => hb.cell (p := ⟨b, o, none⟩) h
theorem bfrozen {W w1 : World} (hb : Below W.heap.size W w1) : ∀ b o, b < W.heap.size → w1.frozen? ⟨b, o, none⟩ = W.frozen? ⟨b, o, none⟩ :=
  fun b o h => hb.frozen (p := ⟨b, o, none⟩) h
theorem ret_bool {a b : Bool} (h : a = b) : Ending.returned (.bool a) = .returned (.bool b) := by rw [h]
theorem ret_int {k : IntKind} {a b : Int} (h : a = b) : Ending.returned (.int k a) = .returned (.int k b) := by rw [h]
theorem below_drewN {B : Nat} {a w : World} (h : Below B a w) (n : Nat) : Below B a (w.drewN n) := ⟨h.os, h.tape, h.output, h.size, h.block⟩
theorem _root_.Go.RowKit.Below.drewN {B : Nat} {a w : World} (h : Below B a w) (n : Nat) : Below B a (w.drewN n) := ⟨h.os, h.tape, h.output, h.size, h.block⟩
/-- a call that was made behind a new block. -/
theorem _root_.Go.RowKit.Below.after {B : Nat} {w wr w' : World} (hb : Below B w wr) (hB : B ≤ wr.heap.size) (o : Obj) (h : Below (wr.alloc o).heap.size (wr.alloc o) w') : Below B w w' :=
  hb.trans (((Below.refl B wr).alloc hB o).trans (h.mono (by simp; omega)))
/-- what a call behind a new block leaves. -/
theorem _root_.Go.RowKit.Below.call1 {wr w' : World} {o : Obj} (h : Below (wr.alloc o).heap.size (wr.alloc o) w') : Below wr.heap.size wr w' := (Below.refl _ _).after (Nat.le_refl _) o h
theorem _root_.Go.RowKit.Below.call2 {wr w' : World} {o o' : Obj} (h : Below ((wr.alloc o).alloc o').heap.size ((wr.alloc o).alloc o') w') : Below wr.heap.size wr w' := Below.call1 (Below.call1 h)
theorem _root_.Go.RowKit.Below.calld {wr w' : World} {n : Nat} (h : Below (wr.drewN n).heap.size (wr.drewN n) w') : Below wr.heap.size wr w' := ((Below.refl _ _).drewN n).trans h
/-- a call. -/
theorem _root_.Go.RowKit.Below.thenCall {B : Nat} {w wr w' : World} (hb : Below B w wr) (hB : B ≤ wr.heap.size) (h : Below wr.heap.size wr w') : Below B w w' := hb.trans (h.mono hB)

section
variable {H : Type} {enc : TypeId × Value → H} {P : Program}
theorem trodAll_below (hlaid : laidOutB P = true) {W W' : World} (hb : Below W.heap.size W W') (sp : Nat → Bool) : ∀ (ts : List TypeId) (vs : List Value) (ds : List (DataW H)) (ps : List MemPlace),
    readB P ts = true → DataW.TrodAll enc P W 0 (fun _ => true) true ts vs ds ps → (∀ x ∈ ps, x.block < W.heap.size) → (∀ x ∈ ps, sp x.block = true) → DataW.TrodAll enc P W' 0 sp true ts vs ds ps
  | [], vs, ds, ps, _, h, _, _ => by
    obtain ⟨rfl, rfl, rfl⟩ := trodAll_nil h
    exact trodAll_mk0
  | t :: ts, vs, ds, ps, hr, h, hl, hs => by
    obtain ⟨v, vs, d, ds, p, q, rfl, rfl, rfl, h0, h1⟩ := trodAll_cons h
    simp only [readB, List.all_cons, Bool.and_eq_true, decide_eq_true_eq] at hr
    refine trodAll_cons_mk (WideElems.Trod_stays hlaid hr.1.1 hr.1.2 h0 (fun x hx => hb.same (hl x (List.mem_append_left _ hx))) (fun x hx => hs x (List.mem_append_left _ hx))) ?_
    exact trodAll_below hlaid hb sp ts vs ds q (by simpa [readB] using hr.2) h1 (fun x hx => hl x (List.mem_append_right _ hx)) (fun x hx => hs x (List.mem_append_right _ hx))

/-- the post of a law: true, the arguments as they were, nothing old has turned. -/
theorem law_post (hlaid : laidOutB P = true) {f : Func} {s : ChangeSpec} {W W' : World} {args : Array Value} {ds gs : List (DataW H)} {before : List MemPlace}
    (hW : DataW.Whole enc P f.params.toList s.vars false W args.toList ds gs before)
    (hvars : s.vars = []) (hread : readB P f.params.toList = true) (t : TypeId) (ht : P.underlying t = some .bool) (hres : f.resultTypes = #[t])
    (hfn : ds.length = f.params.toList.length → s.fn H ds = { results := [.lit (.bool true)], args := ds }) (hb : Below W.heap.size W W') :
    s.post enc P f false true false false W args (.bool true) W' := by
  have hW0 := hW
  obtain ⟨p, q, hA, hV, rfl, hz, hn⟩ := hW
  rw [hvars] at hV
  obtain ⟨rfl, rfl⟩ := trodVars_none hV
  have hl : ds.length = f.params.toList.length := by
    have go : ∀ (ts : List TypeId) (vs : List Value) (ds : List (DataW H)) (ps : List MemPlace), DataW.TrodAll enc P W 0 (fun _ => true) true ts vs ds ps → ds.length = ts.length := by
      intro ts
      induction ts with
      | nil => intro vs ds ps h; obtain ⟨rfl, rfl, rfl⟩ := trodAll_nil h; rfl
      | cons t ts ih =>
        intro vs ds ps h
        obtain ⟨v, vs, d, ds, p, q, rfl, rfl, rfl, h0, h1⟩ := trodAll_cons h
        simp [ih _ _ _ h1]
    exact go _ _ _ _ hA
  have e := hfn hl
  simp only [List.append_nil] at hW0
  have hlt : ∀ x ∈ p, x.block < W.heap.size := fun x hx => by simpa using hW0.lt x hx
  have hold : ∀ x ∈ p, (fun b => decide (b < W.heap.size)) x.block = true := fun x hx => by simpa using hlt x hx
  refine ⟨ds, [], p, [], p, [], hW0, ?_, ?_, ?_, World.keptBut_mono (fun x hx => ⟨hx, ?_⟩) (hb.frame (· ∈ p)), fun h => by cases h⟩
  · simp only [List.append_nil, e, hres]
    exact trodAll_cons_mk (shut_bool ht _) trodAll_mk0
  · simp only [List.append_nil, e]
    exact trodAll_below hlaid hb _ _ _ _ _ hread hA hlt hold
  · simp only [List.append_nil, e, hvars]
    exact rfl
  · simp [hx]
end
end Go.Proofs.Ytnaakhnmbckpmaa.Lift
