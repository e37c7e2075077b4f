/-
  NARROWER THAN 'FOR EVERY INPUT', by the rows' own cells (each row's printed sentence says how): CoreFits: loops · CoreRight: loops.
  DERIVED. THE GIVEN ROWS OF THIS SEAT. 2 by the template 'for every input the law returns true; each argument reads behind the call as it read before'; 0 by the template 'total and deterministic' (their statements: YtkcgbakjpodmeaaTotals.lean).
  GIVEN WITH THE SEED: the statements are not yours to turn. If you find one false, say at which input.
  Laid BY PROGRAM, IN A SANDBOX (cutbox-rows.mjs): the forced cells as the released guide's own fill.sh prints them over the translation 3faeb6bb13e7b6d5… (all of the seat's roots in one cut). By AI agents, Wed Nov 11 2026. No macro, syntax, notation, axiom, sorry.
-/
import Derived.Test.YtkcgbakjpodmeaaChecked
import GoSem.Claim
import GoSem.ClaimJoined
import GoSem.ClaimMapViews
import Derived.JoinedTies
import Derived.KernelRfl
namespace Go.Proofs.Ytkcgbakjpodmeaa
/- THE CELL 'sum', in the pinned program and in every row, IS THE sha256 OF THE DUMP (.gsa) THAT YtkcgbakjpodmeaaProg.lean LOADS. Nothing in Lean hashes anything: it is a label: what it is worth is what the hold of that sum in a sandbox is worth. -/
noncomputable def Try.pinned : Pinned := { name := "ytkcgbakjpodmeaa", sum := "3faeb6bb13e7b6d5bf2e5a6ac2717e25d1035c815bf13237f14cc5c6909e10d5", checked := Try.checked }
namespace Rows
def none {H : Type} : Left H := { results := [], args := [] }

/-- 'whimbrellaw17.CoreFits': WHATEVER THE INPUT: true; the input reads as it did. -/
def coreFitsSpec : ChangeSpec := { name := "coreFits", fn := fun _ => fun
  | [d1, d2, d3, d4] => { results := [.lit (.bool true)], args := [d1, d2, d3, d4] }
  | _ => none }
def coreFitsRow : OpenClaim := { program := "ytkcgbakjpodmeaa", sum := "3faeb6bb13e7b6d5bf2e5a6ac2717e25d1035c815bf13237f14cc5c6909e10d5", func := "whimbrel/whimbrellaw17.CoreFits", spec := "coreFits", unfollowed := true, recurses := true, loops := true, apart := false }
def CoreFitsSaid : Prop := coreFitsRow.holds Try.pinned (OpenSpec.ofChange coreFitsSpec)

/-- ITS FALSE NEIGHBOUR: 'it returns false'. Refute it at one input. -/
def coreFitsWrong : ChangeSpec := { name := "coreFits", fn := fun _ => fun
  | [d1, d2, d3, d4] => { results := [.lit (.bool false)], args := [d1, d2, d3, d4] }
  | _ => none }
def CoreFitsWrongFalsely : Prop := coreFitsRow.holds Try.pinned (OpenSpec.ofChange coreFitsWrong)

/-- 'whimbrellaw17.CoreRight': WHATEVER THE INPUT: true; the input reads as it did. -/
def coreRightSpec : ChangeSpec := { name := "coreRight", fn := fun _ => fun
  | [d1, d2] => { results := [.lit (.bool true)], args := [d1, d2] }
  | _ => none }
def coreRightRow : OpenClaim := { program := "ytkcgbakjpodmeaa", sum := "3faeb6bb13e7b6d5bf2e5a6ac2717e25d1035c815bf13237f14cc5c6909e10d5", func := "whimbrel/whimbrellaw17.CoreRight", spec := "coreRight", unfollowed := true, recurses := true, loops := true, apart := false }
def CoreRightSaid : Prop := coreRightRow.holds Try.pinned (OpenSpec.ofChange coreRightSpec)

/-- ITS FALSE NEIGHBOUR: 'it returns false'. Refute it at one input. -/
def coreRightWrong : ChangeSpec := { name := "coreRight", fn := fun _ => fun
  | [d1, d2] => { results := [.lit (.bool false)], args := [d1, d2] }
  | _ => none }
def CoreRightWrongFalsely : Prop := coreRightRow.holds Try.pinned (OpenSpec.ofChange coreRightWrong)

/- THE SECOND FORM. 'bulk': how many values and letters a reading holds, each counted each time it is reached (what is shared counts as often as it is met; a slice's spare places count too). A statement '..UptoSaid' is the law's where the arguments, and the package variables that the reading takes, are together of bulk at most 1048576: NARROWER than '..Said'. Prove '..Said' where nothing that the law and all that it calls make is longer than what came in: it says more and counts as full. Else prove '..UptoSaid'. A law counts once. -/
mutual
def uptoBulk {H : Type} : DataW H → Nat
  | .lit (.string bytes) => bytes.length + 1
  | .lit _ => 1
  | .nil => 1
  | .ptr d => uptoBulk d + 1
  | .slice elems spare => uptoBulkAll elems + uptoBulkAll spare + 1
  | .agg parts => uptoBulkAll parts + 1
  | .iface _ d => uptoBulk d + 1
  | .map entries => uptoBulkEntries entries + 1
  | .held _ => 1
def uptoBulkAll {H : Type} : List (DataW H) → Nat
  | [] => 0
  | d :: r => uptoBulk d + uptoBulkAll r
def uptoBulkEntries {H : Type} : List (Lit × DataW H) → Nat
  | [] => 0
  | x :: r => uptoBulkEntry x + uptoBulkEntries r
def uptoBulkEntry {H : Type} : Lit × DataW H → Nat
  | (.string bytes, d) => bytes.length + uptoBulk d + 1
  | (_, d) => uptoBulk d + 1
 end
def uptoSmall : (H : Type) → List (DataW H) → Bool := fun _ ds => decide (uptoBulkAll ds ≤ 1048576)
def OpenSpec.upto (s : _root_.Go.ChangeSpec) : _root_.Go.OpenSpec := { _root_.Go.OpenSpec.ofChange s with cond := some uptoSmall }

/-- 'whimbrellaw17.CoreFits', WHERE WHAT IT READS IS OF BULK AT MOST 1048576: true; the input reads as it did. -/
def coreFitsUptoRow : OpenClaim := { program := "ytkcgbakjpodmeaa", sum := "3faeb6bb13e7b6d5bf2e5a6ac2717e25d1035c815bf13237f14cc5c6909e10d5", func := "whimbrel/whimbrellaw17.CoreFits", spec := "coreFits", unfollowed := true, recurses := true, loops := true, apart := false, narrowed := true }
def CoreFitsUptoSaid : Prop := coreFitsUptoRow.holds Try.pinned (OpenSpec.upto coreFitsSpec)

/-- 'whimbrellaw17.CoreRight', WHERE WHAT IT READS IS OF BULK AT MOST 1048576: true; the input reads as it did. -/
def coreRightUptoRow : OpenClaim := { program := "ytkcgbakjpodmeaa", sum := "3faeb6bb13e7b6d5bf2e5a6ac2717e25d1035c815bf13237f14cc5c6909e10d5", func := "whimbrel/whimbrellaw17.CoreRight", spec := "coreRight", unfollowed := true, recurses := true, loops := true, apart := false, narrowed := true }
def CoreRightUptoSaid : Prop := coreRightUptoRow.holds Try.pinned (OpenSpec.upto coreRightSpec)

end Rows
end Go.Proofs.Ytkcgbakjpodmeaa
