/-
  No cell of these rows narrows 'for every input' (looked for: loops, veiled, ifaces, maps, wideKeys, modest, calm, conditions, laid).
  DERIVED. THE GIVEN ROWS OF THIS SEAT. 6 by the template 'for every input the law returns true; each argument reads behind the call as it read before'; 0 by the template 'total and deterministic' (their statements: YthjcanjhpdpibaaTotals.lean).
  GIVEN WITH THE SEED: the statements are not yours to turn. If you find one false, say at which input.
  Laid BY PROGRAM, IN A SANDBOX (cutbox-rows.mjs): the forced cells as the released guide's own fill.sh prints them over the translation b6686b5ca8c8dac4… (all of the seat's roots in one cut). By AI agents, Wed Nov 11 2026. No macro, syntax, notation, axiom, sorry.
-/
import Derived.Test.YthjcanjhpdpibaaChecked
import GoSem.Claim
import GoSem.ClaimJoined
import GoSem.ClaimMapViews
import Derived.JoinedTies
import Derived.KernelRfl
namespace Go.Proofs.Ythjcanjhpdpibaa
/- THE CELL 'sum', in the pinned program and in every row, IS THE sha256 OF THE DUMP (.gsa) THAT YthjcanjhpdpibaaProg.lean LOADS. Nothing in Lean hashes anything: it is a label: what it is worth is what the hold of that sum in a sandbox is worth. -/
noncomputable def Try.pinned : Pinned := { name := "ythjcanjhpdpibaa", sum := "b6686b5ca8c8dac4b9e245caffc2d7db65d8ae567542d4d30e80da0d22c0c86c", checked := Try.checked }
namespace Rows
def none {H : Type} : Left H := { results := [], args := [] }

/-- 'whimbrellaw28.StackBack': WHATEVER THE INPUT: true; the input reads as it did. -/
def stackBackSpec : ChangeSpec := { name := "stackBack", fn := fun _ => fun
  | [d] => { results := [.lit (.bool true)], args := [d] }
  | _ => none }
def stackBackRow : OpenClaim := { program := "ythjcanjhpdpibaa", sum := "b6686b5ca8c8dac4b9e245caffc2d7db65d8ae567542d4d30e80da0d22c0c86c", func := "whimbrel/whimbrellaw28.StackBack", spec := "stackBack", apart := false }
def StackBackSaid : Prop := stackBackRow.holds Try.pinned (OpenSpec.ofChange stackBackSpec)

/-- ITS FALSE NEIGHBOUR: 'it returns false'. Refute it at one input. -/
def stackBackWrong : ChangeSpec := { name := "stackBack", fn := fun _ => fun
  | [d] => { results := [.lit (.bool false)], args := [d] }
  | _ => none }
def StackBackWrongFalsely : Prop := stackBackRow.holds Try.pinned (OpenSpec.ofChange stackBackWrong)

/-- 'whimbrellaw22.PrimTwo': WHATEVER THE INPUT: true; the input reads as it did. -/
def primTwoSpec : ChangeSpec := { name := "primTwo", fn := fun _ => fun
  | [d1, d2] => { results := [.lit (.bool true)], args := [d1, d2] }
  | _ => none }
def primTwoRow : OpenClaim := { program := "ythjcanjhpdpibaa", sum := "b6686b5ca8c8dac4b9e245caffc2d7db65d8ae567542d4d30e80da0d22c0c86c", func := "whimbrel/whimbrellaw22.PrimTwo", spec := "primTwo", unfollowed := true, recurses := true, apart := false }
def PrimTwoSaid : Prop := primTwoRow.holds Try.pinned (OpenSpec.ofChange primTwoSpec)

/-- ITS FALSE NEIGHBOUR: 'it returns false'. Refute it at one input. -/
def primTwoWrong : ChangeSpec := { name := "primTwo", fn := fun _ => fun
  | [d1, d2] => { results := [.lit (.bool false)], args := [d1, d2] }
  | _ => none }
def PrimTwoWrongFalsely : Prop := primTwoRow.holds Try.pinned (OpenSpec.ofChange primTwoWrong)

/-- 'whimbrellaw22.PrimOrder': WHATEVER THE INPUT: true; the input reads as it did. -/
def primOrderSpec : ChangeSpec := { name := "primOrder", fn := fun _ => fun
  | [d1, d2, d3] => { results := [.lit (.bool true)], args := [d1, d2, d3] }
  | _ => none }
def primOrderRow : OpenClaim := { program := "ythjcanjhpdpibaa", sum := "b6686b5ca8c8dac4b9e245caffc2d7db65d8ae567542d4d30e80da0d22c0c86c", func := "whimbrel/whimbrellaw22.PrimOrder", spec := "primOrder", unfollowed := true, recurses := true, apart := false }
def PrimOrderSaid : Prop := primOrderRow.holds Try.pinned (OpenSpec.ofChange primOrderSpec)

/-- ITS FALSE NEIGHBOUR: 'it returns false'. Refute it at one input. -/
def primOrderWrong : ChangeSpec := { name := "primOrder", fn := fun _ => fun
  | [d1, d2, d3] => { results := [.lit (.bool false)], args := [d1, d2, d3] }
  | _ => none }
def PrimOrderWrongFalsely : Prop := primOrderRow.holds Try.pinned (OpenSpec.ofChange primOrderWrong)

/-- 'whimbrellaw22.PrimDoes': WHATEVER THE INPUT: true; the input reads as it did. -/
def primDoesSpec : ChangeSpec := { name := "primDoes", fn := fun _ => fun
  | [d1, d2, d3] => { results := [.lit (.bool true)], args := [d1, d2, d3] }
  | _ => none }
def primDoesRow : OpenClaim := { program := "ythjcanjhpdpibaa", sum := "b6686b5ca8c8dac4b9e245caffc2d7db65d8ae567542d4d30e80da0d22c0c86c", func := "whimbrel/whimbrellaw22.PrimDoes", spec := "primDoes", unfollowed := true, recurses := true, apart := false }
def PrimDoesSaid : Prop := primDoesRow.holds Try.pinned (OpenSpec.ofChange primDoesSpec)

/-- ITS FALSE NEIGHBOUR: 'it returns false'. Refute it at one input. -/
def primDoesWrong : ChangeSpec := { name := "primDoes", fn := fun _ => fun
  | [d1, d2, d3] => { results := [.lit (.bool false)], args := [d1, d2, d3] }
  | _ => none }
def PrimDoesWrongFalsely : Prop := primDoesRow.holds Try.pinned (OpenSpec.ofChange primDoesWrong)

/-- 'whimbrellaw28.StackCuts': WHATEVER THE INPUT: true; the input reads as it did. -/
def stackCutsSpec : ChangeSpec := { name := "stackCuts", fn := fun _ => fun
  | [d1, d2] => { results := [.lit (.bool true)], args := [d1, d2] }
  | _ => none }
def stackCutsRow : OpenClaim := { program := "ythjcanjhpdpibaa", sum := "b6686b5ca8c8dac4b9e245caffc2d7db65d8ae567542d4d30e80da0d22c0c86c", func := "whimbrel/whimbrellaw28.StackCuts", spec := "stackCuts", apart := false }
def StackCutsSaid : Prop := stackCutsRow.holds Try.pinned (OpenSpec.ofChange stackCutsSpec)

/-- ITS FALSE NEIGHBOUR: 'it returns false'. Refute it at one input. -/
def stackCutsWrong : ChangeSpec := { name := "stackCuts", fn := fun _ => fun
  | [d1, d2] => { results := [.lit (.bool false)], args := [d1, d2] }
  | _ => none }
def StackCutsWrongFalsely : Prop := stackCutsRow.holds Try.pinned (OpenSpec.ofChange stackCutsWrong)

/-- 'whimbrellaw28.StackDoes': WHATEVER THE INPUT: true; the input reads as it did. -/
def stackDoesSpec : ChangeSpec := { name := "stackDoes", fn := fun _ => fun
  | [d1, d2, d3] => { results := [.lit (.bool true)], args := [d1, d2, d3] }
  | _ => none }
def stackDoesRow : OpenClaim := { program := "ythjcanjhpdpibaa", sum := "b6686b5ca8c8dac4b9e245caffc2d7db65d8ae567542d4d30e80da0d22c0c86c", func := "whimbrel/whimbrellaw28.StackDoes", spec := "stackDoes", unfollowed := true, recurses := true, apart := false }
def StackDoesSaid : Prop := stackDoesRow.holds Try.pinned (OpenSpec.ofChange stackDoesSpec)

/-- ITS FALSE NEIGHBOUR: 'it returns false'. Refute it at one input. -/
def stackDoesWrong : ChangeSpec := { name := "stackDoes", fn := fun _ => fun
  | [d1, d2, d3] => { results := [.lit (.bool false)], args := [d1, d2, d3] }
  | _ => none }
def StackDoesWrongFalsely : Prop := stackDoesRow.holds Try.pinned (OpenSpec.ofChange stackDoesWrong)

/- THE SECOND FORM. 'bulk': how many values and letters a reading holds, each counted each time it is reached (what is shared counts as often as it is met; a slice's spare places count too). A statement '..UptoSaid' is the law's where the arguments, and the package variables that the reading takes, are together of bulk at most 1048576: NARROWER than '..Said'. Prove '..Said' where nothing that the law and all that it calls make is longer than what came in: it says more and counts as full. Else prove '..UptoSaid'. A law counts once. -/
mutual
def uptoBulk {H : Type} : DataW H → Nat
  | .lit (.string bytes) => bytes.length + 1
  | .lit _ => 1
  | .nil => 1
  | .ptr d => uptoBulk d + 1
  | .slice elems spare => uptoBulkAll elems + uptoBulkAll spare + 1
  | .agg parts => uptoBulkAll parts + 1
  | .iface _ d => uptoBulk d + 1
  | .map entries => uptoBulkEntries entries + 1
  | .held _ => 1
def uptoBulkAll {H : Type} : List (DataW H) → Nat
  | [] => 0
  | d :: r => uptoBulk d + uptoBulkAll r
def uptoBulkEntries {H : Type} : List (Lit × DataW H) → Nat
  | [] => 0
  | x :: r => uptoBulkEntry x + uptoBulkEntries r
def uptoBulkEntry {H : Type} : Lit × DataW H → Nat
  | (.string bytes, d) => bytes.length + uptoBulk d + 1
  | (_, d) => uptoBulk d + 1
 end
def uptoSmall : (H : Type) → List (DataW H) → Bool := fun _ ds => decide (uptoBulkAll ds ≤ 1048576)
def OpenSpec.upto (s : _root_.Go.ChangeSpec) : _root_.Go.OpenSpec := { _root_.Go.OpenSpec.ofChange s with cond := some uptoSmall }

/-- 'whimbrellaw28.StackBack', WHERE WHAT IT READS IS OF BULK AT MOST 1048576: true; the input reads as it did. -/
def stackBackUptoRow : OpenClaim := { program := "ythjcanjhpdpibaa", sum := "b6686b5ca8c8dac4b9e245caffc2d7db65d8ae567542d4d30e80da0d22c0c86c", func := "whimbrel/whimbrellaw28.StackBack", spec := "stackBack", apart := false, narrowed := true }
def StackBackUptoSaid : Prop := stackBackUptoRow.holds Try.pinned (OpenSpec.upto stackBackSpec)

/-- 'whimbrellaw22.PrimTwo', WHERE WHAT IT READS IS OF BULK AT MOST 1048576: true; the input reads as it did. -/
def primTwoUptoRow : OpenClaim := { program := "ythjcanjhpdpibaa", sum := "b6686b5ca8c8dac4b9e245caffc2d7db65d8ae567542d4d30e80da0d22c0c86c", func := "whimbrel/whimbrellaw22.PrimTwo", spec := "primTwo", unfollowed := true, recurses := true, apart := false, narrowed := true }
def PrimTwoUptoSaid : Prop := primTwoUptoRow.holds Try.pinned (OpenSpec.upto primTwoSpec)

/-- 'whimbrellaw22.PrimOrder', WHERE WHAT IT READS IS OF BULK AT MOST 1048576: true; the input reads as it did. -/
def primOrderUptoRow : OpenClaim := { program := "ythjcanjhpdpibaa", sum := "b6686b5ca8c8dac4b9e245caffc2d7db65d8ae567542d4d30e80da0d22c0c86c", func := "whimbrel/whimbrellaw22.PrimOrder", spec := "primOrder", unfollowed := true, recurses := true, apart := false, narrowed := true }
def PrimOrderUptoSaid : Prop := primOrderUptoRow.holds Try.pinned (OpenSpec.upto primOrderSpec)

/-- 'whimbrellaw22.PrimDoes', WHERE WHAT IT READS IS OF BULK AT MOST 1048576: true; the input reads as it did. -/
def primDoesUptoRow : OpenClaim := { program := "ythjcanjhpdpibaa", sum := "b6686b5ca8c8dac4b9e245caffc2d7db65d8ae567542d4d30e80da0d22c0c86c", func := "whimbrel/whimbrellaw22.PrimDoes", spec := "primDoes", unfollowed := true, recurses := true, apart := false, narrowed := true }
def PrimDoesUptoSaid : Prop := primDoesUptoRow.holds Try.pinned (OpenSpec.upto primDoesSpec)

/-- 'whimbrellaw28.StackCuts', WHERE WHAT IT READS IS OF BULK AT MOST 1048576: true; the input reads as it did. -/
def stackCutsUptoRow : OpenClaim := { program := "ythjcanjhpdpibaa", sum := "b6686b5ca8c8dac4b9e245caffc2d7db65d8ae567542d4d30e80da0d22c0c86c", func := "whimbrel/whimbrellaw28.StackCuts", spec := "stackCuts", apart := false, narrowed := true }
def StackCutsUptoSaid : Prop := stackCutsUptoRow.holds Try.pinned (OpenSpec.upto stackCutsSpec)

/-- 'whimbrellaw28.StackDoes', WHERE WHAT IT READS IS OF BULK AT MOST 1048576: true; the input reads as it did. -/
def stackDoesUptoRow : OpenClaim := { program := "ythjcanjhpdpibaa", sum := "b6686b5ca8c8dac4b9e245caffc2d7db65d8ae567542d4d30e80da0d22c0c86c", func := "whimbrel/whimbrellaw28.StackDoes", spec := "stackDoes", unfollowed := true, recurses := true, apart := false, narrowed := true }
def StackDoesUptoSaid : Prop := stackDoesUptoRow.holds Try.pinned (OpenSpec.upto stackDoesSpec)

end Rows
end Go.Proofs.Ythjcanjhpdpibaa
