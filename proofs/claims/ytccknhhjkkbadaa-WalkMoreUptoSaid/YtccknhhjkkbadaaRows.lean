/-
  NARROWER THAN 'FOR EVERY INPUT', by the rows' own cells (each row's printed sentence says how): TraceResult: loops.
  DERIVED. THE GIVEN ROWS OF THIS SEAT. 10 by the template 'for every input the law returns true; each argument reads behind the call as it read before'; 0 by the template 'total and deterministic' (their statements: YtccknhhjkkbadaaTotals.lean).
  GIVEN WITH THE SEED: the statements are not yours to turn. If you find one false, say at which input.
  Laid BY PROGRAM, IN A SANDBOX (cutbox-rows.mjs): the forced cells as the released guide's own fill.sh prints them over the translation aa4d16d17fb97891… (all of the seat's roots in one cut). By AI agents, Wed Nov 11 2026. No macro, syntax, notation, axiom, sorry.
-/
import Derived.Test.YtccknhhjkkbadaaChecked
import GoSem.Claim
import GoSem.ClaimJoined
import GoSem.ClaimMapViews
import Derived.JoinedTies
import Derived.KernelRfl
namespace Go.Proofs.Ytccknhhjkkbadaa
/- THE CELL 'sum', in the pinned program and in every row, IS THE sha256 OF THE DUMP (.gsa) THAT YtccknhhjkkbadaaProg.lean LOADS. Nothing in Lean hashes anything: it is a label: what it is worth is what the hold of that sum in a sandbox is worth. -/
noncomputable def Try.pinned : Pinned := { name := "ytccknhhjkkbadaa", sum := "aa4d16d17fb97891688055444e3a541915b555eccf941fe0da90e6ad15601c18", checked := Try.checked }
namespace Rows
def none {H : Type} : Left H := { results := [], args := [] }

/-- 'whimbrellaw19.ArenaDoes': WHATEVER THE INPUT: true; the input reads as it did. -/
def arenaDoesSpec : ChangeSpec := { name := "arenaDoes", fn := fun _ => fun
  | [d1, d2, d3, d4] => { results := [.lit (.bool true)], args := [d1, d2, d3, d4] }
  | _ => none }
def arenaDoesRow : OpenClaim := { program := "ytccknhhjkkbadaa", sum := "aa4d16d17fb97891688055444e3a541915b555eccf941fe0da90e6ad15601c18", func := "whimbrel/whimbrellaw19.ArenaDoes", spec := "arenaDoes", unfollowed := true, recurses := true, apart := false }
def ArenaDoesSaid : Prop := arenaDoesRow.holds Try.pinned (OpenSpec.ofChange arenaDoesSpec)

/-- ITS FALSE NEIGHBOUR: 'it returns false'. Refute it at one input. -/
def arenaDoesWrong : ChangeSpec := { name := "arenaDoes", fn := fun _ => fun
  | [d1, d2, d3, d4] => { results := [.lit (.bool false)], args := [d1, d2, d3, d4] }
  | _ => none }
def ArenaDoesWrongFalsely : Prop := arenaDoesRow.holds Try.pinned (OpenSpec.ofChange arenaDoesWrong)

/-- 'whimbrellaw19.ArenaCopies': WHATEVER THE INPUT: true; the input reads as it did. -/
def arenaCopiesSpec : ChangeSpec := { name := "arenaCopies", fn := fun _ => fun
  | [d1, d2, d3, d4] => { results := [.lit (.bool true)], args := [d1, d2, d3, d4] }
  | _ => none }
def arenaCopiesRow : OpenClaim := { program := "ytccknhhjkkbadaa", sum := "aa4d16d17fb97891688055444e3a541915b555eccf941fe0da90e6ad15601c18", func := "whimbrel/whimbrellaw19.ArenaCopies", spec := "arenaCopies", unfollowed := true, recurses := true, apart := false }
def ArenaCopiesSaid : Prop := arenaCopiesRow.holds Try.pinned (OpenSpec.ofChange arenaCopiesSpec)

/-- ITS FALSE NEIGHBOUR: 'it returns false'. Refute it at one input. -/
def arenaCopiesWrong : ChangeSpec := { name := "arenaCopies", fn := fun _ => fun
  | [d1, d2, d3, d4] => { results := [.lit (.bool false)], args := [d1, d2, d3, d4] }
  | _ => none }
def ArenaCopiesWrongFalsely : Prop := arenaCopiesRow.holds Try.pinned (OpenSpec.ofChange arenaCopiesWrong)

/-- 'whimbrellaw20.NodePuts': WHATEVER THE INPUT: true; the input reads as it did. -/
def nodePutsSpec : ChangeSpec := { name := "nodePuts", fn := fun _ => fun
  | [d1, d2, d3, d4] => { results := [.lit (.bool true)], args := [d1, d2, d3, d4] }
  | _ => none }
def nodePutsRow : OpenClaim := { program := "ytccknhhjkkbadaa", sum := "aa4d16d17fb97891688055444e3a541915b555eccf941fe0da90e6ad15601c18", func := "whimbrel/whimbrellaw20.NodePuts", spec := "nodePuts", apart := false }
def NodePutsSaid : Prop := nodePutsRow.holds Try.pinned (OpenSpec.ofChange nodePutsSpec)

/-- ITS FALSE NEIGHBOUR: 'it returns false'. Refute it at one input. -/
def nodePutsWrong : ChangeSpec := { name := "nodePuts", fn := fun _ => fun
  | [d1, d2, d3, d4] => { results := [.lit (.bool false)], args := [d1, d2, d3, d4] }
  | _ => none }
def NodePutsWrongFalsely : Prop := nodePutsRow.holds Try.pinned (OpenSpec.ofChange nodePutsWrong)

/-- 'whimbrellaw20.NodeOwn': WHATEVER THE INPUT: true; the input reads as it did. -/
def nodeOwnSpec : ChangeSpec := { name := "nodeOwn", fn := fun _ => fun
  | [d1, d2, d3, d4, d5] => { results := [.lit (.bool true)], args := [d1, d2, d3, d4, d5] }
  | _ => none }
def nodeOwnRow : OpenClaim := { program := "ytccknhhjkkbadaa", sum := "aa4d16d17fb97891688055444e3a541915b555eccf941fe0da90e6ad15601c18", func := "whimbrel/whimbrellaw20.NodeOwn", spec := "nodeOwn", apart := false }
def NodeOwnSaid : Prop := nodeOwnRow.holds Try.pinned (OpenSpec.ofChange nodeOwnSpec)

/-- ITS FALSE NEIGHBOUR: 'it returns false'. Refute it at one input. -/
def nodeOwnWrong : ChangeSpec := { name := "nodeOwn", fn := fun _ => fun
  | [d1, d2, d3, d4, d5] => { results := [.lit (.bool false)], args := [d1, d2, d3, d4, d5] }
  | _ => none }
def NodeOwnWrongFalsely : Prop := nodeOwnRow.holds Try.pinned (OpenSpec.ofChange nodeOwnWrong)

/-- 'whimbrellaw41.TraceResult': WHATEVER THE INPUT: true; the input reads as it did. -/
def traceResultSpec : ChangeSpec := { name := "traceResult", fn := fun _ => fun
  | [d1, d2] => { results := [.lit (.bool true)], args := [d1, d2] }
  | _ => none }
def traceResultRow : OpenClaim := { program := "ytccknhhjkkbadaa", sum := "aa4d16d17fb97891688055444e3a541915b555eccf941fe0da90e6ad15601c18", func := "whimbrel/whimbrellaw41.TraceResult", spec := "traceResult", inPlace := ["internal/abi.NoEscape"], recurses := true, loops := true, apart := false }
def TraceResultSaid : Prop := traceResultRow.holds Try.pinned (OpenSpec.ofChange traceResultSpec)

/-- ITS FALSE NEIGHBOUR: 'it returns false'. Refute it at one input. -/
def traceResultWrong : ChangeSpec := { name := "traceResult", fn := fun _ => fun
  | [d1, d2] => { results := [.lit (.bool false)], args := [d1, d2] }
  | _ => none }
def TraceResultWrongFalsely : Prop := traceResultRow.holds Try.pinned (OpenSpec.ofChange traceResultWrong)

/-- 'whimbrellaw41.TraceNode': WHATEVER THE INPUT: true; the input reads as it did. -/
def traceNodeSpec : ChangeSpec := { name := "traceNode", fn := fun _ => fun
  | [d1, d2, d3, d4] => { results := [.lit (.bool true)], args := [d1, d2, d3, d4] }
  | _ => none }
def traceNodeRow : OpenClaim := { program := "ytccknhhjkkbadaa", sum := "aa4d16d17fb97891688055444e3a541915b555eccf941fe0da90e6ad15601c18", func := "whimbrel/whimbrellaw41.TraceNode", spec := "traceNode", inPlace := ["internal/abi.NoEscape", "internal/bytealg.MakeNoZero"], unfollowed := true, recurses := true, apart := false }
def TraceNodeSaid : Prop := traceNodeRow.holds Try.pinned (OpenSpec.ofChange traceNodeSpec)

/-- ITS FALSE NEIGHBOUR: 'it returns false'. Refute it at one input. -/
def traceNodeWrong : ChangeSpec := { name := "traceNode", fn := fun _ => fun
  | [d1, d2, d3, d4] => { results := [.lit (.bool false)], args := [d1, d2, d3, d4] }
  | _ => none }
def TraceNodeWrongFalsely : Prop := traceNodeRow.holds Try.pinned (OpenSpec.ofChange traceNodeWrong)

/-- 'whimbrellaw26.WalkMore': WHATEVER THE INPUT: true; the input reads as it did. -/
def walkMoreSpec : ChangeSpec := { name := "walkMore", fn := fun _ => fun
  | [d1, d2, d3, d4, d5] => { results := [.lit (.bool true)], args := [d1, d2, d3, d4, d5] }
  | _ => none }
def walkMoreRow : OpenClaim := { program := "ytccknhhjkkbadaa", sum := "aa4d16d17fb97891688055444e3a541915b555eccf941fe0da90e6ad15601c18", func := "whimbrel/whimbrellaw26.WalkMore", spec := "walkMore", inPlace := ["slices.overlaps[whimbrel/api.Pick]"], unfollowed := true, recurses := true, apart := false }
def WalkMoreSaid : Prop := walkMoreRow.holds Try.pinned (OpenSpec.ofChange walkMoreSpec)

/-- ITS FALSE NEIGHBOUR: 'it returns false'. Refute it at one input. -/
def walkMoreWrong : ChangeSpec := { name := "walkMore", fn := fun _ => fun
  | [d1, d2, d3, d4, d5] => { results := [.lit (.bool false)], args := [d1, d2, d3, d4, d5] }
  | _ => none }
def WalkMoreWrongFalsely : Prop := walkMoreRow.holds Try.pinned (OpenSpec.ofChange walkMoreWrong)

/-- 'whimbrellaw25.FingerPicks': WHATEVER THE INPUT: true; the input reads as it did. -/
def fingerPicksSpec : ChangeSpec := { name := "fingerPicks", fn := fun _ => fun
  | [d1, d2, d3] => { results := [.lit (.bool true)], args := [d1, d2, d3] }
  | _ => none }
def fingerPicksRow : OpenClaim := { program := "ytccknhhjkkbadaa", sum := "aa4d16d17fb97891688055444e3a541915b555eccf941fe0da90e6ad15601c18", func := "whimbrel/whimbrellaw25.FingerPicks", spec := "fingerPicks", inPlace := ["slices.overlaps[whimbrel/api.Pick]", "internal/abi.NoEscape", "internal/bytealg.MakeNoZero"], unfollowed := true, recurses := true, apart := false }
def FingerPicksSaid : Prop := fingerPicksRow.holds Try.pinned (OpenSpec.ofChange fingerPicksSpec)

/-- ITS FALSE NEIGHBOUR: 'it returns false'. Refute it at one input. -/
def fingerPicksWrong : ChangeSpec := { name := "fingerPicks", fn := fun _ => fun
  | [d1, d2, d3] => { results := [.lit (.bool false)], args := [d1, d2, d3] }
  | _ => none }
def FingerPicksWrongFalsely : Prop := fingerPicksRow.holds Try.pinned (OpenSpec.ofChange fingerPicksWrong)

/-- 'whimbrellaw25.FingerTwo': WHATEVER THE INPUT: true; the input reads as it did. -/
def fingerTwoSpec : ChangeSpec := { name := "fingerTwo", fn := fun _ => fun
  | [d1, d2] => { results := [.lit (.bool true)], args := [d1, d2] }
  | _ => none }
def fingerTwoRow : OpenClaim := { program := "ytccknhhjkkbadaa", sum := "aa4d16d17fb97891688055444e3a541915b555eccf941fe0da90e6ad15601c18", func := "whimbrel/whimbrellaw25.FingerTwo", spec := "fingerTwo", inPlace := ["slices.overlaps[whimbrel/api.Pick]", "internal/abi.NoEscape", "internal/bytealg.MakeNoZero"], unfollowed := true, recurses := true, apart := false }
def FingerTwoSaid : Prop := fingerTwoRow.holds Try.pinned (OpenSpec.ofChange fingerTwoSpec)

/-- ITS FALSE NEIGHBOUR: 'it returns false'. Refute it at one input. -/
def fingerTwoWrong : ChangeSpec := { name := "fingerTwo", fn := fun _ => fun
  | [d1, d2] => { results := [.lit (.bool false)], args := [d1, d2] }
  | _ => none }
def FingerTwoWrongFalsely : Prop := fingerTwoRow.holds Try.pinned (OpenSpec.ofChange fingerTwoWrong)

/-- 'whimbrellaw25.FingerOrder': WHATEVER THE INPUT: true; the input reads as it did. -/
def fingerOrderSpec : ChangeSpec := { name := "fingerOrder", fn := fun _ => fun
  | [d1, d2, d3] => { results := [.lit (.bool true)], args := [d1, d2, d3] }
  | _ => none }
def fingerOrderRow : OpenClaim := { program := "ytccknhhjkkbadaa", sum := "aa4d16d17fb97891688055444e3a541915b555eccf941fe0da90e6ad15601c18", func := "whimbrel/whimbrellaw25.FingerOrder", spec := "fingerOrder", inPlace := ["slices.overlaps[whimbrel/api.Pick]", "internal/abi.NoEscape", "internal/bytealg.MakeNoZero"], unfollowed := true, recurses := true, apart := false }
def FingerOrderSaid : Prop := fingerOrderRow.holds Try.pinned (OpenSpec.ofChange fingerOrderSpec)

/-- ITS FALSE NEIGHBOUR: 'it returns false'. Refute it at one input. -/
def fingerOrderWrong : ChangeSpec := { name := "fingerOrder", fn := fun _ => fun
  | [d1, d2, d3] => { results := [.lit (.bool false)], args := [d1, d2, d3] }
  | _ => none }
def FingerOrderWrongFalsely : Prop := fingerOrderRow.holds Try.pinned (OpenSpec.ofChange fingerOrderWrong)

/- THE SECOND FORM. 'bulk': how many values and letters a reading holds, each counted each time it is reached (what is shared counts as often as it is met; a slice's spare places count too). A statement '..UptoSaid' is the law's where the arguments, and the package variables that the reading takes, are together of bulk at most 1048576: NARROWER than '..Said'. Prove '..Said' where nothing that the law and all that it calls make is longer than what came in: it says more and counts as full. Else prove '..UptoSaid'. A law counts once. -/
mutual
def uptoBulk {H : Type} : DataW H → Nat
  | .lit (.string bytes) => bytes.length + 1
  | .lit _ => 1
  | .nil => 1
  | .ptr d => uptoBulk d + 1
  | .slice elems spare => uptoBulkAll elems + uptoBulkAll spare + 1
  | .agg parts => uptoBulkAll parts + 1
  | .iface _ d => uptoBulk d + 1
  | .map entries => uptoBulkEntries entries + 1
  | .held _ => 1
def uptoBulkAll {H : Type} : List (DataW H) → Nat
  | [] => 0
  | d :: r => uptoBulk d + uptoBulkAll r
def uptoBulkEntries {H : Type} : List (Lit × DataW H) → Nat
  | [] => 0
  | x :: r => uptoBulkEntry x + uptoBulkEntries r
def uptoBulkEntry {H : Type} : Lit × DataW H → Nat
  | (.string bytes, d) => bytes.length + uptoBulk d + 1
  | (_, d) => uptoBulk d + 1
 end
def uptoSmall : (H : Type) → List (DataW H) → Bool := fun _ ds => decide (uptoBulkAll ds ≤ 1048576)
def OpenSpec.upto (s : _root_.Go.ChangeSpec) : _root_.Go.OpenSpec := { _root_.Go.OpenSpec.ofChange s with cond := some uptoSmall }

/-- 'whimbrellaw19.ArenaDoes', WHERE WHAT IT READS IS OF BULK AT MOST 1048576: true; the input reads as it did. -/
def arenaDoesUptoRow : OpenClaim := { program := "ytccknhhjkkbadaa", sum := "aa4d16d17fb97891688055444e3a541915b555eccf941fe0da90e6ad15601c18", func := "whimbrel/whimbrellaw19.ArenaDoes", spec := "arenaDoes", unfollowed := true, recurses := true, apart := false, narrowed := true }
def ArenaDoesUptoSaid : Prop := arenaDoesUptoRow.holds Try.pinned (OpenSpec.upto arenaDoesSpec)

/-- 'whimbrellaw19.ArenaCopies', WHERE WHAT IT READS IS OF BULK AT MOST 1048576: true; the input reads as it did. -/
def arenaCopiesUptoRow : OpenClaim := { program := "ytccknhhjkkbadaa", sum := "aa4d16d17fb97891688055444e3a541915b555eccf941fe0da90e6ad15601c18", func := "whimbrel/whimbrellaw19.ArenaCopies", spec := "arenaCopies", unfollowed := true, recurses := true, apart := false, narrowed := true }
def ArenaCopiesUptoSaid : Prop := arenaCopiesUptoRow.holds Try.pinned (OpenSpec.upto arenaCopiesSpec)

/-- 'whimbrellaw20.NodePuts', WHERE WHAT IT READS IS OF BULK AT MOST 1048576: true; the input reads as it did. -/
def nodePutsUptoRow : OpenClaim := { program := "ytccknhhjkkbadaa", sum := "aa4d16d17fb97891688055444e3a541915b555eccf941fe0da90e6ad15601c18", func := "whimbrel/whimbrellaw20.NodePuts", spec := "nodePuts", apart := false, narrowed := true }
def NodePutsUptoSaid : Prop := nodePutsUptoRow.holds Try.pinned (OpenSpec.upto nodePutsSpec)

/-- 'whimbrellaw20.NodeOwn', WHERE WHAT IT READS IS OF BULK AT MOST 1048576: true; the input reads as it did. -/
def nodeOwnUptoRow : OpenClaim := { program := "ytccknhhjkkbadaa", sum := "aa4d16d17fb97891688055444e3a541915b555eccf941fe0da90e6ad15601c18", func := "whimbrel/whimbrellaw20.NodeOwn", spec := "nodeOwn", apart := false, narrowed := true }
def NodeOwnUptoSaid : Prop := nodeOwnUptoRow.holds Try.pinned (OpenSpec.upto nodeOwnSpec)

/-- 'whimbrellaw41.TraceResult', WHERE WHAT IT READS IS OF BULK AT MOST 1048576: true; the input reads as it did. -/
def traceResultUptoRow : OpenClaim := { program := "ytccknhhjkkbadaa", sum := "aa4d16d17fb97891688055444e3a541915b555eccf941fe0da90e6ad15601c18", func := "whimbrel/whimbrellaw41.TraceResult", spec := "traceResult", inPlace := ["internal/abi.NoEscape"], recurses := true, loops := true, apart := false, narrowed := true }
def TraceResultUptoSaid : Prop := traceResultUptoRow.holds Try.pinned (OpenSpec.upto traceResultSpec)

/-- 'whimbrellaw41.TraceNode', WHERE WHAT IT READS IS OF BULK AT MOST 1048576: true; the input reads as it did. -/
def traceNodeUptoRow : OpenClaim := { program := "ytccknhhjkkbadaa", sum := "aa4d16d17fb97891688055444e3a541915b555eccf941fe0da90e6ad15601c18", func := "whimbrel/whimbrellaw41.TraceNode", spec := "traceNode", inPlace := ["internal/abi.NoEscape", "internal/bytealg.MakeNoZero"], unfollowed := true, recurses := true, apart := false, narrowed := true }
def TraceNodeUptoSaid : Prop := traceNodeUptoRow.holds Try.pinned (OpenSpec.upto traceNodeSpec)

/-- 'whimbrellaw26.WalkMore', WHERE WHAT IT READS IS OF BULK AT MOST 1048576: true; the input reads as it did. -/
def walkMoreUptoRow : OpenClaim := { program := "ytccknhhjkkbadaa", sum := "aa4d16d17fb97891688055444e3a541915b555eccf941fe0da90e6ad15601c18", func := "whimbrel/whimbrellaw26.WalkMore", spec := "walkMore", inPlace := ["slices.overlaps[whimbrel/api.Pick]"], unfollowed := true, recurses := true, apart := false, narrowed := true }
def WalkMoreUptoSaid : Prop := walkMoreUptoRow.holds Try.pinned (OpenSpec.upto walkMoreSpec)

/-- 'whimbrellaw25.FingerPicks', WHERE WHAT IT READS IS OF BULK AT MOST 1048576: true; the input reads as it did. -/
def fingerPicksUptoRow : OpenClaim := { program := "ytccknhhjkkbadaa", sum := "aa4d16d17fb97891688055444e3a541915b555eccf941fe0da90e6ad15601c18", func := "whimbrel/whimbrellaw25.FingerPicks", spec := "fingerPicks", inPlace := ["slices.overlaps[whimbrel/api.Pick]", "internal/abi.NoEscape", "internal/bytealg.MakeNoZero"], unfollowed := true, recurses := true, apart := false, narrowed := true }
def FingerPicksUptoSaid : Prop := fingerPicksUptoRow.holds Try.pinned (OpenSpec.upto fingerPicksSpec)

/-- 'whimbrellaw25.FingerTwo', WHERE WHAT IT READS IS OF BULK AT MOST 1048576: true; the input reads as it did. -/
def fingerTwoUptoRow : OpenClaim := { program := "ytccknhhjkkbadaa", sum := "aa4d16d17fb97891688055444e3a541915b555eccf941fe0da90e6ad15601c18", func := "whimbrel/whimbrellaw25.FingerTwo", spec := "fingerTwo", inPlace := ["slices.overlaps[whimbrel/api.Pick]", "internal/abi.NoEscape", "internal/bytealg.MakeNoZero"], unfollowed := true, recurses := true, apart := false, narrowed := true }
def FingerTwoUptoSaid : Prop := fingerTwoUptoRow.holds Try.pinned (OpenSpec.upto fingerTwoSpec)

/-- 'whimbrellaw25.FingerOrder', WHERE WHAT IT READS IS OF BULK AT MOST 1048576: true; the input reads as it did. -/
def fingerOrderUptoRow : OpenClaim := { program := "ytccknhhjkkbadaa", sum := "aa4d16d17fb97891688055444e3a541915b555eccf941fe0da90e6ad15601c18", func := "whimbrel/whimbrellaw25.FingerOrder", spec := "fingerOrder", inPlace := ["slices.overlaps[whimbrel/api.Pick]", "internal/abi.NoEscape", "internal/bytealg.MakeNoZero"], unfollowed := true, recurses := true, apart := false, narrowed := true }
def FingerOrderUptoSaid : Prop := fingerOrderUptoRow.holds Try.pinned (OpenSpec.upto fingerOrderSpec)

end Rows
end Go.Proofs.Ytccknhhjkkbadaa
