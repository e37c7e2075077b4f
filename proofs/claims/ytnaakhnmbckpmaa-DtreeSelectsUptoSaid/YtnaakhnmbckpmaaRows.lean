/-
  NARROWER THAN 'FOR EVERY INPUT', by the rows' own cells (each row's printed sentence says how): PatsMatch: loops · AstRules: loops · PatsOverlaps: loops · AstBinds: loops · PatsTerms: loops · DtreeSelects: loops · DtreeLeaves: loops.
  DERIVED. THE GIVEN ROWS OF THIS SEAT. 7 by the template 'for every input the law returns true; each argument reads behind the call as it read before'; 0 by the template 'total and deterministic' (their statements: YtnaakhnmbckpmaaTotals.lean).
  GIVEN WITH THE SEED: the statements are not yours to turn. If you find one false, say at which input.
  Laid BY PROGRAM, IN A SANDBOX (cutbox-rows.mjs): the forced cells as the released guide's own fill.sh prints them over the translation ed5f6ab7b2f5d9a9… (all of the seat's roots in one cut). By AI agents, Wed Nov 11 2026. No macro, syntax, notation, axiom, sorry.
-/
import Derived.Test.YtnaakhnmbckpmaaChecked
import GoSem.Claim
import GoSem.ClaimJoined
import GoSem.ClaimMapViews
import Derived.JoinedTies
import Derived.KernelRfl
namespace Go.Proofs.Ytnaakhnmbckpmaa
/- THE CELL 'sum', in the pinned program and in every row, IS THE sha256 OF THE DUMP (.gsa) THAT YtnaakhnmbckpmaaProg.lean LOADS. Nothing in Lean hashes anything: it is a label: what it is worth is what the hold of that sum in a sandbox is worth. -/
noncomputable def Try.pinned : Pinned := { name := "ytnaakhnmbckpmaa", sum := "ed5f6ab7b2f5d9a94974303f745ae7c883a25d149255865266ac4a622be5188f", checked := Try.checked }
namespace Rows
def none {H : Type} : Left H := { results := [], args := [] }

/-- 'whimbrellaw15.PatsMatch': WHATEVER THE INPUT: true; the input reads as it did. -/
def patsMatchSpec : ChangeSpec := { name := "patsMatch", fn := fun _ => fun
  | [d1, d2, d3, d4] => { results := [.lit (.bool true)], args := [d1, d2, d3, d4] }
  | _ => none }
def patsMatchRow : OpenClaim := { program := "ytnaakhnmbckpmaa", sum := "ed5f6ab7b2f5d9a94974303f745ae7c883a25d149255865266ac4a622be5188f", func := "whimbrel/whimbrellaw15.PatsMatch", spec := "patsMatch", recurses := true, loops := true, apart := false }
def PatsMatchSaid : Prop := patsMatchRow.holds Try.pinned (OpenSpec.ofChange patsMatchSpec)

/-- ITS FALSE NEIGHBOUR: 'it returns false'. Refute it at one input. -/
def patsMatchWrong : ChangeSpec := { name := "patsMatch", fn := fun _ => fun
  | [d1, d2, d3, d4] => { results := [.lit (.bool false)], args := [d1, d2, d3, d4] }
  | _ => none }
def PatsMatchWrongFalsely : Prop := patsMatchRow.holds Try.pinned (OpenSpec.ofChange patsMatchWrong)

/-- 'whimbrellaw05.AstRules': WHATEVER THE INPUT: true; the input reads as it did. -/
def astRulesSpec : ChangeSpec := { name := "astRules", fn := fun _ => fun
  | [d1, d2] => { results := [.lit (.bool true)], args := [d1, d2] }
  | _ => none }
def astRulesRow : OpenClaim := { program := "ytnaakhnmbckpmaa", sum := "ed5f6ab7b2f5d9a94974303f745ae7c883a25d149255865266ac4a622be5188f", func := "whimbrel/whimbrellaw05.AstRules", spec := "astRules", unfollowed := true, recurses := true, loops := true, apart := false }
def AstRulesSaid : Prop := astRulesRow.holds Try.pinned (OpenSpec.ofChange astRulesSpec)

/-- ITS FALSE NEIGHBOUR: 'it returns false'. Refute it at one input. -/
def astRulesWrong : ChangeSpec := { name := "astRules", fn := fun _ => fun
  | [d1, d2] => { results := [.lit (.bool false)], args := [d1, d2] }
  | _ => none }
def AstRulesWrongFalsely : Prop := astRulesRow.holds Try.pinned (OpenSpec.ofChange astRulesWrong)

/-- 'whimbrellaw15.PatsOverlaps': WHATEVER THE INPUT: true; the input reads as it did. -/
def patsOverlapsSpec : ChangeSpec := { name := "patsOverlaps", fn := fun _ => fun
  | [d1, d2, d3] => { results := [.lit (.bool true)], args := [d1, d2, d3] }
  | _ => none }
def patsOverlapsRow : OpenClaim := { program := "ytnaakhnmbckpmaa", sum := "ed5f6ab7b2f5d9a94974303f745ae7c883a25d149255865266ac4a622be5188f", func := "whimbrel/whimbrellaw15.PatsOverlaps", spec := "patsOverlaps", unfollowed := true, recurses := true, loops := true, apart := false }
def PatsOverlapsSaid : Prop := patsOverlapsRow.holds Try.pinned (OpenSpec.ofChange patsOverlapsSpec)

/-- ITS FALSE NEIGHBOUR: 'it returns false'. Refute it at one input. -/
def patsOverlapsWrong : ChangeSpec := { name := "patsOverlaps", fn := fun _ => fun
  | [d1, d2, d3] => { results := [.lit (.bool false)], args := [d1, d2, d3] }
  | _ => none }
def PatsOverlapsWrongFalsely : Prop := patsOverlapsRow.holds Try.pinned (OpenSpec.ofChange patsOverlapsWrong)

/-- 'whimbrellaw05.AstBinds': WHATEVER THE INPUT: true; the input reads as it did. -/
def astBindsSpec : ChangeSpec := { name := "astBinds", fn := fun _ => fun
  | [d1, d2, d3] => { results := [.lit (.bool true)], args := [d1, d2, d3] }
  | _ => none }
def astBindsRow : OpenClaim := { program := "ytnaakhnmbckpmaa", sum := "ed5f6ab7b2f5d9a94974303f745ae7c883a25d149255865266ac4a622be5188f", func := "whimbrel/whimbrellaw05.AstBinds", spec := "astBinds", unfollowed := true, recurses := true, loops := true, apart := false }
def AstBindsSaid : Prop := astBindsRow.holds Try.pinned (OpenSpec.ofChange astBindsSpec)

/-- ITS FALSE NEIGHBOUR: 'it returns false'. Refute it at one input. -/
def astBindsWrong : ChangeSpec := { name := "astBinds", fn := fun _ => fun
  | [d1, d2, d3] => { results := [.lit (.bool false)], args := [d1, d2, d3] }
  | _ => none }
def AstBindsWrongFalsely : Prop := astBindsRow.holds Try.pinned (OpenSpec.ofChange astBindsWrong)

/-- 'whimbrellaw15.PatsTerms': WHATEVER THE INPUT: true; the input reads as it did. -/
def patsTermsSpec : ChangeSpec := { name := "patsTerms", fn := fun _ => fun
  | [d] => { results := [.lit (.bool true)], args := [d] }
  | _ => none }
def patsTermsRow : OpenClaim := { program := "ytnaakhnmbckpmaa", sum := "ed5f6ab7b2f5d9a94974303f745ae7c883a25d149255865266ac4a622be5188f", func := "whimbrel/whimbrellaw15.PatsTerms", spec := "patsTerms", unfollowed := true, recurses := true, loops := true, apart := false }
def PatsTermsSaid : Prop := patsTermsRow.holds Try.pinned (OpenSpec.ofChange patsTermsSpec)

/-- ITS FALSE NEIGHBOUR: 'it returns false'. Refute it at one input. -/
def patsTermsWrong : ChangeSpec := { name := "patsTerms", fn := fun _ => fun
  | [d] => { results := [.lit (.bool false)], args := [d] }
  | _ => none }
def PatsTermsWrongFalsely : Prop := patsTermsRow.holds Try.pinned (OpenSpec.ofChange patsTermsWrong)

/-- 'whimbrellaw16.DtreeSelects': WHATEVER THE INPUT: true; the input reads as it did. -/
def dtreeSelectsSpec : ChangeSpec := { name := "dtreeSelects", fn := fun _ => fun
  | [d1, d2, d3] => { results := [.lit (.bool true)], args := [d1, d2, d3] }
  | _ => none }
def dtreeSelectsRow : OpenClaim := { program := "ytnaakhnmbckpmaa", sum := "ed5f6ab7b2f5d9a94974303f745ae7c883a25d149255865266ac4a622be5188f", func := "whimbrel/whimbrellaw16.DtreeSelects", spec := "dtreeSelects", unfollowed := true, recurses := true, loops := true, apart := false }
def DtreeSelectsSaid : Prop := dtreeSelectsRow.holds Try.pinned (OpenSpec.ofChange dtreeSelectsSpec)

/-- ITS FALSE NEIGHBOUR: 'it returns false'. Refute it at one input. -/
def dtreeSelectsWrong : ChangeSpec := { name := "dtreeSelects", fn := fun _ => fun
  | [d1, d2, d3] => { results := [.lit (.bool false)], args := [d1, d2, d3] }
  | _ => none }
def DtreeSelectsWrongFalsely : Prop := dtreeSelectsRow.holds Try.pinned (OpenSpec.ofChange dtreeSelectsWrong)

/-- 'whimbrellaw16.DtreeLeaves': WHATEVER THE INPUT: true; the input reads as it did. -/
def dtreeLeavesSpec : ChangeSpec := { name := "dtreeLeaves", fn := fun _ => fun
  | [d1, d2, d3, d4] => { results := [.lit (.bool true)], args := [d1, d2, d3, d4] }
  | _ => none }
def dtreeLeavesRow : OpenClaim := { program := "ytnaakhnmbckpmaa", sum := "ed5f6ab7b2f5d9a94974303f745ae7c883a25d149255865266ac4a622be5188f", func := "whimbrel/whimbrellaw16.DtreeLeaves", spec := "dtreeLeaves", unfollowed := true, recurses := true, loops := true, apart := false }
def DtreeLeavesSaid : Prop := dtreeLeavesRow.holds Try.pinned (OpenSpec.ofChange dtreeLeavesSpec)

/-- ITS FALSE NEIGHBOUR: 'it returns false'. Refute it at one input. -/
def dtreeLeavesWrong : ChangeSpec := { name := "dtreeLeaves", fn := fun _ => fun
  | [d1, d2, d3, d4] => { results := [.lit (.bool false)], args := [d1, d2, d3, d4] }
  | _ => none }
def DtreeLeavesWrongFalsely : Prop := dtreeLeavesRow.holds Try.pinned (OpenSpec.ofChange dtreeLeavesWrong)

/- THE SECOND FORM. 'bulk': how many values and letters a reading holds, each counted each time it is reached (what is shared counts as often as it is met; a slice's spare places count too). A statement '..UptoSaid' is the law's where the arguments, and the package variables that the reading takes, are together of bulk at most 1048576: NARROWER than '..Said'. Prove '..Said' where nothing that the law and all that it calls make is longer than what came in: it says more and counts as full. Else prove '..UptoSaid'. A law counts once. -/
mutual
def uptoBulk {H : Type} : DataW H → Nat
  | .lit (.string bytes) => bytes.length + 1
  | .lit _ => 1
  | .nil => 1
  | .ptr d => uptoBulk d + 1
  | .slice elems spare => uptoBulkAll elems + uptoBulkAll spare + 1
  | .agg parts => uptoBulkAll parts + 1
  | .iface _ d => uptoBulk d + 1
  | .map entries => uptoBulkEntries entries + 1
  | .held _ => 1
def uptoBulkAll {H : Type} : List (DataW H) → Nat
  | [] => 0
  | d :: r => uptoBulk d + uptoBulkAll r
def uptoBulkEntries {H : Type} : List (Lit × DataW H) → Nat
  | [] => 0
  | x :: r => uptoBulkEntry x + uptoBulkEntries r
def uptoBulkEntry {H : Type} : Lit × DataW H → Nat
  | (.string bytes, d) => bytes.length + uptoBulk d + 1
  | (_, d) => uptoBulk d + 1
 end
def uptoSmall : (H : Type) → List (DataW H) → Bool := fun _ ds => decide (uptoBulkAll ds ≤ 1048576)
def OpenSpec.upto (s : _root_.Go.ChangeSpec) : _root_.Go.OpenSpec := { _root_.Go.OpenSpec.ofChange s with cond := some uptoSmall }

/-- 'whimbrellaw15.PatsMatch', WHERE WHAT IT READS IS OF BULK AT MOST 1048576: true; the input reads as it did. -/
def patsMatchUptoRow : OpenClaim := { program := "ytnaakhnmbckpmaa", sum := "ed5f6ab7b2f5d9a94974303f745ae7c883a25d149255865266ac4a622be5188f", func := "whimbrel/whimbrellaw15.PatsMatch", spec := "patsMatch", recurses := true, loops := true, apart := false, narrowed := true }
def PatsMatchUptoSaid : Prop := patsMatchUptoRow.holds Try.pinned (OpenSpec.upto patsMatchSpec)

/-- 'whimbrellaw05.AstRules', WHERE WHAT IT READS IS OF BULK AT MOST 1048576: true; the input reads as it did. -/
def astRulesUptoRow : OpenClaim := { program := "ytnaakhnmbckpmaa", sum := "ed5f6ab7b2f5d9a94974303f745ae7c883a25d149255865266ac4a622be5188f", func := "whimbrel/whimbrellaw05.AstRules", spec := "astRules", unfollowed := true, recurses := true, loops := true, apart := false, narrowed := true }
def AstRulesUptoSaid : Prop := astRulesUptoRow.holds Try.pinned (OpenSpec.upto astRulesSpec)

/-- 'whimbrellaw15.PatsOverlaps', WHERE WHAT IT READS IS OF BULK AT MOST 1048576: true; the input reads as it did. -/
def patsOverlapsUptoRow : OpenClaim := { program := "ytnaakhnmbckpmaa", sum := "ed5f6ab7b2f5d9a94974303f745ae7c883a25d149255865266ac4a622be5188f", func := "whimbrel/whimbrellaw15.PatsOverlaps", spec := "patsOverlaps", unfollowed := true, recurses := true, loops := true, apart := false, narrowed := true }
def PatsOverlapsUptoSaid : Prop := patsOverlapsUptoRow.holds Try.pinned (OpenSpec.upto patsOverlapsSpec)

/-- 'whimbrellaw05.AstBinds', WHERE WHAT IT READS IS OF BULK AT MOST 1048576: true; the input reads as it did. -/
def astBindsUptoRow : OpenClaim := { program := "ytnaakhnmbckpmaa", sum := "ed5f6ab7b2f5d9a94974303f745ae7c883a25d149255865266ac4a622be5188f", func := "whimbrel/whimbrellaw05.AstBinds", spec := "astBinds", unfollowed := true, recurses := true, loops := true, apart := false, narrowed := true }
def AstBindsUptoSaid : Prop := astBindsUptoRow.holds Try.pinned (OpenSpec.upto astBindsSpec)

/-- 'whimbrellaw15.PatsTerms', WHERE WHAT IT READS IS OF BULK AT MOST 1048576: true; the input reads as it did. -/
def patsTermsUptoRow : OpenClaim := { program := "ytnaakhnmbckpmaa", sum := "ed5f6ab7b2f5d9a94974303f745ae7c883a25d149255865266ac4a622be5188f", func := "whimbrel/whimbrellaw15.PatsTerms", spec := "patsTerms", unfollowed := true, recurses := true, loops := true, apart := false, narrowed := true }
def PatsTermsUptoSaid : Prop := patsTermsUptoRow.holds Try.pinned (OpenSpec.upto patsTermsSpec)

/-- 'whimbrellaw16.DtreeSelects', WHERE WHAT IT READS IS OF BULK AT MOST 1048576: true; the input reads as it did. -/
def dtreeSelectsUptoRow : OpenClaim := { program := "ytnaakhnmbckpmaa", sum := "ed5f6ab7b2f5d9a94974303f745ae7c883a25d149255865266ac4a622be5188f", func := "whimbrel/whimbrellaw16.DtreeSelects", spec := "dtreeSelects", unfollowed := true, recurses := true, loops := true, apart := false, narrowed := true }
def DtreeSelectsUptoSaid : Prop := dtreeSelectsUptoRow.holds Try.pinned (OpenSpec.upto dtreeSelectsSpec)

/-- 'whimbrellaw16.DtreeLeaves', WHERE WHAT IT READS IS OF BULK AT MOST 1048576: true; the input reads as it did. -/
def dtreeLeavesUptoRow : OpenClaim := { program := "ytnaakhnmbckpmaa", sum := "ed5f6ab7b2f5d9a94974303f745ae7c883a25d149255865266ac4a622be5188f", func := "whimbrel/whimbrellaw16.DtreeLeaves", spec := "dtreeLeaves", unfollowed := true, recurses := true, loops := true, apart := false, narrowed := true }
def DtreeLeavesUptoSaid : Prop := dtreeLeavesUptoRow.holds Try.pinned (OpenSpec.upto dtreeLeavesSpec)

end Rows
end Go.Proofs.Ytnaakhnmbckpmaa
