/- Contract: node.Word. -/
import Derived.Test.YtccknhhjkkbadaaLift
namespace Go.Proofs.Ytccknhhjkkbadaa.Gr
open Go.ChangeShapes Go.WideShapes Go.ChangeAt Go.RowKit Go.Proofs.Ytccknhhjkkbadaa.Lift
set_option linter.unusedVariables false
set_option linter.unusedSimpArgs false
def wordsL : List (List UInt8) := [[], [99, 111, 110], [99, 97, 108, 108], [99, 104, 111, 105, 99, 101], [102, 114, 101, 101], [105, 110, 100], [105, 110, 116], [102, 97, 105, 108], [112, 97, 114, 116], [97, 112, 112], [111, 112], [103, 101, 110]]
def wordOf (a : Int) : ByteArray := if a < 0 then ⟨#[]⟩ else ⟨((wordsL.getD a.toNat []).toArray)⟩
set_option maxRecDepth 100000 in
set_option maxHeartbeats 2000000 in
theorem word_any (a : Int) (w : World) : Calls Try.prog 36 #[.int .i64 a] w fun e w' => e = .returned (.string (wordOf a)) ∧ Below w.heap.size w w' := by
  have hal := fun o => (Below.refl w.heap.size w).alloc (Nat.le_refl _) o
  by_cases h1 : a < 0
  · rw [show wordOf a = ⟨#[]⟩ by unfold wordOf; rw [if_pos h1]]
    go_enter Try.func36, Try.ntmps36
    go_wp2_with fail
    go_ret
    exact ⟨rfl, hal _⟩
  · by_cases h2 : 12 ≤ a
    · rw [show wordOf a = ⟨#[]⟩ by
        unfold wordOf
        rw [if_neg h1]
        have : wordsL.length ≤ a.toNat := by show 12 ≤ a.toNat; omega
        simp [List.getD, List.getElem?_eq_none this]]
      go_enter Try.func36, Try.ntmps36
      go_wp2_with fail
      go_ret
      exact ⟨rfl, hal _⟩
    · rcases (by omega : a = 0 ∨ a = 1 ∨ a = 2 ∨ a = 3 ∨ a = 4 ∨ a = 5 ∨ a = 6 ∨ a = 7 ∨ a = 8 ∨ a = 9 ∨ a = 10 ∨ a = 11) with rfl | rfl | rfl | rfl | rfl | rfl | rfl | rfl | rfl | rfl | rfl | rfl <;>
      (go_enter Try.func36, Try.ntmps36
       go_wp2_with fail
       go_ret
       exact ⟨rfl, hal _⟩)
end Go.Proofs.Ytccknhhjkkbadaa.Gr
