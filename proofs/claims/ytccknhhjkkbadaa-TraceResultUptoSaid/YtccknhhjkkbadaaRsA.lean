/- Contracts: trace.Status; a builder's WriteString. -/
import Derived.Test.YtccknhhjkkbadaaAnS
import Derived.Test.YtccknhhjkkbadaaShelf
namespace Go.Proofs.Ytccknhhjkkbadaa.Shw
open Go.ChangeShapes Go.WideShapes Go.ChangeAt Go.RowKit Go.Proofs.Ytccknhhjkkbadaa.Lift Go.Proofs.Ytccknhhjkkbadaa.Data Go.Proofs.Ytccknhhjkkbadaa.Dig Go.Proofs.Ytccknhhjkkbadaa.Tmr
set_option linter.unusedVariables false
set_option linter.unusedSimpArgs false
def stWords : List ByteArray := [⟨#[111, 107]⟩, ⟨#[115, 121, 110, 116, 97, 120]⟩, ⟨#[115, 99, 111, 112, 101]⟩, ⟨#[116, 121, 112, 101]⟩, ⟨#[97, 114, 103]⟩, ⟨#[104, 101, 97, 112]⟩, ⟨#[102, 117, 101, 108]⟩, ⟨#[111, 118, 101, 114, 102, 108, 111, 119]⟩, ⟨#[110, 105, 108]⟩, ⟨#[102, 111, 114, 109]⟩, ⟨#[115, 116, 117, 99, 107]⟩, ⟨#[108, 111, 110, 103]⟩, ⟨#[110, 111, 110, 101]⟩]
/-- a status as a word. -/
def stB (e : Int) : ByteArray := if e < 0 ∨ 13 ≤ e then ⟨#[63]⟩ else stWords.getD e.toNat ⟨#[63]⟩
theorem stB_len (e : Int) : (stB e).size ≤ 10 := by
  unfold stB
  split
  · rw [bsize]; simp
  · rename_i h
    obtain ⟨j, rfl⟩ : ∃ j : Nat, e = j := ⟨e.toNat, by omega⟩
    have hj : j < 13 := by omega
    rw [Int.toNat_natCast]
    match j, hj with
    | 0, _ => decide | 1, _ => decide | 2, _ => decide | 3, _ => decide | 4, _ => decide | 5, _ => decide | 6, _ => decide | 7, _ => decide | 8, _ => decide | 9, _ => decide | 10, _ => decide | 11, _ => decide | 12, _ => decide
set_option maxRecDepth 100000 in
set_option maxHeartbeats 2000000 in
theorem status_any (e : Int) (w : World) : Calls Try.prog 42 #[.int .i64 e] w fun r w' => r = .returned (.string (stB e)) ∧ Below w.heap.size w w' := by
  by_cases h1 : e < 0
  · have HE : Hid (stB e = ⟨#[63]⟩) := Lib.hid (by unfold stB; rw [if_pos (.inl h1)])
    go_enter Try.func42, Try.ntmps42
    go_wp2_with fail
    go_ret
    exact ⟨by rw [HE.out]; try rfl, below1T w _⟩
  by_cases h2 : 13 ≤ e
  · have HE : Hid (stB e = ⟨#[63]⟩) := Lib.hid (by unfold stB; rw [if_pos (.inr h2)])
    go_enter Try.func42, Try.ntmps42
    go_wp2_with fail
    go_ret
    exact ⟨by rw [HE.out]; try rfl, below1T w _⟩
  have h3 : e = 0 ∨ e = 1 ∨ e = 2 ∨ e = 3 ∨ e = 4 ∨ e = 5 ∨ e = 6 ∨ e = 7 ∨ e = 8 ∨ e = 9 ∨ e = 10 ∨ e = 11 ∨ e = 12 := by omega
  clear h1 h2
  rcases h3 with rfl | rfl | rfl | rfl | rfl | rfl | rfl | rfl | rfl | rfl | rfl | rfl | rfl
  all_goals
    go_enter Try.func42, Try.ntmps42
    go_wp2_with fail
    go_ret
    exact ⟨rfl, below1T w _⟩
/-- a builder that holds these bytes. -/
def Bk (w : World) (B b : Nat) (l : List UInt8) : Prop := Lib.IsBuilder 124 5 B b (Lib.byteCells l) w
theorem Bk.below {w w' : World} {B b : Nat} {l : List UInt8} (h : Bk w B b l) (hb : Below w.heap.size w w') : Bk w' B b l := by
  rcases h with ⟨h1, v, h2, h3, h4⟩ | ⟨h1, v, h2, h3, h4⟩
  · exact .inl ⟨h1, v, (hb.block _ (Array.getElem?_eq_some_iff.1 h2).1).trans h2, own_below h3 hb (Nat.le_refl _), h4⟩
  · exact .inr ⟨h1, v, (hb.block _ (Array.getElem?_eq_some_iff.1 h2).1).trans h2, own_below h3 hb (Nat.le_refl _), h4⟩
theorem Bk.new {w : World} {b : Nat} (h : w.heap[b]? = some (.cells #[.pointer none, .slice none 0 0] 124 (0, 0))) : Bk w b b [] := .inl ⟨Nat.le_refl _, _, h, World.ownsRow_nil _ _ _ _, by simp [Value.ownBlock]⟩
theorem write_any (B b : Nat) (l : List UInt8) (s : ByteArray) (w : World) (h : Bk w B b l) (hl : l.length + s.size ≤ 140737488355328) (hB : B ≤ w.heap.size) :
    Calls Try.prog 88 #[.pointer (some ⟨b, 0, none⟩), .string s] w fun e w' => e = .returned (.tuple #[.int .i64 s.size, .nilIface]) ∧ Bk w' B b (l ++ s.data.toList) ∧ Below B w w' := by
  refine (Any.Builder_WriteString { Try.lays156 with } Try.Builder_Extra_156 B b (Lib.byteCells l) s w h (by simpa [Lib.byteCells] using hl) hB).mono ?_
  rintro e w' ⟨rfl, h1, h2⟩
  refine ⟨rfl, .inr ?_, h2⟩
  have e : Lib.byteCells (l ++ s.data.toList) = Lib.byteCells l ++ Lib.strCells s := by simp [Lib.byteCells, Lib.strCells]
  rw [e]
  exact h1
end Go.Proofs.Ytccknhhjkkbadaa.Shw
