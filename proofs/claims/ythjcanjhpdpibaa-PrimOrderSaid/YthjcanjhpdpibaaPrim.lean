/- Contracts of the functions of package prim: what each computes; none of them changes memory. -/
import Derived.Test.YthjcanjhpdpibaaRows
import Derived.WalkKit
import Derived.ProofKit
namespace Go.Proofs.Ythjcanjhpdpibaa.Prim
open Go.ChangeShapes Go.WideShapes Go.ChangeAt Go.RowKit

def fitsB (n : Int) : Bool := decide (-2147483647 ≤ n ∧ n ≤ 2147483647)
def testB (op : Int) : Bool := (op == 4) || (op == 5)
def rankI (op : Int) : Int := if op = 3 then 4 else if op = 1 ∨ op = 2 then 3 else if op = 4 ∨ op = 5 then 2 else 0

theorem ret_bool {a b : Bool} (h : a = b) : Ending.returned (.bool a) = .returned (.bool b) := by rw [h]
theorem ret_int {k : IntKind} {a b : Int} (h : a = b) : Ending.returned (.int k a) = .returned (.int k b) := by rw [h]
theorem ret_two {k l : IntKind} {a b c d : Int} (h : a = c) (g : b = d) : Ending.returned (.tuple #[.int k a, .int l b]) = .returned (.tuple #[.int k c, .int l d]) := by rw [h, g]

theorem fits_any (n : Int) (w : World) : Calls Try.prog 15 #[.int .i64 n] w fun e w' => e = .returned (.bool (fitsB n)) ∧ w = w' := by
  go_enter Try.func15, Try.ntmps15
  go_wp2_with fail
  all_goals
    go_ret
    exact ⟨ret_bool (by simp [fitsB]; omega), rfl⟩
theorem test_any (n : Int) (w : World) : Calls Try.prog 16 #[.int .i64 n] w fun e w' => e = .returned (.bool (testB n)) ∧ w = w' := by
  go_enter Try.func16, Try.ntmps16
  go_wp2_with fail
  all_goals
    go_ret
    exact ⟨ret_bool (by simp_all [testB]), rfl⟩
theorem rank_any (n : Int) (w : World) : Calls Try.prog 17 #[.int .i64 n] w fun e w' => e = .returned (.int .i64 (rankI n)) ∧ w = w' := by
  go_enter Try.func17, Try.ntmps17
  go_wp2_with fail
  all_goals
    go_ret
    exact ⟨ret_int (by simp_all [rankI]), rfl⟩
def oneI (b : Bool) : Int := if b then 1 else 0
theorem one_any (b : Bool) (w : World) : Calls Try.prog 24 #[.bool b] w fun e w' => e = .returned (.int .i64 (oneI b)) ∧ w = w' := by
  go_enter Try.func24, Try.ntmps24
  go_wp2_with fail
  all_goals
    go_ret
    exact ⟨ret_int (by simp_all [oneI]), rfl⟩
def bX (n : Int) : Int := if fitsB n then n else 0
def bE (n : Int) : Int := if fitsB n then 0 else 7
theorem bounded_any (n : Int) (w : World) : Calls Try.prog 23 #[.int .i64 n] w fun e w' => e = .returned (.tuple #[.int .i64 (bX n), .int .i64 (bE n)]) ∧ w = w' := by
  by_cases h : fitsB n = true
  · have h1 : bX n = n := by simp [bX, h]
    have h2 : bE n = 0 := by simp [bE, h]
    rw [h1, h2]
    clear h1 h2
    go_enter Try.func23, Try.ntmps23
    go_wp2_with (go_at_call 15; refine (fits_any _ _).mono ?_; rintro e w' ⟨rfl, rfl⟩)
    go_ret2
    exact ⟨rfl, rfl⟩
  · have h' : fitsB n = false := by simpa using h
    have h1 : bX n = 0 := by simp [bX, h]
    have h2 : bE n = 7 := by simp [bE, h]
    rw [h1, h2]
    clear h1 h2
    go_enter Try.func23, Try.ntmps23
    go_wp2_with (go_at_call 15; refine (fits_any _ _).mono ?_; rintro e w' ⟨rfl, rfl⟩)
    go_ret2
    exact ⟨rfl, rfl⟩
def good (op a b : Int) : Bool := !(rankI op == 0) && fitsB a && fitsB b
def doX (op a b : Int) : Int :=
  if good op a b then (if op = 1 then bX (a + b) else if op = 2 then bX (a - b) else if op = 3 then bX (a * b) else if op = 4 then oneI (a == b) else oneI (decide (a < b))) else 0
def doE (op a b : Int) : Int :=
  if good op a b then (if op = 1 then bE (a + b) else if op = 2 then bE (a - b) else if op = 3 then bE (a * b) else 0) else 4
theorem do_bad (op a b : Int) (w : World) (h : good op a b = false) : Calls Try.prog 14 #[.int .i64 op, .int .i64 a, .int .i64 b] w fun e w' => e = .returned (.tuple #[.int .i64 0, .int .i64 4]) ∧ w = w' := by
  by_cases h1 : rankI op = 0
  · have h1' : (rankI op == 0) = true := by simp [h1]
    clear h h1
    go_enter Try.func14, Try.ntmps14
    go_wp2_with (first | (go_at_call 15; refine (fits_any _ _).mono ?_; rintro e w' ⟨rfl, rfl⟩) | (go_at_call 17; refine (rank_any _ _).mono ?_; rintro e w' ⟨rfl, rfl⟩))
    go_ret2
    exact ⟨rfl, rfl⟩
  · have h1' : (rankI op == 0) = false := by simp [h1]
    by_cases h2 : fitsB a = true
    · have h3 : fitsB b = false := by simpa [good, h1', h2] using h
      clear h h1
      go_enter Try.func14, Try.ntmps14
      go_wp2_with (first | (go_at_call 15; refine (fits_any _ _).mono ?_; rintro e w' ⟨rfl, rfl⟩) | (go_at_call 17; refine (rank_any _ _).mono ?_; rintro e w' ⟨rfl, rfl⟩))
      go_ret2
      exact ⟨rfl, rfl⟩
    · have h2' : fitsB a = false := by simpa using h2
      clear h h1 h2
      go_enter Try.func14, Try.ntmps14
      go_wp2_with (first | (go_at_call 15; refine (fits_any _ _).mono ?_; rintro e w' ⟨rfl, rfl⟩) | (go_at_call 17; refine (rank_any _ _).mono ?_; rintro e w' ⟨rfl, rfl⟩))
      go_ret2
      exact ⟨rfl, rfl⟩
theorem mul_bd {a b : Int} (a1 : -2147483647 ≤ a) (a2 : a ≤ 2147483647) (b1 : -2147483647 ≤ b) (b2 : b ≤ 2147483647) : -4611686014132420609 ≤ a * b ∧ a * b ≤ 4611686014132420609 := by
  have h : (a * b).natAbs ≤ 2147483647 * 2147483647 := by
    rw [Int.natAbs_mul]; exact Nat.mul_le_mul (by omega) (by omega)
  omega
theorem do_good (op a b : Int) (w : World) (h : good op a b = true) : Calls Try.prog 14 #[.int .i64 op, .int .i64 a, .int .i64 b] w fun e w' => e = .returned (.tuple #[.int .i64 (doX op a b), .int .i64 (doE op a b)]) ∧ w = w' := by
  have hX : doX op a b = if op = 1 then bX (a + b) else if op = 2 then bX (a - b) else if op = 3 then bX (a * b) else if op = 4 then oneI (a == b) else oneI (decide (a < b)) := by simp [doX, h]
  have hE : doE op a b = if op = 1 then bE (a + b) else if op = 2 then bE (a - b) else if op = 3 then bE (a * b) else 0 := by simp [doE, h]
  rw [hX, hE]
  clear hX hE
  simp only [good, Bool.and_eq_true, Bool.not_eq_true', ] at h
  obtain ⟨⟨h1, h2⟩, h3⟩ := h
  have ha : -2147483647 ≤ a ∧ a ≤ 2147483647 := by simpa [fitsB] using h2
  have hb : -2147483647 ≤ b ∧ b ≤ 2147483647 := by simpa [fitsB] using h3
  obtain ⟨a1, a2⟩ := ha
  obtain ⟨b1, b2⟩ := hb
  obtain ⟨m1, m2⟩ := mul_bd a1 a2 b1 b2
  by_cases o1 : op = 1
  · subst o1
    go_enter Try.func14, Try.ntmps14
    go_wp2_with (first | (go_at_call 15; refine (fits_any _ _).mono ?_; rintro e w' ⟨rfl, rfl⟩) | (go_at_call 17; refine (rank_any _ _).mono ?_; rintro e w' ⟨rfl, rfl⟩) | (go_at_call 23; refine (bounded_any _ _).mono ?_; rintro e w' ⟨rfl, rfl⟩))
    go_ret2
    exact ⟨rfl, rfl⟩
  by_cases o2 : op = 2
  · subst o2
    clear o1
    go_enter Try.func14, Try.ntmps14
    go_wp2_with (first | (go_at_call 15; refine (fits_any _ _).mono ?_; rintro e w' ⟨rfl, rfl⟩) | (go_at_call 17; refine (rank_any _ _).mono ?_; rintro e w' ⟨rfl, rfl⟩) | (go_at_call 23; refine (bounded_any _ _).mono ?_; rintro e w' ⟨rfl, rfl⟩))
    go_ret2
    exact ⟨rfl, rfl⟩
  by_cases o3 : op = 3
  · subst o3
    clear o1 o2
    go_enter Try.func14, Try.ntmps14
    go_wp2_with (first | (go_at_call 15; refine (fits_any _ _).mono ?_; rintro e w' ⟨rfl, rfl⟩) | (go_at_call 17; refine (rank_any _ _).mono ?_; rintro e w' ⟨rfl, rfl⟩) | (go_at_call 23; refine (bounded_any _ _).mono ?_; rintro e w' ⟨rfl, rfl⟩))
    go_ret2
    exact ⟨rfl, rfl⟩
  have p1 : (op == 1) = false := by simp [o1]
  have p2 : (op == 2) = false := by simp [o2]
  have p3 : (op == 3) = false := by simp [o3]
  by_cases o4 : op = 4
  · subst o4
    clear o1 o2 o3 p1 p2 p3
    go_enter Try.func14, Try.ntmps14
    go_wp2_with (first | (go_at_call 15; refine (fits_any _ _).mono ?_; rintro e w' ⟨rfl, rfl⟩) | (go_at_call 17; refine (rank_any _ _).mono ?_; rintro e w' ⟨rfl, rfl⟩) | (go_at_call 24; refine (one_any _ _).mono ?_; rintro e w' ⟨rfl, rfl⟩))
    go_ret2
    exact ⟨rfl, rfl⟩
  have p4 : (op == 4) = false := by simp [o4]
  simp only [o1, o2, o3, o4, if_false]
  clear o1 o2 o3 o4
  go_enter Try.func14, Try.ntmps14
  go_wp2_with (first | (go_at_call 15; refine (fits_any _ _).mono ?_; rintro e w' ⟨rfl, rfl⟩) | (go_at_call 17; refine (rank_any _ _).mono ?_; rintro e w' ⟨rfl, rfl⟩) | (go_at_call 24; refine (one_any _ _).mono ?_; rintro e w' ⟨rfl, rfl⟩))
  go_ret2
  exact ⟨rfl, rfl⟩
theorem do_any (op a b : Int) (w : World) : Calls Try.prog 14 #[.int .i64 op, .int .i64 a, .int .i64 b] w fun e w' => e = .returned (.tuple #[.int .i64 (doX op a b), .int .i64 (doE op a b)]) ∧ w = w' := by
  cases h : good op a b
  · have := do_bad op a b w h
    simpa [doX, doE, h] using this
  · exact do_good op a b w h
theorem awake_any (w : World) : Calls Try.prog 13 #[] w fun e w' => e = .returned (.bool true) ∧ w = w' := by
  go_enter Try.func13, Try.ntmps13
  go_wp2_with fail
  refine (do_any _ _ _ _).mono ?_
  rintro e w' ⟨rfl, rfl⟩
  rw [show doX 3 65536 65536 = 0 by decide, show doE 3 65536 65536 = 7 by decide]
  go_wp2_with fail
  refine (do_any _ _ _ _).mono ?_
  rintro e w' ⟨rfl, rfl⟩
  rw [show doX 1 2 3 = 5 by decide, show doE 1 2 3 = 0 by decide]
  go_wp2_with fail
  go_ret
  exact ⟨rfl, rfl⟩
end Go.Proofs.Ythjcanjhpdpibaa.Prim
