/- The law PrimDoes returns true at every input, and its arguments read afterwards as before. -/
import Derived.Test.YthjcanjhpdpibaaPrim
import Derived.OpenShut
namespace Go.Proofs.Ythjcanjhpdpibaa.primDoes
open Go.ChangeShapes Go.WideShapes Go.ChangeAt Go.RowKit Go.Proofs.Ythjcanjhpdpibaa.Prim
set_option linter.unusedVariables false

theorem own : ownKnob Try.prog.godebug = none := by kernel_rfl
theorem bad0_al (op a b : Int) (w : World) (h : a < -2147483647)
    (o1 : (op == 1) = false) (o2 : (op == 2) = false) (o3 : (op == 3) = false) (o4 : (op == 4) = false) (o5 : (op == 5) = false)
    (hX : doX op a b = 0) (hE : doE op a b = 4) (fa : fitsB a = false) (ht : testB op = false) (hr : rankI op = 0) :
    Calls Try.prog 6 #[.int .i64 op, .int .i64 a, .int .i64 b] w fun e w' => e = .returned (.bool true) ∧ Grown w w' := by
  go_enter Try.func6, Try.ntmps6
  go_wp2_with (first | (go_at_call 13; refine (awake_any _).mono ?_; rintro e w' ⟨rfl, rfl⟩) | (go_at_call 14; refine (do_any _ _ _ _).mono ?_; rintro e w' ⟨rfl, rfl⟩; simp only [hX, hE]) | (go_at_call 15; refine (fits_any _ _).mono ?_; rintro e w' ⟨rfl, rfl⟩; simp only [fa]) | (go_at_call 16; refine (test_any _ _).mono ?_; rintro e w' ⟨rfl, rfl⟩; simp only [ht]) | (go_at_call 17; refine (rank_any _ _).mono ?_; rintro e w' ⟨rfl, rfl⟩; simp only [hr]))
  go_ret
  exact ⟨rfl, Grown.refl _⟩

theorem bad0_ah (op a b : Int) (w : World) (a1 : -2147483647 ≤ a) (h : 2147483647 < a)
    (o1 : (op == 1) = false) (o2 : (op == 2) = false) (o3 : (op == 3) = false) (o4 : (op == 4) = false) (o5 : (op == 5) = false)
    (hX : doX op a b = 0) (hE : doE op a b = 4) (fa : fitsB a = false) (ht : testB op = false) (hr : rankI op = 0) :
    Calls Try.prog 6 #[.int .i64 op, .int .i64 a, .int .i64 b] w fun e w' => e = .returned (.bool true) ∧ Grown w w' := by
  go_enter Try.func6, Try.ntmps6
  go_wp2_with (first | (go_at_call 13; refine (awake_any _).mono ?_; rintro e w' ⟨rfl, rfl⟩) | (go_at_call 14; refine (do_any _ _ _ _).mono ?_; rintro e w' ⟨rfl, rfl⟩; simp only [hX, hE]) | (go_at_call 15; refine (fits_any _ _).mono ?_; rintro e w' ⟨rfl, rfl⟩; simp only [fa]) | (go_at_call 16; refine (test_any _ _).mono ?_; rintro e w' ⟨rfl, rfl⟩; simp only [ht]) | (go_at_call 17; refine (rank_any _ _).mono ?_; rintro e w' ⟨rfl, rfl⟩; simp only [hr]))
  go_ret
  exact ⟨rfl, Grown.refl _⟩

theorem bad0_bl (op a b : Int) (w : World) (a1 : -2147483647 ≤ a) (a2 : a ≤ 2147483647) (h : b < -2147483647)
    (o1 : (op == 1) = false) (o2 : (op == 2) = false) (o3 : (op == 3) = false) (o4 : (op == 4) = false) (o5 : (op == 5) = false)
    (hX : doX op a b = 0) (hE : doE op a b = 4) (fa : fitsB a = true) (ht : testB op = false) (hr : rankI op = 0) :
    Calls Try.prog 6 #[.int .i64 op, .int .i64 a, .int .i64 b] w fun e w' => e = .returned (.bool true) ∧ Grown w w' := by
  go_enter Try.func6, Try.ntmps6
  go_wp2_with (first | (go_at_call 13; refine (awake_any _).mono ?_; rintro e w' ⟨rfl, rfl⟩) | (go_at_call 14; refine (do_any _ _ _ _).mono ?_; rintro e w' ⟨rfl, rfl⟩; simp only [hX, hE]) | (go_at_call 15; refine (fits_any _ _).mono ?_; rintro e w' ⟨rfl, rfl⟩; simp only [fa]) | (go_at_call 16; refine (test_any _ _).mono ?_; rintro e w' ⟨rfl, rfl⟩; simp only [ht]) | (go_at_call 17; refine (rank_any _ _).mono ?_; rintro e w' ⟨rfl, rfl⟩; simp only [hr]))
  go_ret
  exact ⟨rfl, Grown.refl _⟩

theorem bad0_bh (op a b : Int) (w : World) (a1 : -2147483647 ≤ a) (a2 : a ≤ 2147483647) (b1 : -2147483647 ≤ b) (h : 2147483647 < b)
    (o1 : (op == 1) = false) (o2 : (op == 2) = false) (o3 : (op == 3) = false) (o4 : (op == 4) = false) (o5 : (op == 5) = false)
    (hX : doX op a b = 0) (hE : doE op a b = 4) (fa : fitsB a = true) (ht : testB op = false) (hr : rankI op = 0) :
    Calls Try.prog 6 #[.int .i64 op, .int .i64 a, .int .i64 b] w fun e w' => e = .returned (.bool true) ∧ Grown w w' := by
  go_enter Try.func6, Try.ntmps6
  go_wp2_with (first | (go_at_call 13; refine (awake_any _).mono ?_; rintro e w' ⟨rfl, rfl⟩) | (go_at_call 14; refine (do_any _ _ _ _).mono ?_; rintro e w' ⟨rfl, rfl⟩; simp only [hX, hE]) | (go_at_call 15; refine (fits_any _ _).mono ?_; rintro e w' ⟨rfl, rfl⟩; simp only [fa]) | (go_at_call 16; refine (test_any _ _).mono ?_; rintro e w' ⟨rfl, rfl⟩; simp only [ht]) | (go_at_call 17; refine (rank_any _ _).mono ?_; rintro e w' ⟨rfl, rfl⟩; simp only [hr]))
  go_ret
  exact ⟨rfl, Grown.refl _⟩

theorem bad1_al (a b : Int) (w : World) (h : a < -2147483647)
    (hX : doX 1 a b = 0) (hE : doE 1 a b = 4) (fa : fitsB a = false) (ht : testB 1 = false) (hr : rankI 1 = 3) :
    Calls Try.prog 6 #[.int .i64 1, .int .i64 a, .int .i64 b] w fun e w' => e = .returned (.bool true) ∧ Grown w w' := by
  go_enter Try.func6, Try.ntmps6
  go_wp2_with (first | (go_at_call 13; refine (awake_any _).mono ?_; rintro e w' ⟨rfl, rfl⟩) | (go_at_call 14; refine (do_any _ _ _ _).mono ?_; rintro e w' ⟨rfl, rfl⟩; simp only [hX, hE]) | (go_at_call 15; refine (fits_any _ _).mono ?_; rintro e w' ⟨rfl, rfl⟩; simp only [fa]) | (go_at_call 16; refine (test_any _ _).mono ?_; rintro e w' ⟨rfl, rfl⟩; simp only [ht]) | (go_at_call 17; refine (rank_any _ _).mono ?_; rintro e w' ⟨rfl, rfl⟩; simp only [hr]))
  go_ret
  exact ⟨rfl, Grown.refl _⟩

theorem bad1_ah (a b : Int) (w : World) (a1 : -2147483647 ≤ a) (h : 2147483647 < a)
    (hX : doX 1 a b = 0) (hE : doE 1 a b = 4) (fa : fitsB a = false) (ht : testB 1 = false) (hr : rankI 1 = 3) :
    Calls Try.prog 6 #[.int .i64 1, .int .i64 a, .int .i64 b] w fun e w' => e = .returned (.bool true) ∧ Grown w w' := by
  go_enter Try.func6, Try.ntmps6
  go_wp2_with (first | (go_at_call 13; refine (awake_any _).mono ?_; rintro e w' ⟨rfl, rfl⟩) | (go_at_call 14; refine (do_any _ _ _ _).mono ?_; rintro e w' ⟨rfl, rfl⟩; simp only [hX, hE]) | (go_at_call 15; refine (fits_any _ _).mono ?_; rintro e w' ⟨rfl, rfl⟩; simp only [fa]) | (go_at_call 16; refine (test_any _ _).mono ?_; rintro e w' ⟨rfl, rfl⟩; simp only [ht]) | (go_at_call 17; refine (rank_any _ _).mono ?_; rintro e w' ⟨rfl, rfl⟩; simp only [hr]))
  go_ret
  exact ⟨rfl, Grown.refl _⟩

theorem bad1_bl (a b : Int) (w : World) (a1 : -2147483647 ≤ a) (a2 : a ≤ 2147483647) (h : b < -2147483647)
    (hX : doX 1 a b = 0) (hE : doE 1 a b = 4) (fa : fitsB a = true) (ht : testB 1 = false) (hr : rankI 1 = 3) :
    Calls Try.prog 6 #[.int .i64 1, .int .i64 a, .int .i64 b] w fun e w' => e = .returned (.bool true) ∧ Grown w w' := by
  go_enter Try.func6, Try.ntmps6
  go_wp2_with (first | (go_at_call 13; refine (awake_any _).mono ?_; rintro e w' ⟨rfl, rfl⟩) | (go_at_call 14; refine (do_any _ _ _ _).mono ?_; rintro e w' ⟨rfl, rfl⟩; simp only [hX, hE]) | (go_at_call 15; refine (fits_any _ _).mono ?_; rintro e w' ⟨rfl, rfl⟩; simp only [fa]) | (go_at_call 16; refine (test_any _ _).mono ?_; rintro e w' ⟨rfl, rfl⟩; simp only [ht]) | (go_at_call 17; refine (rank_any _ _).mono ?_; rintro e w' ⟨rfl, rfl⟩; simp only [hr]))
  go_ret
  exact ⟨rfl, Grown.refl _⟩

theorem bad1_bh (a b : Int) (w : World) (a1 : -2147483647 ≤ a) (a2 : a ≤ 2147483647) (b1 : -2147483647 ≤ b) (h : 2147483647 < b)
    (hX : doX 1 a b = 0) (hE : doE 1 a b = 4) (fa : fitsB a = true) (ht : testB 1 = false) (hr : rankI 1 = 3) :
    Calls Try.prog 6 #[.int .i64 1, .int .i64 a, .int .i64 b] w fun e w' => e = .returned (.bool true) ∧ Grown w w' := by
  go_enter Try.func6, Try.ntmps6
  go_wp2_with (first | (go_at_call 13; refine (awake_any _).mono ?_; rintro e w' ⟨rfl, rfl⟩) | (go_at_call 14; refine (do_any _ _ _ _).mono ?_; rintro e w' ⟨rfl, rfl⟩; simp only [hX, hE]) | (go_at_call 15; refine (fits_any _ _).mono ?_; rintro e w' ⟨rfl, rfl⟩; simp only [fa]) | (go_at_call 16; refine (test_any _ _).mono ?_; rintro e w' ⟨rfl, rfl⟩; simp only [ht]) | (go_at_call 17; refine (rank_any _ _).mono ?_; rintro e w' ⟨rfl, rfl⟩; simp only [hr]))
  go_ret
  exact ⟨rfl, Grown.refl _⟩

theorem bad2_al (a b : Int) (w : World) (h : a < -2147483647)
    (hX : doX 2 a b = 0) (hE : doE 2 a b = 4) (fa : fitsB a = false) (ht : testB 2 = false) (hr : rankI 2 = 3) :
    Calls Try.prog 6 #[.int .i64 2, .int .i64 a, .int .i64 b] w fun e w' => e = .returned (.bool true) ∧ Grown w w' := by
  go_enter Try.func6, Try.ntmps6
  go_wp2_with (first | (go_at_call 13; refine (awake_any _).mono ?_; rintro e w' ⟨rfl, rfl⟩) | (go_at_call 14; refine (do_any _ _ _ _).mono ?_; rintro e w' ⟨rfl, rfl⟩; simp only [hX, hE]) | (go_at_call 15; refine (fits_any _ _).mono ?_; rintro e w' ⟨rfl, rfl⟩; simp only [fa]) | (go_at_call 16; refine (test_any _ _).mono ?_; rintro e w' ⟨rfl, rfl⟩; simp only [ht]) | (go_at_call 17; refine (rank_any _ _).mono ?_; rintro e w' ⟨rfl, rfl⟩; simp only [hr]))
  go_ret
  exact ⟨rfl, Grown.refl _⟩

theorem bad2_ah (a b : Int) (w : World) (a1 : -2147483647 ≤ a) (h : 2147483647 < a)
    (hX : doX 2 a b = 0) (hE : doE 2 a b = 4) (fa : fitsB a = false) (ht : testB 2 = false) (hr : rankI 2 = 3) :
    Calls Try.prog 6 #[.int .i64 2, .int .i64 a, .int .i64 b] w fun e w' => e = .returned (.bool true) ∧ Grown w w' := by
  go_enter Try.func6, Try.ntmps6
  go_wp2_with (first | (go_at_call 13; refine (awake_any _).mono ?_; rintro e w' ⟨rfl, rfl⟩) | (go_at_call 14; refine (do_any _ _ _ _).mono ?_; rintro e w' ⟨rfl, rfl⟩; simp only [hX, hE]) | (go_at_call 15; refine (fits_any _ _).mono ?_; rintro e w' ⟨rfl, rfl⟩; simp only [fa]) | (go_at_call 16; refine (test_any _ _).mono ?_; rintro e w' ⟨rfl, rfl⟩; simp only [ht]) | (go_at_call 17; refine (rank_any _ _).mono ?_; rintro e w' ⟨rfl, rfl⟩; simp only [hr]))
  go_ret
  exact ⟨rfl, Grown.refl _⟩

theorem bad2_bl (a b : Int) (w : World) (a1 : -2147483647 ≤ a) (a2 : a ≤ 2147483647) (h : b < -2147483647)
    (hX : doX 2 a b = 0) (hE : doE 2 a b = 4) (fa : fitsB a = true) (ht : testB 2 = false) (hr : rankI 2 = 3) :
    Calls Try.prog 6 #[.int .i64 2, .int .i64 a, .int .i64 b] w fun e w' => e = .returned (.bool true) ∧ Grown w w' := by
  go_enter Try.func6, Try.ntmps6
  go_wp2_with (first | (go_at_call 13; refine (awake_any _).mono ?_; rintro e w' ⟨rfl, rfl⟩) | (go_at_call 14; refine (do_any _ _ _ _).mono ?_; rintro e w' ⟨rfl, rfl⟩; simp only [hX, hE]) | (go_at_call 15; refine (fits_any _ _).mono ?_; rintro e w' ⟨rfl, rfl⟩; simp only [fa]) | (go_at_call 16; refine (test_any _ _).mono ?_; rintro e w' ⟨rfl, rfl⟩; simp only [ht]) | (go_at_call 17; refine (rank_any _ _).mono ?_; rintro e w' ⟨rfl, rfl⟩; simp only [hr]))
  go_ret
  exact ⟨rfl, Grown.refl _⟩

theorem bad2_bh (a b : Int) (w : World) (a1 : -2147483647 ≤ a) (a2 : a ≤ 2147483647) (b1 : -2147483647 ≤ b) (h : 2147483647 < b)
    (hX : doX 2 a b = 0) (hE : doE 2 a b = 4) (fa : fitsB a = true) (ht : testB 2 = false) (hr : rankI 2 = 3) :
    Calls Try.prog 6 #[.int .i64 2, .int .i64 a, .int .i64 b] w fun e w' => e = .returned (.bool true) ∧ Grown w w' := by
  go_enter Try.func6, Try.ntmps6
  go_wp2_with (first | (go_at_call 13; refine (awake_any _).mono ?_; rintro e w' ⟨rfl, rfl⟩) | (go_at_call 14; refine (do_any _ _ _ _).mono ?_; rintro e w' ⟨rfl, rfl⟩; simp only [hX, hE]) | (go_at_call 15; refine (fits_any _ _).mono ?_; rintro e w' ⟨rfl, rfl⟩; simp only [fa]) | (go_at_call 16; refine (test_any _ _).mono ?_; rintro e w' ⟨rfl, rfl⟩; simp only [ht]) | (go_at_call 17; refine (rank_any _ _).mono ?_; rintro e w' ⟨rfl, rfl⟩; simp only [hr]))
  go_ret
  exact ⟨rfl, Grown.refl _⟩

theorem bad3_al (a b : Int) (w : World) (h : a < -2147483647)
    (hX : doX 3 a b = 0) (hE : doE 3 a b = 4) (fa : fitsB a = false) (ht : testB 3 = false) (hr : rankI 3 = 4) :
    Calls Try.prog 6 #[.int .i64 3, .int .i64 a, .int .i64 b] w fun e w' => e = .returned (.bool true) ∧ Grown w w' := by
  go_enter Try.func6, Try.ntmps6
  go_wp2_with (first | (go_at_call 13; refine (awake_any _).mono ?_; rintro e w' ⟨rfl, rfl⟩) | (go_at_call 14; refine (do_any _ _ _ _).mono ?_; rintro e w' ⟨rfl, rfl⟩; simp only [hX, hE]) | (go_at_call 15; refine (fits_any _ _).mono ?_; rintro e w' ⟨rfl, rfl⟩; simp only [fa]) | (go_at_call 16; refine (test_any _ _).mono ?_; rintro e w' ⟨rfl, rfl⟩; simp only [ht]) | (go_at_call 17; refine (rank_any _ _).mono ?_; rintro e w' ⟨rfl, rfl⟩; simp only [hr]))
  go_ret
  exact ⟨rfl, Grown.refl _⟩

theorem bad3_ah (a b : Int) (w : World) (a1 : -2147483647 ≤ a) (h : 2147483647 < a)
    (hX : doX 3 a b = 0) (hE : doE 3 a b = 4) (fa : fitsB a = false) (ht : testB 3 = false) (hr : rankI 3 = 4) :
    Calls Try.prog 6 #[.int .i64 3, .int .i64 a, .int .i64 b] w fun e w' => e = .returned (.bool true) ∧ Grown w w' := by
  go_enter Try.func6, Try.ntmps6
  go_wp2_with (first | (go_at_call 13; refine (awake_any _).mono ?_; rintro e w' ⟨rfl, rfl⟩) | (go_at_call 14; refine (do_any _ _ _ _).mono ?_; rintro e w' ⟨rfl, rfl⟩; simp only [hX, hE]) | (go_at_call 15; refine (fits_any _ _).mono ?_; rintro e w' ⟨rfl, rfl⟩; simp only [fa]) | (go_at_call 16; refine (test_any _ _).mono ?_; rintro e w' ⟨rfl, rfl⟩; simp only [ht]) | (go_at_call 17; refine (rank_any _ _).mono ?_; rintro e w' ⟨rfl, rfl⟩; simp only [hr]))
  go_ret
  exact ⟨rfl, Grown.refl _⟩

theorem bad3_bl (a b : Int) (w : World) (a1 : -2147483647 ≤ a) (a2 : a ≤ 2147483647) (h : b < -2147483647)
    (hX : doX 3 a b = 0) (hE : doE 3 a b = 4) (fa : fitsB a = true) (ht : testB 3 = false) (hr : rankI 3 = 4) :
    Calls Try.prog 6 #[.int .i64 3, .int .i64 a, .int .i64 b] w fun e w' => e = .returned (.bool true) ∧ Grown w w' := by
  go_enter Try.func6, Try.ntmps6
  go_wp2_with (first | (go_at_call 13; refine (awake_any _).mono ?_; rintro e w' ⟨rfl, rfl⟩) | (go_at_call 14; refine (do_any _ _ _ _).mono ?_; rintro e w' ⟨rfl, rfl⟩; simp only [hX, hE]) | (go_at_call 15; refine (fits_any _ _).mono ?_; rintro e w' ⟨rfl, rfl⟩; simp only [fa]) | (go_at_call 16; refine (test_any _ _).mono ?_; rintro e w' ⟨rfl, rfl⟩; simp only [ht]) | (go_at_call 17; refine (rank_any _ _).mono ?_; rintro e w' ⟨rfl, rfl⟩; simp only [hr]))
  go_ret
  exact ⟨rfl, Grown.refl _⟩

theorem bad3_bh (a b : Int) (w : World) (a1 : -2147483647 ≤ a) (a2 : a ≤ 2147483647) (b1 : -2147483647 ≤ b) (h : 2147483647 < b)
    (hX : doX 3 a b = 0) (hE : doE 3 a b = 4) (fa : fitsB a = true) (ht : testB 3 = false) (hr : rankI 3 = 4) :
    Calls Try.prog 6 #[.int .i64 3, .int .i64 a, .int .i64 b] w fun e w' => e = .returned (.bool true) ∧ Grown w w' := by
  go_enter Try.func6, Try.ntmps6
  go_wp2_with (first | (go_at_call 13; refine (awake_any _).mono ?_; rintro e w' ⟨rfl, rfl⟩) | (go_at_call 14; refine (do_any _ _ _ _).mono ?_; rintro e w' ⟨rfl, rfl⟩; simp only [hX, hE]) | (go_at_call 15; refine (fits_any _ _).mono ?_; rintro e w' ⟨rfl, rfl⟩; simp only [fa]) | (go_at_call 16; refine (test_any _ _).mono ?_; rintro e w' ⟨rfl, rfl⟩; simp only [ht]) | (go_at_call 17; refine (rank_any _ _).mono ?_; rintro e w' ⟨rfl, rfl⟩; simp only [hr]))
  go_ret
  exact ⟨rfl, Grown.refl _⟩

theorem bad4_al (a b : Int) (w : World) (h : a < -2147483647)
    (hX : doX 4 a b = 0) (hE : doE 4 a b = 4) (fa : fitsB a = false) (ht : testB 4 = true) (hr : rankI 4 = 2) :
    Calls Try.prog 6 #[.int .i64 4, .int .i64 a, .int .i64 b] w fun e w' => e = .returned (.bool true) ∧ Grown w w' := by
  go_enter Try.func6, Try.ntmps6
  go_wp2_with (first | (go_at_call 13; refine (awake_any _).mono ?_; rintro e w' ⟨rfl, rfl⟩) | (go_at_call 14; refine (do_any _ _ _ _).mono ?_; rintro e w' ⟨rfl, rfl⟩; simp only [hX, hE]) | (go_at_call 15; refine (fits_any _ _).mono ?_; rintro e w' ⟨rfl, rfl⟩; simp only [fa]) | (go_at_call 16; refine (test_any _ _).mono ?_; rintro e w' ⟨rfl, rfl⟩; simp only [ht]) | (go_at_call 17; refine (rank_any _ _).mono ?_; rintro e w' ⟨rfl, rfl⟩; simp only [hr]))
  go_ret
  exact ⟨rfl, Grown.refl _⟩

theorem bad4_ah (a b : Int) (w : World) (a1 : -2147483647 ≤ a) (h : 2147483647 < a)
    (hX : doX 4 a b = 0) (hE : doE 4 a b = 4) (fa : fitsB a = false) (ht : testB 4 = true) (hr : rankI 4 = 2) :
    Calls Try.prog 6 #[.int .i64 4, .int .i64 a, .int .i64 b] w fun e w' => e = .returned (.bool true) ∧ Grown w w' := by
  go_enter Try.func6, Try.ntmps6
  go_wp2_with (first | (go_at_call 13; refine (awake_any _).mono ?_; rintro e w' ⟨rfl, rfl⟩) | (go_at_call 14; refine (do_any _ _ _ _).mono ?_; rintro e w' ⟨rfl, rfl⟩; simp only [hX, hE]) | (go_at_call 15; refine (fits_any _ _).mono ?_; rintro e w' ⟨rfl, rfl⟩; simp only [fa]) | (go_at_call 16; refine (test_any _ _).mono ?_; rintro e w' ⟨rfl, rfl⟩; simp only [ht]) | (go_at_call 17; refine (rank_any _ _).mono ?_; rintro e w' ⟨rfl, rfl⟩; simp only [hr]))
  go_ret
  exact ⟨rfl, Grown.refl _⟩

theorem bad4_bl (a b : Int) (w : World) (a1 : -2147483647 ≤ a) (a2 : a ≤ 2147483647) (h : b < -2147483647)
    (hX : doX 4 a b = 0) (hE : doE 4 a b = 4) (fa : fitsB a = true) (ht : testB 4 = true) (hr : rankI 4 = 2) :
    Calls Try.prog 6 #[.int .i64 4, .int .i64 a, .int .i64 b] w fun e w' => e = .returned (.bool true) ∧ Grown w w' := by
  go_enter Try.func6, Try.ntmps6
  go_wp2_with (first | (go_at_call 13; refine (awake_any _).mono ?_; rintro e w' ⟨rfl, rfl⟩) | (go_at_call 14; refine (do_any _ _ _ _).mono ?_; rintro e w' ⟨rfl, rfl⟩; simp only [hX, hE]) | (go_at_call 15; refine (fits_any _ _).mono ?_; rintro e w' ⟨rfl, rfl⟩; simp only [fa]) | (go_at_call 16; refine (test_any _ _).mono ?_; rintro e w' ⟨rfl, rfl⟩; simp only [ht]) | (go_at_call 17; refine (rank_any _ _).mono ?_; rintro e w' ⟨rfl, rfl⟩; simp only [hr]))
  go_ret
  exact ⟨rfl, Grown.refl _⟩

theorem bad4_bh (a b : Int) (w : World) (a1 : -2147483647 ≤ a) (a2 : a ≤ 2147483647) (b1 : -2147483647 ≤ b) (h : 2147483647 < b)
    (hX : doX 4 a b = 0) (hE : doE 4 a b = 4) (fa : fitsB a = true) (ht : testB 4 = true) (hr : rankI 4 = 2) :
    Calls Try.prog 6 #[.int .i64 4, .int .i64 a, .int .i64 b] w fun e w' => e = .returned (.bool true) ∧ Grown w w' := by
  go_enter Try.func6, Try.ntmps6
  go_wp2_with (first | (go_at_call 13; refine (awake_any _).mono ?_; rintro e w' ⟨rfl, rfl⟩) | (go_at_call 14; refine (do_any _ _ _ _).mono ?_; rintro e w' ⟨rfl, rfl⟩; simp only [hX, hE]) | (go_at_call 15; refine (fits_any _ _).mono ?_; rintro e w' ⟨rfl, rfl⟩; simp only [fa]) | (go_at_call 16; refine (test_any _ _).mono ?_; rintro e w' ⟨rfl, rfl⟩; simp only [ht]) | (go_at_call 17; refine (rank_any _ _).mono ?_; rintro e w' ⟨rfl, rfl⟩; simp only [hr]))
  go_ret
  exact ⟨rfl, Grown.refl _⟩

theorem bad5_al (a b : Int) (w : World) (h : a < -2147483647)
    (hX : doX 5 a b = 0) (hE : doE 5 a b = 4) (fa : fitsB a = false) (ht : testB 5 = true) (hr : rankI 5 = 2) :
    Calls Try.prog 6 #[.int .i64 5, .int .i64 a, .int .i64 b] w fun e w' => e = .returned (.bool true) ∧ Grown w w' := by
  go_enter Try.func6, Try.ntmps6
  go_wp2_with (first | (go_at_call 13; refine (awake_any _).mono ?_; rintro e w' ⟨rfl, rfl⟩) | (go_at_call 14; refine (do_any _ _ _ _).mono ?_; rintro e w' ⟨rfl, rfl⟩; simp only [hX, hE]) | (go_at_call 15; refine (fits_any _ _).mono ?_; rintro e w' ⟨rfl, rfl⟩; simp only [fa]) | (go_at_call 16; refine (test_any _ _).mono ?_; rintro e w' ⟨rfl, rfl⟩; simp only [ht]) | (go_at_call 17; refine (rank_any _ _).mono ?_; rintro e w' ⟨rfl, rfl⟩; simp only [hr]))
  go_ret
  exact ⟨rfl, Grown.refl _⟩

theorem bad5_ah (a b : Int) (w : World) (a1 : -2147483647 ≤ a) (h : 2147483647 < a)
    (hX : doX 5 a b = 0) (hE : doE 5 a b = 4) (fa : fitsB a = false) (ht : testB 5 = true) (hr : rankI 5 = 2) :
    Calls Try.prog 6 #[.int .i64 5, .int .i64 a, .int .i64 b] w fun e w' => e = .returned (.bool true) ∧ Grown w w' := by
  go_enter Try.func6, Try.ntmps6
  go_wp2_with (first | (go_at_call 13; refine (awake_any _).mono ?_; rintro e w' ⟨rfl, rfl⟩) | (go_at_call 14; refine (do_any _ _ _ _).mono ?_; rintro e w' ⟨rfl, rfl⟩; simp only [hX, hE]) | (go_at_call 15; refine (fits_any _ _).mono ?_; rintro e w' ⟨rfl, rfl⟩; simp only [fa]) | (go_at_call 16; refine (test_any _ _).mono ?_; rintro e w' ⟨rfl, rfl⟩; simp only [ht]) | (go_at_call 17; refine (rank_any _ _).mono ?_; rintro e w' ⟨rfl, rfl⟩; simp only [hr]))
  go_ret
  exact ⟨rfl, Grown.refl _⟩

theorem bad5_bl (a b : Int) (w : World) (a1 : -2147483647 ≤ a) (a2 : a ≤ 2147483647) (h : b < -2147483647)
    (hX : doX 5 a b = 0) (hE : doE 5 a b = 4) (fa : fitsB a = true) (ht : testB 5 = true) (hr : rankI 5 = 2) :
    Calls Try.prog 6 #[.int .i64 5, .int .i64 a, .int .i64 b] w fun e w' => e = .returned (.bool true) ∧ Grown w w' := by
  go_enter Try.func6, Try.ntmps6
  go_wp2_with (first | (go_at_call 13; refine (awake_any _).mono ?_; rintro e w' ⟨rfl, rfl⟩) | (go_at_call 14; refine (do_any _ _ _ _).mono ?_; rintro e w' ⟨rfl, rfl⟩; simp only [hX, hE]) | (go_at_call 15; refine (fits_any _ _).mono ?_; rintro e w' ⟨rfl, rfl⟩; simp only [fa]) | (go_at_call 16; refine (test_any _ _).mono ?_; rintro e w' ⟨rfl, rfl⟩; simp only [ht]) | (go_at_call 17; refine (rank_any _ _).mono ?_; rintro e w' ⟨rfl, rfl⟩; simp only [hr]))
  go_ret
  exact ⟨rfl, Grown.refl _⟩

theorem bad5_bh (a b : Int) (w : World) (a1 : -2147483647 ≤ a) (a2 : a ≤ 2147483647) (b1 : -2147483647 ≤ b) (h : 2147483647 < b)
    (hX : doX 5 a b = 0) (hE : doE 5 a b = 4) (fa : fitsB a = true) (ht : testB 5 = true) (hr : rankI 5 = 2) :
    Calls Try.prog 6 #[.int .i64 5, .int .i64 a, .int .i64 b] w fun e w' => e = .returned (.bool true) ∧ Grown w w' := by
  go_enter Try.func6, Try.ntmps6
  go_wp2_with (first | (go_at_call 13; refine (awake_any _).mono ?_; rintro e w' ⟨rfl, rfl⟩) | (go_at_call 14; refine (do_any _ _ _ _).mono ?_; rintro e w' ⟨rfl, rfl⟩; simp only [hX, hE]) | (go_at_call 15; refine (fits_any _ _).mono ?_; rintro e w' ⟨rfl, rfl⟩; simp only [fa]) | (go_at_call 16; refine (test_any _ _).mono ?_; rintro e w' ⟨rfl, rfl⟩; simp only [ht]) | (go_at_call 17; refine (rank_any _ _).mono ?_; rintro e w' ⟨rfl, rfl⟩; simp only [hr]))
  go_ret
  exact ⟨rfl, Grown.refl _⟩

theorem bad0_in (op a b : Int) (w : World) (a1 : -2147483647 ≤ a) (a2 : a ≤ 2147483647) (b1 : -2147483647 ≤ b) (b2 : b ≤ 2147483647)
    (o1 : (op == 1) = false) (o2 : (op == 2) = false) (o3 : (op == 3) = false) (o4 : (op == 4) = false) (o5 : (op == 5) = false)
    (hX : doX op a b = 0) (hE : doE op a b = 4) (fa : fitsB a = true) (ht : testB op = false) (hr : rankI op = 0) :
    Calls Try.prog 6 #[.int .i64 op, .int .i64 a, .int .i64 b] w fun e w' => e = .returned (.bool true) ∧ Grown w w' := by
  go_enter Try.func6, Try.ntmps6
  go_wp2_with (first | (go_at_call 13; refine (awake_any _).mono ?_; rintro e w' ⟨rfl, rfl⟩) | (go_at_call 14; refine (do_any _ _ _ _).mono ?_; rintro e w' ⟨rfl, rfl⟩; simp only [hX, hE]) | (go_at_call 15; refine (fits_any _ _).mono ?_; rintro e w' ⟨rfl, rfl⟩; simp only [fa]) | (go_at_call 16; refine (test_any _ _).mono ?_; rintro e w' ⟨rfl, rfl⟩; simp only [ht]) | (go_at_call 17; refine (rank_any _ _).mono ?_; rintro e w' ⟨rfl, rfl⟩; simp only [hr]))
  go_ret
  exact ⟨rfl, Grown.refl _⟩

theorem good1_lo (a b : Int) (w : World) (a1 : -2147483647 ≤ a) (a2 : a ≤ 2147483647) (b1 : -2147483647 ≤ b) (b2 : b ≤ 2147483647) (h : a + b < -2147483647)
    (hX : doX 1 a b = 0) (hE : doE 1 a b = 7) (fa : fitsB a = true) (ht : testB 1 = false) (hr : rankI 1 = 3) :
    Calls Try.prog 6 #[.int .i64 1, .int .i64 a, .int .i64 b] w fun e w' => e = .returned (.bool true) ∧ Grown w w' := by
  go_enter Try.func6, Try.ntmps6
  go_wp2_with (first | (go_at_call 13; refine (awake_any _).mono ?_; rintro e w' ⟨rfl, rfl⟩) | (go_at_call 14; refine (do_any _ _ _ _).mono ?_; rintro e w' ⟨rfl, rfl⟩; simp only [hX, hE]) | (go_at_call 15; refine (fits_any _ _).mono ?_; rintro e w' ⟨rfl, rfl⟩; simp only [fa]) | (go_at_call 16; refine (test_any _ _).mono ?_; rintro e w' ⟨rfl, rfl⟩; simp only [ht]) | (go_at_call 17; refine (rank_any _ _).mono ?_; rintro e w' ⟨rfl, rfl⟩; simp only [hr]))
  go_ret
  exact ⟨rfl, Grown.refl _⟩

theorem good1_hi (a b : Int) (w : World) (a1 : -2147483647 ≤ a) (a2 : a ≤ 2147483647) (b1 : -2147483647 ≤ b) (b2 : b ≤ 2147483647) (h1 : -2147483647 ≤ a + b) (h : 2147483647 < a + b)
    (hX : doX 1 a b = 0) (hE : doE 1 a b = 7) (fa : fitsB a = true) (ht : testB 1 = false) (hr : rankI 1 = 3) :
    Calls Try.prog 6 #[.int .i64 1, .int .i64 a, .int .i64 b] w fun e w' => e = .returned (.bool true) ∧ Grown w w' := by
  go_enter Try.func6, Try.ntmps6
  go_wp2_with (first | (go_at_call 13; refine (awake_any _).mono ?_; rintro e w' ⟨rfl, rfl⟩) | (go_at_call 14; refine (do_any _ _ _ _).mono ?_; rintro e w' ⟨rfl, rfl⟩; simp only [hX, hE]) | (go_at_call 15; refine (fits_any _ _).mono ?_; rintro e w' ⟨rfl, rfl⟩; simp only [fa]) | (go_at_call 16; refine (test_any _ _).mono ?_; rintro e w' ⟨rfl, rfl⟩; simp only [ht]) | (go_at_call 17; refine (rank_any _ _).mono ?_; rintro e w' ⟨rfl, rfl⟩; simp only [hr]))
  go_ret
  exact ⟨rfl, Grown.refl _⟩

theorem good1_in (a b : Int) (w : World) (a1 : -2147483647 ≤ a) (a2 : a ≤ 2147483647) (b1 : -2147483647 ≤ b) (b2 : b ≤ 2147483647) (h1 : -2147483647 ≤ a + b) (h : a + b ≤ 2147483647)
    (hX : doX 1 a b = a + b) (hE : doE 1 a b = 0) (fa : fitsB a = true) (ht : testB 1 = false) (hr : rankI 1 = 3) :
    Calls Try.prog 6 #[.int .i64 1, .int .i64 a, .int .i64 b] w fun e w' => e = .returned (.bool true) ∧ Grown w w' := by
  go_enter Try.func6, Try.ntmps6
  go_wp2_with (first | (go_at_call 13; refine (awake_any _).mono ?_; rintro e w' ⟨rfl, rfl⟩) | (go_at_call 14; refine (do_any _ _ _ _).mono ?_; rintro e w' ⟨rfl, rfl⟩; simp only [hX, hE]) | (go_at_call 15; refine (fits_any _ _).mono ?_; rintro e w' ⟨rfl, rfl⟩; simp only [fa]) | (go_at_call 16; refine (test_any _ _).mono ?_; rintro e w' ⟨rfl, rfl⟩; simp only [ht]) | (go_at_call 17; refine (rank_any _ _).mono ?_; rintro e w' ⟨rfl, rfl⟩; simp only [hr]))
  go_ret
  exact ⟨rfl, Grown.refl _⟩

theorem good2_lo (a b : Int) (w : World) (a1 : -2147483647 ≤ a) (a2 : a ≤ 2147483647) (b1 : -2147483647 ≤ b) (b2 : b ≤ 2147483647) (h : a - b < -2147483647)
    (hX : doX 2 a b = 0) (hE : doE 2 a b = 7) (fa : fitsB a = true) (ht : testB 2 = false) (hr : rankI 2 = 3) :
    Calls Try.prog 6 #[.int .i64 2, .int .i64 a, .int .i64 b] w fun e w' => e = .returned (.bool true) ∧ Grown w w' := by
  go_enter Try.func6, Try.ntmps6
  go_wp2_with (first | (go_at_call 13; refine (awake_any _).mono ?_; rintro e w' ⟨rfl, rfl⟩) | (go_at_call 14; refine (do_any _ _ _ _).mono ?_; rintro e w' ⟨rfl, rfl⟩; simp only [hX, hE]) | (go_at_call 15; refine (fits_any _ _).mono ?_; rintro e w' ⟨rfl, rfl⟩; simp only [fa]) | (go_at_call 16; refine (test_any _ _).mono ?_; rintro e w' ⟨rfl, rfl⟩; simp only [ht]) | (go_at_call 17; refine (rank_any _ _).mono ?_; rintro e w' ⟨rfl, rfl⟩; simp only [hr]))
  go_ret
  exact ⟨rfl, Grown.refl _⟩

theorem good2_hi (a b : Int) (w : World) (a1 : -2147483647 ≤ a) (a2 : a ≤ 2147483647) (b1 : -2147483647 ≤ b) (b2 : b ≤ 2147483647) (h1 : -2147483647 ≤ a - b) (h : 2147483647 < a - b)
    (hX : doX 2 a b = 0) (hE : doE 2 a b = 7) (fa : fitsB a = true) (ht : testB 2 = false) (hr : rankI 2 = 3) :
    Calls Try.prog 6 #[.int .i64 2, .int .i64 a, .int .i64 b] w fun e w' => e = .returned (.bool true) ∧ Grown w w' := by
  go_enter Try.func6, Try.ntmps6
  go_wp2_with (first | (go_at_call 13; refine (awake_any _).mono ?_; rintro e w' ⟨rfl, rfl⟩) | (go_at_call 14; refine (do_any _ _ _ _).mono ?_; rintro e w' ⟨rfl, rfl⟩; simp only [hX, hE]) | (go_at_call 15; refine (fits_any _ _).mono ?_; rintro e w' ⟨rfl, rfl⟩; simp only [fa]) | (go_at_call 16; refine (test_any _ _).mono ?_; rintro e w' ⟨rfl, rfl⟩; simp only [ht]) | (go_at_call 17; refine (rank_any _ _).mono ?_; rintro e w' ⟨rfl, rfl⟩; simp only [hr]))
  go_ret
  exact ⟨rfl, Grown.refl _⟩

theorem good2_in (a b : Int) (w : World) (a1 : -2147483647 ≤ a) (a2 : a ≤ 2147483647) (b1 : -2147483647 ≤ b) (b2 : b ≤ 2147483647) (h1 : -2147483647 ≤ a - b) (h : a - b ≤ 2147483647)
    (hX : doX 2 a b = a - b) (hE : doE 2 a b = 0) (fa : fitsB a = true) (ht : testB 2 = false) (hr : rankI 2 = 3) :
    Calls Try.prog 6 #[.int .i64 2, .int .i64 a, .int .i64 b] w fun e w' => e = .returned (.bool true) ∧ Grown w w' := by
  go_enter Try.func6, Try.ntmps6
  go_wp2_with (first | (go_at_call 13; refine (awake_any _).mono ?_; rintro e w' ⟨rfl, rfl⟩) | (go_at_call 14; refine (do_any _ _ _ _).mono ?_; rintro e w' ⟨rfl, rfl⟩; simp only [hX, hE]) | (go_at_call 15; refine (fits_any _ _).mono ?_; rintro e w' ⟨rfl, rfl⟩; simp only [fa]) | (go_at_call 16; refine (test_any _ _).mono ?_; rintro e w' ⟨rfl, rfl⟩; simp only [ht]) | (go_at_call 17; refine (rank_any _ _).mono ?_; rintro e w' ⟨rfl, rfl⟩; simp only [hr]))
  go_ret
  exact ⟨rfl, Grown.refl _⟩

theorem good3_lo (a b : Int) (w : World) (a1 : -2147483647 ≤ a) (a2 : a ≤ 2147483647) (b1 : -2147483647 ≤ b) (b2 : b ≤ 2147483647) (m1 : -4611686014132420609 ≤ a * b) (m2 : a * b ≤ 4611686014132420609) (h : a * b < -2147483647)
    (hX : doX 3 a b = 0) (hE : doE 3 a b = 7) (fa : fitsB a = true) (ht : testB 3 = false) (hr : rankI 3 = 4) :
    Calls Try.prog 6 #[.int .i64 3, .int .i64 a, .int .i64 b] w fun e w' => e = .returned (.bool true) ∧ Grown w w' := by
  go_enter Try.func6, Try.ntmps6
  go_wp2_with (first | (go_at_call 13; refine (awake_any _).mono ?_; rintro e w' ⟨rfl, rfl⟩) | (go_at_call 14; refine (do_any _ _ _ _).mono ?_; rintro e w' ⟨rfl, rfl⟩; simp only [hX, hE]) | (go_at_call 15; refine (fits_any _ _).mono ?_; rintro e w' ⟨rfl, rfl⟩; simp only [fa]) | (go_at_call 16; refine (test_any _ _).mono ?_; rintro e w' ⟨rfl, rfl⟩; simp only [ht]) | (go_at_call 17; refine (rank_any _ _).mono ?_; rintro e w' ⟨rfl, rfl⟩; simp only [hr]))
  go_ret
  exact ⟨rfl, Grown.refl _⟩

theorem good3_hi (a b : Int) (w : World) (a1 : -2147483647 ≤ a) (a2 : a ≤ 2147483647) (b1 : -2147483647 ≤ b) (b2 : b ≤ 2147483647) (m1 : -4611686014132420609 ≤ a * b) (m2 : a * b ≤ 4611686014132420609) (h1 : -2147483647 ≤ a * b) (h : 2147483647 < a * b)
    (hX : doX 3 a b = 0) (hE : doE 3 a b = 7) (fa : fitsB a = true) (ht : testB 3 = false) (hr : rankI 3 = 4) :
    Calls Try.prog 6 #[.int .i64 3, .int .i64 a, .int .i64 b] w fun e w' => e = .returned (.bool true) ∧ Grown w w' := by
  go_enter Try.func6, Try.ntmps6
  go_wp2_with (first | (go_at_call 13; refine (awake_any _).mono ?_; rintro e w' ⟨rfl, rfl⟩) | (go_at_call 14; refine (do_any _ _ _ _).mono ?_; rintro e w' ⟨rfl, rfl⟩; simp only [hX, hE]) | (go_at_call 15; refine (fits_any _ _).mono ?_; rintro e w' ⟨rfl, rfl⟩; simp only [fa]) | (go_at_call 16; refine (test_any _ _).mono ?_; rintro e w' ⟨rfl, rfl⟩; simp only [ht]) | (go_at_call 17; refine (rank_any _ _).mono ?_; rintro e w' ⟨rfl, rfl⟩; simp only [hr]))
  go_ret
  exact ⟨rfl, Grown.refl _⟩

theorem good3_in (a b : Int) (w : World) (a1 : -2147483647 ≤ a) (a2 : a ≤ 2147483647) (b1 : -2147483647 ≤ b) (b2 : b ≤ 2147483647) (m1 : -4611686014132420609 ≤ a * b) (m2 : a * b ≤ 4611686014132420609) (h1 : -2147483647 ≤ a * b) (h : a * b ≤ 2147483647)
    (hX : doX 3 a b = a * b) (hE : doE 3 a b = 0) (fa : fitsB a = true) (ht : testB 3 = false) (hr : rankI 3 = 4) :
    Calls Try.prog 6 #[.int .i64 3, .int .i64 a, .int .i64 b] w fun e w' => e = .returned (.bool true) ∧ Grown w w' := by
  go_enter Try.func6, Try.ntmps6
  go_wp2_with (first | (go_at_call 13; refine (awake_any _).mono ?_; rintro e w' ⟨rfl, rfl⟩) | (go_at_call 14; refine (do_any _ _ _ _).mono ?_; rintro e w' ⟨rfl, rfl⟩; simp only [hX, hE]) | (go_at_call 15; refine (fits_any _ _).mono ?_; rintro e w' ⟨rfl, rfl⟩; simp only [fa]) | (go_at_call 16; refine (test_any _ _).mono ?_; rintro e w' ⟨rfl, rfl⟩; simp only [ht]) | (go_at_call 17; refine (rank_any _ _).mono ?_; rintro e w' ⟨rfl, rfl⟩; simp only [hr]))
  go_ret
  exact ⟨rfl, Grown.refl _⟩

theorem good4_eq (a b : Int) (w : World) (a1 : -2147483647 ≤ a) (a2 : a ≤ 2147483647) (b1 : -2147483647 ≤ b) (b2 : b ≤ 2147483647) (h : (a == b) = true)
    (hX : doX 4 a b = 1) (hE : doE 4 a b = 0) (fa : fitsB a = true) (ht : testB 4 = true) (hr : rankI 4 = 2) :
    Calls Try.prog 6 #[.int .i64 4, .int .i64 a, .int .i64 b] w fun e w' => e = .returned (.bool true) ∧ Grown w w' := by
  go_enter Try.func6, Try.ntmps6
  go_wp2_with (first | (go_at_call 13; refine (awake_any _).mono ?_; rintro e w' ⟨rfl, rfl⟩) | (go_at_call 14; refine (do_any _ _ _ _).mono ?_; rintro e w' ⟨rfl, rfl⟩; simp only [hX, hE]) | (go_at_call 15; refine (fits_any _ _).mono ?_; rintro e w' ⟨rfl, rfl⟩; simp only [fa]) | (go_at_call 16; refine (test_any _ _).mono ?_; rintro e w' ⟨rfl, rfl⟩; simp only [ht]) | (go_at_call 17; refine (rank_any _ _).mono ?_; rintro e w' ⟨rfl, rfl⟩; simp only [hr]))
  go_ret
  exact ⟨rfl, Grown.refl _⟩

theorem good4_ne (a b : Int) (w : World) (a1 : -2147483647 ≤ a) (a2 : a ≤ 2147483647) (b1 : -2147483647 ≤ b) (b2 : b ≤ 2147483647) (h : (a == b) = false)
    (hX : doX 4 a b = 0) (hE : doE 4 a b = 0) (fa : fitsB a = true) (ht : testB 4 = true) (hr : rankI 4 = 2) :
    Calls Try.prog 6 #[.int .i64 4, .int .i64 a, .int .i64 b] w fun e w' => e = .returned (.bool true) ∧ Grown w w' := by
  go_enter Try.func6, Try.ntmps6
  go_wp2_with (first | (go_at_call 13; refine (awake_any _).mono ?_; rintro e w' ⟨rfl, rfl⟩) | (go_at_call 14; refine (do_any _ _ _ _).mono ?_; rintro e w' ⟨rfl, rfl⟩; simp only [hX, hE]) | (go_at_call 15; refine (fits_any _ _).mono ?_; rintro e w' ⟨rfl, rfl⟩; simp only [fa]) | (go_at_call 16; refine (test_any _ _).mono ?_; rintro e w' ⟨rfl, rfl⟩; simp only [ht]) | (go_at_call 17; refine (rank_any _ _).mono ?_; rintro e w' ⟨rfl, rfl⟩; simp only [hr]))
  go_ret
  exact ⟨rfl, Grown.refl _⟩

theorem good5_lt (a b : Int) (w : World) (a1 : -2147483647 ≤ a) (a2 : a ≤ 2147483647) (b1 : -2147483647 ≤ b) (b2 : b ≤ 2147483647) (h : a < b)
    (hX : doX 5 a b = 1) (hE : doE 5 a b = 0) (fa : fitsB a = true) (ht : testB 5 = true) (hr : rankI 5 = 2) :
    Calls Try.prog 6 #[.int .i64 5, .int .i64 a, .int .i64 b] w fun e w' => e = .returned (.bool true) ∧ Grown w w' := by
  go_enter Try.func6, Try.ntmps6
  go_wp2_with (first | (go_at_call 13; refine (awake_any _).mono ?_; rintro e w' ⟨rfl, rfl⟩) | (go_at_call 14; refine (do_any _ _ _ _).mono ?_; rintro e w' ⟨rfl, rfl⟩; simp only [hX, hE]) | (go_at_call 15; refine (fits_any _ _).mono ?_; rintro e w' ⟨rfl, rfl⟩; simp only [fa]) | (go_at_call 16; refine (test_any _ _).mono ?_; rintro e w' ⟨rfl, rfl⟩; simp only [ht]) | (go_at_call 17; refine (rank_any _ _).mono ?_; rintro e w' ⟨rfl, rfl⟩; simp only [hr]))
  go_ret
  exact ⟨rfl, Grown.refl _⟩

theorem good5_ge (a b : Int) (w : World) (a1 : -2147483647 ≤ a) (a2 : a ≤ 2147483647) (b1 : -2147483647 ≤ b) (b2 : b ≤ 2147483647) (h : b ≤ a)
    (hX : doX 5 a b = 0) (hE : doE 5 a b = 0) (fa : fitsB a = true) (ht : testB 5 = true) (hr : rankI 5 = 2) :
    Calls Try.prog 6 #[.int .i64 5, .int .i64 a, .int .i64 b] w fun e w' => e = .returned (.bool true) ∧ Grown w w' := by
  go_enter Try.func6, Try.ntmps6
  go_wp2_with (first | (go_at_call 13; refine (awake_any _).mono ?_; rintro e w' ⟨rfl, rfl⟩) | (go_at_call 14; refine (do_any _ _ _ _).mono ?_; rintro e w' ⟨rfl, rfl⟩; simp only [hX, hE]) | (go_at_call 15; refine (fits_any _ _).mono ?_; rintro e w' ⟨rfl, rfl⟩; simp only [fa]) | (go_at_call 16; refine (test_any _ _).mono ?_; rintro e w' ⟨rfl, rfl⟩; simp only [ht]) | (go_at_call 17; refine (rank_any _ _).mono ?_; rintro e w' ⟨rfl, rfl⟩; simp only [hr]))
  go_ret
  exact ⟨rfl, Grown.refl _⟩

theorem gd {op a b : Int} (h : rankI op ≠ 0) (h1 : fitsB a = true) (h2 : fitsB b = true) : good op a b = true := by simp [good, h, h1, h2]
theorem fin {n : Int} (h1 : -2147483647 ≤ n) (h2 : n ≤ 2147483647) : fitsB n = true := by simp [fitsB, h1, h2]
theorem flo {n : Int} (h1 : n < -2147483647) : fitsB n = false := by simp [fitsB]; omega
theorem fhi {n : Int} (h1 : 2147483647 < n) : fitsB n = false := by simp [fitsB]; omega
theorem bx {op a b : Int} (h : good op a b = false) : doX op a b = 0 ∧ doE op a b = 4 := by simp [doX, doE, h]
theorem g0 {op a b : Int} (h : rankI op = 0) : good op a b = false := by simp [good, h]
theorem ga {op a b : Int} (h : fitsB a = false) : good op a b = false := by simp [good, h]
theorem gb {op a b : Int} (h : fitsB b = false) : good op a b = false := by simp [good, h]
theorem one_op (op : Int) (hop : op = 1 ∨ op = 2 ∨ op = 3 ∨ op = 4 ∨ op = 5) (a b : Int) (w : World) :
    Calls Try.prog 6 #[.int .i64 op, .int .i64 a, .int .i64 b] w fun e w' => e = .returned (.bool true) ∧ Grown w w' := by
  by_cases al : a < -2147483647
  · have f := flo al
    obtain ⟨x, y⟩ := bx (op := op) (b := b) (ga f)
    rcases hop with rfl | rfl | rfl | rfl | rfl
    · exact bad1_al a b w al x y f (by decide) (by decide)
    · exact bad2_al a b w al x y f (by decide) (by decide)
    · exact bad3_al a b w al x y f (by decide) (by decide)
    · exact bad4_al a b w al x y f (by decide) (by decide)
    · exact bad5_al a b w al x y f (by decide) (by decide)
  by_cases ah : 2147483647 < a
  · have f := fhi ah
    obtain ⟨x, y⟩ := bx (op := op) (b := b) (ga f)
    rcases hop with rfl | rfl | rfl | rfl | rfl
    · exact bad1_ah a b w (by omega) ah x y f (by decide) (by decide)
    · exact bad2_ah a b w (by omega) ah x y f (by decide) (by decide)
    · exact bad3_ah a b w (by omega) ah x y f (by decide) (by decide)
    · exact bad4_ah a b w (by omega) ah x y f (by decide) (by decide)
    · exact bad5_ah a b w (by omega) ah x y f (by decide) (by decide)
  have f := fin (n := a) (by omega) (by omega)
  by_cases bl : b < -2147483647
  · obtain ⟨x, y⟩ := bx (op := op) (a := a) (gb (flo bl))
    rcases hop with rfl | rfl | rfl | rfl | rfl
    · exact bad1_bl a b w (by omega) (by omega) bl x y f (by decide) (by decide)
    · exact bad2_bl a b w (by omega) (by omega) bl x y f (by decide) (by decide)
    · exact bad3_bl a b w (by omega) (by omega) bl x y f (by decide) (by decide)
    · exact bad4_bl a b w (by omega) (by omega) bl x y f (by decide) (by decide)
    · exact bad5_bl a b w (by omega) (by omega) bl x y f (by decide) (by decide)
  by_cases bh : 2147483647 < b
  · obtain ⟨x, y⟩ := bx (op := op) (a := a) (gb (fhi bh))
    rcases hop with rfl | rfl | rfl | rfl | rfl
    · exact bad1_bh a b w (by omega) (by omega) (by omega) bh x y f (by decide) (by decide)
    · exact bad2_bh a b w (by omega) (by omega) (by omega) bh x y f (by decide) (by decide)
    · exact bad3_bh a b w (by omega) (by omega) (by omega) bh x y f (by decide) (by decide)
    · exact bad4_bh a b w (by omega) (by omega) (by omega) bh x y f (by decide) (by decide)
    · exact bad5_bh a b w (by omega) (by omega) (by omega) bh x y f (by decide) (by decide)
  have g := fin (n := b) (by omega) (by omega)
  rcases hop with rfl | rfl | rfl | rfl | rfl
  · have hg := gd (op := 1) (by decide) f g
    by_cases c : a + b < -2147483647
    · exact good1_lo a b w (by omega) (by omega) (by omega) (by omega) c (by simp [doX, hg, bX, flo c]) (by simp [doE, hg, bE, flo c]) f (by decide) (by decide)
    by_cases d : 2147483647 < a + b
    · exact good1_hi a b w (by omega) (by omega) (by omega) (by omega) (by omega) d (by simp [doX, hg, bX, fhi d]) (by simp [doE, hg, bE, fhi d]) f (by decide) (by decide)
    have k := fin (n := a + b) (by omega) (by omega)
    exact good1_in a b w (by omega) (by omega) (by omega) (by omega) (by omega) (by omega) (by simp [doX, hg, bX, k]) (by simp [doE, hg, bE, k]) f (by decide) (by decide)
  · have hg := gd (op := 2) (by decide) f g
    by_cases c : a - b < -2147483647
    · exact good2_lo a b w (by omega) (by omega) (by omega) (by omega) c (by simp [doX, hg, bX, flo c]) (by simp [doE, hg, bE, flo c]) f (by decide) (by decide)
    by_cases d : 2147483647 < a - b
    · exact good2_hi a b w (by omega) (by omega) (by omega) (by omega) (by omega) d (by simp [doX, hg, bX, fhi d]) (by simp [doE, hg, bE, fhi d]) f (by decide) (by decide)
    have k := fin (n := a - b) (by omega) (by omega)
    exact good2_in a b w (by omega) (by omega) (by omega) (by omega) (by omega) (by omega) (by simp [doX, hg, bX, k]) (by simp [doE, hg, bE, k]) f (by decide) (by decide)
  · have hg := gd (op := 3) (by decide) f g
    obtain ⟨m1, m2⟩ := mul_bd (a := a) (b := b) (by omega) (by omega) (by omega) (by omega)
    by_cases c : a * b < -2147483647
    · exact good3_lo a b w (by omega) (by omega) (by omega) (by omega) m1 m2 c (by simp [doX, hg, bX, flo c]) (by simp [doE, hg, bE, flo c]) f (by decide) (by decide)
    by_cases d : 2147483647 < a * b
    · exact good3_hi a b w (by omega) (by omega) (by omega) (by omega) m1 m2 (by omega) d (by simp [doX, hg, bX, fhi d]) (by simp [doE, hg, bE, fhi d]) f (by decide) (by decide)
    have k := fin (n := a * b) (by omega) (by omega)
    exact good3_in a b w (by omega) (by omega) (by omega) (by omega) m1 m2 (by omega) (by omega) (by simp [doX, hg, bX, k]) (by simp [doE, hg, bE, k]) f (by decide) (by decide)
  · have hg := gd (op := 4) (by decide) f g
    by_cases c : a = b
    · exact good4_eq a b w (by omega) (by omega) (by omega) (by omega) (by simp [c]) (by simp only [doX, hg, oneI]; simp [c]) (by simp [doE, hg]) f (by decide) (by decide)
    · exact good4_ne a b w (by omega) (by omega) (by omega) (by omega) (by simp [c]) (by simp [doX, hg, oneI, c]) (by simp [doE, hg]) f (by decide) (by decide)
  · have hg := gd (op := 5) (by decide) f g
    by_cases c : a < b
    · exact good5_lt a b w (by omega) (by omega) (by omega) (by omega) c (by simp [doX, hg, oneI, c]) (by simp [doE, hg]) f (by decide) (by decide)
    · exact good5_ge a b w (by omega) (by omega) (by omega) (by omega) (by omega) (by simp [doX, hg, oneI]; omega) (by simp [doE, hg]) f (by decide) (by decide)
theorem walk (op : Int) (a : Int) (b : Int) (w0 : (Lit.int .i64 op).wf = true) (w1 : (Lit.int .i64 a).wf = true) (w2 : (Lit.int .i64 b).wf = true) (w : World) :
    Calls Try.prog 6 #[.int .i64 op, .int .i64 a, .int .i64 b] w fun e w' => e = .returned (.bool true) ∧ Grown w w' := by
  by_cases hop : op = 1 ∨ op = 2 ∨ op = 3 ∨ op = 4 ∨ op = 5
  · exact one_op op hop a b w
  · have hr : rankI op = 0 := by unfold rankI; (repeat' split) <;> omega
    have ht : testB op = false := by simp [testB]; omega
    have o1 : (op == 1) = false := by simp; omega
    have o2 : (op == 2) = false := by simp; omega
    have o3 : (op == 3) = false := by simp; omega
    have o4 : (op == 4) = false := by simp; omega
    have o5 : (op == 5) = false := by simp; omega
    obtain ⟨x, y⟩ := bx (op := op) (a := a) (b := b) (g0 hr)
    by_cases al : a < -2147483647
    · exact bad0_al op a b w al o1 o2 o3 o4 o5 x y (flo al) ht hr
    by_cases ah : 2147483647 < a
    · exact bad0_ah op a b w (by omega) ah o1 o2 o3 o4 o5 x y (fhi ah) ht hr
    have f := fin (n := a) (by omega) (by omega)
    by_cases bl : b < -2147483647
    · exact bad0_bl op a b w (by omega) (by omega) bl o1 o2 o3 o4 o5 x y f ht hr
    by_cases bh : 2147483647 < b
    · exact bad0_bh op a b w (by omega) (by omega) (by omega) bh o1 o2 o3 o4 o5 x y f ht hr
    exact bad0_in op a b w (by omega) (by omega) (by omega) (by omega) o1 o2 o3 o4 o5 x y f ht hr

/-! ### THE ROW's STEP: WRITTEN OUT: LEAVE IT -/
set_option maxRecDepth 100000 in
theorem lifted (os : Os) (started : os.Started) (H : Type) (enc : TypeId × Value → H) :
    ReturnsInHanded {} Try.checked os 6 .any (Rows.primDoesSpec.pre6 enc Try.prog Try.f6 Rows.primDoesRow.domain false) (Rows.primDoesSpec.post enc Try.prog Try.f6 false true false false) := by
  refine returnsInHanded_of_change (C := Try.checked) own started (by kernel_rfl) Try.func6
    (ChangeSpec.witness6 (enc := enc) (C := Try.checked) false ⟨#[], #[.int .i64 0, .int .i64 0, .int .i64 0], []⟩ 8 (by kernel_rfl) (by kernel_rfl) (by kernel_rfl) (by kernel_rfl)) ?_
  intro W base args ds gs before hval0 hW hcnd _
  have hval : ∀ (j : Nat) t v, Try.f6.params[j]? = some t → args[j]? = some v → Value.okWide Try.prog W .any base t v := hval0
  have hW' := hW
  obtain ⟨p, q, hA0, hV, rfl, hfz, hnd⟩ := hW
  have hA : DataW.TrodAll enc Try.prog W 0 (fun _ => true) true Try.f6.params.toList args.toList ds p := hA0
  rw [Try.params6] at hA hval
  obtain ⟨v0, vs0, d0, ds0, p0, q0, hargs, rfl, rfl, h0, r0⟩ := trodAll_cons hA
  obtain ⟨v1, vs1, d1, ds1, p1, q1, rfl, rfl, rfl, h1, r1⟩ := trodAll_cons r0
  obtain ⟨v2, vs2, d2, ds2, p2, q2, rfl, rfl, rfl, h2, r2⟩ := trodAll_cons r1
  obtain ⟨rfl, rfl, rfl⟩ := trodAll_nil r2
  obtain rfl : args = #[v0, v1, v2] := by cases args; simp_all
  obtain ⟨rfl, rfl⟩ := trodVars_none hV
  obtain ⟨a0, rfl, rfl, rfl, w0⟩ := open_int Try.underlying3 (hval 0 3 v0 rfl rfl) h0
  obtain ⟨a1, rfl, rfl, rfl, w1⟩ := open_int Try.underlying3 (hval 1 3 v1 rfl rfl) h1
  obtain ⟨a2, rfl, rfl, rfl, w2⟩ := open_int Try.underlying3 (hval 2 3 v2 rfl rfl) h2
  clear hA0 hval0
  simp only [List.append_nil] at hW'
  refine (walk a0 a1 a2 w0 w1 w2 W).mono fun e W' ⟨he, hg⟩ => ?_
  subst he
  exact ⟨_, rfl, post_of_same (pa := []) (pv := []) hW' (fun _ _ _ => (trodAll_cons_mk (shut_bool Try.underlying4 _) trodAll_mk0)) (fun sp _ => (trodAll_cons_mk (shut_int Try.underlying3 w0) (trodAll_cons_mk (shut_int Try.underlying3 w1) (trodAll_cons_mk (shut_int Try.underlying3 w2) trodAll_mk0)))) (fun _ _ => rfl) rfl
    (hg.frame _) hg.2.1 (ok_one (by kernel_rfl) rfl (okWide_bool_mk Try.underlying4 _))⟩

theorem over : Rows.primDoesRow.holds Try.pinned (OpenSpec.ofChange Rows.primDoesSpec) :=
  OpenClaim.holds_of_wide 6 Try.f6 rfl rfl rfl rfl rfl rfl rfl ⟨rfl, rfl, rfl, rfl, rfl⟩ rfl rfl rfl rfl rfl (by kernel_rfl) Try.func6 (by kernel_rfl)
    (of_decide_eq_true (by kernel_rfl)) (by unfold Func.isWrapper; first | (rw [if_pos (by decide +kernel)]; kernel_rfl) | (rw [if_neg (by decide +kernel)]; exact ⟨rfl, rfl⟩))
    (fun os started H enc _ => lifted os started H enc)

/-- ████ THE STATEMENT ████ -/
theorem proved : Rows.PrimDoesSaid :=
  over
#print axioms proved
end Go.Proofs.Ythjcanjhpdpibaa.primDoes
