/- Contracts: a cut of a stack; chapter 28's example. -/
import Derived.Test.YthjcanjhpdpibaaStack
namespace Go.Proofs.Ythjcanjhpdpibaa.Stk
open Go.ChangeShapes Go.WideShapes Go.ChangeAt Go.RowKit Go.Proofs.Ythjcanjhpdpibaa.Lift
set_option linter.unusedVariables false
set_option linter.unusedSimpArgs false

/-- how many are left by a cut. -/
def leftN (n : Int) (len : Nat) : Nat := min n.toNat len
theorem left_lt (n : Int) (len k : Nat) (hk : k < len - leftN n len) : (max n 0 : Int) < (len : Int) - k := by unfold leftN at hk; omega
theorem left_ge (n : Int) (len k : Nat) (hk : len - leftN n len ≤ k) (_hl : k ≤ len) : ¬ (max n 0 : Int) < (len : Int) - k := by unfold leftN at hk; omega
theorem cut_any (w : World) (base sb : Nat) (xs : List Int) (n : Int) (h : Stk w base sb xs) (hn : xs.length ≤ 1000000) :
    Calls Try.prog 18 #[.pointer (some ⟨sb, 0, none⟩), .int .i64 n] w fun e w' => e = .returned (.int .i64 (xs.length - leftN n xs.length : Nat)) ∧ Stk w' base sb (xs.drop (xs.length - leftN n xs.length)) ∧ Below base w w' := by
  go_enter Try.func18, Try.ntmps18
  go_wp2_with fail
  go_loopw [5] (fun c wr => ∃ k : Nat, c = .int .i64 k ∧ k ≤ xs.length - leftN n xs.length ∧ Stk wr base sb (xs.drop k) ∧ Below base w wr) (fun c _ => xs.length - (intOf c).toNat)
  case atStart => exact ⟨0, rfl, Nat.zero_le _, by simpa using h, Below.refl _ _⟩
  case round =>
    obtain ⟨k, rfl, hk, hs, hb⟩ := hrel
    have hlen := len_stk _ _ _ _ hs
    by_cases hlt : k < xs.length - leftN n xs.length
    · have ht := left_lt n _ _ hlt
      have hd : xs.drop k = xs.getD k 0 :: xs.drop (k + 1) := by
        rw [List.drop_eq_getElem_cons (by omega)]; simp [List.getD, List.getElem?_eq_getElem (show k < xs.length by omega)]
      rw [hd] at hs
      have hpop := pop_stk _ _ _ _ _ hs (by simp; omega)
      rw [List.length_drop] at hlen
      clear hd hs
      generalize xs.getD k 0 = z at *
      go_wp2_with (first | (go_at_call 12; refine hlen.mono ?_; rintro e w' ⟨rfl, rfl⟩) | (go_at_call 11; refine hpop.mono ?_; rintro e w' ⟨rfl, hs', hb'⟩))
      exact ⟨⟨k + 1, by go_num, by omega, hs', hb.trans hb'⟩, by simp [intOf]; omega⟩
    · have ht := left_ge n _ k (Nat.le_of_not_lt hlt) (by omega)
      rw [List.length_drop] at hlen
      go_wp2_with (first | (go_at_call 12; refine hlen.mono ?_; rintro e w' ⟨rfl, rfl⟩))
      all_goals
        go_ret
        obtain rfl : k = xs.length - leftN n xs.length := by omega
        exact ⟨rfl, hs, hb⟩
theorem awake_any (w : World) : Calls Try.prog 9 #[] w fun e w' => e = .returned (.bool true) ∧ Below w.heap.size w w' := by
  go_enter Try.func9, Try.ntmps9
  go_wp2_with fail
  refine (of_nil _ _ _).mono ?_
  rintro e w1 ⟨sb, rfl, hs, hb⟩
  go_wp2_with fail
  refine (push_stk _ _ _ _ 1 hs (by simp) hb.size).mono ?_
  rintro e w2 ⟨rfl, hs2, hb2⟩
  go_wp2_with fail
  refine (push_stk _ _ _ _ 2 hs2 (by simp) (by have := hb.size; have := hb2.size; omega)).mono ?_
  rintro e w3 ⟨rfl, hs3, hb3⟩
  go_wp2_with fail
  refine (pop_stk _ _ _ _ _ hs3 (by simp)).mono ?_
  rintro e w4 ⟨rfl, hs4, hb4⟩
  go_wp2_with fail
  refine (len_stk _ _ _ _ hs4).mono ?_
  rintro e w5 ⟨rfl, rfl⟩
  go_wp2_with fail
  go_ret
  exact ⟨rfl, ((hb.trans hb2).trans hb3).trans hb4⟩
end Go.Proofs.Ythjcanjhpdpibaa.Stk
