/- Contracts of a stack: what is not the stack's own block stays. -/
import Derived.Test.YthjcanjhpdpibaaStackB
namespace Go.Proofs.Ythjcanjhpdpibaa.Stk
open Go.ChangeShapes Go.WideShapes Go.ChangeAt Go.RowKit Go.Proofs.Ythjcanjhpdpibaa.Lift
set_option linter.unusedVariables false
set_option linter.unusedSimpArgs false
/-- nothing but one block has turned. -/
def Fr (sb : Nat) (w w' : World) : Prop := w.heap.size ≤ w'.heap.size ∧ ∀ b, b < w.heap.size → b ≠ sb → w'.heap[b]? = w.heap[b]?
theorem Fr.refl (sb : Nat) (w : World) : Fr sb w w := ⟨Nat.le_refl _, fun _ _ _ => rfl⟩
theorem Fr.trans {sb : Nat} {a b c : World} (h : Fr sb a b) (k : Fr sb b c) : Fr sb a c := ⟨Nat.le_trans h.1 k.1, fun x hx hn => (k.2 x (Nat.lt_of_lt_of_le hx h.1) hn).trans (h.2 x hx hn)⟩
theorem Fr.of_below {sb : Nat} {w w' : World} (h : Below w.heap.size w w') : Fr sb w w' := ⟨h.size, fun b hb _ => h.block b hb⟩
theorem Fr.set {sb : Nat} (w : World) (o : Nat) (v : Value) : Fr sb w (w.setCell ⟨sb, o, none⟩ v) := ⟨by simp [World.setCell], fun b hb hn => Below.heap_setCell _ _ _ _ hn⟩
theorem push_stkF (w : World) (base sb : Nat) (xs : List Int) (x : Int) (h : Stk w base sb xs) (hn : xs.length ≤ 1000000) (hb : base ≤ w.heap.size) :
    Calls Try.prog 20 #[.pointer (some ⟨sb, 0, none⟩), .int .i64 x] w fun e w' => (e = .returned (.tuple #[]) ∧ Stk w' base sb (x :: xs) ∧ Below base w w') ∧ Fr sb w w' := by
  obtain ⟨q, h1, hh, hc⟩ := h
  have H := push_stk w base sb xs x ⟨q, h1, hh, hc⟩ hn hb
  refine (push_any w sb xs.length q x hh hn).mono ?_
  rintro e w' ⟨rfl, rfl⟩
  have k1 := heap_set w sb 0 _ 49 (.pointer (some ⟨w.heap.size, 0, none⟩)) hh
  have k2 := heap_set _ sb 1 _ 49 (.int .i64 ((xs.length : Int) + 1)) k1
  have hs : ((w.setCell ⟨sb, 0, none⟩ (.pointer (some ⟨w.heap.size, 0, none⟩))).setCell ⟨sb, 1, none⟩ (.int .i64 ((xs.length : Int) + 1))).heap.size = w.heap.size := by simp [World.setCell]
  refine ⟨⟨rfl, ⟨some ⟨w.heap.size, 0, none⟩, h1, ?_, w.heap.size, q, rfl, hb, ?_, ?_⟩, ?_⟩, ?_⟩
  · rw [Below.heap_alloc _ _ _ (by rw [hs]; exact lt_of_heap hh), k2]
    simp
  · have := heap_alloc_new ((w.setCell ⟨sb, 0, none⟩ (.pointer (some ⟨w.heap.size, 0, none⟩))).setCell ⟨sb, 1, none⟩ (.int .i64 ((xs.length : Int) + 1))) (.cells #[.int .i64 x, .pointer q] 51)
    rw [hs] at this
    exact this
  · refine hc.keep fun b y r hy => ?_
    rw [Below.heap_alloc _ _ _ (by rw [hs]; exact lt_of_heap hy)]
    exact set_far k1 (set_far hh hy)
  · exact (((Below.refl _ _).setCell h1 _).setCell h1 _).alloc (by rw [hs]; exact hb) _
  · exact ((Fr.set w 0 _).trans (Fr.set _ 1 _)).trans (Fr.of_below ((Below.refl _ _).alloc (Nat.le_refl _) _))
theorem pop_stkF (w : World) (base sb : Nat) (x : Int) (xs : List Int) (h : Stk w base sb (x :: xs)) (hn : xs.length ≤ 1000000) :
    Calls Try.prog 11 #[.pointer (some ⟨sb, 0, none⟩)] w fun e w' => (e = .returned (.tuple #[.int .i64 x, .bool true]) ∧ Stk w' base sb xs ∧ Below base w w') ∧ Fr sb w w' := by
  obtain ⟨_, h1, hh, b, q, rfl, hb, hy, hc⟩ := h
  refine (pop_some w sb xs.length b q x hh hy hn).mono ?_
  rintro e w' ⟨rfl, rfl⟩
  have k1 := heap_set w sb 0 _ 49 (.pointer q) hh
  have k2 := heap_set _ sb 1 _ 49 (.int .i64 (xs.length : Int)) k1
  exact ⟨⟨rfl, ⟨q, h1, by rw [k2]; simp, hc.keep fun b y r hy => set_far k1 (set_far hh hy)⟩, ((Below.refl _ _).setCell h1 _).setCell h1 _⟩, (Fr.set w 0 _).trans (Fr.set _ 1 _)⟩
theorem cut_stkF (w : World) (base sb : Nat) (xs : List Int) (n : Int) (h : Stk w base sb xs) (hn : xs.length ≤ 1000000) :
    Calls Try.prog 18 #[.pointer (some ⟨sb, 0, none⟩), .int .i64 n] w fun e w' => (e = .returned (.int .i64 (xs.length - leftN n xs.length : Nat)) ∧ Stk w' base sb (xs.drop (xs.length - leftN n xs.length)) ∧ Below base w w') ∧ Fr sb w w' := by
  go_enter Try.func18, Try.ntmps18
  go_wp2_with fail
  go_loopw [5] (fun c wr => ∃ k : Nat, c = .int .i64 k ∧ k ≤ xs.length - leftN n xs.length ∧ Stk wr base sb (xs.drop k) ∧ Below base w wr ∧ Hid (Fr sb w wr)) (fun c _ => xs.length - (intOf c).toNat)
  case atStart => exact ⟨0, rfl, Nat.zero_le _, by simpa using h, Below.refl _ _, Fr.refl _ _⟩
  case round =>
    obtain ⟨k, rfl, hk, hs, hb, hf⟩ := hrel
    have hlen := len_stk _ _ _ _ hs
    by_cases hlt : k < xs.length - leftN n xs.length
    · have ht := left_lt n _ _ hlt
      have hd : xs.drop k = xs.getD k 0 :: xs.drop (k + 1) := by
        rw [List.drop_eq_getElem_cons (by omega)]; simp [List.getD, List.getElem?_eq_getElem (show k < xs.length by omega)]
      rw [hd] at hs
      have hpop := pop_stkF _ _ _ _ _ hs (by simp; omega)
      rw [List.length_drop] at hlen
      clear hd hs
      generalize xs.getD k 0 = z at *
      go_wp2_with (first | (go_at_call 12; refine hlen.mono ?_; rintro e w' ⟨rfl, rfl⟩) | (go_at_call 11; refine hpop.mono ?_; rintro e w' ⟨⟨rfl, hs', hb'⟩, hf'⟩; have hf2 : Hid (Fr sb w w') := hf.out.trans hf'; clear hf'))
      exact ⟨⟨k + 1, by go_num, by omega, hs', hb.trans hb', hf2⟩, by simp [intOf]; omega⟩
    · have ht := left_ge n _ k (Nat.le_of_not_lt hlt) (by omega)
      rw [List.length_drop] at hlen
      go_wp2_with (first | (go_at_call 12; refine hlen.mono ?_; rintro e w' ⟨rfl, rfl⟩))
      all_goals
        go_ret
        obtain rfl : k = xs.length - leftN n xs.length := by omega
        exact ⟨⟨rfl, hs, hb⟩, hf.out⟩
end Go.Proofs.Ythjcanjhpdpibaa.Stk
