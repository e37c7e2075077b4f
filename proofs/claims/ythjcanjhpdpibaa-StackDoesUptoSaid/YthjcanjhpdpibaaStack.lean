/- Contracts of the methods of stack.Stack at int. -/
import Derived.Test.YthjcanjhpdpibaaInts
import Derived.WalkKit
import Derived.ProofKit
namespace Go.Proofs.Ythjcanjhpdpibaa.Stk
open Go.ChangeShapes Go.WideShapes Go.ChangeAt Go.RowKit Go.Proofs.Ythjcanjhpdpibaa.Lift
set_option linter.unusedVariables false
set_option linter.unusedSimpArgs false

def Chain (w : World) (base : Nat) : Option Addr → List Int → Prop
  | p, [] => p = none
  | p, x :: xs => ∃ b q, p = some ⟨b, 0, none⟩ ∧ base ≤ b ∧ w.heap[b]? = some (.cells #[.int .i64 x, .pointer q] 51 (0, 0)) ∧ Chain w base q xs
def Stk (w : World) (base sb : Nat) (xs : List Int) : Prop :=
  ∃ q, base ≤ sb ∧ w.heap[sb]? = some (.cells #[.pointer q, .int .i64 xs.length] 49 (0, 0)) ∧ Chain w base q xs

theorem lt_of_heap {w : World} {b : Nat} {o : Obj} (h : w.heap[b]? = some o) : b < w.heap.size := (Array.getElem?_eq_some_iff.1 h).1
theorem len_any (w : World) (sb n : Nat) (h : w.cell? ⟨sb, 1, none⟩ = some (.int .i64 n)) : Calls Try.prog 12 #[.pointer (some ⟨sb, 0, none⟩)] w fun e w' => e = .returned (.int .i64 n) ∧ w = w' := by
  go_enter Try.func12, Try.ntmps12
  go_wp2_with fail
  go_ret
  exact ⟨rfl, rfl⟩
theorem len_nil (w : World) : Calls Try.prog 12 #[.pointer none] w fun e w' => e = .returned (.int .i64 0) ∧ w = w' := by
  go_enter Try.func12, Try.ntmps12
  go_wp2_with fail
  go_ret
  exact ⟨rfl, rfl⟩
theorem push_any (w : World) (sb : Nat) (n : Nat) (q : Option Addr) (x : Int) (h : w.heap[sb]? = some (.cells #[.pointer q, .int .i64 n] 49 (0, 0))) (hn : n ≤ 1000000) :
   Calls Try.prog 20 #[.pointer (some ⟨sb, 0, none⟩), .int .i64 x] w fun e w' => e = .returned (.tuple #[]) ∧
     w' = ((w.setCell ⟨sb, 0, none⟩ (.pointer (some ⟨w.heap.size, 0, none⟩))).setCell ⟨sb, 1, none⟩ (.int .i64 ((n : Int) + 1))).alloc (.cells #[.int .i64 x, .pointer q] 51) := by
  have c0 : w.cell? ⟨sb, 0, none⟩ = some (.pointer q) := by simp [World.cell?, h]
  have c1 : w.cell? ⟨sb, 1, none⟩ = some (.int .i64 n) := by simp [World.cell?, h]
  have f0 : w.frozen? ⟨sb, 0, none⟩ = false := by simp [World.frozen?, h]
  have f1 : w.frozen? ⟨sb, 1, none⟩ = false := by simp [World.frozen?, h]
  have hl := lt_of_heap h
  clear h
  go_enter Try.func20, Try.ntmps20
  go_wp2_with fail
  go_end0
  exact ⟨rfl, rfl⟩
theorem push_nil (w : World) (x : Int) : Calls Try.prog 20 #[.pointer none, .int .i64 x] w fun e w' => e = .returned (.tuple #[]) ∧ w = w' := by
  go_enter Try.func20, Try.ntmps20
  go_wp2_with fail
  go_end0
  exact ⟨rfl, rfl⟩
theorem top_empty (w : World) (sb : Nat) (q : Option Addr) (h : w.heap[sb]? = some (.cells #[.pointer q, .int .i64 0] 49 (0, 0))) :
   Calls Try.prog 21 #[.pointer (some ⟨sb, 0, none⟩)] w fun e w' => e = .returned (.tuple #[.int .i64 0, .bool false]) ∧ w = w' := by
  have c1 : w.cell? ⟨sb, 1, none⟩ = some (.int .i64 ((0 : Nat) : Int)) := by simp [World.cell?, h]
  clear h
  go_enter Try.func21, Try.ntmps21
  go_wp2_with (go_at_call 12; refine (len_any _ _ 0 c1).mono ?_; rintro e w' ⟨rfl, rfl⟩)
  go_ret2
  exact ⟨rfl, rfl⟩
theorem top_nil (w : World) : Calls Try.prog 21 #[.pointer none] w fun e w' => e = .returned (.tuple #[.int .i64 0, .bool false]) ∧ w = w' := by
  go_enter Try.func21, Try.ntmps21
  go_wp2_with (go_at_call 12; refine (len_nil _).mono ?_; rintro e w' ⟨rfl, rfl⟩)
  go_ret2
  exact ⟨rfl, rfl⟩
theorem top_some (w : World) (sb : Nat) (n : Nat) (b : Nat) (q : Option Addr) (x : Int) (h : w.heap[sb]? = some (.cells #[.pointer (some ⟨b, 0, none⟩), .int .i64 n] 49 (0, 0)))
   (h2 : w.heap[b]? = some (.cells #[.int .i64 x, .pointer q] 51 (0, 0))) (hn : 0 < n) :
   Calls Try.prog 21 #[.pointer (some ⟨sb, 0, none⟩)] w fun e w' => e = .returned (.tuple #[.int .i64 x, .bool true]) ∧ w = w' := by
  have c0 : w.cell? ⟨sb, 0, none⟩ = some (.pointer (some ⟨b, 0, none⟩)) := by simp [World.cell?, h]
  have c1 : w.cell? ⟨sb, 1, none⟩ = some (.int .i64 n) := by simp [World.cell?, h]
  have c2 : w.cell? ⟨b, 0, none⟩ = some (.int .i64 x) := by simp [World.cell?, h2]
  have t : ((n : Int) == 0) = false := by simp; omega
  clear h h2
  go_enter Try.func21, Try.ntmps21
  go_wp2_with (go_at_call 12; refine (len_any _ _ n c1).mono ?_; rintro e w' ⟨rfl, rfl⟩)
  go_ret2
  exact ⟨rfl, rfl⟩
theorem pop_empty (w : World) (sb : Nat) (q : Option Addr) (h : w.heap[sb]? = some (.cells #[.pointer q, .int .i64 0] 49 (0, 0))) :
   Calls Try.prog 11 #[.pointer (some ⟨sb, 0, none⟩)] w fun e w' => e = .returned (.tuple #[.int .i64 0, .bool false]) ∧ w = w' := by
  go_enter Try.func11, Try.ntmps11
  go_wp2_with (go_at_call 21; refine (top_empty _ _ q h).mono ?_; rintro e w' ⟨rfl, rfl⟩)
  go_ret2
  exact ⟨rfl, rfl⟩
theorem pop_nil (w : World) : Calls Try.prog 11 #[.pointer none] w fun e w' => e = .returned (.tuple #[.int .i64 0, .bool false]) ∧ w = w' := by
  go_enter Try.func11, Try.ntmps11
  go_wp2_with (go_at_call 21; refine (top_nil _).mono ?_; rintro e w' ⟨rfl, rfl⟩)
  go_ret2
  exact ⟨rfl, rfl⟩
theorem pop_some (w : World) (sb : Nat) (n : Nat) (b : Nat) (q : Option Addr) (x : Int) (h : w.heap[sb]? = some (.cells #[.pointer (some ⟨b, 0, none⟩), .int .i64 (n + 1 : Nat)] 49 (0, 0)))
   (h2 : w.heap[b]? = some (.cells #[.int .i64 x, .pointer q] 51 (0, 0))) (hn : n ≤ 1000000) :
   Calls Try.prog 11 #[.pointer (some ⟨sb, 0, none⟩)] w fun e w' => e = .returned (.tuple #[.int .i64 x, .bool true]) ∧
     w' = (w.setCell ⟨sb, 0, none⟩ (.pointer q)).setCell ⟨sb, 1, none⟩ (.int .i64 (n : Int)) := by
  have c0 : w.cell? ⟨sb, 0, none⟩ = some (.pointer (some ⟨b, 0, none⟩)) := by simp [World.cell?, h]
  have c1 : w.cell? ⟨sb, 1, none⟩ = some (.int .i64 (n + 1 : Nat)) := by simp [World.cell?, h]
  have c2 : w.cell? ⟨b, 1, none⟩ = some (.pointer q) := by simp [World.cell?, h2]
  have f0 : w.frozen? ⟨sb, 0, none⟩ = false := by simp [World.frozen?, h]
  have f1 : w.frozen? ⟨sb, 1, none⟩ = false := by simp [World.frozen?, h]
  have hc := top_some w sb (n + 1) b q x h h2 (by omega)
  have H := hc
  have hl := lt_of_heap h
  clear h h2 hc
  go_enter Try.func11, Try.ntmps11
  go_wp2_with (go_at_call 21; refine (H).mono ?_; rintro e w' ⟨rfl, rfl⟩)
  go_ret2
  exact ⟨rfl, by first | rfl | simp⟩

/-! ### the stack as a list -/
theorem heap_set (w : World) (b o : Nat) (cs : Array Value) (t : TypeId) (v : Value) (h : w.heap[b]? = some (.cells cs t (0, 0))) : (w.setCell ⟨b, o, none⟩ v).heap[b]? = some (.cells (cs.setIfInBounds o v) t (0, 0)) := by
  simp [World.setCell, Array.getElem?_modify, h]
theorem Chain.keep {w w' : World} {base : Nat} : ∀ {xs : List Int} {p : Option Addr}, Chain w base p xs → (∀ (b : Nat) (x : Int) (q : Option Addr), w.heap[b]? = some (Obj.cells #[.int .i64 x, .pointer q] 51 (0, 0)) → w'.heap[b]? = some (Obj.cells #[.int .i64 x, .pointer q] 51 (0, 0))) → Chain w' base p xs
  | [], _, h, _ => h
  | _ :: _, _, ⟨b, q, hp, hb, hh, hc⟩, k => ⟨b, q, hp, hb, k _ _ _ hh, hc.keep k⟩
theorem set_far {w : World} {sb o b : Nat} {c : Array Value} {v : Value} {x : Int} {q : Option Addr} (h : w.heap[sb]? = some (.cells c 49 (0, 0))) (hb : w.heap[b]? = some (.cells #[.int .i64 x, .pointer q] 51 (0, 0))) :
    (w.setCell ⟨sb, o, none⟩ v).heap[b]? = some (.cells #[.int .i64 x, .pointer q] 51 (0, 0)) := by
  rw [Below.heap_setCell _ _ _ _ (by rintro rfl; rw [h] at hb; simp at hb)]
  exact hb
theorem Stk.lt {w : World} {base sb : Nat} {xs : List Int} (h : Stk w base sb xs) : sb < w.heap.size := by
  obtain ⟨q, _, hh, _⟩ := h
  exact lt_of_heap hh
theorem Stk.below {w w' : World} {base sb B : Nat} {xs : List Int} (h : Stk w base sb xs) (hb : Below B w w') (hB : w.heap.size ≤ B) : Stk w' base sb xs := by
  obtain ⟨q, h1, hh, hc⟩ := h
  exact ⟨q, h1, (hb.block _ (Nat.lt_of_lt_of_le (lt_of_heap hh) hB)).trans hh, hc.keep fun b x q hx => (hb.block _ (Nat.lt_of_lt_of_le (lt_of_heap hx) hB)).trans hx⟩
theorem push_stk (w : World) (base sb : Nat) (xs : List Int) (x : Int) (h : Stk w base sb xs) (hn : xs.length ≤ 1000000) (hb : base ≤ w.heap.size) :
    Calls Try.prog 20 #[.pointer (some ⟨sb, 0, none⟩), .int .i64 x] w fun e w' => e = .returned (.tuple #[]) ∧ Stk w' base sb (x :: xs) ∧ Below base w w' := by
  obtain ⟨q, h1, hh, hc⟩ := h
  refine (push_any w sb xs.length q x hh hn).mono ?_
  rintro e w' ⟨rfl, rfl⟩
  have k1 := heap_set w sb 0 _ 49 (.pointer (some ⟨w.heap.size, 0, none⟩)) hh
  have k2 := heap_set _ sb 1 _ 49 (.int .i64 ((xs.length : Int) + 1)) k1
  have hs : ((w.setCell ⟨sb, 0, none⟩ (.pointer (some ⟨w.heap.size, 0, none⟩))).setCell ⟨sb, 1, none⟩ (.int .i64 ((xs.length : Int) + 1))).heap.size = w.heap.size := by simp [World.setCell]
  refine ⟨rfl, ⟨some ⟨w.heap.size, 0, none⟩, h1, ?_, w.heap.size, q, rfl, hb, ?_, ?_⟩, ?_⟩
  · rw [Below.heap_alloc _ _ _ (by rw [hs]; exact lt_of_heap hh), k2]
    simp
  · have := heap_alloc_new ((w.setCell ⟨sb, 0, none⟩ (.pointer (some ⟨w.heap.size, 0, none⟩))).setCell ⟨sb, 1, none⟩ (.int .i64 ((xs.length : Int) + 1))) (.cells #[.int .i64 x, .pointer q] 51)
    rw [hs] at this
    exact this
  · refine hc.keep fun b y r hy => ?_
    rw [Below.heap_alloc _ _ _ (by rw [hs]; exact lt_of_heap hy)]
    exact set_far k1 (set_far hh hy)
  · exact (((Below.refl _ _).setCell h1 _).setCell h1 _).alloc (by rw [hs]; exact hb) _
theorem top_stk (w : World) (base sb : Nat) (x : Int) (xs : List Int) (h : Stk w base sb (x :: xs)) :
    Calls Try.prog 21 #[.pointer (some ⟨sb, 0, none⟩)] w fun e w' => e = .returned (.tuple #[.int .i64 x, .bool true]) ∧ w = w' := by
  obtain ⟨_, h1, hh, b, q, rfl, hb, hy, hc⟩ := h
  exact top_some w sb _ b q x hh hy (by simp)
theorem top_stk_nil (w : World) (base sb : Nat) (h : Stk w base sb []) :
    Calls Try.prog 21 #[.pointer (some ⟨sb, 0, none⟩)] w fun e w' => e = .returned (.tuple #[.int .i64 0, .bool false]) ∧ w = w' := by
  obtain ⟨q, h1, hh, _⟩ := h
  exact top_empty w sb q hh
theorem pop_stk (w : World) (base sb : Nat) (x : Int) (xs : List Int) (h : Stk w base sb (x :: xs)) (hn : xs.length ≤ 1000000) :
    Calls Try.prog 11 #[.pointer (some ⟨sb, 0, none⟩)] w fun e w' => e = .returned (.tuple #[.int .i64 x, .bool true]) ∧ Stk w' base sb xs ∧ Below base w w' := by
  obtain ⟨_, h1, hh, b, q, rfl, hb, hy, hc⟩ := h
  refine (pop_some w sb xs.length b q x hh hy hn).mono ?_
  rintro e w' ⟨rfl, rfl⟩
  have k1 := heap_set w sb 0 _ 49 (.pointer q) hh
  have k2 := heap_set _ sb 1 _ 49 (.int .i64 (xs.length : Int)) k1
  refine ⟨rfl, ⟨q, h1, by rw [k2]; simp, hc.keep fun b y r hy => set_far k1 (set_far hh hy)⟩, ((Below.refl _ _).setCell h1 _).setCell h1 _⟩
theorem pop_stk_nil (w : World) (base sb : Nat) (h : Stk w base sb []) :
    Calls Try.prog 11 #[.pointer (some ⟨sb, 0, none⟩)] w fun e w' => e = .returned (.tuple #[.int .i64 0, .bool false]) ∧ w = w' := by
  obtain ⟨q, h1, hh, _⟩ := h
  exact pop_empty w sb q hh
theorem len_stk (w : World) (base sb : Nat) (xs : List Int) (h : Stk w base sb xs) :
    Calls Try.prog 12 #[.pointer (some ⟨sb, 0, none⟩)] w fun e w' => e = .returned (.int .i64 xs.length) ∧ w = w' := by
  obtain ⟨q, h1, hh, _⟩ := h
  exact len_any w sb _ (by simp [World.cell?, hh])
theorem take_rev (zs : List Int) (k : Nat) (h : k < zs.length) : (zs.take (k + 1)).reverse = zs.getD k 0 :: (zs.take k).reverse := by
  rw [List.take_succ_eq_append_getElem h]
  simp [List.getD, List.getElem?_eq_getElem h]
theorem of_nil (w : World) (a : Option Addr) (cap : Nat) :
   Calls Try.prog 10 #[.slice a 0 cap] w fun e w' => ∃ sb, e = .returned (.pointer (some ⟨sb, 0, none⟩)) ∧ Stk w' w.heap.size sb [] ∧ Below w.heap.size w w' := by
  go_enter Try.func10, Try.ntmps10
  go_wp2_with fail
  refine wp_loop_once ?_
  go_wp2_with fail
  go_ret
  exact ⟨w.heap.size, rfl, ⟨none, Nat.le_refl _, heap_alloc_new w _, rfl⟩, (Below.refl _ _).alloc (Nat.le_refl _) _⟩
theorem of_any (w : World) (a : Option Addr) (cap : Nat) (zs : List Int) (h : IntsAt w a zs) (hn : zs.length ≤ 1000) :
   Calls Try.prog 10 #[.slice a zs.length cap] w fun e w' => ∃ sb, e = .returned (.pointer (some ⟨sb, 0, none⟩)) ∧ Stk w' w.heap.size sb zs.reverse ∧ Below w.heap.size w w' := by
  rcases Nat.eq_zero_or_pos zs.length with h0 | h0
  · rw [List.eq_nil_of_length_eq_zero h0]; exact of_nil w a cap
  obtain ⟨b, o, rfl, hbl, _⟩ := h 0 h0
  go_enter Try.func10, Try.ntmps10
  go_wp2_with fail
  go_loopw [10] (fun i wr => ∃ k : Nat, i = .int .i64 k ∧ k ≤ zs.length ∧ Stk wr w.heap.size w.heap.size (zs.take k).reverse ∧ Below w.heap.size w wr) (fun i _ => zs.length - (intOf i).toNat)
  case atStart => exact ⟨0, rfl, Nat.zero_le _, ⟨none, Nat.le_refl _, by simpa using heap_alloc_new w _, rfl⟩, (Below.refl _ _).alloc (Nat.le_refl _) _⟩
  case round =>
    obtain ⟨k, rfl, hk, hs, hb⟩ := hrel
    by_cases hlt : k < zs.length
    · obtain ⟨_, _, e, _, hc⟩ := h k hlt
      injection e with e
      injection e with e1 e2
      subst e1 e2
      have hc' : wr.cell? ⟨b, o + k, none⟩ = some (.int .i64 (zs.getD k 0)) := (hb.cell (p := ⟨b, o + k, none⟩) hbl).trans hc
      have hpush := push_stk wr w.heap.size w.heap.size _ (zs.getD k 0) hs (by simp; omega) hb.size
      rw [← take_rev zs k hlt] at hpush
      have hr := take_rev zs k hlt
      clear hs hc hr
      generalize zs.getD k 0 = z at *
      go_wp2_with (go_at_call 20; refine hpush.mono ?_; rintro e w' ⟨rfl, hs', hb'⟩)
      go_roundw
      case rel => exact ⟨k + 1, by go_num, by omega, hs', hb.trans hb'⟩
      case measure => simp [intOf]; omega
    · go_wp2_with fail
      go_ret
      exact ⟨w.heap.size, rfl, by rw [List.take_of_length_le (by omega)] at hs; exact hs, hb⟩
end Go.Proofs.Ythjcanjhpdpibaa.Stk
