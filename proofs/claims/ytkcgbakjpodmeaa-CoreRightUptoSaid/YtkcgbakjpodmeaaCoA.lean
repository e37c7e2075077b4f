/- Contracts: the size of core, operators, slots, whether core is the same. -/
import Derived.Test.YtkcgbakjpodmeaaCo
import Derived.Deep.RegionHeld3
import Derived.Lib.Hide
namespace Go.Proofs.Ytkcgbakjpodmeaa.Co
open Go.ChangeShapes Go.WideShapes Go.ChangeAt Go.RowKit Go.Proofs.Ytkcgbakjpodmeaa.Lift Go.Proofs.Ytkcgbakjpodmeaa.Data
set_option linter.unusedVariables false
set_option linter.unusedSimpArgs false
theorem ret_int {k : IntKind} {a b : Int} (h : a = b) : Ending.returned (.int k a) = .returned (.int k b) := by rw [h]
set_option maxRecDepth 100000 in
set_option maxHeartbeats 1000000 in
theorem size_any (N : Nat) (w0 : World) : ∀ (e : Co) (w : World) (v : Value), e.size ≤ N → e.size ≤ 4194304 → e.Val w0 v → Below w0.heap.size w0 w →
    Calls Try.prog 8 #[v] w fun r w' => r = .returned (.int .i64 (e.size : Nat)) ∧ Below w.heap.size w w' := by
  induction N with
  | zero => intro e w v h; cases e; rw [Co.size_mk] at h; omega
  | succ N ih =>
    intro e w v hN hm hv h0
    cases e with
    | mk k n ys =>
    obtain ⟨A, cap, rfl, ⟨hd1, hd2, hd3, hd4⟩, hs⟩ := hv
    rw [Co.size_mk] at hN hm ⊢
    go_enter Try.func8, Try.ntmps8
    go_wp2_with fail
    go_loopw [3, 9] (fun t i wr => ∃ j : Nat, i = .int .i64 j ∧ j ≤ ys.length ∧ t = .int .i64 ((1 + CoSize (ys.take j) : Nat) : Int) ∧ Below w.heap.size w wr) (fun _ i _ => ys.length - (intOf i).toNat)
    case atStart => exact ⟨0, rfl, Nat.zero_le _, by simp [CoSize], (Below.refl _ _).alloc (Nat.le_refl _) _⟩
    case round =>
      obtain ⟨j, rfl, hj, rfl, hb⟩ := hrel
      by_cases hlt : j < ys.length
      · obtain ⟨b, o, rfl, hat⟩ := hs.get j hlt
        have hsz := CoSize_get hlt
        have hb0 := h0.trans (hb.mono h0.size)
        have HS := CoSize_take hlt
        have hle2 := CoSize_take_le (ys := ys) (j := j + 1)
        generalize ys[j] = y at *
        have HI := fun o v hv => Lib.hid (ih y (wr.alloc o) v (by omega) (by omega) hv (hb0.alloc hb0.size o))
        cases y with
        | mk k2 n2 ys2 =>
        obtain ⟨A3, cap3, d0, d1, d2, hv2⟩ := Co.At.both hat hb0 (Nat.le_refl _)
        have HI2 := fun o => HI o _ hv2
        clear HI hat hs
        generalize (Co.mk k2 n2 ys2).size = q at *
        generalize CoSize (ys.take j) = p at *
        generalize hP : CoSize (ys.take (j + 1)) = p2 at *
        have HP := Lib.hid hP
        have HSS := Lib.hid HS
        clear hP HS
        have hp2 : p + q ≤ 4194304 := by have := HSS.out; omega
        go_wp2_with (go_at_call 8; refine (HI2 _).out.mono ?_; rintro e w1 ⟨rfl, hb1⟩)
        refine ⟨⟨j + 1, by go_num, by omega, ?_, hb.thenCall hb.size (Below.call1 hb1)⟩, by simp [intOf]; omega⟩
        rw [HP.out, HSS.out]
        congr 1; omega
      · go_wp2_with fail
        go_ret
        rw [List.take_of_length_le (by omega)]
        exact ⟨ret_int (by simp; omega), hb⟩
set_option maxRecDepth 100000 in
set_option maxHeartbeats 1000000 in
theorem sizeR_any (N : Nat) (w0 : World) : ∀ (e : Co) (w : World) (v : Value), e.size ≤ N → e.size ≤ 4194304 → e.Val w0 v → Below w0.heap.size w0 w →
    Calls Try.prog 14 #[v] w fun r w' => r = .returned (.int .i64 (e.size : Nat)) ∧ Below w.heap.size w w' := by
  induction N with
  | zero => intro e w v h; cases e; rw [Co.size_mk] at h; omega
  | succ N ih =>
    intro e w v hN hm hv h0
    cases e with
    | mk k n ys =>
    obtain ⟨A, cap, rfl, ⟨hd1, hd2, hd3, hd4⟩, hs⟩ := hv
    rw [Co.size_mk] at hN hm ⊢
    go_enter Try.func14, Try.ntmps14
    go_wp2_with fail
    go_loopw [3, 9] (fun t i wr => ∃ j : Nat, i = .int .i64 j ∧ j ≤ ys.length ∧ t = .int .i64 ((1 + CoSize (ys.take j) : Nat) : Int) ∧ Below w.heap.size w wr) (fun _ i _ => ys.length - (intOf i).toNat)
    case atStart => exact ⟨0, rfl, Nat.zero_le _, by simp [CoSize], (Below.refl _ _).alloc (Nat.le_refl _) _⟩
    case round =>
      obtain ⟨j, rfl, hj, rfl, hb⟩ := hrel
      by_cases hlt : j < ys.length
      · obtain ⟨b, o, rfl, hat⟩ := hs.get j hlt
        have hsz := CoSize_get hlt
        have hb0 := h0.trans (hb.mono h0.size)
        have HS := CoSize_take hlt
        have hle2 := CoSize_take_le (ys := ys) (j := j + 1)
        generalize ys[j] = y at *
        have HI := fun o v hv => Lib.hid (ih y (wr.alloc o) v (by omega) (by omega) hv (hb0.alloc hb0.size o))
        cases y with
        | mk k2 n2 ys2 =>
        obtain ⟨A3, cap3, d0, d1, d2, hv2⟩ := Co.At.both hat hb0 (Nat.le_refl _)
        have HI2 := fun o => HI o _ hv2
        clear HI hat hs
        generalize (Co.mk k2 n2 ys2).size = q at *
        generalize CoSize (ys.take j) = p at *
        generalize hP : CoSize (ys.take (j + 1)) = p2 at *
        have HP := Lib.hid hP
        have HSS := Lib.hid HS
        clear hP HS
        have hp2 : p + q ≤ 4194304 := by have := HSS.out; omega
        go_wp2_with (go_at_call 14; refine (HI2 _).out.mono ?_; rintro e w1 ⟨rfl, hb1⟩)
        refine ⟨⟨j + 1, by go_num, by omega, ?_, hb.thenCall hb.size (Below.call1 hb1)⟩, by simp [intOf]; omega⟩
        rw [HP.out, HSS.out]
        congr 1; omega
      · go_wp2_with fail
        go_ret
        rw [List.take_of_length_le (by omega)]
        exact ⟨ret_int (by simp; omega), hb⟩
theorem few_any (w0 : World) (e : Co) (w : World) (v : Value) (hm : e.size ≤ 4194304) (hv : e.Val w0 v) (h0 : Below w0.heap.size w0 w) :
    Calls Try.prog 6 #[v] w fun r w' => r = .returned (.bool (decide ((e.size : Int) ≤ 100))) ∧ Below w.heap.size w w' := by
  have HC := fun o v hv => Lib.hid (sizeR_any e.size w0 e (w.alloc o) v (Nat.le_refl _) hm hv (h0.alloc h0.size o))
  cases e with
  | mk k n ys =>
  obtain ⟨A, cap, rfl, ⟨hd1, hd2, hd3, hd4⟩, hs⟩ := hv
  have HC2 := fun o => HC o _ ⟨A, cap, rfl, ⟨hd1, hd2, hd3, hd4⟩, hs⟩
  clear HC hs
  generalize (Co.mk k n ys).size = q at *
  go_enter Try.func6, Try.ntmps6
  go_wp2_with (go_at_call 14; refine (HC2 _).out.mono ?_; rintro e w1 ⟨rfl, hb1⟩)
  go_ret
  exact ⟨rfl, Below.call1 hb1⟩
/-- an operator's text. -/
def opOf (n : Int) : ByteArray := if n = 1 then ⟨#[43]⟩ else if n = 2 then ⟨#[45]⟩ else if n = 3 then ⟨#[42]⟩ else if n = 4 then ⟨#[61, 61]⟩ else if n = 5 then ⟨#[60]⟩ else ⟨#[]⟩
theorem op_any (n : Int) (w : World) : Calls Try.prog 11 #[.int .i64 n] w fun e w' => e = .returned (.string (opOf n)) ∧ w = w' := by
  by_cases h1 : n = 1
  · subst h1
    go_enter Try.func11, Try.ntmps11
    go_wp2_with fail
    go_ret
    exact ⟨rfl, rfl⟩
  by_cases h2 : n = 2
  · subst h2
    go_enter Try.func11, Try.ntmps11
    go_wp2_with fail
    go_ret
    exact ⟨rfl, rfl⟩
  by_cases h3 : n = 3
  · subst h3
    go_enter Try.func11, Try.ntmps11
    go_wp2_with fail
    go_ret
    exact ⟨rfl, rfl⟩
  by_cases h4 : n = 4
  · subst h4
    go_enter Try.func11, Try.ntmps11
    go_wp2_with fail
    go_ret
    exact ⟨rfl, rfl⟩
  by_cases h5 : n = 5
  · subst h5
    go_enter Try.func11, Try.ntmps11
    go_wp2_with fail
    go_ret
    exact ⟨rfl, rfl⟩
  rw [show opOf n = ⟨#[]⟩ by unfold opOf; rw [if_neg h1, if_neg h2, if_neg h3, if_neg h4, if_neg h5]]
  go_enter Try.func11, Try.ntmps11
  go_wp2_with fail
  go_ret
  exact ⟨rfl, rfl⟩
theorem tl_ne {p : ByteArray} (h : p ≠ ⟨#[]⟩) : ¬ p.toList = [] ∧ p.toList.isEmpty = false := by
  have h0 : ¬ p.toList = [] := fun e => h (by rw [ByteArray.toList_eq] at e; exact Go.WideShapes.bytes_inj (b := ⟨#[]⟩) e)
  exact ⟨h0, by simpa using h0⟩
theorem op_in {n : Int} (h1 : 1 ≤ n) (h2 : n ≤ 5) : opOf n ≠ ⟨#[]⟩ := by
  rcases (by omega : n = 1 ∨ n = 2 ∨ n = 3 ∨ n = 4 ∨ n = 5) with rfl | rfl | rfl | rfl | rfl <;> decide
theorem op_out {n : Int} (h : n < 1 ∨ 5 < n) : opOf n = ⟨#[]⟩ := by
  unfold opOf
  rw [if_neg (by omega), if_neg (by omega), if_neg (by omega), if_neg (by omega), if_neg (by omega)]
theorem within_any (n m : Int) (w : World) : Calls Try.prog 20 #[.int .i64 n, .int .i64 m] w fun e w' => e = .returned (.bool (decide (0 ≤ n) && decide (n < m))) ∧ w = w' := by
  by_cases h1 : 0 ≤ n
  · by_cases h2 : n < m
    · rw [decide_eq_true h1, decide_eq_true h2]
      go_enter Try.func20, Try.ntmps20
      go_wp2_with fail
      go_ret
      exact ⟨rfl, rfl⟩
    · rw [decide_eq_false h2, Bool.and_false]
      go_enter Try.func20, Try.ntmps20
      go_wp2_with fail
      go_ret
      exact ⟨rfl, rfl⟩
  · rw [decide_eq_false h1, Bool.false_and]
    go_enter Try.func20, Try.ntmps20
    go_wp2_with fail
    go_ret
    exact ⟨rfl, rfl⟩
set_option maxRecDepth 100000 in
theorem awake_any (w : World) : Calls Try.prog 5 #[] w fun e w' => e = .returned (.bool true) ∧ Below w.heap.size w w' := by
  have H1 := Lib.hid (op_any 3 w)
  rw [show opOf 3 = ⟨#[42]⟩ from rfl] at H1
  have H2 := Lib.hid (size_any 1 w (.mk 5 0 []) w (.agg #[.int .i64 5, .int .i64 0, .slice none 0 0]) (by decide) (by decide) ⟨none, 0, rfl, ⟨Nat.le_refl _, by omega, by simp, fun _ => rfl⟩, .inl rfl⟩ (Below.refl _ _))
  rw [show (Co.mk 5 0 []).size = 1 from by decide] at H2
  go_enter Try.func5, Try.ntmps5
  go_wp2_with (first | (go_at_call 11; refine H1.out.mono ?_; rintro e w1 ⟨rfl, rfl⟩) | (go_at_call 8; refine H2.out.mono ?_; rintro e w1 ⟨rfl, hb1⟩))
  go_ret
  exact ⟨rfl, hb1⟩
end Go.Proofs.Ytkcgbakjpodmeaa.Co
