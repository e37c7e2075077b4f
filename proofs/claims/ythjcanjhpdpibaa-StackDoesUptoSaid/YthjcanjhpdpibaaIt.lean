/- The iterator over a stack: what is pushed last comes first. -/
import Derived.RangeFuncKeeps
import Derived.RangeFuncLeaves
import Derived.Shelf.Abstract
import Derived.WalkKit
import Derived.OwnWalkIn
import Derived.TacticsInMore
import Derived.LoopNIn
import Derived.LoopIn
import Derived.Test.YthjcanjhpdpibaaStack
namespace Go.Proofs.Ythjcanjhpdpibaa.It
open Go.RowKit Go.Shelf Go.Proofs.Ythjcanjhpdpibaa.Stk
attribute [local go_sem] Oper.semAt_some
set_option linter.unusedVariables false
set_option linter.unusedSimpArgs false
set_option maxRecDepth 100000
set_option maxHeartbeats 2000000
/-- the heap holds the list from p on, in blocks below n₀. -/
def IsList (n₀ : Nat) (W : World) : Option Addr → List Int → Prop
  | p, [] => p = none
  | p, x :: xs => ∃ (b : Nat) (q : Option Addr), p = some ⟨b, 0, none⟩ ∧ b < n₀ ∧ W.cell? ⟨b, 0, none⟩ = some (.int .i64 x) ∧ W.cell? ⟨b, 1, none⟩ = some (.pointer q) ∧ IsList n₀ W q xs
theorem IsList.below {n₀ : Nat} {A B : World} (h : Below n₀ A B) : ∀ {p : Option Addr} {xs : List Int}, IsList n₀ A p xs → IsList n₀ B p xs
  | _, [], hl => hl
  | _, _ :: _, ⟨b, q, hp, hb, hv, hq, hr⟩ => ⟨b, q, hp, hb, (h.cell (p := ⟨b, 0, none⟩) hb).trans hv, (h.cell (p := ⟨b, 1, none⟩) hb).trans hq, IsList.below h hr⟩
theorem IsList.unique {n₀ : Nat} {W : World} : ∀ {p : Option Addr} {xs ys : List Int}, IsList n₀ W p xs → IsList n₀ W p ys → xs = ys
  | _, [], [], _, _ => rfl
  | _, [], _ :: _, h, ⟨_, _, hp, _⟩ => by rw [h] at hp; cases hp
  | _, _ :: _, [], ⟨_, _, hp, _⟩, h => by rw [h] at hp; cases hp
  | _, x :: xs, y :: ys, ⟨b, q, hp, _, hv, hq, hr⟩, ⟨b', q', hp', _, hv', hq', hr'⟩ => by
    rw [hp] at hp'; cases hp'
    rw [hv] at hv'; cases hv'
    rw [hq] at hq'; cases hq'
    rw [IsList.unique hr hr']
theorem IsList.of_chain {w : World} {base : Nat} : ∀ {xs : List Int} {p : Option Addr}, Chain w base p xs → IsList w.heap.size w p xs
  | [], _, h => h
  | _ :: _, _, ⟨b, q, hp, _, hy, hc⟩ => ⟨b, q, hp, lt_of_heap hy, by simp [World.cell?, hy], by simp [World.cell?, hy], IsList.of_chain hc⟩
open Classical in
/-- how many are still to come, read off the world: the loop's measure. -/
noncomputable def left (n₀ : Nat) (W : World) (v : Value) : Nat :=
  if h : ∃ r : Option Addr × List Int, v = .pointer r.1 ∧ IsList n₀ W r.1 r.2 then (Classical.choose h).2.length else 0
theorem left_eq {n₀ : Nat} {W : World} {q : Option Addr} {xs : List Int} (h : IsList n₀ W q xs) : left n₀ W (.pointer q) = xs.length := by
  have hex : ∃ r : Option Addr × List Int, Value.pointer q = .pointer r.1 ∧ IsList n₀ W r.1 r.2 := ⟨(q, xs), rfl, h⟩
  unfold left
  rw [dif_pos hex]
  obtain ⟨e, hl⟩ := Classical.choose_spec hex
  have e' : q = (Classical.choose hex).1 := by simpa using e
  rw [← e'] at hl
  rw [IsList.unique hl h]
/-- the iterator, at a stack that is one. -/
theorem all1_in (F : Fence) (n : Nat) (h6 : F.fn 25) (hro : F.round = none) (hn : 1 ≤ n) (l Bn n₀ sb : Nat) (p0 : Option Addr) (xs : List Int) (J Jx : List Int → World → Prop)
    (hY : ∀ pre x W, J pre W → pre.length < xs.length → YieldAt F (n - 1) Try.prog l #[.int .i64 x] W fun e W' =>
      (e = .returned (.bool true) ∧ J (pre ++ [x]) W' ∧ Below n₀ W W') ∨ (e = .returned (.bool false) ∧ Jx (pre ++ [x]) W'))
    (W : World) (hBn : W.cell? ⟨Bn, 0, none⟩ = some (.pointer (some ⟨sb, 0, none⟩))) (hT : W.cell? ⟨sb, 0, none⟩ = some (.pointer p0)) (hL : IsList n₀ W p0 xs) (h0 : J [] W) :
    CallsIn F n Try.prog 25 #[.func (.yield l) #[] #[], .pointer (some ⟨Bn, 0, none⟩)] W fun e W' => (∃ v, e = .returned v) ∧
      ((∃ ys, ys = xs ∧ J ys W') ∨ (∃ pre, pre <+: xs ∧ Jx pre W')) := by
  refine callsIn_of_wp Try.func25 rfl h6 ?_ hro
  simp only [Try.ntmps25, List.size_toArray, List.length_cons, List.length_nil, Nat.reduceAdd, Nat.reduceSub, Array.replicate_succ, Array.replicate_zero, List.push_toArray, List.append_toArray, List.nil_append, List.cons_append]
  gi_wp2
  gi_loopw [3] (fun p wr => ∃ (pre rest : List Int) (q : Option Addr), p = .pointer q ∧ xs = pre ++ rest ∧ IsList n₀ wr q rest ∧ J pre wr)
    (fun p wr => left n₀ wr p)
  case atStart =>
    exact ⟨[], xs, p0, rfl, rfl, hL, h0⟩
  case round =>
    obtain ⟨pre, rest, q, rfl, hx, hl, hJs⟩ := hrel
    cases rest with
    | nil =>
      obtain rfl : q = none := hl
      gi_wp2
      go_end0
      exact ⟨⟨_, rfl⟩, .inl ⟨pre, by simp [hx], hJs⟩⟩
    | cons x rest =>
      have hl' := hl
      obtain ⟨b, q', rfl, hb, hv, hq, hr⟩ := hl
      obtain ⟨fn, tmps, assign, body, hy, hR⟩ := hY pre x wr hJs (by rw [hx]; simp)
      gi_wp2
      refine hR.mono ?_
      rintro e W3 (⟨rfl, hJ3, hk3⟩ | ⟨rfl, hJx3⟩)
      · have hq3 : W3.cell? ⟨b, 1, none⟩ = some (.pointer q') := (hk3.cell (p := ⟨b, 1, none⟩) hb).trans hq
        gi_wp2
        go_roundw
        case rel => exact ⟨pre ++ [x], rest, q', rfl, by simp [hx], hr.below hk3, hJ3⟩
        case measure => rw [left_eq (hr.below hk3), left_eq hl']; simp
      · gi_wp2
        refine bodyPost_ret (results_none rfl _ _ _) rfl ?_
        exact ⟨⟨_, rfl⟩, .inr ⟨pre ++ [x], ⟨rest, by simp [hx]⟩, hJx3⟩⟩
/-- the iterator, at nil: nothing comes. -/
theorem all1_nil (l Bn : Nat) (W : World) (hBn : W.cell? ⟨Bn, 0, none⟩ = some (.pointer none)) :
    Calls Try.prog 25 #[.func (.yield l) #[] #[], .pointer (some ⟨Bn, 0, none⟩)] W fun e W' => (∃ v, e = .returned v) ∧ W = W' := by
  go_enter Try.func25, Try.ntmps25
  go_wp2_with fail
  refine bodyPost_ret (results_none rfl _ _ _) rfl ?_
  exact ⟨⟨_, rfl⟩, rfl⟩
/-- 'All': a closure over a box that holds the pointer. -/
theorem all_any (w : World) (p : Option Addr) : Calls Try.prog 22 #[.pointer p] w fun e w' => e = .returned (.func (.func 25) #[] #[.pointer (some ⟨w.heap.size, 0, none⟩)]) ∧ w' = w.alloc (.cells #[.pointer p] 24) := by
  go_enter Try.func22, Try.ntmps22
  go_wp2_with fail
  all_goals go_ret
  all_goals exact ⟨rfl, rfl⟩
theorem stops (Bn n₀ sb : Nat) (p0 : Option Addr) (xs : List Int) (w : World) (hBn : Bn < w.heap.size) (hn₀ : n₀ ≤ w.heap.size) (hsb : sb < w.heap.size)
    (hc : w.cell? ⟨Bn, 0, none⟩ = some (.pointer (some ⟨sb, 0, none⟩))) (hT : w.cell? ⟨sb, 0, none⟩ = some (.pointer p0)) (hL : IsList n₀ w p0 xs) :
    SeqStopsK Fence.wide 4 Try.prog 25 #[.pointer (some ⟨Bn, 0, none⟩)] (fun x : Int => #[Value.int .i64 x]) (Below n₀) (fun ys => ys = xs) (fun pre => pre <+: xs) xs.length w := fun l J Jx W hW _ _ hY h0 =>
  all1_in Fence.wide 4 trivial rfl (by omega) l Bn n₀ sb p0 xs J Jx hY W ((hW.cell (p := ⟨Bn, 0, none⟩) hBn).trans hc) ((hW.cell (p := ⟨sb, 0, none⟩) hsb).trans hT) (hL.below (hW.mono hn₀)) h0
end Go.Proofs.Ythjcanjhpdpibaa.It
