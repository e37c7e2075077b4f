/- The iterator over an arena: the places that are used, in their order, with what they hold. -/
import Derived.RangeFuncKeeps
import Derived.RangeFuncFrom
import Derived.RangeFuncLeaves
import Derived.Shelf.Abstract
import Derived.WalkKit
import Derived.OwnWalkIn
import Derived.TacticsInMore
import Derived.LoopNIn
import Derived.LoopIn
import Derived.Test.YtccknhhjkkbadaaArM
namespace Go.Proofs.Ytccknhhjkkbadaa.ArD
open Go.RowKit Go.Shelf Go.Proofs.Ytccknhhjkkbadaa.Arn Go.Proofs.Ytccknhhjkkbadaa.ArnI
attribute [local go_sem] Oper.semAt_some
set_option linter.unusedVariables false
set_option linter.unusedSimpArgs false
set_option maxRecDepth 100000
set_option maxHeartbeats 4000000
/-- what a round keeps: what lay below n₀, and one block more. -/
def Kp (n₀ Bn : Nat) (W W' : World) : Prop := Below n₀ W W' ∧ W'.heap[Bn]? = W.heap[Bn]?
theorem Kp.trans {n₀ Bn : Nat} {A B C : World} (h : Kp n₀ Bn A B) (k : Kp n₀ Bn B C) : Kp n₀ Bn A C := ⟨h.1.trans k.1, k.2.trans h.2⟩
theorem Kp.refl (n₀ Bn : Nat) (A : World) : Kp n₀ Bn A A := ⟨Below.refl _ _, rfl⟩
theorem Kp.put {n₀ Bn : Nat} {w : World} (hn : n₀ ≤ w.heap.size) (hB : Bn < w.heap.size) (W : World) (l : Nat) (o o' : Obj) (hl : w.heap.size ≤ l) (h : W.heap[l]? = some o) (h1 : o.isCells = false) (h2 : o.isWalk = false) : Kp n₀ Bn W (W.putObj l o') :=
  ⟨belowK_b hn W l o o' hl h h1 h2, (grownBy_putObj' W l o').block Bn (by have := (Array.getElem?_eq_some_iff.1 h).1; omega) (fun e => by injection e with e; omega)⟩
/-- what the iterator reads, in blocks below n₀. -/
structure Rd (n₀ : Nat) (W : World) (Bn g : Nat) (Al : Option Addr) (capl : Nat) (Au : Option Addr) (capu : Nat) (xs : List Int) (us : List Bool) : Prop where
  cb : W.cell? ⟨Bn, 0, none⟩ = some (.pointer (some ⟨g, 0, none⟩))
  c0 : W.cell? ⟨g, 0, none⟩ = some (.slice Al xs.length capl)
  c1 : W.cell? ⟨g, 1, none⟩ = some (.slice Au us.length capu)
  lg : g < n₀
  rows : 0 < us.length → ∃ bl bu, Al = some ⟨bl, 0, none⟩ ∧ Au = some ⟨bu, 0, none⟩ ∧ bl < n₀ ∧ bu < n₀ ∧ (∀ j (hj : j < us.length), W.cell? ⟨bu, j, none⟩ = some (.bool us[j])) ∧ (∀ j, j < us.length → W.cell? ⟨bl, j, none⟩ = some (.int .i64 (xs.getD j 0)))
  same : xs.length = us.length
  le : us.length ≤ 65536
  cl : xs.length ≤ capl
  cu : us.length ≤ capu
  ml : capl ≤ 9223372036854775807
  mu : capu ≤ 9223372036854775807
theorem Rd.below {n₀ : Nat} {W W' : World} {Bn g : Nat} {Al : Option Addr} {capl : Nat} {Au : Option Addr} {capu : Nat} {xs : List Int} {us : List Bool} (h : Rd n₀ W Bn g Al capl Au capu xs us) (hk : Kp n₀ Bn W W') : Rd n₀ W' Bn g Al capl Au capu xs us :=
  have hb := hk.1
  ⟨(by have := h.cb; simp only [World.cell?] at this ⊢; rw [hk.2]; exact this), (hb.cell (p := ⟨g, 0, none⟩) h.lg).trans h.c0, (hb.cell (p := ⟨g, 1, none⟩) h.lg).trans h.c1, h.lg, fun h0 => by
    obtain ⟨bl, bu, e1, e2, h1, h2, h3, h4⟩ := h.rows h0
    exact ⟨bl, bu, e1, e2, h1, h2, fun j hj => (hb.cell (p := ⟨bu, j, none⟩) h2).trans (h3 j hj), fun j hj => (hb.cell (p := ⟨bl, j, none⟩) h1).trans (h4 j hj)⟩, h.same, h.le, h.cl, h.cu, h.ml, h.mu⟩
theorem upto_len (us : List Bool) (k : Nat) : (upto us k).length ≤ k := by
  induction k with
  | zero => simp [upto]
  | succ k ih => rw [upto, List.length_append, len_one]; split <;> omega
theorem upto_no (us : List Bool) (k : Nat) (h : hasB us k = false) : upto us (k + 1) = upto us k := by
  show upto us k ++ one us k = upto us k
  unfold one
  rw [dif_neg (by rw [h]; simp), List.append_nil]
theorem upto_yes (us : List Bool) (k : Nat) (h : hasB us k = true) : upto us (k + 1) = upto us k ++ [⟨k, h⟩] := by
  show upto us k ++ one us k = _
  unfold one
  rw [dif_pos h]
theorem all_any (w : World) (p : Option Addr) : Calls Try.prog 21 #[.pointer p] w fun e w' => e = .returned (.func (.func 71) #[] #[.pointer (some ⟨w.heap.size, 0, none⟩)]) ∧ w' = w.alloc (.cells #[.pointer p] 24) := by
  go_enter Try.func21, Try.ntmps21
  go_wp2_with fail
  all_goals go_ret
  all_goals exact ⟨rfl, rfl⟩
abbrev encP (xs : List Int) {us : List Bool} (x : Pl us) : Array Value := #[.int .i64 x.1, .int .i64 (xs.getD x.1 0)]
theorem all1_in (F : Fence) (n : Nat) (h71 : F.fn 71) (hro : F.round = none) (hn : 1 ≤ n) (l Bn n₀ g : Nat) (Al : Option Addr) (capl : Nat) (Au : Option Addr) (capu : Nat) (xs : List Int) (us : List Bool) (J Jx : List (Pl us) → World → Prop)
    (hY : ∀ pre x W, J pre W → pre.length < us.length → YieldAt F (n - 1) Try.prog l (encP xs x) W fun e W' =>
      (e = .returned (.bool true) ∧ J (pre ++ [x]) W' ∧ Kp n₀ Bn W W') ∨ (e = .returned (.bool false) ∧ Jx (pre ++ [x]) W'))
    (W : World) (hR : Rd n₀ W Bn g Al capl Au capu xs us) (h0 : J [] W) :
    CallsIn F n Try.prog 71 #[.func (.yield l) #[] #[], .pointer (some ⟨Bn, 0, none⟩)] W fun e W' => (∃ v, e = .returned v) ∧
      ((∃ ys, ys = all us ∧ J ys W') ∨ (∃ pre, pre <+: all us ∧ Jx pre W')) := by
  have hcb := hR.cb
  have hc1 := hR.c1
  have hus := hR.le
  have hcu := hR.cu
  have hmu := hR.mu
  refine callsIn_of_wp Try.func71 rfl h71 ?_ hro
  simp only [Try.ntmps71, List.size_toArray, List.length_cons, List.length_nil, Nat.reduceAdd, Nat.reduceSub, Array.replicate_succ, Array.replicate_zero, List.push_toArray, List.append_toArray, List.nil_append, List.cons_append]
  gi_wp2
  gi_loopw [12] (fun p wr => ∃ k : Nat, p = .int .i64 k ∧ k ≤ us.length ∧ J (upto us k) wr ∧ Kp n₀ Bn W wr)
    (fun p _ => us.length - (intOf p).toNat)
  case atStart => exact ⟨0, rfl, Nat.zero_le _, h0, Kp.refl _ _ _⟩
  case round =>
    obtain ⟨k, rfl, hk, hJs, hbw⟩ := hrel
    have hRw := hR.below hbw
    by_cases hlt : k < us.length
    · obtain ⟨bl, bu, rfl, rfl, hl1, hl2, hcs, hxs⟩ := hRw.rows (by omega)
      have hck := hcs k hlt
      have hxk := hxs k hlt
      have hcb2 := hRw.cb
      have hc02 := hRw.c0
      have hcl := hR.cl
      have hml := hR.ml
      have hsm := hR.same
      have hkx : k < xs.length := by omega
      cases hu : us[k] with
      | false =>
        rw [hu] at hck
        have e1 : upto us (k + 1) = upto us k := upto_no us k (by rw [hasB_at hlt, hu])
        gi_wp2
        refine ⟨fun _ h => (by cases h), ?_⟩
        gi_wp2
        go_roundw
        case rel => exact ⟨k + 1, by go_num, by omega, by rw [e1]; exact hJs, hbw⟩
        case measure => simp [intOf]; omega
      | true =>
        rw [hu] at hck
        have hub : hasB us (k : Int) = true := by rw [hasB_at hlt, hu]
        have e1 : upto us (k + 1) = upto us k ++ [⟨k, hub⟩] := upto_yes us k hub
        obtain ⟨fn, tmps, assign, body, hy, hY2⟩ := hY (upto us k) ⟨k, hub⟩ wr hJs (by have := upto_len us k; omega)
        dsimp only [encP] at hy
        obtain ⟨z, hz⟩ : ∃ z, xs.getD k 0 = z := ⟨_, rfl⟩
        rw [hz] at hxk hy
        clear hz hxs hcs
        gi_wp2
        refine hY2.mono ?_
        rintro e W3 (⟨rfl, hJ3, hk3⟩ | ⟨rfl, hJx3⟩)
        · gi_wp2
          go_roundw
          case rel => exact ⟨k + 1, by go_num, by omega, by rw [e1]; exact hJ3, hbw.trans hk3⟩
          case measure => simp [intOf]; omega
        · gi_wp2
          refine bodyPost_ret (results_none rfl _ _ _) rfl ?_
          exact ⟨⟨_, rfl⟩, .inr ⟨_, by rw [← e1]; exact upto_all us hlt, hJx3⟩⟩
    · obtain rfl : k = us.length := by omega
      gi_wp2
      go_end0
      exact ⟨⟨_, rfl⟩, .inl ⟨_, rfl, hJs⟩⟩
theorem stops (Bn n₀ g : Nat) (Al : Option Addr) (capl : Nat) (Au : Option Addr) (capu : Nat) (xs : List Int) (us : List Bool) (w : World) (hn₀ : n₀ ≤ w.heap.size) (hBn : Bn < w.heap.size) (hR : Rd n₀ w Bn g Al capl Au capu xs us) :
    SeqStopsK Fence.wide 4 Try.prog 71 #[.pointer (some ⟨Bn, 0, none⟩)] (fun x : Pl us => encP xs x) (Kp n₀ Bn) (fun ys => ys = all us) (fun pre => pre <+: all us) us.length w := fun l J Jx W hW _ _ hY h0 =>
  all1_in Fence.wide 4 trivial rfl (by omega) l Bn n₀ g Al capl Au capu xs us J Jx hY W (hR.below ⟨hW.mono hn₀, hW.block _ hBn⟩) h0
end Go.Proofs.Ytccknhhjkkbadaa.ArD
