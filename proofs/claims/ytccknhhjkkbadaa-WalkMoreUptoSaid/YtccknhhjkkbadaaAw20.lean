/- Contracts: Graph.Follow along a known way; chapter 20's example. -/
import Derived.Test.YtccknhhjkkbadaaMade
namespace Go.Proofs.Ytccknhhjkkbadaa.Gr
open Go.ChangeShapes Go.WideShapes Go.ChangeAt Go.RowKit Go.Proofs.Ytccknhhjkkbadaa.Lift Go.Proofs.Ytccknhhjkkbadaa.Arn Go.Proofs.Ytccknhhjkkbadaa.ArnN Go.Maps
set_option linter.unusedVariables false
set_option linter.unusedSimpArgs false
theorem Args.keepT {w w' : World} {F : Nat → Prop} {x : Nd} {l : List Int} (h : Args w x l) (ht : Turn F w w') (ho : Out F x) : Args w' x l := by
  refine ⟨h.1, fun k hk => ?_, h.2.2⟩
  obtain ⟨b, o, e1, e2, e3⟩ := h.2.1 k hk
  exact ⟨b, o, e1, Nat.lt_of_lt_of_le e2 ht.size, (World.cell?_of_block (a := ⟨b, o + k, none⟩) (ht.block b e2 (ho _ e1))).trans e3⟩
set_option maxRecDepth 100000 in
set_option maxHeartbeats 1000000 in
/-- along indirections to a place that is none. -/
theorem follow_way {w : World} {F : Nat → Prop} {gg g low most : Nat} {xs : List Nd} {us : List Bool} (p : Nat → Int) (n : Nat) (h : Gr w F gg g xs us low most) (hn : n < us.count true)
    (hway : ∀ j, j < n → (getX xs us (p j)).k = 5 ∧ Args w (getX xs us (p j)) [p (j + 1)]) (hend : (getX xs us (p n)).k ≠ 5) :
    Calls Try.prog 38 #[.pointer (some ⟨gg, 0, none⟩), .int .i64 (p 0)] w fun e w' => e = .returned (.int .i64 (p n)) ∧ Below w.heap.size w w' := by
  have HL := Lib.hid (glen_any h)
  have HG : Hid (∀ y, Below w.heap.size w y → Gr y F gg g xs us low most) := Lib.hid (fun y hy => h.below hy)
  have hcm : us.count true ≤ 65536 := by
    obtain ⟨_, ⟨_, _, _, _, hh⟩, _⟩ := h
    have := List.count_le_length (a := true) (l := us)
    omega
  clear h
  go_enter Try.func38, Try.ntmps38
  go_wp2_with (go_at_call 34; refine HL.out.mono ?_; rintro _ w1 ⟨rfl, rfl⟩)
  go_loopw [1, 9] (fun i c wr => ∃ j : Nat, c = .int .i64 j ∧ i = .int .i64 (p j) ∧ j ≤ n ∧ Below w.heap.size w wr) (fun _ c _ => n + 1 - (intOf c).toNat)
  case atStart => exact ⟨0, rfl, rfl, Nat.zero_le _, Below.refl _ _⟩
  case round =>
    obtain ⟨j, rfl, rfl, hj, hb⟩ := hrel
    have HP := Lib.hid (places_any wr gg g (HG.out _ hb).1)
    have hlt : (j : Int) < (us.count true : Nat) := by omega
    by_cases hjn : j < n
    · obtain ⟨hk5, hA⟩ := hway j hjn
      have hc0 : (0 : Nat) < [p (j + 1)].length := by simp
      obtain ⟨b, o, e1, e2, e3⟩ := hA.2.1 0 hc0
      have e4 := (hb.cell (p := ⟨b, o + 0, none⟩) e2).trans e3
      have hlen := hA.1
      have hw2 : wr.heap.size = wr.heap.size := rfl
      have HGt := get_any (p j) (HG.out _ hb).2.1
      have hbl : b < wr.heap.size := Nat.lt_of_lt_of_le e2 hb.size
      rw [Nat.add_zero] at e4
      simp only [List.length_cons, List.length_nil, List.getD_cons_zero] at hlen e4
      clear hA e3 hway hend hw2
      generalize getX xs us (p j) = x at *
      generalize hasB us (p j) = bb at *
      obtain ⟨xk, xn, xA, xl, xc⟩ := x
      dsimp only at *
      subst hk5 e1 hlen
      have HGt := Lib.hid HGt
      generalize hpn : p (j + 1) = pn at *
      generalize p j = pj at *
      unfold enc at HGt
      dsimp only at HGt
      go_wp2_with fail
      refine HP.out.mono ?_
      rintro _ w2 ⟨rfl, rfl⟩
      go_wp2_with fail
      refine HGt.out.mono ?_
      rintro _ w2 ⟨rfl, hb2⟩
      have e5 := (hb2.cell (p := ⟨b, o, none⟩) hbl).trans e4
      have hbn := (hb.thenCall hb.size hb2)
      have e6 := fun O => (World.cell?_alloc_lt w2 O ⟨b, o, none⟩ (Nat.lt_of_lt_of_le hbl hb2.size)).trans e5
      have hb3 := hbn.alloc hbn.size (.cells #[.int .i64 5, .int .i64 xn, .slice (some ⟨b, o, none⟩) 1 xc] 43)
      have HPN := Lib.hid hpn
      clear hpn
      go_wp2_with fail
      exact ⟨⟨j + 1, by go_num, by rw [HPN.out], by omega, hb3⟩, by simp [intOf]; omega⟩
    · obtain rfl : j = n := by omega
      have HGt := get_any (p j) (HG.out _ hb).2.1
      have hk : ((getX xs us (p j)).k == 5) = false := by simpa using hend
      have hk2 : ((getX xs us (p j)).k != 5) = true := by simpa using hend
      clear hway hend
      generalize getX xs us (p j) = x at *
      generalize hasB us (p j) = bb at *
      obtain ⟨xk, xn, xA, xl, xc⟩ := x
      unfold enc at HGt
      dsimp only at *
      have HGt := Lib.hid HGt
      go_wp2_with fail
      refine HP.out.mono ?_
      rintro _ w2 ⟨rfl, rfl⟩
      go_wp2_with fail
      refine HGt.out.mono ?_
      rintro _ w2 ⟨rfl, hb2⟩
      have hbn := (hb.thenCall hb.size hb2)
      have hb3 := hbn.alloc hbn.size (.cells #[.int .i64 xk, .int .i64 xn, .slice xA xl xc] 43)
      go_wp2_with fail
      go_ret
      exact ⟨rfl, hb3⟩
end Go.Proofs.Ytccknhhjkkbadaa.Gr
