/- Contract: chapter 19's awake. -/
import Derived.Test.YtccknhhjkkbadaaArS
namespace Go.Proofs.Ytccknhhjkkbadaa.Aw19
open Go.ChangeShapes Go.WideShapes Go.ChangeAt Go.RowKit Go.Proofs.Ytccknhhjkkbadaa.Lift Go.Proofs.Ytccknhhjkkbadaa.Arn Go.Proofs.Ytccknhhjkkbadaa.ArnS
set_option linter.unusedVariables false
set_option linter.unusedSimpArgs false
theorem step {B : Nat} {w0 w w' : World} {F : Nat → Prop} (hF : ∀ b, F b → B ≤ b) (hbw : Below B w0 w) (hB : B ≤ w.heap.size) (ht : Turn F w w') : Below B w0 w' ∧ B ≤ w'.heap.size := ⟨hbw.trans (ht.below hF hB), Nat.le_trans hB ht.size⟩
set_option maxRecDepth 100000 in
set_option maxHeartbeats 1000000 in
theorem awake13_any (w : World) : Calls Try.prog 13 #[] w fun e w' => e = .returned (.bool true) ∧ Below w.heap.size w w' := by
  have HN := Lib.hid (new_any 5 w)
  go_enter Try.func13, Try.ntmps13
  go_wp2_with fail
  refine HN.out.mono ?_
  rintro _ w1 ⟨rfl, hA1, hb1⟩
  have hs1 := hb1.size
  rw [show mostN 5 = 5 from rfl] at hA1
  have hP1 := Lib.hid (put_room ⟨#[120]⟩ hA1 (by decide))
  clear HN hA1
  go_wp2_with fail
  refine hP1.out.mono ?_
  rintro _ w2 ⟨rfl, hA2, t2⟩
  obtain ⟨hb2, hs2⟩ := step (fun b h => h) hb1 hs1 t2
  have hA2 : Ar w2 (fun b => w.heap.size ≤ b) w.heap.size [⟨#[120]⟩] [true] 0 5 := hA2.mono (fun b hb => hb.elim id (fun e => Nat.le_trans hs1 e))
  have hP2 := Lib.hid (put_room ⟨#[121]⟩ hA2 (by decide))
  rw [show firstF [] = 0 from rfl]
  clear hP1 hA2 t2 hb1 hs1
  go_wp2_with fail
  refine hP2.out.mono ?_
  rintro _ w3 ⟨rfl, hA3, t3⟩
  obtain ⟨hb3, hs3⟩ := step (fun b h => h) hb2 hs2 t3
  have hA3 : Ar w3 (fun b => w.heap.size ≤ b) w.heap.size [⟨#[120]⟩, ⟨#[121]⟩] [true, true] 1 5 := hA3.mono (fun b hb => hb.elim id (fun e => Nat.le_trans hs2 e))
  have hF := free_any 0 hA3
  rw [show hasB [true, true] 0 = true from rfl, if_pos rfl, if_pos rfl, if_pos rfl] at hF
  have hF := Lib.hid hF
  rw [show firstF [true] = 1 from rfl]
  clear hP2 hA3 t3 hb2 hs2
  go_wp2_with fail
  refine hF.out.mono ?_
  rintro _ w4 ⟨rfl, hA4, t4⟩
  obtain ⟨hb4, hs4⟩ := step (fun b h => h) hb3 hs3 t4
  have hA4 : Ar w4 (fun b => w.heap.size ≤ b) w.heap.size [⟨#[]⟩, ⟨#[121]⟩] [false, true] 0 5 := hA4
  have hP4 := put_room ⟨#[122]⟩ hA4 (by decide)
  rw [show firstF [false, true] = 0 from rfl] at hP4
  have hP4 := Lib.hid hP4
  clear hF hA4 t4 hb3 hs3
  go_wp2_with fail
  refine hP4.out.mono ?_
  rintro _ w5 ⟨rfl, hA5, t5⟩
  obtain ⟨hb5, hs5⟩ := step (fun b h => h) hb4 hs4 t5
  have hL := len_any hA5
  rw [show ((List.count true (setU [false, true]) : Nat) : Int) = 2 from rfl] at hL
  have hL := Lib.hid hL
  clear hP4 hA5 t5 hb4 hs4
  go_wp2_with fail
  refine hL.out.mono ?_
  rintro _ w6 ⟨rfl, rfl⟩
  go_wp2_with fail
  go_ret
  exact ⟨rfl, hb5⟩
end Go.Proofs.Ytccknhhjkkbadaa.Aw19
