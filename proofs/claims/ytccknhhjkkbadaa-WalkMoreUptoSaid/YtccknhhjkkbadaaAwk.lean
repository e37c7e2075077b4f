/- Contract: chapter 20's awake. -/
import Derived.Test.YtccknhhjkkbadaaAw20
namespace Go.Proofs.Ytccknhhjkkbadaa.Gr
open Go.ChangeShapes Go.WideShapes Go.ChangeAt Go.RowKit Go.Proofs.Ytccknhhjkkbadaa.Lift Go.Proofs.Ytccknhhjkkbadaa.Arn Go.Proofs.Ytccknhhjkkbadaa.ArnN Go.Maps
set_option linter.unusedVariables false
set_option linter.unusedSimpArgs false
theorem args_one {w : World} {b : Nat} {i : Int} {ty : Nat} {k n : Int} (h : w.heap[b]? = some (.cells #[.int .i64 i] ty)) : Args w ⟨k, n, some ⟨b, 0, none⟩, 1, 1⟩ [i] := by
  refine ⟨rfl, fun j hj => ?_, by simp, fun e => by cases e⟩
  have h0 : j = 0 := by simp at hj; omega
  subst h0
  exact ⟨b, 0, rfl, (Array.getElem?_eq_some_iff.1 h).1, by simp [World.cell?, h]⟩
/-- a put, seen from an old world. -/
theorem put_old {B : Nat} {w0 w w' : World} {F F' : Nat → Prop} (hF : ∀ b, F b → B ≤ b) (hbw : Below B w0 w) (hB : B ≤ w.heap.size) (hg : Grows F F' w w') (ht : Turn F w w') : (∀ b, F' b → B ≤ b) ∧ Below B w0 w' ∧ B ≤ w'.heap.size :=
  ⟨fun b hb => (hg b hb).elim (hF b) (fun e => Nat.le_trans hB e.1), hbw.trans (ht.below hF hB), Nat.le_trans hB ht.size⟩
set_option maxRecDepth 100000 in
set_option maxHeartbeats 1000000 in
theorem awake24_any (w : World) : Calls Try.prog 24 #[] w fun e w' => e = .returned (.bool true) ∧ Below w.heap.size w w' := by
  have HN := Lib.hid (gnew_any 5 w)
  go_enter Try.func24, Try.ntmps24
  go_wp2_with fail
  refine HN.out.mono ?_
  rintro _ w1 ⟨F1, gg, g, rfl, hG1, hF1, hgg, hb1⟩
  have hP1 := gput_room ⟨6, 7, none, 0, 0⟩ [] hG1 (by decide) ⟨rfl, fun k hk => by simp at hk, by simp, fun _ => rfl⟩
  have hP1 := Lib.hid hP1
  clear hG1 HN
  go_wp2_with fail
  refine hP1.out.mono ?_
  rintro _ w2 ⟨rfl, F2, x1, hG2, k1, n1, a1, o1, gr1, t1⟩
  obtain ⟨hF2, hb2, hs2⟩ := put_old hF1 hb1 hb1.size gr1 t1
  have hf0 : firstF [] = 0 := rfl
  have hX1 : setX [] [] x1 = [x1] := rfl
  have hU1 : setU [] = [true] := rfl
  rw [hf0, hX1, hU1] at hG2
  rw [hf0]
  clear hf0 hX1 hU1 gr1 t1 a1 o1 hF1 hb1
  have hal := (Below.refl w2.heap.size w2).alloc (Nat.le_refl _) (.cells #[.int .i64 0] 3)
  have hP2 := gput_room ⟨5, 0, some ⟨w2.heap.size, 0, none⟩, 1, 1⟩ [0] (hG2.below hal) (by decide) (args_one (heap_alloc_new w2 _))
  have hP2 := Lib.hid hP2
  have hb2' : Below w.heap.size w (w2.alloc (.cells #[.int .i64 0] 3)) := hb2.thenCall hs2 hal
  have hs2' : w.heap.size ≤ (w2.alloc (.cells #[.int .i64 0] 3)).heap.size := Nat.le_trans hs2 hal.size
  clear hG2 hal hP1 hb2 hs2
  dsimp only at k1 n1
  go_wp2_with fail
  refine hP2.out.mono ?_
  rintro _ w3 ⟨rfl, F3, x2, hG3, k2, n2, a2, o2, gr2, t2⟩
  obtain ⟨hF3, hb3, hs3⟩ := put_old hF2 hb2' hs2' gr2 t2
  have hf1 : firstF [true] = 1 := rfl
  have hX2 : setX [x1] [true] x2 = [x1, x2] := rfl
  have hU2 : setU [true] = [true, true] := rfl
  rw [hf1, hX2, hU2] at hG3
  rw [hf1]
  clear hf1 hX2 hU2 gr2 t2 hF2 hb2' hs2' hP2
  dsimp only at k2 n2
  have hal := (Below.refl w3.heap.size w3).alloc (Nat.le_refl _) (.cells #[.int .i64 1] 3)
  have hP3 := gput_room ⟨5, 0, some ⟨w3.heap.size, 0, none⟩, 1, 1⟩ [1] (hG3.below hal) (by decide) (args_one (heap_alloc_new w3 _))
  have hP3 := Lib.hid hP3
  have hb3' : Below w.heap.size w (w3.alloc (.cells #[.int .i64 1] 3)) := hb3.thenCall hs3 hal
  have hs3' : w.heap.size ≤ (w3.alloc (.cells #[.int .i64 1] 3)).heap.size := Nat.le_trans hs3 hal.size
  have a2' := a2.below hal
  clear hG3 hal hb3 hs3 a2
  go_wp2_with fail
  refine hP3.out.mono ?_
  rintro _ w4 ⟨rfl, F4, x3, hG4, k3, n3, a3, o3, gr3, t3⟩
  obtain ⟨hF4, hb4, hs4⟩ := put_old hF3 hb3' hs3' gr3 t3
  have a2'' := a2'.keepT t3 o2
  have hf2 : firstF [true, true] = 2 := rfl
  have hX3 : setX [x1, x2] [true, true] x3 = [x1, x2, x3] := rfl
  have hU3 : setU [true, true] = [true, true, true] := rfl
  rw [hf2, hX3, hU3] at hG4
  rw [hf2]
  clear hf2 hX3 hU3 gr3 t3 hF3 hb3' hs3' hP3 a2' o2
  dsimp only at k3 n3
  have HF := follow_way (fun j => (2 - j : Int)) 2 hG4 (by decide) (fun j hj => by
    rcases (by omega : j = 0 ∨ j = 1) with rfl | rfl
    · exact ⟨k3, a3⟩
    · exact ⟨k2, a2''⟩) (by rw [show getX [x1, x2, x3] [true, true, true] (2 - (2 : Nat) : Int) = x1 from rfl, k1]; decide)
  have HF := Lib.hid HF
  have HL := Lib.hid (fun y (hy : Below w4.heap.size w4 y) => glen_any (hG4.below hy))
  clear hG4 k1 k2 k3 n1 n2 n3 a2'' a3 o3 hF4
  go_wp2_with fail
  refine HF.out.mono ?_
  rintro _ w5 ⟨rfl, hb5⟩
  go_wp2_with fail
  refine (HL.out _ hb5).mono ?_
  rintro _ w6 ⟨rfl, rfl⟩
  go_wp2_with fail
  go_ret
  exact ⟨rfl, hb4.thenCall hs4 hb5⟩
end Go.Proofs.Ytccknhhjkkbadaa.Gr
