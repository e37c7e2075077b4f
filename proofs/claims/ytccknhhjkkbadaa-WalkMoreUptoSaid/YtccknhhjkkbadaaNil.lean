/- Contracts: a graph that is none. -/
import Derived.Test.YtccknhhjkkbadaaAw20
namespace Go.Proofs.Ytccknhhjkkbadaa.Gr
open Go.ChangeShapes Go.WideShapes Go.ChangeAt Go.RowKit Go.Proofs.Ytccknhhjkkbadaa.Lift Go.Proofs.Ytccknhhjkkbadaa.Arn Go.Proofs.Ytccknhhjkkbadaa.ArnN Go.Maps
set_option linter.unusedVariables false
set_option linter.unusedSimpArgs false
theorem alen_nil (w : World) : Calls Try.prog 82 #[.pointer none] w fun e w' => e = .returned (.int .i64 0) ∧ w = w' := by
  go_enter Try.func82, Try.ntmps82
  go_wp2_with fail
  go_ret
  exact ⟨rfl, rfl⟩
theorem amost_nil (w : World) : Calls Try.prog 78 #[.pointer none] w fun e w' => e = .returned (.int .i64 0) ∧ w = w' := by
  go_enter Try.func78, Try.ntmps78
  go_wp2_with fail
  go_ret
  exact ⟨rfl, rfl⟩
theorem glen_nil (w : World) : Calls Try.prog 34 #[.pointer none] w fun e w' => e = .returned (.int .i64 0) ∧ w = w' := by
  have H1 := Lib.hid (places_nil w)
  have H2 := Lib.hid (alen_nil w)
  go_enter Try.func34, Try.ntmps34
  go_wp2_with (first | (go_at_call 75; refine H1.out.mono ?_; rintro _ w1 ⟨rfl, rfl⟩) | (go_at_call 82; refine H2.out.mono ?_; rintro _ w1 ⟨rfl, rfl⟩))
  go_ret
  exact ⟨rfl, rfl⟩
theorem gmost_nil (w : World) : Calls Try.prog 28 #[.pointer none] w fun e w' => e = .returned (.int .i64 0) ∧ w = w' := by
  have H1 := Lib.hid (places_nil w)
  have H2 := Lib.hid (amost_nil w)
  go_enter Try.func28, Try.ntmps28
  go_wp2_with (first | (go_at_call 75; refine H1.out.mono ?_; rintro _ w1 ⟨rfl, rfl⟩) | (go_at_call 78; refine H2.out.mono ?_; rintro _ w1 ⟨rfl, rfl⟩))
  go_ret
  exact ⟨rfl, rfl⟩
theorem groom_nil (w : World) : Calls Try.prog 29 #[.pointer none, .int .i64 1] w fun e w' => e = .returned (.bool false) ∧ w = w' := by
  have H1 := Lib.hid (gmost_nil w)
  have H2 := Lib.hid (glen_nil w)
  go_enter Try.func29, Try.ntmps29
  go_wp2_with (first | (go_at_call 28; refine H1.out.mono ?_; rintro _ w1 ⟨rfl, rfl⟩) | (go_at_call 34; refine H2.out.mono ?_; rintro _ w1 ⟨rfl, rfl⟩))
  go_ret
  exact ⟨rfl, rfl⟩
theorem gcopy_nil (w : World) : Calls Try.prog 35 #[.pointer none] w fun e w' => e = .returned (.pointer none) ∧ w = w' := by
  go_enter Try.func35, Try.ntmps35
  go_wp2_with fail
  go_ret
  exact ⟨rfl, rfl⟩
theorem gfollow_nil (w : World) (i : Int) : Calls Try.prog 38 #[.pointer none, .int .i64 i] w fun e w' => e = .returned (.int .i64 i) ∧ w = w' := by
  have H1 := Lib.hid (glen_nil w)
  go_enter Try.func38, Try.ntmps38
  go_wp2_with (first | (go_at_call 34; refine H1.out.mono ?_; rintro _ w1 ⟨rfl, rfl⟩))
  go_loopw [1, 9] (fun i' c wr => c = .int .i64 0 ∧ i' = .int .i64 i ∧ wr = w) (fun _ _ _ => 0)
  case atStart => exact ⟨rfl, rfl, rfl⟩
  case round =>
    obtain ⟨rfl, rfl, rfl⟩ := hrel
    go_wp2_with fail
    go_ret
    exact ⟨rfl, rfl⟩
theorem aput_nil (x : Nd) (w : World) : Calls Try.prog 76 #[.pointer none, enc x] w fun e w' => e = .returned (.tuple #[.int .i64 0, .bool false]) ∧ Below w.heap.size w w' := by
  obtain ⟨xk, xn, xA, xl, xc⟩ := x
  have hb := (Below.refl w.heap.size w).alloc (Nat.le_refl _) (.cells #[.int .i64 xk, .int .i64 xn, .slice xA xl xc] 43)
  have H1 := Lib.hid (alen_nil (w.alloc (.cells #[.int .i64 xk, .int .i64 xn, .slice xA xl xc] 43)))
  have H2 := Lib.hid (amost_nil (w.alloc (.cells #[.int .i64 xk, .int .i64 xn, .slice xA xl xc] 43)))
  unfold enc
  dsimp only
  go_enter Try.func76, Try.ntmps76
  go_wp2_with (first | (go_at_call 82; refine H1.out.mono ?_; rintro _ w1 ⟨rfl, rfl⟩) | (go_at_call 78; refine H2.out.mono ?_; rintro _ w1 ⟨rfl, rfl⟩))
  go_ret2
  exact ⟨rfl, hb⟩
theorem lazy_any (a : Int) (w : World) : Calls Try.prog 37 #[.int .i64 a] w fun e w' => e = .returned (.bool (a == 2 || a == 9 || a == 10)) ∧ w = w' := by
  by_cases h1 : a = 2
  · subst h1
    go_enter Try.func37, Try.ntmps37
    go_wp2_with fail
    go_ret
    exact ⟨rfl, rfl⟩
  · by_cases h2 : a = 9
    · subst h2
      go_enter Try.func37, Try.ntmps37
      go_wp2_with fail
      go_ret
      exact ⟨rfl, rfl⟩
    · have e1 : (a == 2) = false := by simpa using h1
      have e2 : (a == 9) = false := by simpa using h2
      rw [e1, e2]
      go_enter Try.func37, Try.ntmps37
      go_wp2_with fail
      go_ret
      exact ⟨by simp, rfl⟩
set_option maxRecDepth 100000 in
set_option maxHeartbeats 2000000 in
theorem gput_nil (w : World) (x : Nd) (l : List Int) (ha : Args w x l) : Calls Try.prog 27 #[.pointer none, enc x] w fun e w' => e = .returned (.tuple #[.int .i64 0, .bool false]) ∧ Below w.heap.size w w' := by
  obtain ⟨W, hW⟩ : ∃ W, W = w.alloc (.cells #[.int .i64 x.k, .int .i64 x.n, .slice x.A x.len x.cap] 43) := ⟨_, rfl⟩
  have hb : Below w.heap.size w W := by rw [hW]; exact (Below.refl _ _).alloc (Nat.le_refl _) _
  have hx : W.heap[w.heap.size]? = some (.cells #[.int .i64 x.k, .int .i64 x.n, .slice x.A x.len x.cap] 43) := by rw [hW]; exact heap_alloc_new w _
  have hA := ha.below hb
  have HW := Lib.hid hW
  have HO := fun y (hy : Below W.heap.size W y) => Lib.hid (own_any y x l (hA.below hy))
  have MS : Hid (∀ y, Below W.heap.size W y → (fun w' => w'.cell? ⟨w.heap.size, 0, none⟩ = some (.int .i64 x.k) ∧ w'.cell? ⟨w.heap.size, 1, none⟩ = some (.int .i64 x.n) ∧ w'.cell? ⟨w.heap.size, 2, none⟩ = some (.slice x.A x.len x.cap)) y) := Lib.hid (fun y hy => by
    have := (hy.block _ (Array.getElem?_eq_some_iff.1 hx).1).trans hx
    refine ⟨?_, ?_, ?_⟩ <;> simp [World.cell?, this])
  obtain ⟨xk, xn, xA, xl, xc⟩ := x
  unfold enc
  dsimp only at *
  have hB0 : Below W.heap.size W W.drew := (Below.refl _ _).drew
  clear hW hA hx ha
  go_enter Try.func27, Try.ntmps27
  go_wp2_with fail
  rw [← HW.out]
  go_region_held3 (fun w' => w'.cell? ⟨w.heap.size, 0, none⟩ = some (.int .i64 xk) ∧ w'.cell? ⟨w.heap.size, 1, none⟩ = some (.int .i64 xn) ∧ w'.cell? ⟨w.heap.size, 2, none⟩ = some (.slice xA xl xc))
    (first | exact MS.out _ hB2 | exact MS.out _ hB1 | exact MS.out _ hB0)
    (first
     | (go_at_call 75; ((with_reducible refine (places_nil _).mono ?_); rintro _ y0 ⟨rfl, rfl⟩))
     | (go_at_call 77; ((with_reducible refine (HO _ hB0).out.mono ?_); rintro _ y1 ⟨A', cap', rfl, hA', hbl, q1⟩; have hB1 := hB0.thenCall hB0.size q1))
     | (go_at_call 76; (have hp := aput_nil ⟨xk, xn, A', l.length, cap'⟩ y1; refine hp.mono ?_; rintro _ y2 ⟨rfl, q2⟩; clear hp; have hB2 := hB1.thenCall hB1.size q2)))
  go_wp2_with fail
  go_ret2
  exact ⟨rfl, hb.thenCall hb.size hB2⟩
end Go.Proofs.Ytccknhhjkkbadaa.Gr
