/- Contracts: pats.one, pats.Overlap. -/
import Derived.Test.YtnaakhnmbckpmaaOver
namespace Go.Proofs.Ytnaakhnmbckpmaa.Pats
open Go.ChangeShapes Go.WideShapes Go.ChangeAt Go.RowKit Go.Proofs.Ytnaakhnmbckpmaa.Lift Go.Proofs.Ytnaakhnmbckpmaa.Data Go.Proofs.Ytnaakhnmbckpmaa.Refs Go.Proofs.Ytnaakhnmbckpmaa.Same
set_option linter.unusedVariables false
set_option linter.unusedSimpArgs false
def OneOk (N : Nat) : Prop := ∀ (w0 : World) (a b : Ex) (w : World) (v u : Value), a.size ≤ N → a.Val w0 v → b.Val w0 u → Below w0.heap.size w0 w →
    Calls Try.prog 54 #[v, u] w fun r w' => r = .returned (.bool (oneS a b)) ∧ Below w.heap.size w w'
def OverOk (N : Nat) : Prop := ∀ (w0 : World) (a b : List Ex) (w : World) (v u : Value), ExSize a ≤ N → Ex.Sl w0 v a → Ex.Sl w0 u b → Below w0.heap.size w0 w →
    Calls Try.prog 23 #[v, u] w fun r w' => r = .returned (.bool (overS a b)) ∧ Below w.heap.size w w'
theorem over_step (N : Nat) (h : OneOk N) : OverOk N := by
  intro w0 a b w v u hN hv hu h0
  have H := equalOne_any oneS w0 a b v u hv hu (fun i h1 h2 w' x y hx hy hb => h w0 _ _ w' x y (by have := ExSize_get h1; omega) hx hy hb) w h0
  rw [← overS_eqAll] at H
  go_enter Try.func23, Try.ntmps23
  go_wp2_with (go_at_call 52; refine H.mono ?_; rintro e w' ⟨rfl, hb⟩)
  go_ret
  exact ⟨rfl, hb⟩
theorem row6b {w : World} {g : Nat} {t : TypeId} {v0 v1 v2 v3 v4 v5 : Value} (h : w.heap[g]? = some (.cells #[v0, v1, v2, v3, v4, v5] t (0, 0))) :
    w.cell? ⟨g, 0, none⟩ = some v0 ∧ w.cell? ⟨g, 1, none⟩ = some v1 ∧ w.cell? ⟨g, 2, none⟩ = some v2 ∧ w.cell? ⟨g, 3, none⟩ = some v3 ∧ w.cell? ⟨g, 4, none⟩ = some v4 ∧ w.cell? ⟨g, 5, none⟩ = some v5 := by
  obtain ⟨a, b, c, d, e, f, _⟩ := row6 h
  exact ⟨a, b, c, d, e, f⟩
set_option maxRecDepth 100000 in
set_option maxHeartbeats 2000000 in
theorem one_step (N : Nat) (hover : OverOk N) : OneOk (N + 1) := by
  intro w0 a b w v u hN hv hu h0
  have hv0 := hv
  have hu0 := hu
  cases a with
  | mk k s n ys l c =>
  cases b with
  | mk k2 s2 n2 zs l2 c2 =>
  obtain ⟨A, cap, rfl, hd, hs⟩ := hv
  obtain ⟨A2, cap2, rfl, he, hs2⟩ := hu
  have D1 := fun w => demands_any w0 _ w _ hv0
  have D2 := fun w => demands_any w0 _ w _ hu0
  by_cases d1 : demB (.mk k s n ys l c) = false
  · have HS : Hid (oneS (.mk k s n ys l c) (.mk k2 s2 n2 zs l2 c2) = true) := Lib.hid (by rw [oneS_def, d1]; rfl)
    rw [d1] at D1
    clear d1 D2
    have D := Lib.hid D1
    clear D1
    go_enter Try.func54, Try.ntmps54
    go_wp2_with (go_at_call 18; refine (D.out _).mono ?_; rintro e w' ⟨rfl, hb⟩)
    go_ret
    exact ⟨by rw [HS.out]; rfl, Below.call2 hb⟩
  by_cases d2 : demB (.mk k2 s2 n2 zs l2 c2) = false
  · have HS : Hid (oneS (.mk k s n ys l c) (.mk k2 s2 n2 zs l2 c2) = true) := Lib.hid (by rw [oneS_def, d2]; simp)
    rw [Bool.not_eq_false] at d1
    rw [d1] at D1
    rw [d2] at D2
    clear d1 d2
    have D := Lib.hid D1
    have D' := Lib.hid D2
    clear D1 D2
    go_enter Try.func54, Try.ntmps54
    go_wp2_with fail
    refine (D.out _).mono ?_
    rintro e w1 ⟨rfl, hb⟩
    have hc := bcell hb
    go_wp2_with (go_at_call 18; refine (D'.out _).mono ?_; rintro e w' ⟨rfl, hb'⟩)
    go_ret
    exact ⟨by rw [HS.out]; rfl, (Below.call2 hb).thenCall (Below.call2 hb).size hb'⟩
  rw [Bool.not_eq_false] at d1 d2
  have HD := oneS_def (.mk k s n ys l c) (.mk k2 s2 n2 zs l2 c2)
  rw [d1, d2] at HD
  rw [d1] at D1
  rw [d2] at D2
  have D := Lib.hid D1
  have D' := Lib.hid D2
  have hx1 : k = 3 ∨ k = 2 ∨ k = 4 := by simpa [demB, Ex.k, or_assoc] using d1
  have hx2 : k2 = 3 ∨ k2 = 2 ∨ k2 = 4 := by simpa [demB, Ex.k, or_assoc] using d2
  clear D1 D2 d1 d2
  by_cases h3 : k = 3
  · subst h3
    have HS : oneS (.mk 3 s n ys l c) (.mk k2 s2 n2 zs l2 c2) = (3 == k2 && n == n2) := by simpa [Ex.k, Ex.n] using HD
    clear HD
    have HSS := Lib.hid HS
    clear HS
    have hend : ∀ w1 w2 : World, ∀ o o', Below ((w.alloc o).alloc o').heap.size ((w.alloc o).alloc o') w1 → Below w1.heap.size w1 w2 → Below w.heap.size w w2 := fun w1 w2 o o' hb hb' => (Below.call2 hb).thenCall (Below.call2 hb).size hb'
    by_cases e1 : k2 = 3
    · subst e1
      go_enter Try.func54, Try.ntmps54
      go_wp2_with fail
      refine (D.out _).mono ?_
      rintro e w1 ⟨rfl, hb⟩
      have hc := bcell hb
      go_wp2_with fail
      refine (D'.out _).mono ?_
      rintro e w2 ⟨rfl, hb'⟩
      have hc' := bcell hb'
      have hz := hb.size
      simp only [World.size_alloc] at hz
      have hz1 : w.heap.size < w1.heap.size := by omega
      have hz2 : w.heap.size + 1 < w1.heap.size := by omega
      go_wp2_with fail
      go_ret
      exact ⟨by rw [HSS.out]; simp, hend _ _ _ _ hb hb'⟩
    · have e2 : ¬ 3 = k2 := fun h => e1 h.symm
      go_enter Try.func54, Try.ntmps54
      go_wp2_with fail
      refine (D.out _).mono ?_
      rintro e w1 ⟨rfl, hb⟩
      have hc := bcell hb
      go_wp2_with fail
      refine (D'.out _).mono ?_
      rintro e w2 ⟨rfl, hb'⟩
      have hc' := bcell hb'
      have hz := hb.size
      simp only [World.size_alloc] at hz
      have hz1 : w.heap.size < w1.heap.size := by omega
      have hz2 : w.heap.size + 1 < w1.heap.size := by omega
      go_wp2_with fail
      go_ret
      exact ⟨by rw [HSS.out]; simp [e2], hend _ _ _ _ hb hb'⟩
  by_cases e1 : k2 = 3
  · subst e1
    have HS : oneS (.mk k s n ys l c) (.mk 3 s2 n2 zs l2 c2) = false := by simp [Ex.k, Ex.n] at HD; rw [HD]; simp [h3]
    clear HD
    have HSS := Lib.hid HS
    clear HS
    have hend : ∀ w1 w2 : World, ∀ o o', Below ((w.alloc o).alloc o').heap.size ((w.alloc o).alloc o') w1 → Below w1.heap.size w1 w2 → Below w.heap.size w w2 := fun w1 w2 o o' hb hb' => (Below.call2 hb).thenCall (Below.call2 hb).size hb'
    go_enter Try.func54, Try.ntmps54
    go_wp2_with fail
    refine (D.out _).mono ?_
    rintro e w1 ⟨rfl, hb⟩
    have hc := bcell hb
    go_wp2_with fail
    refine (D'.out _).mono ?_
    rintro e w2 ⟨rfl, hb'⟩
    have hc' := bcell hb'
    have hz := hb.size
    simp only [World.size_alloc] at hz
    have hz1 : w.heap.size < w1.heap.size := by omega
    have hz2 : w.heap.size + 1 < w1.heap.size := by omega
    go_wp2_with fail
    go_ret
    exact ⟨by rw [HSS.out]; simp, hend _ _ _ _ hb hb'⟩
  have hk1 : ¬ (k == 3 || k2 == 3) = true := by simp [h3, e1]
  have HS : oneS (.mk k s n ys l c) (.mk k2 s2 n2 zs l2 c2) = ((headS (.mk k s n ys l c)).1.s.toList == (headS (.mk k2 s2 n2 zs l2 c2)).1.s.toList && overS (headS (.mk k s n ys l c)).2 (headS (.mk k2 s2 n2 zs l2 c2)).2) := by
    simp [Ex.k, h3, e1] at HD
    simpa using HD
  clear HD hk1
  have HSS := Lib.hid HS
  clear HS
  have hN1 : ExSize (headS (.mk k s n ys l c)).2 ≤ N := by have := headS_size k s n ys l c; rw [Ex.size_mk] at hN; omega
  have hL1 : (headS (.mk k s n ys l c)).2.length ≤ 1048576 := by
    obtain ⟨_, _, h, _⟩ := hd
    by_cases h4 : k = 4
    · cases ys with
      | nil => simp [headS]
      | cons y r => simp [headS, h4] at h ⊢; omega
    · simp [headS, h4]
  have hL2 : (headS (.mk k2 s2 n2 zs l2 c2)).2.length ≤ 1048576 := by
    obtain ⟨_, _, h, _⟩ := he
    by_cases h4 : k2 = 4
    · cases zs with
      | nil => simp [headS]
      | cons y r => simp [headS, h4] at h ⊢; omega
    · simp [headS, h4]
  have HE1 := fun W hW => Lib.hid (head_any w0 _ W _ hv0 hW)
  have HE2 := fun W hW => Lib.hid (head_any w0 _ W _ hu0 hW)
  generalize headS (.mk k s n ys l c) = q1 at *
  generalize headS (.mk k2 s2 n2 zs l2 c2) = q2 at *
  obtain ⟨⟨k3, s3, n3, us, l3, c3⟩, es1⟩ := q1
  obtain ⟨⟨k4, s4, n4, vs, l4, c4⟩, es2⟩ := q2
  simp only [Ex.s] at HSS
  have hf1 : (k == 3) = false := by simp [h3]
  have hf2 : (k2 == 3) = false := by simp [e1]
  clear h3 e1
  dsimp only at hN1 hL1 hL2 HE1 HE2
  go_enter Try.func54, Try.ntmps54
  go_wp2_with fail
  refine (D.out _).mono ?_
  rintro e w1 ⟨rfl, hb⟩
  have hc := bcell hb
  go_wp2_with fail
  refine (D'.out _).mono ?_
  rintro e w2 ⟨rfl, hb'⟩
  have hc' := bcell hb'
  have hz := hb.size
  simp only [World.size_alloc] at hz
  have hz1 : w.heap.size < w1.heap.size := by omega
  have hz2 : w.heap.size + 1 < w1.heap.size := by omega
  go_wp2_with fail
  have hb02 : Below w0.heap.size w0 w2 := h0.trans (((Below.call2 hb).thenCall (Below.call2 hb).size hb').mono h0.size)
  refine ((HE1 _ hb02).out).mono ?_
  rintro e w3 ⟨v3, A3, cap3, xs3, rfl, hv3, hown3, hcells3, hb3⟩
  obtain ⟨A5, cap5, rfl, hd5, hs5⟩ := hv3
  have hc3 := bcell hb3
  have hz3 : w.heap.size < w2.heap.size := Nat.lt_of_lt_of_le hz1 hb'.size
  have hz4 : w.heap.size + 1 < w2.heap.size := Nat.lt_of_lt_of_le hz2 hb'.size
  have hz5 : w.heap.size < w3.heap.size := Nat.lt_of_lt_of_le hz3 hb3.size
  have hz6 : w.heap.size + 1 < w3.heap.size := Nat.lt_of_lt_of_le hz4 hb3.size
  go_wp2_with fail
  have hb03 := hb02.trans (hb3.mono hb02.size)
  refine ((HE2 _ (hb03.alloc hb03.size _)).out).mono ?_
  rintro e w4 ⟨v4, A4, cap4, xs4, rfl, hv4, hown4, hcells4, hb4⟩
  obtain ⟨A6, cap6, rfl, hd6, hs6⟩ := hv4
  have hc4 := bcell hb4
  have hz7 : w3.heap.size < w4.heap.size := by have := hb4.size; simp only [World.size_alloc] at this; omega
  have hb04 : Below w0.heap.size w0 w4 := hb03.thenCall hb03.size (Below.call1 hb4)
  have hsl3 : Ex.Sl w4 (.slice A3 es1.length cap3) es1 := (Ex.Sl.of_own hown3 (hcells3.below hb03 (Nat.le_refl _)) hL1).below (Below.call1 hb4) (Nat.le_refl _)
  have hsl4 : Ex.Sl w4 (.slice A4 es2.length cap4) es2 := Ex.Sl.of_own hown4 (hcells4.below hb04 (Nat.le_refl _)) hL2
  have HO := fun o => Lib.hid (hover w4 es1 es2 (w4.alloc o) _ _ hN1 hsl3 hsl4 ((Below.refl _ _).alloc (Nat.le_refl _) o))
  have hbw4 : Below w.heap.size w w4 := ((Below.call2 hb).thenCall (Below.call2 hb).size hb').thenCall (Nat.le_of_lt hz3) (Below.thenCall hb3 hb3.size (Below.call1 hb4) |>.mono (Nat.le_refl _))
  by_cases hn : s3.toList = s4.toList
  · go_wp2_with (go_at_call 23; refine ((HO _).out).mono ?_; rintro e w5 ⟨rfl, hb5⟩)
    go_ret
    exact ⟨by rw [HSS.out]; simp [hn], hbw4.thenCall hbw4.size (Below.call1 hb5)⟩
  · go_wp2_with fail
    go_ret
    exact ⟨by rw [HSS.out]; simp [hn], hbw4.alloc hbw4.size _⟩
theorem one_over (N : Nat) : OneOk N ∧ OverOk N := by
  induction N with
  | zero =>
    have h1 : OneOk 0 := fun w0 a b w v u h => by cases a; rw [Ex.size_mk] at h; omega
    exact ⟨h1, over_step 0 h1⟩
  | succ N ih => have h := one_step N ih.2; exact ⟨h, over_step _ h⟩
end Go.Proofs.Ytnaakhnmbckpmaa.Pats
