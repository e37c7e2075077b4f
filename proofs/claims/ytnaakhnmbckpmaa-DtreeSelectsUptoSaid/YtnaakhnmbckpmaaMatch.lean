/- Contract: pats.Match, by that of pats.All. -/
import Derived.Test.YtnaakhnmbckpmaaMatchS
namespace Go.Proofs.Ytnaakhnmbckpmaa.Pats
open Go.ChangeShapes Go.WideShapes Go.ChangeAt Go.RowKit Go.Proofs.Ytnaakhnmbckpmaa.Lift Go.Proofs.Ytnaakhnmbckpmaa.Data Go.Proofs.Ytnaakhnmbckpmaa.Refs
set_option linter.unusedVariables false
set_option linter.unusedSimpArgs false
def AllOk (F E S N : Nat) (w0 : World) : Prop := ∀ (we : World) (ps : List Ex) (ts : List Tm) (w : World) (v u : Value), ExSize ps ≤ N → ExSize ps ≤ 1048576 → Ex.Sl we v ps → Tm.Sl w0 u ts → Below we.heap.size we w → Below w0.heap.size w0 w →
    Calls Try.prog F #[v, u] w (MatchRes E S w0 (allS ps ts) w)
def MatchOk (F E S N : Nat) (w0 : World) : Prop := ∀ (we : World) (p : Ex) (t : Tm) (w : World) (v u : Value), p.size ≤ N → p.size ≤ 1048576 → p.Val we v → t.Val w0 u → Below we.heap.size we w → Below w0.heap.size w0 w →
    Calls Try.prog F #[v, u] w (MatchRes E S w0 (matchS p t) w)
theorem own_nil (w : World) (B e size : Nat) : w.ownsRow B e size (.slice none 0 0) 0 [] := World.ownsRow_nil _ _ _ _
theorem below2 (w : World) (o o' : Obj) : Below w.heap.size w ((w.alloc o).alloc o') := ((Below.refl _ _).alloc (Nat.le_refl _) _).alloc (by simp) _
theorem own_new3 (w : World) (o o' : Obj) (e size n : Nat) (cs : Array Value) (hn : cs.size = n * size) (hm : n ≤ 1048576) : (((w.alloc o).alloc o').alloc (.cells cs e)).ownsRow w.heap.size e size (.slice (some ⟨w.heap.size + 2, 0, none⟩) n n) n cs.toList := by
  have h := own_new ((w.alloc o).alloc o') e size n cs hn hm
  rw [World.size_alloc, World.size_alloc] at h
  exact own_less h (by omega)
theorem matchS_head {k n l c : Int} {s : ByteArray} {ys : List Ex} {t : Tm} (h1 : ¬ k = 1) (h9 : ¬ k = 9) (h3 : ¬ k = 3) :
    matchS (.mk k s n ys l c) t = if (headS (.mk k s n ys l c)).1.k = 2 ∧ t.k = 1 ∧ t.s.toList = (headS (.mk k s n ys l c)).1.s.toList then allS (headS (.mk k s n ys l c)).2 t.ys else none := by
  rw [matchS.eq_def]
  dsimp only
  rw [if_neg h1, if_neg h9, if_neg h3]
  by_cases h4 : k = 4
  · subst h4
    cases ys with
    | nil => simp [headS, Ex.k]
    | cons y r => simp [headS]
  · rw [if_neg h4]
    simp only [headS, if_neg h4, Ex.k, Ex.s]
    split
    · cases hz : t.ys with
      | nil => simp [allS]
      | cons a b => rw [allS]; all_goals simp
    · rfl
theorem headS_size (k : Int) (s : ByteArray) (n : Int) (ys : List Ex) (l c : Int) : ExSize (headS (.mk k s n ys l c)).2 ≤ ExSize ys := by
  by_cases h4 : k = 4
  · cases ys with
    | nil => simp [headS, ExSize]
    | cons y r => simp only [headS, if_pos h4, ExSize]; omega
  · simp [headS, if_neg h4, ExSize]
theorem matchS_yes {k n l c : Int} {s : ByteArray} {ys : List Ex} {t : Tm} (h1 : ¬ k = 1) (h9 : ¬ k = 9) (h3 : ¬ k = 3)
    (h : (headS (.mk k s n ys l c)).1.k = 2 ∧ t.k = 1 ∧ t.s.toList = (headS (.mk k s n ys l c)).1.s.toList) : matchS (.mk k s n ys l c) t = allS (headS (.mk k s n ys l c)).2 t.ys := by
  rw [matchS_head h1 h9 h3, if_pos h]
theorem matchS_no {k n l c : Int} {s : ByteArray} {ys : List Ex} {t : Tm} (h1 : ¬ k = 1) (h9 : ¬ k = 9) (h3 : ¬ k = 3)
    (h : ¬ ((headS (.mk k s n ys l c)).1.k = 2 ∧ t.k = 1 ∧ t.s.toList = (headS (.mk k s n ys l c)).1.s.toList)) : matchS (.mk k s n ys l c) t = none := by
  rw [matchS_head h1 h9 h3, if_neg h]
set_option maxRecDepth 100000 in
set_option maxHeartbeats 2000000 in
theorem match_step (N : Nat) (w0 : World) (hall : AllOk 15 64 33 N w0) : MatchOk 13 64 33 (N + 1) w0 := by
  intro we p t w v u hN hB hv hu hbe hb0
  cases p with
  | mk k s n ys l c =>
  cases t with
  | mk k2 s2 n2 zs =>
  have hv0 := hv
  have hu0 := hu
  obtain ⟨A, cap, rfl, hd, hs⟩ := hv
  obtain ⟨A2, cap2, rfl, he, hs2⟩ := hu
  rw [Ex.size_mk] at hN hB
  by_cases h1 : k = 1
  · have hm : matchS (.mk k s n ys l c) (.mk k2 s2 n2 zs) = some [(s, .mk k2 s2 n2 zs)] := by rw [matchS.eq_def]; simp [h1]
    rw [hm]
    clear hm
    subst h1
    go_enter Try.func13, Try.ntmps13
    go_wp2_with fail
    go_ret2
    refine ⟨_, 1, 1, true, _, rfl, own_new3 w _ _ 64 5 1 _ rfl (by omega), (below2 w _ _).alloc (by simp; omega) _, rfl, rfl, ?_⟩
    rw [BdCells]
    exact ⟨_, [], by simp, ⟨A2, cap2, rfl, he, hs2⟩, by rw [BdCells]⟩
  by_cases h9 : k = 9
  · have hm : matchS (.mk k s n ys l c) (.mk k2 s2 n2 zs) = some [] := by rw [matchS.eq_def]; simp [h9]
    rw [hm]
    clear hm h1
    subst h9
    go_enter Try.func13, Try.ntmps13
    go_wp2_with fail
    go_ret2
    exact ⟨none, 0, 0, true, [], rfl, own_nil _ _ _ _, below2 w _ _, rfl, rfl, by rw [BdCells]⟩
  by_cases h3 : k = 3
  · subst h3
    clear h1 h9
    by_cases g1 : k2 = 2
    · by_cases g2 : n2 = n
      · have hm : matchS (.mk 3 s n ys l c) (.mk k2 s2 n2 zs) = some [] := by rw [matchS.eq_def]; simp [g1, g2, Tm.k, Tm.n]
        rw [hm]
        clear hm
        subst g1 g2
        go_enter Try.func13, Try.ntmps13
        go_wp2_with fail
        go_quiet (fail)
        go_wp2_with fail
        go_ret2
        exact ⟨none, 0, 0, true, [], rfl, own_nil _ _ _ _, (below2 w _ _).drewN _, rfl, rfl, by rw [BdCells]⟩
      · have hm : matchS (.mk 3 s n ys l c) (.mk k2 s2 n2 zs) = none := by rw [matchS.eq_def]; simp [g2, Tm.k, Tm.n]
        have hg2 : (n2 == n) = false := by simp [g2]
        rw [hm]
        clear hm g2
        subst g1
        go_enter Try.func13, Try.ntmps13
        go_wp2_with fail
        go_quiet (fail)
        go_wp2_with fail
        go_ret2
        exact ⟨none, 0, 0, false, [], rfl, own_nil _ _ _ _, (below2 w _ _).drewN _, rfl, rfl, rfl⟩
    · have hm : matchS (.mk 3 s n ys l c) (.mk k2 s2 n2 zs) = none := by rw [matchS.eq_def]; simp [g1, Tm.k, Tm.n]
      have hg1 : (k2 == 2) = false := by simp [g1]
      rw [hm]
      clear hm g1
      go_enter Try.func13, Try.ntmps13
      go_wp2_with fail
      go_quiet (fail)
      go_wp2_with fail
      go_ret2
      exact ⟨none, 0, 0, false, [], rfl, own_nil _ _ _ _, (below2 w _ _).drewN _, rfl, rfl, rfl⟩
  have HH := fun W hW => Lib.hid (head_any we (.mk k s n ys l c) W _ hv0 hW)
  have b1 : (k == 1) = false := by simp [h1]
  have b9 : (k == 9) = false := by simp [h9]
  have b3 : (k == 3) = false := by simp [h3]
  have hbe2 := Lib.hid (fun o o' => hbe.trans ((below2 w o o').mono hbe.size))
  have hM := matchS_yes (s := s) (n := n) (ys := ys) (l := l) (c := c) (t := .mk k2 s2 n2 zs) h1 h9 h3
  have hM0 := matchS_no (s := s) (n := n) (ys := ys) (l := l) (c := c) (t := .mk k2 s2 n2 zs) h1 h9 h3
  have hsz := headS_size k s n ys l c
  generalize hE : headS (.mk k s n ys l c) = he2 at *
  obtain ⟨hd2, args⟩ := he2
  dsimp only at *
  have HE := Lib.hid hE
  clear hE h1 h9 h3
  cases hd2 with
  | mk hk hs' hn hys hl hc =>
  have HA := fun W w1 v hv hW1 hW2 => Lib.hid (hall w1 args zs W v (.slice A2 zs.length cap2) (by omega) (by omega) hv ⟨A2, cap2, rfl, he, hs2⟩ hW1 hW2)
  by_cases g1 : hk = 2
  · by_cases g2 : k2 = 1
    · by_cases g3 : s2.toList = hs'.toList
      · rw [hM ⟨g1, g2, g3⟩]
        dsimp only [Tm.ys]
        clear hM hM0
        subst g1 g2
        go_enter Try.func13, Try.ntmps13
        go_wp2_with fail
        refine ((HH _ (hbe2.out _ _)).out).mono ?_
        rintro e w1 ⟨v1, A1, cap1, xs1, rfl, hv1, hown1, hcells1, hb1⟩
        obtain ⟨A3, cap3, rfl, hd3, hs3⟩ := hv1
        have hbw1 : Below we.heap.size we w1 := (hbe2.out _ _).thenCall (hbe2.out _ _).size hb1
        have hz1 := hb1.size
        have hb1c := Below.call2 hb1
        have hc1 := bcell hb1
        simp only [World.size_alloc] at hz1
        have hz2 : w.heap.size < w1.heap.size := by omega
        have hz3 : w.heap.size + 1 < w1.heap.size := by omega
        have hlen := ExSize_len args
        have hsl1 := Ex.Sl.of_own hown1 (ExCells.below hbw1 (Nat.le_refl _) hcells1) (by omega)
        have hw01 := hb0.trans (hb1c.mono hb0.size)
        go_wp2_with fail
        refine ((HA _ w1 _ hsl1 ((Below.refl _ _).alloc (Nat.le_refl _) _) (hw01.alloc hw01.size _)).out).mono ?_
        rintro e w3 ⟨A5, n5, cap5, b5, xs5, rfl, hown5, hb5, hm5⟩
        go_wp2_with fail
        go_ret2
        have hw1a := Below.call1 hb5
        refine ⟨A5, n5, cap5, b5, xs5, rfl, own_less hown5 (by simp; omega), hb1c.thenCall hb1c.size hw1a, hm5⟩
      · have hg3 : (s2.toList == hs'.toList) = false := by rw [beq_eq_false_iff_ne]; exact g3
        have hg3' : (s2.toList != hs'.toList) = true := by rw [bne_iff_ne]; exact g3
        rw [hM0 (by rintro ⟨x, y, z⟩; exact g3 z)]
        clear hM hM0 HA
        subst g1 g2
        go_enter Try.func13, Try.ntmps13
        go_wp2_with fail
        refine ((HH _ (hbe2.out _ _)).out).mono ?_
        rintro e w1 ⟨v1, A1, cap1, xs1, rfl, hv1, hown1, hcells1, hb1⟩
        obtain ⟨A3, cap3, rfl, hd3, hs3⟩ := hv1
        have hz1 := hb1.size
        have hb1c := Below.call2 hb1
        have hc1 := bcell hb1
        simp only [World.size_alloc] at hz1
        have hz2 : w.heap.size < w1.heap.size := by omega
        have hz3 : w.heap.size + 1 < w1.heap.size := by omega
        go_wp2_with fail
        go_ret2

        exact ⟨none, 0, 0, false, [], rfl, own_nil _ _ _ _, hb1c.trans ((Below.refl _ _).alloc hb1c.size _), rfl, rfl, rfl⟩
    · have hg2 : (k2 == 1) = false := by simp [g2]
      rw [hM0 (by rintro ⟨x, y, z⟩; exact g2 y)]
      clear hM hM0 HA
      subst g1
      go_enter Try.func13, Try.ntmps13
      go_wp2_with fail
      refine ((HH _ (hbe2.out _ _)).out).mono ?_
      rintro e w1 ⟨v1, A1, cap1, xs1, rfl, hv1, hown1, hcells1, hb1⟩
      obtain ⟨A3, cap3, rfl, hd3, hs3⟩ := hv1
      have hz1 := hb1.size
      have hb1c := Below.call2 hb1
      have hc1 := bcell hb1
      simp only [World.size_alloc] at hz1
      have hz2 : w.heap.size < w1.heap.size := by omega
      have hz3 : w.heap.size + 1 < w1.heap.size := by omega
      go_wp2_with fail
      go_ret2
      exact ⟨none, 0, 0, false, [], rfl, own_nil _ _ _ _, hb1c.trans ((Below.refl _ _).alloc hb1c.size _), rfl, rfl, rfl⟩
  · have hg1 : (hk == 2) = false := by simp [g1]
    rw [hM0 (by rintro ⟨x, y, z⟩; exact g1 x)]
    clear hM hM0 HA
    go_enter Try.func13, Try.ntmps13
    go_wp2_with fail
    refine ((HH _ (hbe2.out _ _)).out).mono ?_
    rintro e w1 ⟨v1, A1, cap1, xs1, rfl, hv1, hown1, hcells1, hb1⟩
    obtain ⟨A3, cap3, rfl, hd3, hs3⟩ := hv1
    have hz1 := hb1.size
    have hb1c := Below.call2 hb1
    have hc1 := bcell hb1
    simp only [World.size_alloc] at hz1
    have hz2 : w.heap.size < w1.heap.size := by omega
    have hz3 : w.heap.size + 1 < w1.heap.size := by omega
    go_wp2_with fail
    go_ret2
    exact ⟨none, 0, 0, false, [], rfl, own_nil _ _ _ _, hb1c.trans ((Below.refl _ _).alloc hb1c.size _), rfl, rfl, rfl⟩
end Go.Proofs.Ytnaakhnmbckpmaa.Pats
