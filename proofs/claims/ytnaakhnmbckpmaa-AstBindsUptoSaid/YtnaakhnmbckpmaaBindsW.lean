/- The walk of AstBinds: it returns true. -/
import Derived.Test.YtnaakhnmbckpmaaAwake5
import Derived.Test.YtnaakhnmbckpmaaFreeL
import Derived.Test.YtnaakhnmbckpmaaFew
import Derived.Test.YtnaakhnmbckpmaaOpen
import Derived.OpenShut
import Derived.IntWalk
import Derived.Deep.RegionHeld3
namespace Go.Proofs.Ytnaakhnmbckpmaa.astBinds
open Go.ChangeShapes Go.WideShapes Go.ChangeAt Go.RowKit Go.Proofs.Ytnaakhnmbckpmaa.Lift Go.Proofs.Ytnaakhnmbckpmaa.Data Go.Proofs.Ytnaakhnmbckpmaa.Refs Go.Proofs.Ytnaakhnmbckpmaa.Strs
set_option linter.unusedVariables false
set_option linter.unusedSimpArgs false
theorem few1 (w : World) (e : Ex) (c : List Value) (w0 : World) (h : e.Cs w0 c) (hb : Below w0.heap.size w0 w) : Ex.Sl (w.alloc (.cells c.toArray 26)) (.slice (some ⟨w.heap.size, 0, none⟩) 1 1) [e] := by
  refine Ex.Sl.of_own (own_new w 26 6 1 c.toArray (by simp [h.len]) (by omega)) ?_ (by simp)
  have := ExCells.single h
  exact ExCells.below (hb.alloc hb.size _) (Nat.le_refl _) (by simpa using this)
theorem exs_of_block {W : World} {g : Nat} {cs : List Value} {es : List Ex} (h : W.heap[g]? = some (.cells cs.toArray 26 (0, 0))) (hc : ExCells W es cs) : Exs W (some ⟨g, 0, none⟩) es :=
  .inr ⟨g, 0, rfl, hc.row (fun j u hu => by simp [World.cell?, h, hu])⟩
theorem cells6 {w : World} {g : Nat} {v0 v1 v2 v3 v4 v5 : Value} (h : w.heap[g]? = some (.cells #[v0, v1, v2, v3, v4, v5] 26 (0, 0))) :
    w.cell? ⟨g, 0, none⟩ = some v0 ∧ w.cell? ⟨g, 1, none⟩ = some v1 ∧ w.cell? ⟨g, 2, none⟩ = some v2 ∧ w.cell? ⟨g, 3, none⟩ = some v3 ∧ w.cell? ⟨g, 4, none⟩ = some v4 ∧ w.cell? ⟨g, 5, none⟩ = some v5 := by
  refine ⟨?_, ?_, ?_, ?_, ?_, ?_⟩ <;> simp [World.cell?, h]
theorem heap4 (w : World) (a b c d : Array Value) :
    ((((w.alloc (.cells a 26)).alloc (.cells b 26)).alloc (.cells c 26)).alloc (.cells d 26)).heap[w.heap.size]? = some (.cells a 26 (0, 0)) ∧
    ((((w.alloc (.cells a 26)).alloc (.cells b 26)).alloc (.cells c 26)).alloc (.cells d 26)).heap[w.heap.size + 1]? = some (.cells b 26 (0, 0)) ∧
    ((((w.alloc (.cells a 26)).alloc (.cells b 26)).alloc (.cells c 26)).alloc (.cells d 26)).heap[w.heap.size + 1 + 1]? = some (.cells c 26 (0, 0)) ∧
    ((((w.alloc (.cells a 26)).alloc (.cells b 26)).alloc (.cells c 26)).alloc (.cells d 26)).heap[w.heap.size + 1 + 1 + 1]? = some (.cells d 26 (0, 0)) ∧
    Below w.heap.size w ((((w.alloc (.cells a 26)).alloc (.cells b 26)).alloc (.cells c 26)).alloc (.cells d 26)) := by
  have h1 := heap_alloc_new w (.cells a 26)
  have h2 := heap_alloc_new (w.alloc (.cells a 26)) (.cells b 26)
  have h3 := heap_alloc_new ((w.alloc (.cells a 26)).alloc (.cells b 26)) (.cells c 26)
  have h4 := heap_alloc_new (((w.alloc (.cells a 26)).alloc (.cells b 26)).alloc (.cells c 26)) (.cells d 26)
  simp only [World.size_alloc] at h2 h3 h4
  refine ⟨?_, ?_, ?_, h4, ((((Below.refl _ _).alloc (Nat.le_refl _) _).alloc (by simp) _).alloc (by simp; try omega) _).alloc (by simp; try omega) _⟩
  · rw [Below.heap_alloc _ _ _ (by simp; try omega), Below.heap_alloc _ _ _ (by simp; try omega), Below.heap_alloc _ _ _ (by simp)]; exact h1
  · rw [Below.heap_alloc _ _ _ (by simp; try omega), Below.heap_alloc _ _ _ (by simp)]; exact h2
  · rw [Below.heap_alloc _ _ _ (by simp)]; exact h3
/-- ast.Pattern of an expression that is no pattern by its kind. -/
theorem pattern8 (w : World) (s : ByteArray) (n l c : Int) (A : Option Addr) (len cap : Nat) :
    Calls Try.prog 29 #[.agg #[.int .i64 8, .string s, .int .i64 n, .slice A len cap, .int .i64 l, .int .i64 c]] w fun r w' => r = .returned (.bool false) ∧ Below w.heap.size w w' := by
  go_enter Try.func29, Try.ntmps29
  go_wp2_with fail
  go_ret
  exact ⟨rfl, (Below.refl _ _).alloc (Nat.le_refl _) _⟩
set_option maxRecDepth 100000 in
set_option maxHeartbeats 4000000 in
theorem walk (w : World) (e : Ex) (v0 : Value) (nm s : ByteArray) (h0 : e.Val w v0) (z0 : e.size + 2 ≤ 1048576) (m1 : nm.size ≤ 9223372036854775807) (m2 : s.size ≤ 9223372036854775807) :
    Calls Try.prog 6 #[v0, .string nm, .string s] w (fun r w' => r = .returned (.bool true) ∧ Below w.heap.size w w') := by
  have Z0 : ExSize [e] ≤ 1048576 := by rw [ExSize, ExSize]; omega
  obtain ⟨cs, rfl, hC⟩ := h0.cs
  have H0 := Lib.hid h0
  have HE := Lib.hid hC
  have HF1 := fun w1 hb => Lib.hid (fewEx_any _ [e] _ _ (few1 w1 _ _ w HE.out hb) Z0 (Below.refl _ _))
  cases e with
  | mk k s0 n ys l c =>
  obtain ⟨A, cap, rfl, hd, hs⟩ := hC
  have hbx := heap_alloc_new w (.cells #[.int .i64 k, .string s0, .int .i64 n, .slice A ys.length cap, .int .i64 l, .int .i64 c] 26)
  have hb1 := below1 w (.cells #[.int .i64 k, .string s0, .int .i64 n, .slice A ys.length cap, .int .i64 l, .int .i64 c] 26)
  clear hd hs h0
  go_enter Try.func6, Try.ntmps6
  go_wp2_with fail
  refine (awake5_any _).mono ?_
  rintro _ w1 ⟨rfl, hb2⟩
  have hbx1 := (hb2.block _ (Array.getElem?_eq_some_iff.1 hbx).1).trans hbx
  have hbw1 := hb1.trans (hb2.mono hb1.size)
  clear hb1 hb2 hbx
  obtain ⟨c0, c1, c2, c3, c4, c5⟩ := cells6 hbx1
  have hl1 : w.heap.size < w1.heap.size := (Array.getElem?_eq_some_iff.1 hbx1).1
  go_wp2_with fail
  refine ((HF1 _ hbw1).out).mono ?_
  rintro _ w2 ⟨rfl, hb3⟩
  have hb3c := Below.call1 hb3
  have hbx2 := (hb3c.block _ hl1).trans hbx1
  have hbw2 := hbw1.thenCall hbw1.size hb3c
  clear c0 c1 c2 c3 c4 c5 hb3 hb3c hbx1
  obtain ⟨c0, c1, c2, c3, c4, c5⟩ := cells6 hbx2
  have hl2 : w.heap.size < w2.heap.size := (Array.getElem?_eq_some_iff.1 hbx2).1
  cases hq1 : fewEx [Ex.mk k s0 n ys l c] with
  | false =>
    go_wp2_with fail
    go_ret
    exact ⟨rfl, hbw2⟩
  | true =>
  by_cases hn1 : 30 < nm.size
  · go_wp2_with fail
    go_ret
    exact ⟨rfl, hbw2⟩
  by_cases hn2 : 30 < s.size
  · go_wp2_with fail
    go_ret
    exact ⟨rfl, hbw2⟩
  have hn3 : ¬ 30 < (nm.size : Int) := by omega
  have hn4 : ¬ 30 < (s.size : Int) := by omega
  have q1 : w.heap.size < w2.heap.size + 1 := by omega
  have q2 : w.heap.size < w2.heap.size + 1 + 1 := by omega
  have q3 : w.heap.size < w2.heap.size + 1 + 1 + 1 := by omega
  go_wp2_with fail
  obtain ⟨p0, p1, p2, p3, pb⟩ := heap4 w2 #[.int .i64 k, .string s0, .int .i64 n, .slice A ys.length cap, .int .i64 l, .int .i64 c] #[.int .i64 8, .string nm, .int .i64 0, .slice (some ⟨w2.heap.size, 0, none⟩) 1 1, .int .i64 0, .int .i64 0] #[.int .i64 3, .string ⟨#[]⟩, .int .i64 0, .slice none 0 0, .int .i64 0, .int .i64 0, .int .i64 k, .string s0, .int .i64 n, .slice A ys.length cap, .int .i64 l, .int .i64 c] #[.int .i64 7, .string nm, .int .i64 0, .slice (some ⟨w2.heap.size + 1 + 1, 0, none⟩) 2 2, .int .i64 0, .int .i64 0]
  obtain ⟨W, hW⟩ : ∃ W, W = ((((w2.alloc (.cells #[.int .i64 k, .string s0, .int .i64 n, .slice A ys.length cap, .int .i64 l, .int .i64 c] 26)).alloc (.cells #[.int .i64 8, .string nm, .int .i64 0, .slice (some ⟨w2.heap.size, 0, none⟩) 1 1, .int .i64 0, .int .i64 0] 26)).alloc (.cells #[.int .i64 3, .string ⟨#[]⟩, .int .i64 0, .slice none 0 0, .int .i64 0, .int .i64 0, .int .i64 k, .string s0, .int .i64 n, .slice A ys.length cap, .int .i64 l, .int .i64 c] 26)).alloc (.cells #[.int .i64 7, .string nm, .int .i64 0, .slice (some ⟨w2.heap.size + 1 + 1, 0, none⟩) 2 2, .int .i64 0, .int .i64 0] 26)) := ⟨_, rfl⟩
  rw [← hW] at p0 p1 p2 p3 pb ⊢
  clear hW c0 c1 c2 c3 c4 c5 q1 q2 q3 HF1 hq1
  have hbwW := hbw2.thenCall hbw2.size pb
  have px := (pb.block _ hl2).trans hbx2
  have hCW := HE.out.below hbwW (Nat.le_refl _)
  have hVE : (Ex.mk k s0 n ys l c).Val W (.agg #[.int .i64 k, .string s0, .int .i64 n, .slice A ys.length cap, .int .i64 l, .int .i64 c]) := H0.out.below hbwW (Nat.le_refl _)
  have hVF : (freeE nm (Ex.mk k s0 n ys l c)).Val W (.agg #[.int .i64 8, .string nm, .int .i64 0, .slice (some ⟨w2.heap.size, 0, none⟩) 1 1, .int .i64 0, .int .i64 0]) :=
    ⟨_, 1, rfl, ⟨by simp, by omega, by simp, fun h => by cases h⟩, exs_of_block p0 (ExCells.single hCW)⟩
  have hVL : (letE nm (Ex.mk k s0 n ys l c)).Val W (.agg #[.int .i64 7, .string nm, .int .i64 0, .slice (some ⟨w2.heap.size + 1 + 1, 0, none⟩) 2 2, .int .i64 0, .int .i64 0]) := by
    refine ⟨_, 2, rfl, ⟨by simp, by omega, by simp, fun h => by cases h⟩, exs_of_block p2 (cs := [.int .i64 3, .string ⟨#[]⟩, .int .i64 0, .slice none 0 0, .int .i64 0, .int .i64 0] ++ [.int .i64 k, .string s0, .int .i64 n, .slice A ys.length cap, .int .i64 l, .int .i64 c]) ?_⟩
    rw [ExCells]
    exact ⟨_, _, rfl, ⟨none, 0, rfl, ⟨by simp, by omega, by simp, fun _ => rfl⟩, .inl rfl⟩, ExCells.single hCW⟩
  have hsE : (Ex.mk k s0 n ys l c).size ≤ 1048574 := by omega
  have hdE := depS_le (Ex.mk k s0 n ys l c)
  have hd1 : 1 ≤ depS (Ex.mk k s0 n ys l c) := by rw [depS]; omega
  have hzF := freeE_size nm (Ex.mk k s0 n ys l c)
  have hzL := letE_size nm (Ex.mk k s0 n ys l c)
  have hlF := freeE_law nm s (Ex.mk k s0 n ys l c)
  have hlL := letE_law nm s (Ex.mk k s0 n ys l c)
  have hdL := letE_dep nm (Ex.mk k s0 n ys l c)
  have hn0 := freeS_len (Ex.mk k s0 n ys l c) [] []
  have hnF := freeS_len (freeE nm (Ex.mk k s0 n ys l c)) [] []
  have hnL := freeS_len (letE nm (Ex.mk k s0 n ys l c)) [] []
  rw [hzF] at hnF
  rw [hzL] at hnL
  simp only [List.length_nil, Nat.zero_add] at hn0 hnF hnL
  have CE := Lib.hid (Free_any W _ W _ hVE (Below.refl _ _) (by omega))
  have CF := fun x hx => Lib.hid (Free_any W _ x _ hVF hx (by rw [hzF]; omega))
  have CL := fun x hx => Lib.hid (Free_any W _ x _ hVL hx (by rw [hzL]; omega))
  have SF := fun x hx => Lib.hid (size_any _ W _ x _ (Nat.le_refl _) (by rw [hzF]; omega) hVF hx)
  have SE := fun x hx => Lib.hid (size_any _ W _ x _ (Nat.le_refl _) (by omega) hVE hx)
  have DL := fun x hx => Lib.hid (depth_any _ W _ x _ (Nat.le_refl _) (by rw [hzL]; omega) hVL hx)
  have DE := fun x hx => Lib.hid (depth_any _ W _ x _ (Nat.le_refl _) (by omega) hVE hx)
  rw [hzF] at SF
  rw [hdL] at DL
  have CI := fun x v (h : StrSl x v (freeS (Ex.mk k s0 n ys l c) [] [])) => Lib.hid (in_any x v _ s h)
  have CIF := fun x v (h : StrSl x v (freeS (freeE nm (Ex.mk k s0 n ys l c)) [] [])) => Lib.hid (in_any x v _ s h)
  have CIL := fun x v (h : StrSl x v (freeS (letE nm (Ex.mk k s0 n ys l c)) [] [])) => Lib.hid (in_any x v _ s h)
  rw [hlF] at CIF
  rw [hlL] at CIL
  clear hlF hlL hzF hzL hdL hVE hVF hVL hCW HE H0 Z0 z0
  generalize freeS (Ex.mk k s0 n ys l c) [] [] = fe at *
  generalize freeS (freeE nm (Ex.mk k s0 n ys l c)) [] [] = ff at *
  generalize freeS (letE nm (Ex.mk k s0 n ys l c)) [] [] = fl at *
  generalize (Ex.mk k s0 n ys l c).size = q at *
  generalize depS (Ex.mk k s0 n ys l c) = dq at *
  have hcast : ((q + 1 : Nat) : Int) = (q : Int) + 1 := by omega
  have hcast2 : ((max dq 1 + 1 : Nat) : Int) = (dq : Int) + 1 := by omega
  rw [hcast] at SF
  rw [hcast2] at DL
  clear hcast hcast2
  refine CE.out.mono ?_
  rintro _ w3 ⟨v3, rfl, ho3, hb3⟩
  have hI3 := CI _ _ (StrSl.of_own ho3 (by omega))
  clear CE CI
  have y3 := (hb3.block _ (Array.getElem?_eq_some_iff.1 px).1).trans px
  have y7 := (hb3.block _ (Array.getElem?_eq_some_iff.1 p1).1).trans p1
  have y8 := (hb3.block _ (Array.getElem?_eq_some_iff.1 p3).1).trans p3
  have MS : Hid (∀ x, Below w3.heap.size w3 x → (fun w' => Below w3.heap.size w3 w' ∧ w'.cell? ⟨w.heap.size, 0, none⟩ = some (.int .i64 k) ∧ w'.cell? ⟨w.heap.size, 1, none⟩ = some (.string s0) ∧ w'.cell? ⟨w.heap.size, 2, none⟩ = some (.int .i64 n) ∧ w'.cell? ⟨w.heap.size, 3, none⟩ = some (.slice A ys.length cap) ∧ w'.cell? ⟨w.heap.size, 4, none⟩ = some (.int .i64 l) ∧ w'.cell? ⟨w.heap.size, 5, none⟩ = some (.int .i64 c) ∧ w'.cell? ⟨w2.heap.size + 1, 0, none⟩ = some (.int .i64 8) ∧ w'.cell? ⟨w2.heap.size + 1, 1, none⟩ = some (.string nm) ∧ w'.cell? ⟨w2.heap.size + 1, 2, none⟩ = some (.int .i64 0) ∧ w'.cell? ⟨w2.heap.size + 1, 3, none⟩ = some (.slice (some ⟨w2.heap.size, 0, none⟩) 1 1) ∧ w'.cell? ⟨w2.heap.size + 1, 4, none⟩ = some (.int .i64 0) ∧ w'.cell? ⟨w2.heap.size + 1, 5, none⟩ = some (.int .i64 0) ∧ w'.cell? ⟨w2.heap.size + 1 + 1 + 1, 0, none⟩ = some (.int .i64 7) ∧ w'.cell? ⟨w2.heap.size + 1 + 1 + 1, 1, none⟩ = some (.string nm) ∧ w'.cell? ⟨w2.heap.size + 1 + 1 + 1, 2, none⟩ = some (.int .i64 0) ∧ w'.cell? ⟨w2.heap.size + 1 + 1 + 1, 3, none⟩ = some (.slice (some ⟨w2.heap.size + 1 + 1, 0, none⟩) 2 2) ∧ w'.cell? ⟨w2.heap.size + 1 + 1 + 1, 4, none⟩ = some (.int .i64 0) ∧ w'.cell? ⟨w2.heap.size + 1 + 1 + 1, 5, none⟩ = some (.int .i64 0)) x) := Lib.hid (by
    intro x hx
    have g3 := cells6 ((hx.block _ (Array.getElem?_eq_some_iff.1 y3).1).trans y3)
    have g7 := cells6 ((hx.block _ (Array.getElem?_eq_some_iff.1 y7).1).trans y7)
    have g8 := cells6 ((hx.block _ (Array.getElem?_eq_some_iff.1 y8).1).trans y8)
    exact ⟨hx, g3.1, g3.2.1, g3.2.2.1, g3.2.2.2.1, g3.2.2.2.2.1, g3.2.2.2.2.2, g7.1, g7.2.1, g7.2.2.1, g7.2.2.2.1, g7.2.2.2.2.1, g7.2.2.2.2.2, g8.1, g8.2.1, g8.2.2.1, g8.2.2.2.1, g8.2.2.2.2.1, g8.2.2.2.2.2⟩)
  have hB0 : Below w3.heap.size w3 w3.drew := (Below.refl _ _).drew
  have k1 : IntKind.i64.wrap ((q : Int) + 1) = (q : Int) + 1 := IntWalk.i64_in _ (by omega)
  have k2 : IntKind.i64.wrap ((dq : Int) + 1) = (dq : Int) + 1 := IntWalk.i64_in _ (by omega)
  have k5 : (if (dq : Int) < 1 then (1 : Int) else dq) = dq := if_neg (by omega)
  clear hd1
  clear y3 y7 y8 px p0 p1 p2 p3 hn0 hdE
  clear ho3
  cases hme : memS fe s <;> by_cases hen : s.toList = nm.toList
  all_goals
    rw [hme] at hI3
    rw [hme] at CIF CIL
    have hes : eqS s nm = decide (s.toList = nm.toList) := rfl
    simp only [hen, decide_true, decide_false] at hes
    rw [hes] at CIF CIL
    simp only [Bool.not_true, Bool.not_false, Bool.and_false, Bool.and_true] at CIF CIL
    clear hes hme
    have hen' : (s.toList == nm.toList) = decide (s.toList = nm.toList) := by rw [Bool.eq_iff_iff]; simp
    simp only [hen, decide_true, decide_false] at hen'
    go_wp2_with (go_at_call 25; refine hI3.out.mono ?_; rintro _ w4 ⟨rfl, rfl⟩)
    clear hI3
    go_region_held3 (fun w' => Below w3.heap.size w3 w' ∧ w'.cell? ⟨w.heap.size, 0, none⟩ = some (.int .i64 k) ∧ w'.cell? ⟨w.heap.size, 1, none⟩ = some (.string s0) ∧ w'.cell? ⟨w.heap.size, 2, none⟩ = some (.int .i64 n) ∧ w'.cell? ⟨w.heap.size, 3, none⟩ = some (.slice A ys.length cap) ∧ w'.cell? ⟨w.heap.size, 4, none⟩ = some (.int .i64 l) ∧ w'.cell? ⟨w.heap.size, 5, none⟩ = some (.int .i64 c) ∧ w'.cell? ⟨w2.heap.size + 1, 0, none⟩ = some (.int .i64 8) ∧ w'.cell? ⟨w2.heap.size + 1, 1, none⟩ = some (.string nm) ∧ w'.cell? ⟨w2.heap.size + 1, 2, none⟩ = some (.int .i64 0) ∧ w'.cell? ⟨w2.heap.size + 1, 3, none⟩ = some (.slice (some ⟨w2.heap.size, 0, none⟩) 1 1) ∧ w'.cell? ⟨w2.heap.size + 1, 4, none⟩ = some (.int .i64 0) ∧ w'.cell? ⟨w2.heap.size + 1, 5, none⟩ = some (.int .i64 0) ∧ w'.cell? ⟨w2.heap.size + 1 + 1 + 1, 0, none⟩ = some (.int .i64 7) ∧ w'.cell? ⟨w2.heap.size + 1 + 1 + 1, 1, none⟩ = some (.string nm) ∧ w'.cell? ⟨w2.heap.size + 1 + 1 + 1, 2, none⟩ = some (.int .i64 0) ∧ w'.cell? ⟨w2.heap.size + 1 + 1 + 1, 3, none⟩ = some (.slice (some ⟨w2.heap.size + 1 + 1, 0, none⟩) 2 2) ∧ w'.cell? ⟨w2.heap.size + 1 + 1 + 1, 4, none⟩ = some (.int .i64 0) ∧ w'.cell? ⟨w2.heap.size + 1 + 1 + 1, 5, none⟩ = some (.int .i64 0))
      (first | exact MS.out _ hB7 | exact MS.out _ hB6 | exact MS.out _ hB5 | exact MS.out _ hB4 | exact MS.out _ hB3 | exact MS.out _ hB2 | exact MS.out _ hB1 | exact MS.out _ hB0)
      (first
       | (go_at_call 26; ((with_reducible refine (CL _ (hb3.thenCall hb3.size hB1)).out.mono ?_); rintro _ x2 ⟨v2, rfl, o2, q2⟩; have hB2 := hB1.thenCall hB1.size q2))
       | (go_at_call 26; ((with_reducible refine (CF _ (hb3.thenCall hb3.size hB0)).out.mono ?_); rintro _ x1 ⟨v1, rfl, o1, q1⟩; have hB1 := hB0.thenCall hB0.size q1))
       | (go_at_call 25; have t2 := StrSl.of_own o2 (by omega); ((with_reducible refine (CIL _ v2 t2).out.mono ?_); rintro _ w' ⟨rfl, rfl⟩))
       | (go_at_call 25; have t1 := StrSl.of_own o1 (by omega); ((with_reducible refine (CIF _ v1 t1).out.mono ?_); rintro _ w' ⟨rfl, rfl⟩))
       | (go_at_call 27; ((with_reducible refine (SE _ (hb3.thenCall hb3.size hB3)).out.mono ?_); rintro _ x4 ⟨rfl, q4⟩; have hB4 := hB3.thenCall hB3.size q4))
       | (go_at_call 27; ((with_reducible refine (SF _ (hb3.thenCall hb3.size hB2)).out.mono ?_); rintro _ x3 ⟨rfl, q3⟩; have hB3 := hB2.thenCall hB2.size q3))
       | (go_at_call 28; ((with_reducible refine (DE _ (hb3.thenCall hb3.size hB5)).out.mono ?_); rintro _ x6 ⟨rfl, q6⟩; have hB6 := hB5.thenCall hB5.size q6))
       | (go_at_call 28; ((with_reducible refine (DL _ (hb3.thenCall hb3.size hB4)).out.mono ?_); rintro _ x5 ⟨rfl, q5⟩; have hB5 := hB4.thenCall hB4.size q5))
       | (go_at_call 29; ((with_reducible refine (pattern8 _ _ _ _ _ _ _ _).mono ?_); rintro _ x7 ⟨rfl, q7⟩; have hB7 := hB6.thenCall hB6.size q7)))
    go_wp2_with fail
    go_ret
    exact ⟨rfl, hbwW.thenCall hbwW.size (hb3.thenCall hb3.size hB7)⟩
end Go.Proofs.Ytnaakhnmbckpmaa.astBinds
