/- The walk of AstRules: it returns true. -/
import Derived.Test.YtnaakhnmbckpmaaAwake5
import Derived.Test.YtnaakhnmbckpmaaAst
import Derived.Test.YtnaakhnmbckpmaaFew
import Derived.OpenShut
import Derived.Deep.RegionHeld3
namespace Go.Proofs.Ytnaakhnmbckpmaa.astRules
open Go.ChangeShapes Go.WideShapes Go.ChangeAt Go.RowKit Go.Proofs.Ytnaakhnmbckpmaa.Lift Go.Proofs.Ytnaakhnmbckpmaa.Data Go.Proofs.Ytnaakhnmbckpmaa.Refs Go.Proofs.Ytnaakhnmbckpmaa.Same Go.Proofs.Ytnaakhnmbckpmaa.Strs
set_option linter.unusedVariables false
set_option linter.unusedSimpArgs false
theorem cells11 {w : World} {g : Nat} {v0 v1 v2 v3 v4 v5 v6 v7 v8 v9 v10 : Value} (h : w.heap[g]? = some (.cells #[v0, v1, v2, v3, v4, v5, v6, v7, v8, v9, v10] 45 (0, 0))) :
    w.cell? ⟨g, 0, none⟩ = some v0 ∧ w.cell? ⟨g, 1, none⟩ = some v1 ∧ w.cell? ⟨g, 2, none⟩ = some v2 ∧ w.cell? ⟨g, 3, none⟩ = some v3 ∧ w.cell? ⟨g, 4, none⟩ = some v4 ∧ w.cell? ⟨g, 5, none⟩ = some v5 ∧ w.cell? ⟨g, 6, none⟩ = some v6 ∧ w.cell? ⟨g, 7, none⟩ = some v7 ∧ w.cell? ⟨g, 8, none⟩ = some v8 ∧ w.cell? ⟨g, 9, none⟩ = some v9 ∧ w.cell? ⟨g, 10, none⟩ = some v10 := by
  refine ⟨?_, ?_, ?_, ?_, ?_, ?_, ?_, ?_, ?_, ?_, ?_⟩ <;> simp [World.cell?, h]
theorem ExSize_app : ∀ es fs : List Ex, ExSize (es ++ fs) = ExSize es + ExSize fs
  | [], fs => by simp [ExSize]
  | e :: r, fs => by rw [List.cons_append, ExSize, ExSize, ExSize_app r fs]; omega
theorem boxes2 (w : World) (a b : Array Value) : ((w.alloc (.cells a 45)).alloc (.cells b 45)).heap[w.heap.size]? = some (.cells a 45 (0, 0)) ∧ ((w.alloc (.cells a 45)).alloc (.cells b 45)).heap[w.heap.size + 1]? = some (.cells b 45 (0, 0)) ∧ Below w.heap.size w ((w.alloc (.cells a 45)).alloc (.cells b 45)) := by
  have h1 := heap_alloc_new w (.cells a 45)
  have h2 := heap_alloc_new (w.alloc (.cells a 45)) (.cells b 45)
  rw [World.size_alloc] at h2
  exact ⟨by rw [Below.heap_alloc _ _ _ (by simp)]; exact h1, h2, ((Below.refl _ _).alloc (Nat.le_refl _) _).alloc (by simp) _⟩
mutual
theorem same_refl : ∀ e : Ex, sameEx false e e = true
  | .mk k s n ys l c => by rw [sameEx]; simp [sames_refl ys]
theorem sames_refl : ∀ es : List Ex, sameExs false es es = true
  | [] => by simp [sameExs]
  | e :: r => by rw [sameExs, same_refl e, sames_refl r]; rfl
end
theorem sameRu_self (a : Ru) (l c : Int) : sameRu a ⟨a.name, a.pats, a.guard, a.body, l, c⟩ = true := by
  simp [sameRu, ← sameExs_eqAll, sames_refl, same_refl]
theorem sameRu_no1 {a b : Ru} (h : ¬ a.name.toList = b.name.toList) : sameRu a b = false := by simp [sameRu, h]
theorem sameRu_no2 {a b : Ru} (h : ¬ a.pats.length = b.pats.length) : sameRu a b = false := by simp [sameRu, eqAll_len h]
theorem sameRu_no3 {a b : Ru} (h : ¬ a.guard.length = b.guard.length) : sameRu a b = false := by simp [sameRu, eqAll_len h]
theorem sameRu_no4 {a b : Ru} (h : sameEx false a.body b.body = false) : sameRu a b = false := by simp [sameRu, h]
theorem sameRu_no5 {a b : Ru} (h : eqAll (sameEx false) a.pats b.pats = false) : sameRu a b = false := by simp [sameRu, h]
theorem sameRu_no6 {a b : Ru} (h : eqAll (sameEx false) a.guard b.guard = false) : sameRu a b = false := by simp [sameRu, h]
theorem sameRu_yes {a b : Ru} (h1 : a.name.toList = b.name.toList) (h2 : eqAll (sameEx false) a.pats b.pats = true) (h3 : eqAll (sameEx false) a.guard b.guard = true) (h4 : sameEx false a.body b.body = true) : sameRu a b = true := by simp [sameRu, h1, h2, h3, h4]
set_option maxRecDepth 100000 in
set_option maxHeartbeats 8000000 in
theorem walk (w : World) (a b : Ru) (v u : Value) (ha : a.Val w v) (hb : b.Val w u) (z : a.body.size + b.body.size + ExSize a.pats + ExSize b.pats + ExSize a.guard + ExSize b.guard ≤ 1048576) :
    Calls Try.prog 4 #[v, u] w (fun r w' => r = .returned (.bool true) ∧ Below w.heap.size w w') := by
  have HVA := ha
  have HVB := hb
  obtain ⟨A, capA, G, capG, k, n, l, c, s, ys, Y, capY, hbody, rfl, hA, sA, hG, sG, hY, sY⟩ := ha
  obtain ⟨A2, capA2, G2, capG2, k2, n2, l2, c2, s2, ys2, Y2, capY2, hbody2, rfl, hA2, sA2, hG2, sG2, hY2, sY2⟩ := hb
  obtain ⟨an, ap, ag, ab, al, ac⟩ := a
  obtain ⟨bn, bp, bg, bb, bl, bc⟩ := b
  dsimp only at *
  subst hbody hbody2
  have HVC : Ru.Val w (.agg #[.string an, .slice A ap.length capA, .slice G ag.length capG, .int .i64 k, .string s, .int .i64 n, .slice Y ys.length capY, .int .i64 l, .int .i64 c, .int .i64 bl, .int .i64 bc]) ⟨an, ap, ag, .mk k s n ys l c, bl, bc⟩ := ⟨A, capA, G, capG, k, n, l, c, s, ys, Y, capY, rfl, rfl, hA, sA, hG, sG, hY, sY⟩
  have hbz1 : 1 ≤ (Ex.mk k s n ys l c).size := by rw [Ex.size_mk]; omega
  have hbz2 : 1 ≤ (Ex.mk k2 s2 n2 ys2 l2 c2).size := by rw [Ex.size_mk]; omega
  have hlA := ExSize_len ap
  have hlB := ExSize_len bp
  have hlG := ExSize_len ag
  have hlH := ExSize_len bg
  have hVbA : (Ex.mk k s n ys l c).Val w (.agg #[.int .i64 k, .string s, .int .i64 n, .slice Y ys.length capY, .int .i64 l, .int .i64 c]) := ⟨Y, capY, rfl, hY, sY⟩
  have hVbB : (Ex.mk k2 s2 n2 ys2 l2 c2).Val w (.agg #[.int .i64 k2, .string s2, .int .i64 n2, .slice Y2 ys2.length capY2, .int .i64 l2, .int .i64 c2]) := ⟨Y2, capY2, rfl, hY2, sY2⟩
  have hcells0 : ExCells w [.mk k s n ys l c, .mk k2 s2 n2 ys2 l2 c2] [.int .i64 k, .string s, .int .i64 n, .slice Y ys.length capY, .int .i64 l, .int .i64 c, .int .i64 k2, .string s2, .int .i64 n2, .slice Y2 ys2.length capY2, .int .i64 l2, .int .i64 c2] := by
    rw [ExCells]
    refine ⟨[.int .i64 k, .string s, .int .i64 n, .slice Y ys.length capY, .int .i64 l, .int .i64 c], [.int .i64 k2, .string s2, .int .i64 n2, .slice Y2 ys2.length capY2, .int .i64 l2, .int .i64 c2], rfl, ⟨Y, capY, rfl, hY, sY⟩, ExCells.single ⟨Y2, capY2, rfl, hY2, sY2⟩⟩
  obtain ⟨xsA, srcA, celA⟩ := sA.cells
  obtain ⟨xsB, srcB, celB⟩ := sA2.cells
  obtain ⟨xsG, srcG, celG⟩ := sG.cells
  obtain ⟨xsH, srcH, celH⟩ := sG2.cells
  have h1A := celA.one
  have h1B := celB.one
  have h1G := celG.one
  have h1H := celH.one
  have hcA := hA.2.2.2
  have hcB := hA2.2.2.2
  have hcG := hG.2.2.2
  have hcH := hG2.2.2.2
  obtain ⟨i0, hi, hz0, hz1, hz2⟩ := info_parts info26
  have hg1 : 2 + ap.length ≤ maxLen := by unfold maxLen; omega
  have hg2 : (2 + ap.length) * 72 ≤ 140737488355328 := by omega
  have hg3 : 2 + ap.length + bp.length ≤ maxLen := by unfold maxLen; omega
  have hg4 : (2 + ap.length + bp.length) * 72 ≤ 140737488355328 := by omega
  have hg5 : 0 + ag.length ≤ maxLen := by unfold maxLen; omega
  have hg6 : (0 + ag.length) * 72 ≤ 140737488355328 := by omega
  have hg7 : 0 + ag.length + bg.length ≤ maxLen := by unfold maxLen; omega
  have hg8 : (0 + ag.length + bg.length) * 72 ≤ 140737488355328 := by omega
  have hs1 : ExSize ([.mk k s n ys l c, .mk k2 s2 n2 ys2 l2 c2] ++ ap ++ bp) ≤ 1048576 := by
    rw [ExSize_app, ExSize_app, ExSize, ExSize, ExSize]; omega
  have hs2 : ExSize (ag ++ bg) ≤ 1048576 := by rw [ExSize_app]; omega
  have hbox := boxes2 w #[.string an, .slice A ap.length capA, .slice G ag.length capG, .int .i64 k, .string s, .int .i64 n, .slice Y ys.length capY, .int .i64 l, .int .i64 c, .int .i64 al, .int .i64 ac] #[.string bn, .slice A2 bp.length capA2, .slice G2 bg.length capG2, .int .i64 k2, .string s2, .int .i64 n2, .slice Y2 ys2.length capY2, .int .i64 l2, .int .i64 c2, .int .i64 bl, .int .i64 bc]
  obtain ⟨hbx0, hbx1, hbb⟩ := hbox
  go_enter Try.func4, Try.ntmps4
  go_wp2_with fail
  refine (awake5_any _).mono ?_
  rintro _ w1 ⟨rfl, hb1⟩
  have hx0 := (hb1.block _ (Array.getElem?_eq_some_iff.1 hbx0).1).trans hbx0
  have hx1 := (hb1.block _ (Array.getElem?_eq_some_iff.1 hbx1).1).trans hbx1
  have hw1 := hbb.thenCall hbb.size hb1
  clear hb1 hbx0 hbx1 hbb
  have hB0 : Below w1.heap.size w1 w1.drew := (Below.refl _ _).drew
  have MS : Hid (∀ x, Below w1.heap.size w1 x → (fun w' => Below w1.heap.size w1 w' ∧ w'.cell? ⟨w.heap.size, 1, none⟩ = some (.slice A ap.length capA) ∧ w'.cell? ⟨w.heap.size, 2, none⟩ = some (.slice G ag.length capG) ∧ w'.cell? ⟨w.heap.size, 3, none⟩ = some (.int .i64 k) ∧ w'.cell? ⟨w.heap.size, 4, none⟩ = some (.string s) ∧ w'.cell? ⟨w.heap.size, 5, none⟩ = some (.int .i64 n) ∧ w'.cell? ⟨w.heap.size, 6, none⟩ = some (.slice Y ys.length capY) ∧ w'.cell? ⟨w.heap.size, 7, none⟩ = some (.int .i64 l) ∧ w'.cell? ⟨w.heap.size, 8, none⟩ = some (.int .i64 c) ∧ w'.cell? ⟨w.heap.size + 1, 1, none⟩ = some (.slice A2 bp.length capA2) ∧ w'.cell? ⟨w.heap.size + 1, 2, none⟩ = some (.slice G2 bg.length capG2) ∧ w'.cell? ⟨w.heap.size + 1, 3, none⟩ = some (.int .i64 k2) ∧ w'.cell? ⟨w.heap.size + 1, 4, none⟩ = some (.string s2) ∧ w'.cell? ⟨w.heap.size + 1, 5, none⟩ = some (.int .i64 n2) ∧ w'.cell? ⟨w.heap.size + 1, 6, none⟩ = some (.slice Y2 ys2.length capY2) ∧ w'.cell? ⟨w.heap.size + 1, 7, none⟩ = some (.int .i64 l2) ∧ w'.cell? ⟨w.heap.size + 1, 8, none⟩ = some (.int .i64 c2)) x) := Lib.hid (by
    intro x hx
    have p := cells11 ((hx.block _ (Array.getElem?_eq_some_iff.1 hx0).1).trans hx0)
    have q := cells11 ((hx.block _ (Array.getElem?_eq_some_iff.1 hx1).1).trans hx1)
    obtain ⟨p0, p1, p2, p3, p4, p5, p6, p7, p8, p9, p10⟩ := cells11 ((hx.block _ (Array.getElem?_eq_some_iff.1 hx0).1).trans hx0)
    obtain ⟨q0, q1, q2, q3, q4, q5, q6, q7, q8, q9, q10⟩ := cells11 ((hx.block _ (Array.getElem?_eq_some_iff.1 hx1).1).trans hx1)
    exact ⟨hx, p1, p2, p3, p4, p5, p6, p7, p8, q1, q2, q3, q4, q5, q6, q7, q8⟩)
  have hsA : ∀ x, Below w1.heap.size w1 x → Src x 6 A ap.length xsA := fun x hx => srcA.below (hw1.thenCall hw1.size hx) (Nat.le_refl _)
  have hsB : ∀ x, Below w1.heap.size w1 x → Src x 6 A2 bp.length xsB := fun x hx => srcB.below (hw1.thenCall hw1.size hx) (Nat.le_refl _)
  have hsG : ∀ x, Below w1.heap.size w1 x → Src x 6 G ag.length xsG := fun x hx => srcG.below (hw1.thenCall hw1.size hx) (Nat.le_refl _)
  have hsH : ∀ x, Below w1.heap.size w1 x → Src x 6 G2 bg.length xsH := fun x hx => srcH.below (hw1.thenCall hw1.size hx) (Nat.le_refl _)
  have HW1 : ∀ x v3, Below w1.heap.size w1 x → x.ownsRow w1.heap.size 26 6 v3 (2 + ap.length + bp.length) ([.int .i64 k, .string s, .int .i64 n, .slice Y ys.length capY, .int .i64 l, .int .i64 c, .int .i64 k2, .string s2, .int .i64 n2, .slice Y2 ys2.length capY2, .int .i64 l2, .int .i64 c2] ++ xsA ++ xsB) → Hid (Calls Try.prog 11 #[v3] x fun r w' => r = .returned (.bool (fewEx ([.mk k s n ys l c, .mk k2 s2 n2 ys2 l2 c2] ++ ap ++ bp))) ∧ Below x.heap.size x w') := by
    intro x v3 hx ho
    have hc := ((hcells0.append celA).append celB).below (hw1.thenCall hw1.size hx) (Nat.le_refl _)
    exact Lib.hid (fewEx_any x _ x v3 (Ex.Sl.of_own (by rw [List.length_append, List.length_append]; exact ho) hc (by simp; omega)) hs1 (Below.refl _ _))
  have HW2 : ∀ x v3, Below w1.heap.size w1 x → x.ownsRow w1.heap.size 26 6 v3 (0 + ag.length + bg.length) ([] ++ xsG ++ xsH) → Hid (Calls Try.prog 11 #[v3] x fun r w' => r = .returned (.bool (fewEx (ag ++ bg))) ∧ Below x.heap.size x w') := by
    intro x v3 hx ho
    rw [Nat.zero_add, List.nil_append, ← List.length_append] at ho
    exact Lib.hid (fewEx_any x _ x v3 (Ex.Sl.of_own ho ((celG.append celH).below (hw1.thenCall hw1.size hx) (Nat.le_refl _)) (by simp; omega)) hs2 (Below.refl _ _))
  have hO1 := own_new w1.drew 26 6 2 #[.int .i64 k, .string s, .int .i64 n, .slice Y ys.length capY, .int .i64 l, .int .i64 c, .int .i64 k2, .string s2, .int .i64 n2, .slice Y2 ys2.length capY2, .int .i64 l2, .int .i64 c2] rfl (by omega)
  clear srcA srcB srcG srcH celA celB celG celH hcells0 hs1 hs2
  generalize fewEx ([.mk k s n ys l c, .mk k2 s2 n2 ys2 l2 c2] ++ ap ++ bp) = q1 at *
  generalize fewEx (ag ++ bg) = q2 at *
  go_wp2_with fail
  cases q1 with
  | false =>

    refine wp_region_held_drew (S := (fun w' => Below w1.heap.size w1 w' ∧ w'.cell? ⟨w.heap.size, 1, none⟩ = some (.slice A ap.length capA) ∧ w'.cell? ⟨w.heap.size, 2, none⟩ = some (.slice G ag.length capG) ∧ w'.cell? ⟨w.heap.size, 3, none⟩ = some (.int .i64 k) ∧ w'.cell? ⟨w.heap.size, 4, none⟩ = some (.string s) ∧ w'.cell? ⟨w.heap.size, 5, none⟩ = some (.int .i64 n) ∧ w'.cell? ⟨w.heap.size, 6, none⟩ = some (.slice Y ys.length capY) ∧ w'.cell? ⟨w.heap.size, 7, none⟩ = some (.int .i64 l) ∧ w'.cell? ⟨w.heap.size, 8, none⟩ = some (.int .i64 c) ∧ w'.cell? ⟨w.heap.size + 1, 1, none⟩ = some (.slice A2 bp.length capA2) ∧ w'.cell? ⟨w.heap.size + 1, 2, none⟩ = some (.slice G2 bg.length capG2) ∧ w'.cell? ⟨w.heap.size + 1, 3, none⟩ = some (.int .i64 k2) ∧ w'.cell? ⟨w.heap.size + 1, 4, none⟩ = some (.string s2) ∧ w'.cell? ⟨w.heap.size + 1, 5, none⟩ = some (.int .i64 n2) ∧ w'.cell? ⟨w.heap.size + 1, 6, none⟩ = some (.slice Y2 ys2.length capY2) ∧ w'.cell? ⟨w.heap.size + 1, 7, none⟩ = some (.int .i64 l2) ∧ w'.cell? ⟨w.heap.size + 1, 8, none⟩ = some (.int .i64 c2))) (by kernel_rfl) (MS.out _ hB0) (fun hHeld => ?_)
    try dsimp only at hHeld
    (refine wpAnyH_take (i := 0) (oi := ?_) (v := ?_) ?_ (by kernel_rfl) (by kernel_rfl) (by kernel_rfl) ?_ ?_ (by assumption) ?_; rotate_left 2; (simp only [List.getElem?_toArray, List.getElem?_cons_succ, List.getElem?_cons_zero]; rfl); (exact fun _ _ _ h => h); (refine Or.inl ⟨by rfl, ?_⟩; intro w hSw; (try dsimp only at hSw); go_simp; try with_reducible rfl); try simp only [Act.put, List.setIfInBounds_toArray, List.set_cons_zero, List.set_cons_succ])
    (refine wpAnyH_take (i := 1) (oi := ?_) (v := ?_) ?_ (by kernel_rfl) (by kernel_rfl) (by kernel_rfl) ?_ ?_ (by assumption) ?_; rotate_left 2; (simp only [List.getElem?_toArray, List.getElem?_cons_succ, List.getElem?_cons_zero]; rfl); (exact fun _ _ _ h => h); (refine Or.inl ⟨by rfl, ?_⟩; intro w hSw; (try dsimp only at hSw); go_simp; try with_reducible rfl); try simp only [Act.put, List.setIfInBounds_toArray, List.set_cons_zero, List.set_cons_succ])
    (refine wpAnyH_take (i := 2) (oi := ?_) (v := ?_) ?_ (by kernel_rfl) (by kernel_rfl) (by kernel_rfl) ?_ ?_ (by assumption) ?_; rotate_left 2; (simp only [List.getElem?_toArray, List.getElem?_cons_succ, List.getElem?_cons_zero]; rfl); (exact fun _ _ _ h => h); (refine Or.inl ⟨by rfl, ?_⟩; intro w hSw; (try dsimp only at hSw); go_simp; try with_reducible rfl); try simp only [Act.put, List.setIfInBounds_toArray, List.set_cons_zero, List.set_cons_succ])
    (refine wpAnyH_take (i := 3) (oi := ?_) (v := ?_) ?_ (by kernel_rfl) (by kernel_rfl) (by kernel_rfl) ?_ ?_ (by assumption) ?_; rotate_left 2; (simp only [List.getElem?_toArray, List.getElem?_cons_succ, List.getElem?_cons_zero]; rfl); (exact fun _ _ _ h => h); (refine Or.inl ⟨by rfl, ?_⟩; intro w hSw; (try dsimp only at hSw); go_simp; try with_reducible rfl); try simp only [Act.put, List.setIfInBounds_toArray, List.set_cons_zero, List.set_cons_succ])
    (refine wpAnyH_take (i := 5) (oi := ?_) (v := ?_) ?_ (by kernel_rfl) (by kernel_rfl) (by kernel_rfl) ?_ ?_ (by assumption) ?_; rotate_left 2; (simp only [List.getElem?_toArray, List.getElem?_cons_succ, List.getElem?_cons_zero]; rfl); (exact fun _ _ _ h => h); (refine Or.inl ⟨by rfl, ?_⟩; intro w hSw; (try dsimp only at hSw); go_simp; try with_reducible rfl); try simp only [Act.put, List.setIfInBounds_toArray, List.set_cons_zero, List.set_cons_succ])
    (refine wpAnyH_take (i := 6) (oi := ?_) (v := ?_) ?_ (by kernel_rfl) (by kernel_rfl) (by kernel_rfl) ?_ ?_ (by assumption) ?_; rotate_left 2; (simp only [List.getElem?_toArray, List.getElem?_cons_succ, List.getElem?_cons_zero]; rfl); (exact fun _ _ _ h => h); (refine Or.inl ⟨by rfl, ?_⟩; intro w hSw; (try dsimp only at hSw); go_simp; try with_reducible rfl); try simp only [Act.put, List.setIfInBounds_toArray, List.set_cons_zero, List.set_cons_succ])
    (refine wpAnyH_take (i := 8) (oi := ?_) (v := ?_) ?_ (by kernel_rfl) (by kernel_rfl) (by kernel_rfl) ?_ ?_ (by assumption) ?_; rotate_left 2; (simp only [List.getElem?_toArray, List.getElem?_cons_succ, List.getElem?_cons_zero]; rfl); (exact fun _ _ _ h => h); (refine Or.inl ⟨by rfl, ?_⟩; intro w hSw; (try dsimp only at hSw); go_simp; try with_reducible rfl); try simp only [Act.put, List.setIfInBounds_toArray, List.set_cons_zero, List.set_cons_succ])
    (refine wpAnyH_take (i := 9) (oi := ?_) (v := ?_) ?_ (by kernel_rfl) (by kernel_rfl) (by kernel_rfl) ?_ ?_ (by assumption) ?_; rotate_left 2; (simp only [List.getElem?_toArray, List.getElem?_cons_succ, List.getElem?_cons_zero]; rfl); (exact fun _ _ _ h => h); (refine Or.inl ⟨by rfl, ?_⟩; intro w hSw; (try dsimp only at hSw); go_simp; try with_reducible rfl); try simp only [Act.put, List.setIfInBounds_toArray, List.set_cons_zero, List.set_cons_succ])
    refine wpAnyH_ready (rs := [4]) (by kernel_rfl) (by simp) ?_
    refine AllReadyH.cons (o := ?_) ?_ (fun K hK => ?_) AllReadyH.nil
    rotate_left 1
    (simp only [List.getElem?_toArray, List.getElem?_cons_succ, List.getElem?_cons_zero]; rfl)
    go_simp
    have hB1 : Below w1.heap.size w1 _ := hB0.alloc hB0.size (.cells #[.int .i64 k, .string s, .int .i64 n, .slice Y ys.length capY, .int .i64 l, .int .i64 c, .int .i64 k2, .string s2, .int .i64 n2, .slice Y2 ys2.length capY2, .int .i64 l2, .int .i64 c2] 26)
    have hNew := MS.out _ hB1
    clear hHeld
    refine hK.out _ _ hNew (fun hHeld => ?_)
    clear hK K hNew
    try simp only [Act.put, List.setIfInBounds_toArray, List.set_cons_zero, List.set_cons_succ]
    refine wpAnyH_ready (rs := [7]) (by kernel_rfl) (by simp) ?_
    refine AllReadyH.cons (o := ?_) ?_ (fun K hK => ?_) AllReadyH.nil
    rotate_left 1
    (simp only [List.getElem?_toArray, List.getElem?_cons_succ, List.getElem?_cons_zero]; rfl)
    refine step_append_where (by rfl) (.tmp 15) (.tmp 17) 22 rfl w1.heap.size 26 i0 _ 6 72 Try.underlying22 hi hz0 hz1 hz2 rfl (by omega) (.slice (some ⟨w1.heap.size, 0, none⟩) 2 2) 2 _ rfl hO1 A ap.length capA xsA rfl (hsA _ hB1) hcA h1A hg1 hg2 hB1.size ?_
    intro v2 x2 hO2 hG2 hf2
    have hB2 := hB1.trans (below_grown hO1 hG2 hB1.size)
    have hNew := MS.out _ hB2
    clear hHeld
    refine hK.out _ _ hNew (fun hHeld => ?_)
    clear hK K hNew
    try simp only [Act.put, List.setIfInBounds_toArray, List.set_cons_zero, List.set_cons_succ]
    refine wpAnyH_ready (rs := [10]) (by kernel_rfl) (by simp) ?_
    refine AllReadyH.cons (o := ?_) ?_ (fun K hK => ?_) AllReadyH.nil
    rotate_left 1
    (simp only [List.getElem?_toArray, List.getElem?_cons_succ, List.getElem?_cons_zero]; rfl)
    refine step_append_where (by rfl) (.tmp 18) (.tmp 20) 22 rfl w1.heap.size 26 i0 _ 6 72 Try.underlying22 hi hz0 hz1 hz2 rfl (by omega) v2 (2 + ap.length) _ rfl hO2 A2 bp.length capA2 xsB rfl (hsB _ hB2) hcB h1B hg3 hg4 hB2.size ?_
    intro v3 x3 hO3 hG3 hf3
    have hB3 := hB2.trans (below_grown hO2 hG3 hB2.size)
    have hNew := MS.out _ hB3
    clear hHeld
    refine hK.out _ _ hNew (fun hHeld => ?_)
    clear hK K hNew
    try simp only [Act.put, List.setIfInBounds_toArray, List.set_cons_zero, List.set_cons_succ]
    refine wpAnyH_ready (rs := [11]) (by kernel_rfl) (by simp) ?_
    refine AllReadyH.cons (o := ?_) ?_ (fun K hK => ?_) AllReadyH.nil
    rotate_left 1
    (simp only [List.getElem?_toArray, List.getElem?_cons_succ, List.getElem?_cons_zero]; rfl)
    go_simp
    go_at_call 11
    refine ((HW1 _ _ hB3 hO3).out).mono ?_
    rintro _ x4 ⟨rfl, hb4⟩
    have hB4 := hB3.thenCall hB3.size hb4
    have hNew := MS.out _ hB4
    try go_wp2_with fail
    clear hHeld
    refine hK.out _ _ hNew (fun hHeld => ?_)
    clear hK K hNew
    try simp only [Act.put, List.setIfInBounds_toArray, List.set_cons_zero, List.set_cons_succ]
    (refine wpAnyH_take (i := 12) (oi := ?_) (v := ?_) ?_ (by kernel_rfl) (by kernel_rfl) (by kernel_rfl) ?_ ?_ (by assumption) ?_; rotate_left 2; (simp only [List.getElem?_toArray, List.getElem?_cons_succ, List.getElem?_cons_zero]; rfl); (exact fun _ _ _ h => h); (refine Or.inl ⟨by rfl, ?_⟩; intro w hSw; (try dsimp only at hSw); go_simp; try with_reducible rfl); try simp only [Act.put, List.setIfInBounds_toArray, List.set_cons_zero, List.set_cons_succ])
    (refine wpAnyH_take (i := 13) (oi := ?_) (v := ?_) ?_ (by kernel_rfl) (by kernel_rfl) (by kernel_rfl) ?_ ?_ (by assumption) ?_; rotate_left 2; (simp only [List.getElem?_toArray, List.getElem?_cons_succ, List.getElem?_cons_zero]; rfl); (exact fun _ _ _ h => h); (refine Or.inl ⟨by rfl, ?_⟩; intro w hSw; (try dsimp only at hSw); go_simp; try with_reducible rfl); try simp only [Act.put, List.setIfInBounds_toArray, List.set_cons_zero, List.set_cons_succ])
    (refine wpAnyH_take (i := 14) (oi := ?_) (v := undef) ?_ (by kernel_rfl) (by kernel_rfl) (by kernel_rfl) ?_ ?_ (by assumption) ?_; rotate_left 1; (simp only [List.getElem?_toArray, List.getElem?_cons_succ, List.getElem?_cons_zero]; rfl); (exact fun _ _ _ h => h); (exact Or.inr ⟨by rfl, rfl⟩); try simp only [Act.put, List.setIfInBounds_toArray, List.set_cons_zero, List.set_cons_succ])
    (refine wpAnyH_take (i := 15) (oi := ?_) (v := undef) ?_ (by kernel_rfl) (by kernel_rfl) (by kernel_rfl) ?_ ?_ (by assumption) ?_; rotate_left 1; (simp only [List.getElem?_toArray, List.getElem?_cons_succ, List.getElem?_cons_zero]; rfl); (exact fun _ _ _ h => h); (exact Or.inr ⟨by rfl, rfl⟩); try simp only [Act.put, List.setIfInBounds_toArray, List.set_cons_zero, List.set_cons_succ])
    (refine wpAnyH_take (i := 16) (oi := ?_) (v := undef) ?_ (by kernel_rfl) (by kernel_rfl) (by kernel_rfl) ?_ ?_ (by assumption) ?_; rotate_left 1; (simp only [List.getElem?_toArray, List.getElem?_cons_succ, List.getElem?_cons_zero]; rfl); (exact fun _ _ _ h => h); (exact Or.inr ⟨by rfl, rfl⟩); try simp only [Act.put, List.setIfInBounds_toArray, List.set_cons_zero, List.set_cons_succ])
    (refine wpAnyH_take (i := 17) (oi := ?_) (v := undef) ?_ (by kernel_rfl) (by kernel_rfl) (by kernel_rfl) ?_ ?_ (by assumption) ?_; rotate_left 1; (simp only [List.getElem?_toArray, List.getElem?_cons_succ, List.getElem?_cons_zero]; rfl); (exact fun _ _ _ h => h); (exact Or.inr ⟨by rfl, rfl⟩); try simp only [Act.put, List.setIfInBounds_toArray, List.set_cons_zero, List.set_cons_succ])
    (refine wpAnyH_take (i := 18) (oi := ?_) (v := undef) ?_ (by kernel_rfl) (by kernel_rfl) (by kernel_rfl) ?_ ?_ (by assumption) ?_; rotate_left 1; (simp only [List.getElem?_toArray, List.getElem?_cons_succ, List.getElem?_cons_zero]; rfl); (exact fun _ _ _ h => h); (exact Or.inr ⟨by rfl, rfl⟩); try simp only [Act.put, List.setIfInBounds_toArray, List.set_cons_zero, List.set_cons_succ])
    (refine wpAnyH_take (i := 19) (oi := ?_) (v := undef) ?_ (by kernel_rfl) (by kernel_rfl) (by kernel_rfl) ?_ ?_ (by assumption) ?_; rotate_left 1; (simp only [List.getElem?_toArray, List.getElem?_cons_succ, List.getElem?_cons_zero]; rfl); (exact fun _ _ _ h => h); (exact Or.inr ⟨by rfl, rfl⟩); try simp only [Act.put, List.setIfInBounds_toArray, List.set_cons_zero, List.set_cons_succ])
    (refine wpAnyH_take (i := 20) (oi := ?_) (v := undef) ?_ (by kernel_rfl) (by kernel_rfl) (by kernel_rfl) ?_ ?_ (by assumption) ?_; rotate_left 1; (simp only [List.getElem?_toArray, List.getElem?_cons_succ, List.getElem?_cons_zero]; rfl); (exact fun _ _ _ h => h); (exact Or.inr ⟨by rfl, rfl⟩); try simp only [Act.put, List.setIfInBounds_toArray, List.set_cons_zero, List.set_cons_succ])
    (refine wpAnyH_take (i := 21) (oi := ?_) (v := undef) ?_ (by kernel_rfl) (by kernel_rfl) (by kernel_rfl) ?_ ?_ (by assumption) ?_; rotate_left 1; (simp only [List.getElem?_toArray, List.getElem?_cons_succ, List.getElem?_cons_zero]; rfl); (exact fun _ _ _ h => h); (exact Or.inr ⟨by rfl, rfl⟩); try simp only [Act.put, List.setIfInBounds_toArray, List.set_cons_zero, List.set_cons_succ])
    (refine wpAnyH_take (i := 22) (oi := ?_) (v := ?_) ?_ (by kernel_rfl) (by kernel_rfl) (by kernel_rfl) ?_ ?_ (by assumption) ?_; rotate_left 2; (simp only [List.getElem?_toArray, List.getElem?_cons_succ, List.getElem?_cons_zero]; rfl); (exact fun _ _ _ h => h); (refine Or.inl ⟨by rfl, ?_⟩; intro w hSw; (try dsimp only at hSw); go_simp; try with_reducible rfl); try simp only [Act.put, List.setIfInBounds_toArray, List.set_cons_zero, List.set_cons_succ])
    refine wpAnyH_done (by kernel_rfl) ?_ _
    go_wp2_with fail
    go_ret
    exact ⟨rfl, hw1.thenCall hw1.size hB4⟩
  | true =>
  cases q2 with
  | false =>

    refine wp_region_held_drew (S := (fun w' => Below w1.heap.size w1 w' ∧ w'.cell? ⟨w.heap.size, 1, none⟩ = some (.slice A ap.length capA) ∧ w'.cell? ⟨w.heap.size, 2, none⟩ = some (.slice G ag.length capG) ∧ w'.cell? ⟨w.heap.size, 3, none⟩ = some (.int .i64 k) ∧ w'.cell? ⟨w.heap.size, 4, none⟩ = some (.string s) ∧ w'.cell? ⟨w.heap.size, 5, none⟩ = some (.int .i64 n) ∧ w'.cell? ⟨w.heap.size, 6, none⟩ = some (.slice Y ys.length capY) ∧ w'.cell? ⟨w.heap.size, 7, none⟩ = some (.int .i64 l) ∧ w'.cell? ⟨w.heap.size, 8, none⟩ = some (.int .i64 c) ∧ w'.cell? ⟨w.heap.size + 1, 1, none⟩ = some (.slice A2 bp.length capA2) ∧ w'.cell? ⟨w.heap.size + 1, 2, none⟩ = some (.slice G2 bg.length capG2) ∧ w'.cell? ⟨w.heap.size + 1, 3, none⟩ = some (.int .i64 k2) ∧ w'.cell? ⟨w.heap.size + 1, 4, none⟩ = some (.string s2) ∧ w'.cell? ⟨w.heap.size + 1, 5, none⟩ = some (.int .i64 n2) ∧ w'.cell? ⟨w.heap.size + 1, 6, none⟩ = some (.slice Y2 ys2.length capY2) ∧ w'.cell? ⟨w.heap.size + 1, 7, none⟩ = some (.int .i64 l2) ∧ w'.cell? ⟨w.heap.size + 1, 8, none⟩ = some (.int .i64 c2))) (by kernel_rfl) (MS.out _ hB0) (fun hHeld => ?_)
    try dsimp only at hHeld
    (refine wpAnyH_take (i := 0) (oi := ?_) (v := ?_) ?_ (by kernel_rfl) (by kernel_rfl) (by kernel_rfl) ?_ ?_ (by assumption) ?_; rotate_left 2; (simp only [List.getElem?_toArray, List.getElem?_cons_succ, List.getElem?_cons_zero]; rfl); (exact fun _ _ _ h => h); (refine Or.inl ⟨by rfl, ?_⟩; intro w hSw; (try dsimp only at hSw); go_simp; try with_reducible rfl); try simp only [Act.put, List.setIfInBounds_toArray, List.set_cons_zero, List.set_cons_succ])
    (refine wpAnyH_take (i := 1) (oi := ?_) (v := ?_) ?_ (by kernel_rfl) (by kernel_rfl) (by kernel_rfl) ?_ ?_ (by assumption) ?_; rotate_left 2; (simp only [List.getElem?_toArray, List.getElem?_cons_succ, List.getElem?_cons_zero]; rfl); (exact fun _ _ _ h => h); (refine Or.inl ⟨by rfl, ?_⟩; intro w hSw; (try dsimp only at hSw); go_simp; try with_reducible rfl); try simp only [Act.put, List.setIfInBounds_toArray, List.set_cons_zero, List.set_cons_succ])
    (refine wpAnyH_take (i := 2) (oi := ?_) (v := ?_) ?_ (by kernel_rfl) (by kernel_rfl) (by kernel_rfl) ?_ ?_ (by assumption) ?_; rotate_left 2; (simp only [List.getElem?_toArray, List.getElem?_cons_succ, List.getElem?_cons_zero]; rfl); (exact fun _ _ _ h => h); (refine Or.inl ⟨by rfl, ?_⟩; intro w hSw; (try dsimp only at hSw); go_simp; try with_reducible rfl); try simp only [Act.put, List.setIfInBounds_toArray, List.set_cons_zero, List.set_cons_succ])
    (refine wpAnyH_take (i := 3) (oi := ?_) (v := ?_) ?_ (by kernel_rfl) (by kernel_rfl) (by kernel_rfl) ?_ ?_ (by assumption) ?_; rotate_left 2; (simp only [List.getElem?_toArray, List.getElem?_cons_succ, List.getElem?_cons_zero]; rfl); (exact fun _ _ _ h => h); (refine Or.inl ⟨by rfl, ?_⟩; intro w hSw; (try dsimp only at hSw); go_simp; try with_reducible rfl); try simp only [Act.put, List.setIfInBounds_toArray, List.set_cons_zero, List.set_cons_succ])
    (refine wpAnyH_take (i := 5) (oi := ?_) (v := ?_) ?_ (by kernel_rfl) (by kernel_rfl) (by kernel_rfl) ?_ ?_ (by assumption) ?_; rotate_left 2; (simp only [List.getElem?_toArray, List.getElem?_cons_succ, List.getElem?_cons_zero]; rfl); (exact fun _ _ _ h => h); (refine Or.inl ⟨by rfl, ?_⟩; intro w hSw; (try dsimp only at hSw); go_simp; try with_reducible rfl); try simp only [Act.put, List.setIfInBounds_toArray, List.set_cons_zero, List.set_cons_succ])
    (refine wpAnyH_take (i := 6) (oi := ?_) (v := ?_) ?_ (by kernel_rfl) (by kernel_rfl) (by kernel_rfl) ?_ ?_ (by assumption) ?_; rotate_left 2; (simp only [List.getElem?_toArray, List.getElem?_cons_succ, List.getElem?_cons_zero]; rfl); (exact fun _ _ _ h => h); (refine Or.inl ⟨by rfl, ?_⟩; intro w hSw; (try dsimp only at hSw); go_simp; try with_reducible rfl); try simp only [Act.put, List.setIfInBounds_toArray, List.set_cons_zero, List.set_cons_succ])
    (refine wpAnyH_take (i := 8) (oi := ?_) (v := ?_) ?_ (by kernel_rfl) (by kernel_rfl) (by kernel_rfl) ?_ ?_ (by assumption) ?_; rotate_left 2; (simp only [List.getElem?_toArray, List.getElem?_cons_succ, List.getElem?_cons_zero]; rfl); (exact fun _ _ _ h => h); (refine Or.inl ⟨by rfl, ?_⟩; intro w hSw; (try dsimp only at hSw); go_simp; try with_reducible rfl); try simp only [Act.put, List.setIfInBounds_toArray, List.set_cons_zero, List.set_cons_succ])
    (refine wpAnyH_take (i := 9) (oi := ?_) (v := ?_) ?_ (by kernel_rfl) (by kernel_rfl) (by kernel_rfl) ?_ ?_ (by assumption) ?_; rotate_left 2; (simp only [List.getElem?_toArray, List.getElem?_cons_succ, List.getElem?_cons_zero]; rfl); (exact fun _ _ _ h => h); (refine Or.inl ⟨by rfl, ?_⟩; intro w hSw; (try dsimp only at hSw); go_simp; try with_reducible rfl); try simp only [Act.put, List.setIfInBounds_toArray, List.set_cons_zero, List.set_cons_succ])
    refine wpAnyH_ready (rs := [4]) (by kernel_rfl) (by simp) ?_
    refine AllReadyH.cons (o := ?_) ?_ (fun K hK => ?_) AllReadyH.nil
    rotate_left 1
    (simp only [List.getElem?_toArray, List.getElem?_cons_succ, List.getElem?_cons_zero]; rfl)
    go_simp
    have hB1 : Below w1.heap.size w1 _ := hB0.alloc hB0.size (.cells #[.int .i64 k, .string s, .int .i64 n, .slice Y ys.length capY, .int .i64 l, .int .i64 c, .int .i64 k2, .string s2, .int .i64 n2, .slice Y2 ys2.length capY2, .int .i64 l2, .int .i64 c2] 26)
    have hNew := MS.out _ hB1
    clear hHeld
    refine hK.out _ _ hNew (fun hHeld => ?_)
    clear hK K hNew
    try simp only [Act.put, List.setIfInBounds_toArray, List.set_cons_zero, List.set_cons_succ]
    refine wpAnyH_ready (rs := [7]) (by kernel_rfl) (by simp) ?_
    refine AllReadyH.cons (o := ?_) ?_ (fun K hK => ?_) AllReadyH.nil
    rotate_left 1
    (simp only [List.getElem?_toArray, List.getElem?_cons_succ, List.getElem?_cons_zero]; rfl)
    refine step_append_where (by rfl) (.tmp 15) (.tmp 17) 22 rfl w1.heap.size 26 i0 _ 6 72 Try.underlying22 hi hz0 hz1 hz2 rfl (by omega) (.slice (some ⟨w1.heap.size, 0, none⟩) 2 2) 2 _ rfl hO1 A ap.length capA xsA rfl (hsA _ hB1) hcA h1A hg1 hg2 hB1.size ?_
    intro v2 x2 hO2 hG2 hf2
    have hB2 := hB1.trans (below_grown hO1 hG2 hB1.size)
    have hNew := MS.out _ hB2
    clear hHeld
    refine hK.out _ _ hNew (fun hHeld => ?_)
    clear hK K hNew
    try simp only [Act.put, List.setIfInBounds_toArray, List.set_cons_zero, List.set_cons_succ]
    refine wpAnyH_ready (rs := [10]) (by kernel_rfl) (by simp) ?_
    refine AllReadyH.cons (o := ?_) ?_ (fun K hK => ?_) AllReadyH.nil
    rotate_left 1
    (simp only [List.getElem?_toArray, List.getElem?_cons_succ, List.getElem?_cons_zero]; rfl)
    refine step_append_where (by rfl) (.tmp 18) (.tmp 20) 22 rfl w1.heap.size 26 i0 _ 6 72 Try.underlying22 hi hz0 hz1 hz2 rfl (by omega) v2 (2 + ap.length) _ rfl hO2 A2 bp.length capA2 xsB rfl (hsB _ hB2) hcB h1B hg3 hg4 hB2.size ?_
    intro v3 x3 hO3 hG3 hf3
    have hB3 := hB2.trans (below_grown hO2 hG3 hB2.size)
    have hNew := MS.out _ hB3
    clear hHeld
    refine hK.out _ _ hNew (fun hHeld => ?_)
    clear hK K hNew
    try simp only [Act.put, List.setIfInBounds_toArray, List.set_cons_zero, List.set_cons_succ]
    refine wpAnyH_ready (rs := [11]) (by kernel_rfl) (by simp) ?_
    refine AllReadyH.cons (o := ?_) ?_ (fun K hK => ?_) AllReadyH.nil
    rotate_left 1
    (simp only [List.getElem?_toArray, List.getElem?_cons_succ, List.getElem?_cons_zero]; rfl)
    go_simp
    go_at_call 11
    refine ((HW1 _ _ hB3 hO3).out).mono ?_
    rintro _ x4 ⟨rfl, hb4⟩
    have hB4 := hB3.thenCall hB3.size hb4
    have hNew := MS.out _ hB4
    try go_wp2_with fail
    clear hHeld
    refine hK.out _ _ hNew (fun hHeld => ?_)
    clear hK K hNew
    try simp only [Act.put, List.setIfInBounds_toArray, List.set_cons_zero, List.set_cons_succ]
    (refine wpAnyH_take (i := 12) (oi := ?_) (v := ?_) ?_ (by kernel_rfl) (by kernel_rfl) (by kernel_rfl) ?_ ?_ (by assumption) ?_; rotate_left 2; (simp only [List.getElem?_toArray, List.getElem?_cons_succ, List.getElem?_cons_zero]; rfl); (exact fun _ _ _ h => h); (refine Or.inl ⟨by rfl, ?_⟩; intro w hSw; (try dsimp only at hSw); go_simp; try with_reducible rfl); try simp only [Act.put, List.setIfInBounds_toArray, List.set_cons_zero, List.set_cons_succ])
    (refine wpAnyH_take (i := 13) (oi := ?_) (v := ?_) ?_ (by kernel_rfl) (by kernel_rfl) (by kernel_rfl) ?_ ?_ (by assumption) ?_; rotate_left 2; (simp only [List.getElem?_toArray, List.getElem?_cons_succ, List.getElem?_cons_zero]; rfl); (exact fun _ _ _ h => h); (refine Or.inl ⟨by rfl, ?_⟩; intro w hSw; (try dsimp only at hSw); go_simp; try with_reducible rfl); try simp only [Act.put, List.setIfInBounds_toArray, List.set_cons_zero, List.set_cons_succ])
    (refine wpAnyH_take (i := 14) (oi := ?_) (v := ?_) ?_ (by kernel_rfl) (by kernel_rfl) (by kernel_rfl) ?_ ?_ (by assumption) ?_; rotate_left 2; (simp only [List.getElem?_toArray, List.getElem?_cons_succ, List.getElem?_cons_zero]; rfl); (exact fun _ _ _ h => h); (refine Or.inl ⟨by rfl, ?_⟩; intro w hSw; (try dsimp only at hSw); go_simp; try with_reducible rfl); try simp only [Act.put, List.setIfInBounds_toArray, List.set_cons_zero, List.set_cons_succ])
    (refine wpAnyH_take (i := 15) (oi := ?_) (v := ?_) ?_ (by kernel_rfl) (by kernel_rfl) (by kernel_rfl) ?_ ?_ (by assumption) ?_; rotate_left 2; (simp only [List.getElem?_toArray, List.getElem?_cons_succ, List.getElem?_cons_zero]; rfl); (exact fun _ _ _ h => h); (refine Or.inl ⟨by rfl, ?_⟩; intro w hSw; (try dsimp only at hSw); go_simp; try with_reducible rfl); try simp only [Act.put, List.setIfInBounds_toArray, List.set_cons_zero, List.set_cons_succ])
    (refine wpAnyH_take (i := 17) (oi := ?_) (v := ?_) ?_ (by kernel_rfl) (by kernel_rfl) (by kernel_rfl) ?_ ?_ (by assumption) ?_; rotate_left 2; (simp only [List.getElem?_toArray, List.getElem?_cons_succ, List.getElem?_cons_zero]; rfl); (exact fun _ _ _ h => h); (refine Or.inl ⟨by rfl, ?_⟩; intro w hSw; (try dsimp only at hSw); go_simp; try with_reducible rfl); try simp only [Act.put, List.setIfInBounds_toArray, List.set_cons_zero, List.set_cons_succ])
    (refine wpAnyH_take (i := 18) (oi := ?_) (v := ?_) ?_ (by kernel_rfl) (by kernel_rfl) (by kernel_rfl) ?_ ?_ (by assumption) ?_; rotate_left 2; (simp only [List.getElem?_toArray, List.getElem?_cons_succ, List.getElem?_cons_zero]; rfl); (exact fun _ _ _ h => h); (refine Or.inl ⟨by rfl, ?_⟩; intro w hSw; (try dsimp only at hSw); go_simp; try with_reducible rfl); try simp only [Act.put, List.setIfInBounds_toArray, List.set_cons_zero, List.set_cons_succ])
    refine wpAnyH_ready (rs := [16]) (by kernel_rfl) (by simp) ?_
    refine AllReadyH.cons (o := ?_) ?_ (fun K hK => ?_) AllReadyH.nil
    rotate_left 1
    (simp only [List.getElem?_toArray, List.getElem?_cons_succ, List.getElem?_cons_zero]; rfl)
    refine step_append_where (by rfl) (.const (.slice none 0 0)) (.tmp 26) 22 rfl w1.heap.size 26 i0 _ 6 72 Try.underlying22 hi hz0 hz1 hz2 rfl (by omega) (.slice none 0 0) 0 _ rfl (World.ownsRow_nil _ _ _ _) G ag.length capG xsG rfl (hsG _ hB4) hcG h1G hg5 hg6 hB4.size ?_
    intro v5 x5 hO5 hG5 hf5
    have hB5 := hB4.trans (below_grown (World.ownsRow_nil _ _ 26 6) hG5 hB4.size)
    have hNew := MS.out _ hB5
    clear hHeld
    refine hK.out _ _ hNew (fun hHeld => ?_)
    clear hK K hNew
    try simp only [Act.put, List.setIfInBounds_toArray, List.set_cons_zero, List.set_cons_succ]
    refine wpAnyH_ready (rs := [19]) (by kernel_rfl) (by simp) ?_
    refine AllReadyH.cons (o := ?_) ?_ (fun K hK => ?_) AllReadyH.nil
    rotate_left 1
    (simp only [List.getElem?_toArray, List.getElem?_cons_succ, List.getElem?_cons_zero]; rfl)
    refine step_append_where (by rfl) (.tmp 27) (.tmp 29) 22 rfl w1.heap.size 26 i0 _ 6 72 Try.underlying22 hi hz0 hz1 hz2 rfl (by omega) v5 (0 + ag.length) _ rfl hO5 G2 bg.length capG2 xsH rfl (hsH _ hB5) hcH h1H hg7 hg8 hB5.size ?_
    intro v6 x6 hO6 hG6 hf6
    have hB6 := hB5.trans (below_grown hO5 hG6 hB5.size)
    have hNew := MS.out _ hB6
    clear hHeld
    refine hK.out _ _ hNew (fun hHeld => ?_)
    clear hK K hNew
    try simp only [Act.put, List.setIfInBounds_toArray, List.set_cons_zero, List.set_cons_succ]
    refine wpAnyH_ready (rs := [20]) (by kernel_rfl) (by simp) ?_
    refine AllReadyH.cons (o := ?_) ?_ (fun K hK => ?_) AllReadyH.nil
    rotate_left 1
    (simp only [List.getElem?_toArray, List.getElem?_cons_succ, List.getElem?_cons_zero]; rfl)
    go_simp
    go_at_call 11
    refine ((HW2 _ _ hB6 hO6).out).mono ?_
    rintro _ x7 ⟨rfl, hb7⟩
    have hB7 := hB6.thenCall hB6.size hb7
    have hNew := MS.out _ hB7
    try go_wp2_with fail
    clear hHeld
    refine hK.out _ _ hNew (fun hHeld => ?_)
    clear hK K hNew
    try simp only [Act.put, List.setIfInBounds_toArray, List.set_cons_zero, List.set_cons_succ]
    (refine wpAnyH_take (i := 21) (oi := ?_) (v := ?_) ?_ (by kernel_rfl) (by kernel_rfl) (by kernel_rfl) ?_ ?_ (by assumption) ?_; rotate_left 2; (simp only [List.getElem?_toArray, List.getElem?_cons_succ, List.getElem?_cons_zero]; rfl); (exact fun _ _ _ h => h); (refine Or.inl ⟨by rfl, ?_⟩; intro w hSw; (try dsimp only at hSw); go_simp; try with_reducible rfl); try simp only [Act.put, List.setIfInBounds_toArray, List.set_cons_zero, List.set_cons_succ])
    (refine wpAnyH_take (i := 22) (oi := ?_) (v := ?_) ?_ (by kernel_rfl) (by kernel_rfl) (by kernel_rfl) ?_ ?_ (by assumption) ?_; rotate_left 2; (simp only [List.getElem?_toArray, List.getElem?_cons_succ, List.getElem?_cons_zero]; rfl); (exact fun _ _ _ h => h); (refine Or.inl ⟨by rfl, ?_⟩; intro w hSw; (try dsimp only at hSw); go_simp; try with_reducible rfl); try simp only [Act.put, List.setIfInBounds_toArray, List.set_cons_zero, List.set_cons_succ])
    refine wpAnyH_done (by kernel_rfl) ?_ _
    go_wp2_with fail
    go_ret
    exact ⟨rfl, hw1.thenCall hw1.size hB7⟩
  | true =>

  refine wp_region_held_drew (S := (fun w' => Below w1.heap.size w1 w' ∧ w'.cell? ⟨w.heap.size, 1, none⟩ = some (.slice A ap.length capA) ∧ w'.cell? ⟨w.heap.size, 2, none⟩ = some (.slice G ag.length capG) ∧ w'.cell? ⟨w.heap.size, 3, none⟩ = some (.int .i64 k) ∧ w'.cell? ⟨w.heap.size, 4, none⟩ = some (.string s) ∧ w'.cell? ⟨w.heap.size, 5, none⟩ = some (.int .i64 n) ∧ w'.cell? ⟨w.heap.size, 6, none⟩ = some (.slice Y ys.length capY) ∧ w'.cell? ⟨w.heap.size, 7, none⟩ = some (.int .i64 l) ∧ w'.cell? ⟨w.heap.size, 8, none⟩ = some (.int .i64 c) ∧ w'.cell? ⟨w.heap.size + 1, 1, none⟩ = some (.slice A2 bp.length capA2) ∧ w'.cell? ⟨w.heap.size + 1, 2, none⟩ = some (.slice G2 bg.length capG2) ∧ w'.cell? ⟨w.heap.size + 1, 3, none⟩ = some (.int .i64 k2) ∧ w'.cell? ⟨w.heap.size + 1, 4, none⟩ = some (.string s2) ∧ w'.cell? ⟨w.heap.size + 1, 5, none⟩ = some (.int .i64 n2) ∧ w'.cell? ⟨w.heap.size + 1, 6, none⟩ = some (.slice Y2 ys2.length capY2) ∧ w'.cell? ⟨w.heap.size + 1, 7, none⟩ = some (.int .i64 l2) ∧ w'.cell? ⟨w.heap.size + 1, 8, none⟩ = some (.int .i64 c2))) (by kernel_rfl) (MS.out _ hB0) (fun hHeld => ?_)
  try dsimp only at hHeld
  (refine wpAnyH_take (i := 0) (oi := ?_) (v := ?_) ?_ (by kernel_rfl) (by kernel_rfl) (by kernel_rfl) ?_ ?_ (by assumption) ?_; rotate_left 2; (simp only [List.getElem?_toArray, List.getElem?_cons_succ, List.getElem?_cons_zero]; rfl); (exact fun _ _ _ h => h); (refine Or.inl ⟨by rfl, ?_⟩; intro w hSw; (try dsimp only at hSw); go_simp; try with_reducible rfl); try simp only [Act.put, List.setIfInBounds_toArray, List.set_cons_zero, List.set_cons_succ])
  (refine wpAnyH_take (i := 1) (oi := ?_) (v := ?_) ?_ (by kernel_rfl) (by kernel_rfl) (by kernel_rfl) ?_ ?_ (by assumption) ?_; rotate_left 2; (simp only [List.getElem?_toArray, List.getElem?_cons_succ, List.getElem?_cons_zero]; rfl); (exact fun _ _ _ h => h); (refine Or.inl ⟨by rfl, ?_⟩; intro w hSw; (try dsimp only at hSw); go_simp; try with_reducible rfl); try simp only [Act.put, List.setIfInBounds_toArray, List.set_cons_zero, List.set_cons_succ])
  (refine wpAnyH_take (i := 2) (oi := ?_) (v := ?_) ?_ (by kernel_rfl) (by kernel_rfl) (by kernel_rfl) ?_ ?_ (by assumption) ?_; rotate_left 2; (simp only [List.getElem?_toArray, List.getElem?_cons_succ, List.getElem?_cons_zero]; rfl); (exact fun _ _ _ h => h); (refine Or.inl ⟨by rfl, ?_⟩; intro w hSw; (try dsimp only at hSw); go_simp; try with_reducible rfl); try simp only [Act.put, List.setIfInBounds_toArray, List.set_cons_zero, List.set_cons_succ])
  (refine wpAnyH_take (i := 3) (oi := ?_) (v := ?_) ?_ (by kernel_rfl) (by kernel_rfl) (by kernel_rfl) ?_ ?_ (by assumption) ?_; rotate_left 2; (simp only [List.getElem?_toArray, List.getElem?_cons_succ, List.getElem?_cons_zero]; rfl); (exact fun _ _ _ h => h); (refine Or.inl ⟨by rfl, ?_⟩; intro w hSw; (try dsimp only at hSw); go_simp; try with_reducible rfl); try simp only [Act.put, List.setIfInBounds_toArray, List.set_cons_zero, List.set_cons_succ])
  (refine wpAnyH_take (i := 5) (oi := ?_) (v := ?_) ?_ (by kernel_rfl) (by kernel_rfl) (by kernel_rfl) ?_ ?_ (by assumption) ?_; rotate_left 2; (simp only [List.getElem?_toArray, List.getElem?_cons_succ, List.getElem?_cons_zero]; rfl); (exact fun _ _ _ h => h); (refine Or.inl ⟨by rfl, ?_⟩; intro w hSw; (try dsimp only at hSw); go_simp; try with_reducible rfl); try simp only [Act.put, List.setIfInBounds_toArray, List.set_cons_zero, List.set_cons_succ])
  (refine wpAnyH_take (i := 6) (oi := ?_) (v := ?_) ?_ (by kernel_rfl) (by kernel_rfl) (by kernel_rfl) ?_ ?_ (by assumption) ?_; rotate_left 2; (simp only [List.getElem?_toArray, List.getElem?_cons_succ, List.getElem?_cons_zero]; rfl); (exact fun _ _ _ h => h); (refine Or.inl ⟨by rfl, ?_⟩; intro w hSw; (try dsimp only at hSw); go_simp; try with_reducible rfl); try simp only [Act.put, List.setIfInBounds_toArray, List.set_cons_zero, List.set_cons_succ])
  (refine wpAnyH_take (i := 8) (oi := ?_) (v := ?_) ?_ (by kernel_rfl) (by kernel_rfl) (by kernel_rfl) ?_ ?_ (by assumption) ?_; rotate_left 2; (simp only [List.getElem?_toArray, List.getElem?_cons_succ, List.getElem?_cons_zero]; rfl); (exact fun _ _ _ h => h); (refine Or.inl ⟨by rfl, ?_⟩; intro w hSw; (try dsimp only at hSw); go_simp; try with_reducible rfl); try simp only [Act.put, List.setIfInBounds_toArray, List.set_cons_zero, List.set_cons_succ])
  (refine wpAnyH_take (i := 9) (oi := ?_) (v := ?_) ?_ (by kernel_rfl) (by kernel_rfl) (by kernel_rfl) ?_ ?_ (by assumption) ?_; rotate_left 2; (simp only [List.getElem?_toArray, List.getElem?_cons_succ, List.getElem?_cons_zero]; rfl); (exact fun _ _ _ h => h); (refine Or.inl ⟨by rfl, ?_⟩; intro w hSw; (try dsimp only at hSw); go_simp; try with_reducible rfl); try simp only [Act.put, List.setIfInBounds_toArray, List.set_cons_zero, List.set_cons_succ])
  refine wpAnyH_ready (rs := [4]) (by kernel_rfl) (by simp) ?_
  refine AllReadyH.cons (o := ?_) ?_ (fun K hK => ?_) AllReadyH.nil
  rotate_left 1
  (simp only [List.getElem?_toArray, List.getElem?_cons_succ, List.getElem?_cons_zero]; rfl)
  go_simp
  have hB1 : Below w1.heap.size w1 _ := hB0.alloc hB0.size (.cells #[.int .i64 k, .string s, .int .i64 n, .slice Y ys.length capY, .int .i64 l, .int .i64 c, .int .i64 k2, .string s2, .int .i64 n2, .slice Y2 ys2.length capY2, .int .i64 l2, .int .i64 c2] 26)
  have hNew := MS.out _ hB1
  clear hHeld
  refine hK.out _ _ hNew (fun hHeld => ?_)
  clear hK K hNew
  try simp only [Act.put, List.setIfInBounds_toArray, List.set_cons_zero, List.set_cons_succ]
  refine wpAnyH_ready (rs := [7]) (by kernel_rfl) (by simp) ?_
  refine AllReadyH.cons (o := ?_) ?_ (fun K hK => ?_) AllReadyH.nil
  rotate_left 1
  (simp only [List.getElem?_toArray, List.getElem?_cons_succ, List.getElem?_cons_zero]; rfl)
  refine step_append_where (by rfl) (.tmp 15) (.tmp 17) 22 rfl w1.heap.size 26 i0 _ 6 72 Try.underlying22 hi hz0 hz1 hz2 rfl (by omega) (.slice (some ⟨w1.heap.size, 0, none⟩) 2 2) 2 _ rfl hO1 A ap.length capA xsA rfl (hsA _ hB1) hcA h1A hg1 hg2 hB1.size ?_
  intro v2 x2 hO2 hG2 hf2
  have hB2 := hB1.trans (below_grown hO1 hG2 hB1.size)
  have hNew := MS.out _ hB2
  clear hHeld
  refine hK.out _ _ hNew (fun hHeld => ?_)
  clear hK K hNew
  try simp only [Act.put, List.setIfInBounds_toArray, List.set_cons_zero, List.set_cons_succ]
  refine wpAnyH_ready (rs := [10]) (by kernel_rfl) (by simp) ?_
  refine AllReadyH.cons (o := ?_) ?_ (fun K hK => ?_) AllReadyH.nil
  rotate_left 1
  (simp only [List.getElem?_toArray, List.getElem?_cons_succ, List.getElem?_cons_zero]; rfl)
  refine step_append_where (by rfl) (.tmp 18) (.tmp 20) 22 rfl w1.heap.size 26 i0 _ 6 72 Try.underlying22 hi hz0 hz1 hz2 rfl (by omega) v2 (2 + ap.length) _ rfl hO2 A2 bp.length capA2 xsB rfl (hsB _ hB2) hcB h1B hg3 hg4 hB2.size ?_
  intro v3 x3 hO3 hG3 hf3
  have hB3 := hB2.trans (below_grown hO2 hG3 hB2.size)
  have hNew := MS.out _ hB3
  clear hHeld
  refine hK.out _ _ hNew (fun hHeld => ?_)
  clear hK K hNew
  try simp only [Act.put, List.setIfInBounds_toArray, List.set_cons_zero, List.set_cons_succ]
  refine wpAnyH_ready (rs := [11]) (by kernel_rfl) (by simp) ?_
  refine AllReadyH.cons (o := ?_) ?_ (fun K hK => ?_) AllReadyH.nil
  rotate_left 1
  (simp only [List.getElem?_toArray, List.getElem?_cons_succ, List.getElem?_cons_zero]; rfl)
  go_simp
  go_at_call 11
  refine ((HW1 _ _ hB3 hO3).out).mono ?_
  rintro _ x4 ⟨rfl, hb4⟩
  have hB4 := hB3.thenCall hB3.size hb4
  have hNew := MS.out _ hB4
  try go_wp2_with fail
  clear hHeld
  refine hK.out _ _ hNew (fun hHeld => ?_)
  clear hK K hNew
  try simp only [Act.put, List.setIfInBounds_toArray, List.set_cons_zero, List.set_cons_succ]
  (refine wpAnyH_take (i := 12) (oi := ?_) (v := ?_) ?_ (by kernel_rfl) (by kernel_rfl) (by kernel_rfl) ?_ ?_ (by assumption) ?_; rotate_left 2; (simp only [List.getElem?_toArray, List.getElem?_cons_succ, List.getElem?_cons_zero]; rfl); (exact fun _ _ _ h => h); (refine Or.inl ⟨by rfl, ?_⟩; intro w hSw; (try dsimp only at hSw); go_simp; try with_reducible rfl); try simp only [Act.put, List.setIfInBounds_toArray, List.set_cons_zero, List.set_cons_succ])
  (refine wpAnyH_take (i := 13) (oi := ?_) (v := ?_) ?_ (by kernel_rfl) (by kernel_rfl) (by kernel_rfl) ?_ ?_ (by assumption) ?_; rotate_left 2; (simp only [List.getElem?_toArray, List.getElem?_cons_succ, List.getElem?_cons_zero]; rfl); (exact fun _ _ _ h => h); (refine Or.inl ⟨by rfl, ?_⟩; intro w hSw; (try dsimp only at hSw); go_simp; try with_reducible rfl); try simp only [Act.put, List.setIfInBounds_toArray, List.set_cons_zero, List.set_cons_succ])
  (refine wpAnyH_take (i := 14) (oi := ?_) (v := ?_) ?_ (by kernel_rfl) (by kernel_rfl) (by kernel_rfl) ?_ ?_ (by assumption) ?_; rotate_left 2; (simp only [List.getElem?_toArray, List.getElem?_cons_succ, List.getElem?_cons_zero]; rfl); (exact fun _ _ _ h => h); (refine Or.inl ⟨by rfl, ?_⟩; intro w hSw; (try dsimp only at hSw); go_simp; try with_reducible rfl); try simp only [Act.put, List.setIfInBounds_toArray, List.set_cons_zero, List.set_cons_succ])
  (refine wpAnyH_take (i := 15) (oi := ?_) (v := ?_) ?_ (by kernel_rfl) (by kernel_rfl) (by kernel_rfl) ?_ ?_ (by assumption) ?_; rotate_left 2; (simp only [List.getElem?_toArray, List.getElem?_cons_succ, List.getElem?_cons_zero]; rfl); (exact fun _ _ _ h => h); (refine Or.inl ⟨by rfl, ?_⟩; intro w hSw; (try dsimp only at hSw); go_simp; try with_reducible rfl); try simp only [Act.put, List.setIfInBounds_toArray, List.set_cons_zero, List.set_cons_succ])
  (refine wpAnyH_take (i := 17) (oi := ?_) (v := ?_) ?_ (by kernel_rfl) (by kernel_rfl) (by kernel_rfl) ?_ ?_ (by assumption) ?_; rotate_left 2; (simp only [List.getElem?_toArray, List.getElem?_cons_succ, List.getElem?_cons_zero]; rfl); (exact fun _ _ _ h => h); (refine Or.inl ⟨by rfl, ?_⟩; intro w hSw; (try dsimp only at hSw); go_simp; try with_reducible rfl); try simp only [Act.put, List.setIfInBounds_toArray, List.set_cons_zero, List.set_cons_succ])
  (refine wpAnyH_take (i := 18) (oi := ?_) (v := ?_) ?_ (by kernel_rfl) (by kernel_rfl) (by kernel_rfl) ?_ ?_ (by assumption) ?_; rotate_left 2; (simp only [List.getElem?_toArray, List.getElem?_cons_succ, List.getElem?_cons_zero]; rfl); (exact fun _ _ _ h => h); (refine Or.inl ⟨by rfl, ?_⟩; intro w hSw; (try dsimp only at hSw); go_simp; try with_reducible rfl); try simp only [Act.put, List.setIfInBounds_toArray, List.set_cons_zero, List.set_cons_succ])
  refine wpAnyH_ready (rs := [16]) (by kernel_rfl) (by simp) ?_
  refine AllReadyH.cons (o := ?_) ?_ (fun K hK => ?_) AllReadyH.nil
  rotate_left 1
  (simp only [List.getElem?_toArray, List.getElem?_cons_succ, List.getElem?_cons_zero]; rfl)
  refine step_append_where (by rfl) (.const (.slice none 0 0)) (.tmp 26) 22 rfl w1.heap.size 26 i0 _ 6 72 Try.underlying22 hi hz0 hz1 hz2 rfl (by omega) (.slice none 0 0) 0 _ rfl (World.ownsRow_nil _ _ _ _) G ag.length capG xsG rfl (hsG _ hB4) hcG h1G hg5 hg6 hB4.size ?_
  intro v5 x5 hO5 hG5 hf5
  have hB5 := hB4.trans (below_grown (World.ownsRow_nil _ _ 26 6) hG5 hB4.size)
  have hNew := MS.out _ hB5
  clear hHeld
  refine hK.out _ _ hNew (fun hHeld => ?_)
  clear hK K hNew
  try simp only [Act.put, List.setIfInBounds_toArray, List.set_cons_zero, List.set_cons_succ]
  refine wpAnyH_ready (rs := [19]) (by kernel_rfl) (by simp) ?_
  refine AllReadyH.cons (o := ?_) ?_ (fun K hK => ?_) AllReadyH.nil
  rotate_left 1
  (simp only [List.getElem?_toArray, List.getElem?_cons_succ, List.getElem?_cons_zero]; rfl)
  refine step_append_where (by rfl) (.tmp 27) (.tmp 29) 22 rfl w1.heap.size 26 i0 _ 6 72 Try.underlying22 hi hz0 hz1 hz2 rfl (by omega) v5 (0 + ag.length) _ rfl hO5 G2 bg.length capG2 xsH rfl (hsH _ hB5) hcH h1H hg7 hg8 hB5.size ?_
  intro v6 x6 hO6 hG6 hf6
  have hB6 := hB5.trans (below_grown hO5 hG6 hB5.size)
  have hNew := MS.out _ hB6
  clear hHeld
  refine hK.out _ _ hNew (fun hHeld => ?_)
  clear hK K hNew
  try simp only [Act.put, List.setIfInBounds_toArray, List.set_cons_zero, List.set_cons_succ]
  refine wpAnyH_ready (rs := [20]) (by kernel_rfl) (by simp) ?_
  refine AllReadyH.cons (o := ?_) ?_ (fun K hK => ?_) AllReadyH.nil
  rotate_left 1
  (simp only [List.getElem?_toArray, List.getElem?_cons_succ, List.getElem?_cons_zero]; rfl)
  go_simp
  go_at_call 11
  refine ((HW2 _ _ hB6 hO6).out).mono ?_
  rintro _ x7 ⟨rfl, hb7⟩
  have hB7 := hB6.thenCall hB6.size hb7
  have hNew := MS.out _ hB7
  try go_wp2_with fail
  clear hHeld
  refine hK.out _ _ hNew (fun hHeld => ?_)
  clear hK K hNew
  try simp only [Act.put, List.setIfInBounds_toArray, List.set_cons_zero, List.set_cons_succ]
  (refine wpAnyH_take (i := 21) (oi := ?_) (v := ?_) ?_ (by kernel_rfl) (by kernel_rfl) (by kernel_rfl) ?_ ?_ (by assumption) ?_; rotate_left 2; (simp only [List.getElem?_toArray, List.getElem?_cons_succ, List.getElem?_cons_zero]; rfl); (exact fun _ _ _ h => h); (refine Or.inl ⟨by rfl, ?_⟩; intro w hSw; (try dsimp only at hSw); go_simp; try with_reducible rfl); try simp only [Act.put, List.setIfInBounds_toArray, List.set_cons_zero, List.set_cons_succ])
  (refine wpAnyH_take (i := 22) (oi := ?_) (v := ?_) ?_ (by kernel_rfl) (by kernel_rfl) (by kernel_rfl) ?_ ?_ (by assumption) ?_; rotate_left 2; (simp only [List.getElem?_toArray, List.getElem?_cons_succ, List.getElem?_cons_zero]; rfl); (exact fun _ _ _ h => h); (refine Or.inl ⟨by rfl, ?_⟩; intro w hSw; (try dsimp only at hSw); go_simp; try with_reducible rfl); try simp only [Act.put, List.setIfInBounds_toArray, List.set_cons_zero, List.set_cons_succ])
  refine wpAnyH_done (by kernel_rfl) ?_ _
  clear hHeld HW1 HW2 hsA hsB hsG hsH hO1 hO2 hO3 hO5 hO6 hG2 hG3 hG5 hG6 hf2 hf3 hf5 hf6 hB0 hB1 hB2 hB3 hB4 hB5 hB6 MS hb4 hb7 h1A h1B h1G h1H hcA hcB hcG hcH hi hz0 hz1 hz2 hg1 hg2 hg3 hg4 hg5 hg6 hg7 hg8
  have hz := hw1.thenCall hw1.size hB7
  have hx70 := (hB7.block _ (Array.getElem?_eq_some_iff.1 hx0).1).trans hx0
  have hx71 := (hB7.block _ (Array.getElem?_eq_some_iff.1 hx1).1).trans hx1
  clear hx0 hx1 hw1 hB7
  obtain ⟨p0, p1, p2, p3, p4, p5, p6, p7, p8, p9, p10⟩ := cells11 hx70
  obtain ⟨q0, q1, q2, q3, q4, q5, q6, q7, q8, q9, q10⟩ := cells11 hx71
  have hzl0 := (Array.getElem?_eq_some_iff.1 hx70).1
  have hzl1 := (Array.getElem?_eq_some_iff.1 hx71).1
  have HR1 := fun x hx => Lib.hid (sameRule_any w ⟨an, ap, ag, .mk k s n ys l c, bl, bc⟩ ⟨bn, bp, bg, .mk k2 s2 n2 ys2 l2 c2, bl, bc⟩ x _ _ HVC HVB hx)
  have HR2 := fun x hx => Lib.hid (sameRule_any w ⟨an, ap, ag, .mk k s n ys l c, al, ac⟩ ⟨an, ap, ag, .mk k s n ys l c, bl, bc⟩ x _ _ HVA HVC hx)
  rw [sameRu_self ⟨an, ap, ag, .mk k s n ys l c, al, ac⟩ bl bc] at HR2
  have HSE := fun x hx => Lib.hid (same_any _ w (.mk k s n ys l c) (.mk k2 s2 n2 ys2 l2 c2) false x _ _ (Nat.le_refl _) hVbA hVbB hx)
  clear hVbA hVbB HVA HVB HVC

  by_cases hn : an.toList = bn.toList
  rotate_left
  · have hn' : (an.toList == bn.toList) = false := by simpa using hn
    have hno := sameRu_no1 (a := ⟨an, ap, ag, .mk k s n ys l c, bl, bc⟩) (b := ⟨bn, bp, bg, .mk k2 s2 n2 ys2 l2 c2, bl, bc⟩) hn
    simp only [hno] at HR1
    clear hno
    go_wp2_with fail
    refine wp_loop_once ?_
    go_wp2_with fail
    refine wp_loop_once ?_
    go_wp2_with fail
    have hnx := heap_alloc_new x7 (.cells #[.string an, .slice A ap.length capA, .slice G ag.length capG, .int .i64 k, .string s, .int .i64 n, .slice Y ys.length capY, .int .i64 l, .int .i64 c, .int .i64 bl, .int .i64 bc] 45)
    have hnb := hz.alloc hz.size (.cells #[.string an, .slice A ap.length capA, .slice G ag.length capG, .int .i64 k, .string s, .int .i64 n, .slice Y ys.length capY, .int .i64 l, .int .i64 c, .int .i64 bl, .int .i64 bc] 45)
    have hxa := (Below.heap_alloc x7 (.cells #[.string an, .slice A ap.length capA, .slice G ag.length capG, .int .i64 k, .string s, .int .i64 n, .slice Y ys.length capY, .int .i64 l, .int .i64 c, .int .i64 bl, .int .i64 bc] 45) _ hzl0).trans hx70
    refine ((HR1 _ hnb).out).mono ?_
    rintro _ y1 ⟨rfl, hy1⟩
    have hya := (hy1.block _ (Array.getElem?_eq_some_iff.1 hxa).1).trans hxa
    have hyc := (hy1.block _ (Array.getElem?_eq_some_iff.1 hnx).1).trans hnx
    obtain ⟨e0, e1, e2, e3, e4, e5, e6, e7, e8, e9, e10⟩ := cells11 hya
    obtain ⟨f0, f1, f2, f3, f4, f5, f6, f7, f8, f9, f10⟩ := cells11 hyc
    have hy2 := hnb.thenCall hnb.size hy1
    clear hy1 hxa hnx hzl0 hzl1 hya hyc
    go_wp2_with fail
    refine ((HR2 _ hy2).out).mono ?_
    rintro _ y2 ⟨rfl, hy3⟩
    have hy4 := hy2.thenCall hy2.size hy3
    clear hy3
    go_wp2_with fail
    go_ret
    exact ⟨rfl, hy4⟩
  have hn' : (an.toList == bn.toList) = true := by simpa using hn
  by_cases hp : ap.length = bp.length
  rotate_left
  · have hp' : ((ap.length : Int) == bp.length) = false := by rw [beq_eq_false_iff_ne]; omega
    have hno := sameRu_no2 (a := ⟨an, ap, ag, .mk k s n ys l c, bl, bc⟩) (b := ⟨bn, bp, bg, .mk k2 s2 n2 ys2 l2 c2, bl, bc⟩) hp
    simp only [hno] at HR1
    clear hno
    clear hp hn
    go_wp2_with fail
    refine wp_loop_once ?_
    go_wp2_with fail
    refine wp_loop_once ?_
    go_wp2_with fail
    have hnx := heap_alloc_new x7 (.cells #[.string an, .slice A ap.length capA, .slice G ag.length capG, .int .i64 k, .string s, .int .i64 n, .slice Y ys.length capY, .int .i64 l, .int .i64 c, .int .i64 bl, .int .i64 bc] 45)
    have hnb := hz.alloc hz.size (.cells #[.string an, .slice A ap.length capA, .slice G ag.length capG, .int .i64 k, .string s, .int .i64 n, .slice Y ys.length capY, .int .i64 l, .int .i64 c, .int .i64 bl, .int .i64 bc] 45)
    have hxa := (Below.heap_alloc x7 (.cells #[.string an, .slice A ap.length capA, .slice G ag.length capG, .int .i64 k, .string s, .int .i64 n, .slice Y ys.length capY, .int .i64 l, .int .i64 c, .int .i64 bl, .int .i64 bc] 45) _ hzl0).trans hx70
    refine ((HR1 _ hnb).out).mono ?_
    rintro _ y1 ⟨rfl, hy1⟩
    have hya := (hy1.block _ (Array.getElem?_eq_some_iff.1 hxa).1).trans hxa
    have hyc := (hy1.block _ (Array.getElem?_eq_some_iff.1 hnx).1).trans hnx
    obtain ⟨e0, e1, e2, e3, e4, e5, e6, e7, e8, e9, e10⟩ := cells11 hya
    obtain ⟨f0, f1, f2, f3, f4, f5, f6, f7, f8, f9, f10⟩ := cells11 hyc
    have hy2 := hnb.thenCall hnb.size hy1
    clear hy1 hxa hnx hzl0 hzl1 hya hyc
    go_wp2_with fail
    refine ((HR2 _ hy2).out).mono ?_
    rintro _ y2 ⟨rfl, hy3⟩
    have hy4 := hy2.thenCall hy2.size hy3
    clear hy3
    go_wp2_with fail
    go_ret
    exact ⟨rfl, hy4⟩
  have hp' : ((ap.length : Int) == bp.length) = true := by rw [beq_iff_eq]; omega
  by_cases hgl : ag.length = bg.length
  rotate_left
  · have hgl' : ((ag.length : Int) == bg.length) = false := by rw [beq_eq_false_iff_ne]; omega
    have hno := sameRu_no3 (a := ⟨an, ap, ag, .mk k s n ys l c, bl, bc⟩) (b := ⟨bn, bp, bg, .mk k2 s2 n2 ys2 l2 c2, bl, bc⟩) hgl
    simp only [hno] at HR1
    clear hno
    clear hp hn hgl
    go_wp2_with fail
    refine wp_loop_once ?_
    go_wp2_with fail
    refine wp_loop_once ?_
    go_wp2_with fail
    have hnx := heap_alloc_new x7 (.cells #[.string an, .slice A ap.length capA, .slice G ag.length capG, .int .i64 k, .string s, .int .i64 n, .slice Y ys.length capY, .int .i64 l, .int .i64 c, .int .i64 bl, .int .i64 bc] 45)
    have hnb := hz.alloc hz.size (.cells #[.string an, .slice A ap.length capA, .slice G ag.length capG, .int .i64 k, .string s, .int .i64 n, .slice Y ys.length capY, .int .i64 l, .int .i64 c, .int .i64 bl, .int .i64 bc] 45)
    have hxa := (Below.heap_alloc x7 (.cells #[.string an, .slice A ap.length capA, .slice G ag.length capG, .int .i64 k, .string s, .int .i64 n, .slice Y ys.length capY, .int .i64 l, .int .i64 c, .int .i64 bl, .int .i64 bc] 45) _ hzl0).trans hx70
    refine ((HR1 _ hnb).out).mono ?_
    rintro _ y1 ⟨rfl, hy1⟩
    have hya := (hy1.block _ (Array.getElem?_eq_some_iff.1 hxa).1).trans hxa
    have hyc := (hy1.block _ (Array.getElem?_eq_some_iff.1 hnx).1).trans hnx
    obtain ⟨e0, e1, e2, e3, e4, e5, e6, e7, e8, e9, e10⟩ := cells11 hya
    obtain ⟨f0, f1, f2, f3, f4, f5, f6, f7, f8, f9, f10⟩ := cells11 hyc
    have hy2 := hnb.thenCall hnb.size hy1
    clear hy1 hxa hnx hzl0 hzl1 hya hyc
    go_wp2_with fail
    refine ((HR2 _ hy2).out).mono ?_
    rintro _ y2 ⟨rfl, hy3⟩
    have hy4 := hy2.thenCall hy2.size hy3
    clear hy3
    go_wp2_with fail
    go_ret
    exact ⟨rfl, hy4⟩
  have hgl' : ((ag.length : Int) == bg.length) = true := by rw [beq_iff_eq]; omega
  have HN := Lib.hid hn
  have hp1 : ap.length ≤ bp.length := by omega
  have hp2 : bp.length ≤ ap.length := by omega
  have hgl1 : ag.length ≤ bg.length := by omega
  have hgl2 : bg.length ≤ ag.length := by omega
  clear hn hp hgl
  cases hse : sameEx false (.mk k s n ys l c) (.mk k2 s2 n2 ys2 l2 c2)
  · rw [hse] at HSE
    have hno := sameRu_no4 (a := ⟨an, ap, ag, .mk k s n ys l c, bl, bc⟩) (b := ⟨bn, bp, bg, .mk k2 s2 n2 ys2 l2 c2, bl, bc⟩) hse
    simp only [hno] at HR1
    clear hno hse
    go_wp2_with fail
    refine ((HSE _ hz).out).mono ?_
    rintro _ x8 ⟨rfl, hb8⟩
    have hz8 := hz.thenCall hz.size hb8
    have hx80 := (hb8.block _ (Array.getElem?_eq_some_iff.1 hx70).1).trans hx70
    have hx81 := (hb8.block _ (Array.getElem?_eq_some_iff.1 hx71).1).trans hx71
    clear p0 p1 p2 p3 p4 p5 p6 p7 p8 p9 p10 q0 q1 q2 q3 q4 q5 q6 q7 q8 q9 q10 hx70 hx71 hz hb8 hzl0 hzl1
    obtain ⟨p0, p1, p2, p3, p4, p5, p6, p7, p8, p9, p10⟩ := cells11 hx80; have hzl0 := (Array.getElem?_eq_some_iff.1 hx80).1
    obtain ⟨q0, q1, q2, q3, q4, q5, q6, q7, q8, q9, q10⟩ := cells11 hx81; have hzl1 := (Array.getElem?_eq_some_iff.1 hx81).1
    go_wp2_with fail
    refine wp_loop_once ?_
    go_wp2_with fail
    refine wp_loop_once ?_
    go_wp2_with fail
    have hnx := heap_alloc_new x8 (.cells #[.string an, .slice A ap.length capA, .slice G ag.length capG, .int .i64 k, .string s, .int .i64 n, .slice Y ys.length capY, .int .i64 l, .int .i64 c, .int .i64 bl, .int .i64 bc] 45)
    have hnb := hz8.alloc hz8.size (.cells #[.string an, .slice A ap.length capA, .slice G ag.length capG, .int .i64 k, .string s, .int .i64 n, .slice Y ys.length capY, .int .i64 l, .int .i64 c, .int .i64 bl, .int .i64 bc] 45)
    have hxa := (Below.heap_alloc x8 (.cells #[.string an, .slice A ap.length capA, .slice G ag.length capG, .int .i64 k, .string s, .int .i64 n, .slice Y ys.length capY, .int .i64 l, .int .i64 c, .int .i64 bl, .int .i64 bc] 45) _ hzl0).trans hx80
    refine ((HR1 _ hnb).out).mono ?_
    rintro _ y1 ⟨rfl, hy1⟩
    have hya := (hy1.block _ (Array.getElem?_eq_some_iff.1 hxa).1).trans hxa
    have hyc := (hy1.block _ (Array.getElem?_eq_some_iff.1 hnx).1).trans hnx
    obtain ⟨e0, e1, e2, e3, e4, e5, e6, e7, e8, e9, e10⟩ := cells11 hya
    obtain ⟨f0, f1, f2, f3, f4, f5, f6, f7, f8, f9, f10⟩ := cells11 hyc
    have hy2 := hnb.thenCall hnb.size hy1
    clear hy1 hxa hnx hzl0 hzl1 hya hyc
    go_wp2_with fail
    refine ((HR2 _ hy2).out).mono ?_
    rintro _ y2 ⟨rfl, hy3⟩
    have hy4 := hy2.thenCall hy2.size hy3
    clear hy3
    go_wp2_with fail
    go_ret
    exact ⟨rfl, hy4⟩
  · rw [hse] at HSE
    have HSB := Lib.hid hse
    clear hse
    go_wp2_with fail
    refine ((HSE _ hz).out).mono ?_
    rintro _ x8 ⟨rfl, hb8⟩
    have hz8 := hz.thenCall hz.size hb8
    have hx80 := (hb8.block _ (Array.getElem?_eq_some_iff.1 hx70).1).trans hx70
    have hx81 := (hb8.block _ (Array.getElem?_eq_some_iff.1 hx71).1).trans hx71
    clear p0 p1 p2 p3 p4 p5 p6 p7 p8 p9 p10 q0 q1 q2 q3 q4 q5 q6 q7 q8 q9 q10 hx70 hx71 hz hb8 hzl0 hzl1
    clear HSE
    obtain ⟨p0, p1, p2, p3, p4, p5, p6, p7, p8, p9, p10⟩ := cells11 hx80; have hzl0 := (Array.getElem?_eq_some_iff.1 hx80).1
    obtain ⟨q0, q1, q2, q3, q4, q5, q6, q7, q8, q9, q10⟩ := cells11 hx81; have hzl1 := (Array.getElem?_eq_some_iff.1 hx81).1
    go_wp2_with fail
    clear p0 p1 p2 p3 p4 p5 p6 p7 p8 p9 p10 q0 q1 q2 q3 q4 q5 q6 q7 q8 q9 q10 hzl0 hzl1
    go_loopw [5, 6] (fun t i wr => ∃ (j : Nat) (bb : Bool), t = .bool bb ∧ i = .int .i64 j ∧ j ≤ ap.length ∧ Hid ((bb = true → eqAll (sameEx false) (ap.take j) (bp.take j) = true) ∧ (bb = false → eqAll (sameEx false) ap bp = false)) ∧ Below x8.heap.size x8 wr) (fun _ i _ => ap.length - (intOf i).toNat)
    case atStart => exact ⟨0, true, rfl, rfl, Nat.zero_le _, ⟨fun _ => by simp [eqAll], fun h => by cases h⟩, Below.refl _ _⟩
    case round =>
      obtain ⟨j, bb, rfl, rfl, hj, HJ, hbr⟩ := hrel
      have hzr := hz8.thenCall hz8.size hbr
      have hr0 := (hbr.block _ (Array.getElem?_eq_some_iff.1 hx80).1).trans hx80
      have hr1 := (hbr.block _ (Array.getElem?_eq_some_iff.1 hx81).1).trans hx81
      obtain ⟨p0, p1, p2, p3, p4, p5, p6, p7, p8, p9, p10⟩ := cells11 hr0; have hzl0 := (Array.getElem?_eq_some_iff.1 hr0).1
      obtain ⟨q0, q1, q2, q3, q4, q5, q6, q7, q8, q9, q10⟩ := cells11 hr1; have hzl1 := (Array.getElem?_eq_some_iff.1 hr1).1
      cases bb with
      | false =>
        have hno := sameRu_no5 (a := ⟨an, ap, ag, .mk k s n ys l c, bl, bc⟩) (b := ⟨bn, bp, bg, .mk k2 s2 n2 ys2 l2 c2, bl, bc⟩) (HJ.out.2 rfl)
        simp only [hno] at HR1
        clear hno
        go_wp2_with fail
        refine wp_loop_once ?_
        go_wp2_with fail
        have hnx := heap_alloc_new wr (.cells #[.string an, .slice A ap.length capA, .slice G ag.length capG, .int .i64 k, .string s, .int .i64 n, .slice Y ys.length capY, .int .i64 l, .int .i64 c, .int .i64 bl, .int .i64 bc] 45)
        have hnb := hzr.alloc hzr.size (.cells #[.string an, .slice A ap.length capA, .slice G ag.length capG, .int .i64 k, .string s, .int .i64 n, .slice Y ys.length capY, .int .i64 l, .int .i64 c, .int .i64 bl, .int .i64 bc] 45)
        have hxa := (Below.heap_alloc wr (.cells #[.string an, .slice A ap.length capA, .slice G ag.length capG, .int .i64 k, .string s, .int .i64 n, .slice Y ys.length capY, .int .i64 l, .int .i64 c, .int .i64 bl, .int .i64 bc] 45) _ hzl0).trans hr0
        refine ((HR1 _ hnb).out).mono ?_
        rintro _ y1 ⟨rfl, hy1⟩
        have hya := (hy1.block _ (Array.getElem?_eq_some_iff.1 hxa).1).trans hxa
        have hyc := (hy1.block _ (Array.getElem?_eq_some_iff.1 hnx).1).trans hnx
        obtain ⟨e0, e1, e2, e3, e4, e5, e6, e7, e8, e9, e10⟩ := cells11 hya
        obtain ⟨f0, f1, f2, f3, f4, f5, f6, f7, f8, f9, f10⟩ := cells11 hyc
        have hy2 := hnb.thenCall hnb.size hy1
        clear hy1 hxa hnx hzl0 hzl1 hya hyc
        go_wp2_with fail
        refine ((HR2 _ hy2).out).mono ?_
        rintro _ y2 ⟨rfl, hy3⟩
        have hy4 := hy2.thenCall hy2.size hy3
        clear hy3
        go_wp2_with fail
        go_ret
        exact ⟨rfl, hy4⟩
      | true =>
      by_cases hlt : j < ap.length
      · have hlt2 : j < bp.length := by omega
        obtain ⟨b1, o1, rfl, hat⟩ := sA.get j hlt
        obtain ⟨b2, o2, rfl, hat2⟩ := sA2.get j hlt2
        have HT := Lib.hid (eqAll_take (eqB := sameEx false) hlt hlt2)
        have HF := Lib.hid (eqAll_false (eqB := sameEx false) hlt hlt2)
        generalize ap[j] = y at *
        generalize bp[j] = z1 at *
        cases y with
        | mk k3 s3 n3 ys3 l3 c3 =>
        cases z1 with
        | mk k4 s4 n4 ys4 l4 c4 =>
        obtain ⟨A', cap', d0, d1, d2, d3, d4, d5, hv'⟩ := Ex.At.both hat hzr (Nat.le_refl _)
        obtain ⟨A'', cap'', g0, g1, g2, g3, g4, g5, hu'⟩ := Ex.At.both hat2 hzr (Nat.le_refl _)
        clear hat hat2
        have HI := fun x hx => Lib.hid (same_any _ w (.mk k3 s3 n3 ys3 l3 c3) (.mk k4 s4 n4 ys4 l4 c4) false x _ _ (Nat.le_refl _) hv' hu' hx)
        go_wp2_with fail
        go_still_tail 10, (by kernel_rfl)
        change wpList _ _ _ _ _ wr.drew
        cases hsm : sameEx false (.mk k3 s3 n3 ys3 l3 c3) (.mk k4 s4 n4 ys4 l4 c4)
        · rw [hsm] at HI
          have HFF := Lib.hid (HF.out hsm)
          clear hsm
          go_wp2_with (go_at_call 21; refine (HI _ hzr.drew).out.mono ?_; rintro e y1 ⟨rfl, hy1⟩)
          exact ⟨⟨j + 1, false, rfl, by go_num, by omega, ⟨(fun h => by cases h), fun _ => HFF.out⟩, hbr.thenCall hbr.size ((Below.refl _ _).drew.trans hy1)⟩, by simp [intOf]; omega⟩
        · rw [hsm] at HI
          have HTT : Hid (eqAll (sameEx false) (ap.take (j + 1)) (bp.take (j + 1)) = true) := Lib.hid (by rw [HT.out, HJ.out.1 (by simp), hsm]; rfl)
          clear hsm
          go_wp2_with (go_at_call 21; refine (HI _ hzr.drew).out.mono ?_; rintro e y1 ⟨rfl, hy1⟩)
          exact ⟨⟨j + 1, true, rfl, by go_num, by omega, ⟨fun _ => HTT.out, fun h => by cases h⟩, hbr.thenCall hbr.size ((Below.refl _ _).drew.trans hy1)⟩, by simp [intOf]; omega⟩
      · have HALL := Lib.hid (show eqAll (sameEx false) ap bp = true by have h := HJ.out.1 rfl; rw [List.take_of_length_le (by omega), List.take_of_length_le (by omega)] at h; exact h)
        go_wp2_with fail
        have HALL1 := HALL
        clear HALL
        obtain ⟨wo, rfl⟩ : ∃ wo : World, wo = wr := ⟨_, rfl⟩
        have hzo := hzr
        have ho0 := hr0
        have ho1 := hr1
        clear p0 p1 p2 p3 p4 p5 p6 p7 p8 p9 p10 q0 q1 q2 q3 q4 q5 q6 q7 q8 q9 q10 hbr HJ hj hlt hzr hr0 hr1 hzl0 hzl1
        go_loopw [5, 7] (fun t i wr => ∃ (j : Nat) (bb : Bool), t = .bool bb ∧ i = .int .i64 j ∧ j ≤ ag.length ∧ Hid ((bb = true → eqAll (sameEx false) (ag.take j) (bg.take j) = true) ∧ (bb = false → eqAll (sameEx false) ag bg = false)) ∧ Below wo.heap.size wo wr) (fun _ i _ => ag.length - (intOf i).toNat)
        case atStart => exact ⟨0, true, rfl, rfl, Nat.zero_le _, ⟨fun _ => by simp [eqAll], fun h => by cases h⟩, Below.refl _ _⟩
        case round =>
          obtain ⟨j, bb, rfl, rfl, hj, HJ, hbr⟩ := hrel
          have hzr := hzo.thenCall hzo.size hbr
          have hr0 := (hbr.block _ (Array.getElem?_eq_some_iff.1 ho0).1).trans ho0
          have hr1 := (hbr.block _ (Array.getElem?_eq_some_iff.1 ho1).1).trans ho1
          obtain ⟨p0, p1, p2, p3, p4, p5, p6, p7, p8, p9, p10⟩ := cells11 hr0; have hzl0 := (Array.getElem?_eq_some_iff.1 hr0).1
          obtain ⟨q0, q1, q2, q3, q4, q5, q6, q7, q8, q9, q10⟩ := cells11 hr1; have hzl1 := (Array.getElem?_eq_some_iff.1 hr1).1
          cases bb with
          | false =>
            have hno := sameRu_no6 (a := ⟨an, ap, ag, .mk k s n ys l c, bl, bc⟩) (b := ⟨bn, bp, bg, .mk k2 s2 n2 ys2 l2 c2, bl, bc⟩) (HJ.out.2 rfl)
            simp only [hno] at HR1
            clear hno
            go_wp2_with fail
            have hnx := heap_alloc_new wr (.cells #[.string an, .slice A ap.length capA, .slice G ag.length capG, .int .i64 k, .string s, .int .i64 n, .slice Y ys.length capY, .int .i64 l, .int .i64 c, .int .i64 bl, .int .i64 bc] 45)
            have hnb := hzr.alloc hzr.size (.cells #[.string an, .slice A ap.length capA, .slice G ag.length capG, .int .i64 k, .string s, .int .i64 n, .slice Y ys.length capY, .int .i64 l, .int .i64 c, .int .i64 bl, .int .i64 bc] 45)
            have hxa := (Below.heap_alloc wr (.cells #[.string an, .slice A ap.length capA, .slice G ag.length capG, .int .i64 k, .string s, .int .i64 n, .slice Y ys.length capY, .int .i64 l, .int .i64 c, .int .i64 bl, .int .i64 bc] 45) _ hzl0).trans hr0
            refine ((HR1 _ hnb).out).mono ?_
            rintro _ y1 ⟨rfl, hy1⟩
            have hya := (hy1.block _ (Array.getElem?_eq_some_iff.1 hxa).1).trans hxa
            have hyc := (hy1.block _ (Array.getElem?_eq_some_iff.1 hnx).1).trans hnx
            obtain ⟨e0, e1, e2, e3, e4, e5, e6, e7, e8, e9, e10⟩ := cells11 hya
            obtain ⟨f0, f1, f2, f3, f4, f5, f6, f7, f8, f9, f10⟩ := cells11 hyc
            have hy2 := hnb.thenCall hnb.size hy1
            clear hy1 hxa hnx hzl0 hzl1 hya hyc
            go_wp2_with fail
            refine ((HR2 _ hy2).out).mono ?_
            rintro _ y2 ⟨rfl, hy3⟩
            have hy4 := hy2.thenCall hy2.size hy3
            clear hy3
            go_wp2_with fail
            go_ret
            exact ⟨rfl, hy4⟩
          | true =>
          by_cases hlt : j < ag.length
          · have hlt2 : j < bg.length := by omega
            obtain ⟨b1, o1, rfl, hat⟩ := sG.get j hlt
            obtain ⟨b2, o2, rfl, hat2⟩ := sG2.get j hlt2
            have HT := Lib.hid (eqAll_take (eqB := sameEx false) hlt hlt2)
            have HF := Lib.hid (eqAll_false (eqB := sameEx false) hlt hlt2)
            generalize ag[j] = y at *
            generalize bg[j] = z1 at *
            cases y with
            | mk k3 s3 n3 ys3 l3 c3 =>
            cases z1 with
            | mk k4 s4 n4 ys4 l4 c4 =>
            obtain ⟨A', cap', d0, d1, d2, d3, d4, d5, hv'⟩ := Ex.At.both hat hzr (Nat.le_refl _)
            obtain ⟨A'', cap'', g0, g1, g2, g3, g4, g5, hu'⟩ := Ex.At.both hat2 hzr (Nat.le_refl _)
            clear hat hat2
            have HI := fun x hx => Lib.hid (same_any _ w (.mk k3 s3 n3 ys3 l3 c3) (.mk k4 s4 n4 ys4 l4 c4) false x _ _ (Nat.le_refl _) hv' hu' hx)
            go_wp2_with fail
            go_still_tail 10, (by kernel_rfl)
            change wpList _ _ _ _ _ wr.drew
            cases hsm : sameEx false (.mk k3 s3 n3 ys3 l3 c3) (.mk k4 s4 n4 ys4 l4 c4)
            · rw [hsm] at HI
              have HFF := Lib.hid (HF.out hsm)
              clear hsm
              go_wp2_with (go_at_call 21; refine (HI _ hzr.drew).out.mono ?_; rintro e y1 ⟨rfl, hy1⟩)
              exact ⟨⟨j + 1, false, rfl, by go_num, by omega, ⟨(fun h => by cases h), fun _ => HFF.out⟩, hbr.thenCall hbr.size ((Below.refl _ _).drew.trans hy1)⟩, by simp [intOf]; omega⟩
            · rw [hsm] at HI
              have HTT : Hid (eqAll (sameEx false) (ag.take (j + 1)) (bg.take (j + 1)) = true) := Lib.hid (by rw [HT.out, HJ.out.1 (by simp), hsm]; rfl)
              clear hsm
              go_wp2_with (go_at_call 21; refine (HI _ hzr.drew).out.mono ?_; rintro e y1 ⟨rfl, hy1⟩)
              exact ⟨⟨j + 1, true, rfl, by go_num, by omega, ⟨fun _ => HTT.out, fun h => by cases h⟩, hbr.thenCall hbr.size ((Below.refl _ _).drew.trans hy1)⟩, by simp [intOf]; omega⟩
          · have HALL := Lib.hid (show eqAll (sameEx false) ag bg = true by have h := HJ.out.1 rfl; rw [List.take_of_length_le (by omega), List.take_of_length_le (by omega)] at h; exact h)
            go_wp2_with fail
            have hye := sameRu_yes (a := ⟨an, ap, ag, .mk k s n ys l c, bl, bc⟩) (b := ⟨bn, bp, bg, .mk k2 s2 n2 ys2 l2 c2, bl, bc⟩) HN.out HALL1.out HALL.out HSB.out
            simp only [hye] at HR1
            clear hye
            have hnx := heap_alloc_new wr (.cells #[.string an, .slice A ap.length capA, .slice G ag.length capG, .int .i64 k, .string s, .int .i64 n, .slice Y ys.length capY, .int .i64 l, .int .i64 c, .int .i64 bl, .int .i64 bc] 45)
            have hnb := hzr.alloc hzr.size (.cells #[.string an, .slice A ap.length capA, .slice G ag.length capG, .int .i64 k, .string s, .int .i64 n, .slice Y ys.length capY, .int .i64 l, .int .i64 c, .int .i64 bl, .int .i64 bc] 45)
            have hxa := (Below.heap_alloc wr (.cells #[.string an, .slice A ap.length capA, .slice G ag.length capG, .int .i64 k, .string s, .int .i64 n, .slice Y ys.length capY, .int .i64 l, .int .i64 c, .int .i64 bl, .int .i64 bc] 45) _ hzl0).trans hr0
            refine ((HR1 _ hnb).out).mono ?_
            rintro _ y1 ⟨rfl, hy1⟩
            have hya := (hy1.block _ (Array.getElem?_eq_some_iff.1 hxa).1).trans hxa
            have hyc := (hy1.block _ (Array.getElem?_eq_some_iff.1 hnx).1).trans hnx
            obtain ⟨e0, e1, e2, e3, e4, e5, e6, e7, e8, e9, e10⟩ := cells11 hya
            obtain ⟨f0, f1, f2, f3, f4, f5, f6, f7, f8, f9, f10⟩ := cells11 hyc
            have hy2 := hnb.thenCall hnb.size hy1
            clear hy1 hxa hnx hzl0 hzl1 hya hyc
            go_wp2_with fail
            refine ((HR2 _ hy2).out).mono ?_
            rintro _ y2 ⟨rfl, hy3⟩
            have hy4 := hy2.thenCall hy2.size hy3
            clear hy3
            go_wp2_with fail
            go_ret
            exact ⟨rfl, hy4⟩
end Go.Proofs.Ytnaakhnmbckpmaa.astRules
