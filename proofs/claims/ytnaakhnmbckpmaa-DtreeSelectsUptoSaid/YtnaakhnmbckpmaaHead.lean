/- Contract: ast.Head. -/
import Derived.Test.YtnaakhnmbckpmaaPats
import Derived.Deep.RegionHeld3
namespace Go.Proofs.Ytnaakhnmbckpmaa.Pats
open Go.ChangeShapes Go.WideShapes Go.ChangeAt Go.RowKit Go.Proofs.Ytnaakhnmbckpmaa.Lift Go.Proofs.Ytnaakhnmbckpmaa.Data Go.Proofs.Ytnaakhnmbckpmaa.Refs
set_option linter.unusedVariables false
set_option linter.unusedSimpArgs false
/-- what is applied, and to what. -/
def headS : Ex → Ex × List Ex
  | .mk k s n ys l c => if k = 4 then (match ys with | [] => (.mk k s n ys l c, []) | y :: r => (y, r)) else (.mk k s n ys l c, [])
/-- a value, and a new slice. -/
def HeadRes (w0 : World) (h : Ex) (es : List Ex) (w : World) (e : Ending) (w' : World) : Prop :=
  ∃ v A cap xs, e = .returned (.tuple #[v, .slice A es.length cap]) ∧ h.Val w0 v ∧ w'.ownsRow w.heap.size 26 6 (.slice A es.length cap) es.length xs ∧ ExCells w0 es xs ∧ Below w.heap.size w w'
theorem row6 {w : World} {g : Nat} {t : TypeId} {v0 v1 v2 v3 v4 v5 : Value} (h : w.heap[g]? = some (.cells #[v0, v1, v2, v3, v4, v5] t (0, 0))) :
    w.cell? ⟨g, 0, none⟩ = some v0 ∧ w.cell? ⟨g, 1, none⟩ = some v1 ∧ w.cell? ⟨g, 2, none⟩ = some v2 ∧ w.cell? ⟨g, 3, none⟩ = some v3 ∧ w.cell? ⟨g, 4, none⟩ = some v4 ∧ w.cell? ⟨g, 5, none⟩ = some v5 ∧
    w.frozen? ⟨g, 0, none⟩ = false ∧ w.frozen? ⟨g, 1, none⟩ = false ∧ w.frozen? ⟨g, 2, none⟩ = false ∧ w.frozen? ⟨g, 3, none⟩ = false ∧ w.frozen? ⟨g, 4, none⟩ = false ∧ w.frozen? ⟨g, 5, none⟩ = false := by
  refine ⟨?_, ?_, ?_, ?_, ?_, ?_, ?_, ?_, ?_, ?_, ?_, ?_⟩ <;> simp [World.cell?, World.frozen?, h]
theorem exSl_tail {w0 : World} {b o cap : Nat} {y : Ex} {r : List Ex} (h1 : r.length + 1 ≤ cap) (h2 : cap ≤ 9223372036854775807) (h3 : r.length + 1 ≤ 1048576) (hs : Exs w0 (some ⟨b, o, none⟩) (y :: r)) :
    Ex.Sl w0 (.slice (if cap = 1 then some ⟨b, o, none⟩ else some ⟨b, o + 6, none⟩) r.length (cap - 1)) r := by
  refine ⟨_, cap - 1, rfl, ⟨by omega, by omega, by omega, fun h => ?_⟩, ?_⟩
  · split at h <;> cases h
  · by_cases hc : cap = 1
    · exact .inl (List.eq_nil_of_length_eq_zero (by omega))
    · rw [if_neg hc]
      rcases hs with hs | ⟨b', o', e, hs⟩
      · cases hs
      · injection e with e
        injection e with e1 e2
        subst e1 e2
        rw [ExRow] at hs
        exact .inr ⟨b, _, rfl, hs.2⟩
set_option maxRecDepth 100000 in
theorem head_any (w0 : World) (e : Ex) (w : World) (v : Value) (hv : e.Val w0 v) (h0 : Below w0.heap.size w0 w) : Calls Try.prog 49 #[v] w (HeadRes w0 (headS e).1 (headS e).2 w) := by
  cases e with
  | mk k s n ys l c =>
  have hv0 := hv
  obtain ⟨A, cap, rfl, ⟨hd1, hd2, hd3, hd4⟩, hs⟩ := hv
  by_cases hk : k = 4
  · cases ys with
    | nil =>
      have HH : headS (.mk k s n [] l c) = (.mk k s n [] l c, []) := by simp [headS]
      rw [HH]
      clear HH
      subst hk
      rw [List.length_nil] at *
      go_enter Try.func49, Try.ntmps49
      go_wp2_with fail
      refine bodyPost_ret (v := .tuple #[.agg #[.int .i64 4, .string s, .int .i64 n, .slice A 0 cap, .int .i64 l, .int .i64 c], .slice none 0 0]) (by simp [results, Try.results49, go_sem]) rfl ⟨_, none, 0, [], rfl, hv0, World.ownsRow_nil _ _ _ _, by rw [ExCells], ?_⟩
      exact ((Below.refl _ _).alloc (Nat.le_refl _) _).alloc (by simp) _
    | cons y r =>
      have HH : headS (.mk k s n (y :: r) l c) = (y, r) := by simp [headS, hk]
      rw [HH]
      clear HH
      obtain ⟨b, o, rfl, hat⟩ := hs.get 0 (by simp)
      simp only [Nat.zero_mul, Nat.add_zero, List.getElem_cons_zero] at hat
      cases y with
      | mk k' s' n' ys' l' c' =>
      obtain ⟨A', cap', c0, c1, c2, c3, c4, c5, hv'⟩ := Ex.At.both hat h0 (Nat.le_refl _)
      have hbl : b < w.heap.size := World.block_lt_of_cell? _ _ c0
      subst hk
      rw [List.length_cons] at *
      by_cases hcap : cap = 1
      · obtain rfl : r = [] := List.eq_nil_of_length_eq_zero (by omega)
        subst hcap
        simp only [List.length_nil, Nat.zero_add] at *
        have hx1 : (1 : Int) ≤ 1 := by omega
        go_enter Try.func49, Try.ntmps49
        go_wp2_with fail
        have hsl := exSl_tail (r := []) (cap := 1) (by simp) (by omega) (by omega) hs
        simp only [if_true, Nat.sub_self, List.length_nil] at hsl
        have hb2 : Below w.heap.size w ((w.alloc (.cells #[.int .i64 4, .string s, .int .i64 n, .slice (some ⟨b, o, none⟩) 1 1, .int .i64 l, .int .i64 c] 26)).alloc (.cells #[.int .i64 0, .string ⟨#[]⟩, .int .i64 0, .slice none 0 0, .int .i64 0, .int .i64 0] 26)) := ((Below.refl _ _).alloc (Nat.le_refl _) _).alloc (by simp) _
        have hW : ∃ W, W = ((w.alloc (.cells #[.int .i64 4, .string s, .int .i64 n, .slice (some ⟨b, o, none⟩) 1 1, .int .i64 l, .int .i64 c] 26)).alloc (.cells #[.int .i64 0, .string ⟨#[]⟩, .int .i64 0, .slice none 0 0, .int .i64 0, .int .i64 0] 26)) := ⟨_, rfl⟩
        obtain ⟨W, hWe⟩ := hW
        have e3 : W.cell? ⟨w.heap.size, 3, none⟩ = some (.slice (some ⟨b, o, none⟩) 1 1) := by rw [hWe]; simp [go_sem]
        have f0 : W.heap[w.heap.size + 1]? = some (.cells #[.int .i64 0, .string ⟨#[]⟩, .int .i64 0, .slice none 0 0, .int .i64 0, .int .i64 0] 26 (0, 0)) := by rw [hWe]; have := heap_alloc_new (w.alloc (.cells #[.int .i64 4, .string s, .int .i64 n, .slice (some ⟨b, o, none⟩) 1 1, .int .i64 l, .int .i64 c] 26)) (.cells #[.int .i64 0, .string ⟨#[]⟩, .int .i64 0, .slice none 0 0, .int .i64 0, .int .i64 0] 26); rw [World.size_alloc] at this; exact this
        have hWs : W.heap.size = w.heap.size + 2 := by rw [hWe]; simp
        rw [← hWe] at hb2 ⊢
        clear hWe
        have g0 := cellB hb2 (Nat.le_refl _) c0
        have g1 := cellB hb2 (Nat.le_refl _) c1
        have g2 := cellB hb2 (Nat.le_refl _) c2
        have g3 := cellB hb2 (Nat.le_refl _) c3
        have g4 := cellB hb2 (Nat.le_refl _) c4
        have g5 := cellB hb2 (Nat.le_refl _) c5
        have h02 := h0.trans (hb2.mono h0.size)
        have HWS := Lib.hid hWs
        have hWl : w.heap.size < W.heap.size := by omega
        have hWb : b < W.heap.size := by omega
        have hWl2 : w.heap.size + 1 < W.heap.size := by omega
        have hne1 : ¬ w.heap.size + 1 = b := by omega
        have hne2 : ¬ b = w.heap.size + 1 := by omega
        have hc1 : ¬ (1 : Nat) < 1 := by omega
        clear hWs c0 c1 c2 c3 c4 c5 hs hat hv0
        go_region_held3 (fun w' => w'.cell? ⟨w.heap.size, 3, none⟩ = some (.slice (some ⟨b, o, none⟩) 1 1) ∧ w'.cell? ⟨b, o, none⟩ = some (.int .i64 k') ∧ w'.cell? ⟨b, o + 1, none⟩ = some (.string s') ∧ w'.cell? ⟨b, o + 2, none⟩ = some (.int .i64 n') ∧
            w'.cell? ⟨b, o + 3, none⟩ = some (.slice A' ys'.length cap') ∧ w'.cell? ⟨b, o + 4, none⟩ = some (.int .i64 l') ∧ w'.cell? ⟨b, o + 5, none⟩ = some (.int .i64 c'))
          (first | go_keep | exact ⟨e3, g0, g1, g2, g3, g4, g5⟩ | exact ⟨k3, m0, m1, m2, m3, m4, m5⟩ )
          ((go_at_call 70; refine (cloneEx_any w0 [] _ _ hsl h02.drew).mono ?_; rintro e w1 ⟨A1, cap1, xs1, rfl, hown1, hcells1, hb1⟩; have hbW : Below W.heap.size W w1 := ((Below.refl _ _).drew).trans hb1; have k3 := (hbW.cell (p := ⟨w.heap.size, 3, none⟩) hWl).trans e3; have m0 := (hbW.cell (p := ⟨b, o, none⟩) hWb).trans g0; have m1 := (hbW.cell (p := ⟨b, o + 1, none⟩) hWb).trans g1; have m2 := (hbW.cell (p := ⟨b, o + 2, none⟩) hWb).trans g2; have m3 := (hbW.cell (p := ⟨b, o + 3, none⟩) hWb).trans g3; have m4 := (hbW.cell (p := ⟨b, o + 4, none⟩) hWb).trans g4; have m5 := (hbW.cell (p := ⟨b, o + 5, none⟩) hWb).trans g5; obtain ⟨q0, q1, q2, q3, q4, q5, z0, z1, z2, z3, z4, z5⟩ := row6 ((hbW.block _ hWl2).trans f0)))
        go_wp2_with fail
        have hbn : Below w.heap.size w w1 := hb2.thenCall hb2.size hbW
        have hown2 := own_less hown1 (show w.heap.size ≤ W.drew.heap.size from hb2.size)
        refine bodyPost_ret (v := .tuple #[.agg #[.int .i64 k', .string s', .int .i64 n', .slice A' ys'.length cap', .int .i64 l', .int .i64 c'], .slice A1 0 cap1]) (by simp [results, Try.results49, go_sem, q0, q1, q2, q3, q4, q5]) rfl ⟨_, A1, cap1, xs1, rfl, hv', ?_, hcells1, ?_⟩
        · have hlt : w.heap.size + 1 < W.drew.heap.size := hWl2
          exact own_less ((((((ownsRow_setCell_below hown1 (a := ⟨w.heap.size + 1, 0, none⟩) hlt _) |> fun h => ownsRow_setCell_below h (a := ⟨w.heap.size + 1, 1, none⟩) hlt _) |> fun h => ownsRow_setCell_below h (a := ⟨w.heap.size + 1, 2, none⟩) hlt _) |> fun h => ownsRow_setCell_below h (a := ⟨w.heap.size + 1, 3, none⟩) hlt _) |> fun h => ownsRow_setCell_below h (a := ⟨w.heap.size + 1, 4, none⟩) hlt _) |> fun h => ownsRow_setCell_below h (a := ⟨w.heap.size + 1, 5, none⟩) hlt _) hb2.size
        · exact (((((hbn.setCell (Nat.le_succ _) _).setCell (Nat.le_succ _) _).setCell (Nat.le_succ _) _).setCell (Nat.le_succ _) _).setCell (Nat.le_succ _) _).setCell (Nat.le_succ _) _
      have hx1 : (1 : Int) ≤ (r.length : Int) + 1 := by omega
      go_enter Try.func49, Try.ntmps49
      go_wp2_with fail
      have hsl := exSl_tail hd1 hd2 hd3 hs
      rw [if_neg hcap] at hsl
      have hb2 : Below w.heap.size w ((w.alloc (.cells #[.int .i64 4, .string s, .int .i64 n, .slice (some ⟨b, o, none⟩) (r.length + 1) cap, .int .i64 l, .int .i64 c] 26)).alloc (.cells #[.int .i64 0, .string ⟨#[]⟩, .int .i64 0, .slice none 0 0, .int .i64 0, .int .i64 0] 26)) := ((Below.refl _ _).alloc (Nat.le_refl _) _).alloc (by simp) _
      have hW : ∃ W, W = ((w.alloc (.cells #[.int .i64 4, .string s, .int .i64 n, .slice (some ⟨b, o, none⟩) (r.length + 1) cap, .int .i64 l, .int .i64 c] 26)).alloc (.cells #[.int .i64 0, .string ⟨#[]⟩, .int .i64 0, .slice none 0 0, .int .i64 0, .int .i64 0] 26)) := ⟨_, rfl⟩
      obtain ⟨W, hWe⟩ := hW
      have e3 : W.cell? ⟨w.heap.size, 3, none⟩ = some (.slice (some ⟨b, o, none⟩) (r.length + 1) cap) := by rw [hWe]; simp [go_sem]
      have f0 : W.heap[w.heap.size + 1]? = some (.cells #[.int .i64 0, .string ⟨#[]⟩, .int .i64 0, .slice none 0 0, .int .i64 0, .int .i64 0] 26 (0, 0)) := by rw [hWe]; have := heap_alloc_new (w.alloc (.cells #[.int .i64 4, .string s, .int .i64 n, .slice (some ⟨b, o, none⟩) (r.length + 1) cap, .int .i64 l, .int .i64 c] 26)) (.cells #[.int .i64 0, .string ⟨#[]⟩, .int .i64 0, .slice none 0 0, .int .i64 0, .int .i64 0] 26); rw [World.size_alloc] at this; exact this
      have hWs : W.heap.size = w.heap.size + 2 := by rw [hWe]; simp
      rw [← hWe] at hb2 ⊢
      clear hWe
      have g0 := cellB hb2 (Nat.le_refl _) c0
      have g1 := cellB hb2 (Nat.le_refl _) c1
      have g2 := cellB hb2 (Nat.le_refl _) c2
      have g3 := cellB hb2 (Nat.le_refl _) c3
      have g4 := cellB hb2 (Nat.le_refl _) c4
      have g5 := cellB hb2 (Nat.le_refl _) c5
      have h02 := h0.trans (hb2.mono h0.size)
      have HWS := Lib.hid hWs
      have hWl : w.heap.size < W.heap.size := by omega
      have hWb : b < W.heap.size := by omega
      have hWl2 : w.heap.size + 1 < W.heap.size := by omega
      have hne1 : ¬ w.heap.size + 1 = b := by omega
      have hne2 : ¬ b = w.heap.size + 1 := by omega
      have hc1 : ¬ cap < r.length + 1 := by omega
      clear hWs c0 c1 c2 c3 c4 c5 hs hat hv0
      go_region_held3 (fun w' => w'.cell? ⟨w.heap.size, 3, none⟩ = some (.slice (some ⟨b, o, none⟩) (r.length + 1) cap) ∧ w'.cell? ⟨b, o, none⟩ = some (.int .i64 k') ∧ w'.cell? ⟨b, o + 1, none⟩ = some (.string s') ∧ w'.cell? ⟨b, o + 2, none⟩ = some (.int .i64 n') ∧
          w'.cell? ⟨b, o + 3, none⟩ = some (.slice A' ys'.length cap') ∧ w'.cell? ⟨b, o + 4, none⟩ = some (.int .i64 l') ∧ w'.cell? ⟨b, o + 5, none⟩ = some (.int .i64 c'))
        (first | go_keep | exact ⟨e3, g0, g1, g2, g3, g4, g5⟩ | exact ⟨k3, m0, m1, m2, m3, m4, m5⟩ )
        ((go_at_call 70; refine (cloneEx_any w0 r _ _ hsl h02.drew).mono ?_; rintro e w1 ⟨A1, cap1, xs1, rfl, hown1, hcells1, hb1⟩; have hbW : Below W.heap.size W w1 := ((Below.refl _ _).drew).trans hb1; have k3 := (hbW.cell (p := ⟨w.heap.size, 3, none⟩) hWl).trans e3; have m0 := (hbW.cell (p := ⟨b, o, none⟩) hWb).trans g0; have m1 := (hbW.cell (p := ⟨b, o + 1, none⟩) hWb).trans g1; have m2 := (hbW.cell (p := ⟨b, o + 2, none⟩) hWb).trans g2; have m3 := (hbW.cell (p := ⟨b, o + 3, none⟩) hWb).trans g3; have m4 := (hbW.cell (p := ⟨b, o + 4, none⟩) hWb).trans g4; have m5 := (hbW.cell (p := ⟨b, o + 5, none⟩) hWb).trans g5; obtain ⟨q0, q1, q2, q3, q4, q5, z0, z1, z2, z3, z4, z5⟩ := row6 ((hbW.block _ hWl2).trans f0)))
      go_wp2_with fail
      have hbn : Below w.heap.size w w1 := hb2.thenCall hb2.size hbW
      have hown2 := own_less hown1 (show w.heap.size ≤ W.drew.heap.size from hb2.size)
      refine bodyPost_ret (v := .tuple #[.agg #[.int .i64 k', .string s', .int .i64 n', .slice A' ys'.length cap', .int .i64 l', .int .i64 c'], .slice A1 r.length cap1]) (by simp [results, Try.results49, go_sem, q0, q1, q2, q3, q4, q5]) rfl ⟨_, A1, cap1, xs1, rfl, hv', ?_, hcells1, ?_⟩
      · have hlt : w.heap.size + 1 < W.drew.heap.size := hWl2
        exact own_less ((((((ownsRow_setCell_below hown1 (a := ⟨w.heap.size + 1, 0, none⟩) hlt _) |> fun h => ownsRow_setCell_below h (a := ⟨w.heap.size + 1, 1, none⟩) hlt _) |> fun h => ownsRow_setCell_below h (a := ⟨w.heap.size + 1, 2, none⟩) hlt _) |> fun h => ownsRow_setCell_below h (a := ⟨w.heap.size + 1, 3, none⟩) hlt _) |> fun h => ownsRow_setCell_below h (a := ⟨w.heap.size + 1, 4, none⟩) hlt _) |> fun h => ownsRow_setCell_below h (a := ⟨w.heap.size + 1, 5, none⟩) hlt _) hb2.size
      · exact (((((hbn.setCell (Nat.le_succ _) _).setCell (Nat.le_succ _) _).setCell (Nat.le_succ _) _).setCell (Nat.le_succ _) _).setCell (Nat.le_succ _) _).setCell (Nat.le_succ _) _
  · have HH : headS (.mk k s n ys l c) = (.mk k s n ys l c, []) := by simp [headS, hk]
    rw [HH]
    clear HH
    go_enter Try.func49, Try.ntmps49
    go_wp2_with fail
    refine bodyPost_ret (v := .tuple #[.agg #[.int .i64 k, .string s, .int .i64 n, .slice A ys.length cap, .int .i64 l, .int .i64 c], .slice none 0 0]) (by simp [results, Try.results49, go_sem]) rfl ⟨_, none, 0, [], rfl, hv0, World.ownsRow_nil _ _ _ _, by rw [ExCells], ?_⟩
    exact ((Below.refl _ _).alloc (Nat.le_refl _) _).alloc (by simp) _
end Go.Proofs.Ytnaakhnmbckpmaa.Pats
