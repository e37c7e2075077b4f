/- What can be read in one world is read in the other: expressions; slices.Clone at them and ast.Head under that. -/
import Derived.Test.YtnaakhnmbckpmaaPart
namespace Go.Proofs.Ytnaakhnmbckpmaa.Data
open Go.ChangeShapes Go.WideShapes Go.ChangeAt Go.RowKit Go.Proofs.Ytnaakhnmbckpmaa.Lift
set_option linter.unusedVariables false
set_option linter.unusedSimpArgs false
theorem Sub.refl (w : World) : Sub w w := fun _ _ _ h => h
theorem Sub.of_below {w w' : World} (h : Below w.heap.size w w') : Sub w w' := fun b o v hv => cellB h (Nat.le_refl _) hv
theorem Sub.then {w0 w w' : World} (h : Sub w0 w) (g : Below w.heap.size w w') : Sub w0 w' := h.trans (Sub.of_below g)
theorem Sub.drew {w0 w : World} (h : Sub w0 w) : Sub w0 w.drew := h
theorem Sub.alloc {w0 w : World} (h : Sub w0 w) (o : Obj) : Sub w0 (w.alloc o) := h.then ((Below.refl _ _).alloc (Nat.le_refl _) o)
mutual
theorem Ex.At.sub {w w' : World} (hb : Sub w w') : ∀ (e : Ex) (b o : Nat), e.At w b o → e.At w' b o
  | .mk k s n ys l c, b, o, h => by
    rw [Ex.At] at h ⊢
    obtain ⟨A, cap, c0, c1, c2, c3, c4, c5, hh, hr⟩ := h
    refine ⟨A, cap, hb _ _ _ c0, hb _ _ _ c1, hb _ _ _ c2, hb _ _ _ c3, hb _ _ _ c4, hb _ _ _ c5, hh, ?_⟩
    rcases hr with h0 | ⟨b', o', h1, h2⟩
    · exact .inl h0
    · exact .inr ⟨b', o', h1, ExRow.sub hb ys b' o' h2⟩
theorem ExRow.sub {w w' : World} (hb : Sub w w') : ∀ (es : List Ex) (b o : Nat), ExRow w es b o → ExRow w' es b o
  | [], _, _, _ => by rw [ExRow]; trivial
  | e :: r, b, o, h => by
    rw [ExRow] at h ⊢
    exact ⟨Ex.At.sub hb e b o h.1, ExRow.sub hb r b _ h.2⟩
end
theorem Exs.sub {w w' : World} {A : Option Addr} {es : List Ex} (h : Exs w A es) (hb : Sub w w') : Exs w' A es := by
  rcases h with h | ⟨b, o, h1, h2⟩
  · exact .inl h
  · exact .inr ⟨b, o, h1, ExRow.sub hb _ _ _ h2⟩
theorem Ex.Sl.sub {w w' : World} {v : Value} {es : List Ex} (h : Ex.Sl w v es) (hb : Sub w w') : Ex.Sl w' v es := by
  obtain ⟨A, cap, h1, h2, h3⟩ := h
  exact ⟨A, cap, h1, h2, h3.sub hb⟩
theorem Ex.Cs.sub {w w' : World} {e : Ex} {c : List Value} (h : e.Cs w c) (hb : Sub w w') : e.Cs w' c := by
  cases e
  obtain ⟨A, cap, h1, h2, h3⟩ := h
  exact ⟨A, cap, h1, h2, h3.sub hb⟩
theorem Ex.Val.sub {w w' : World} {e : Ex} {c : Value} (h : e.Val w c) (hb : Sub w w') : e.Val w' c := by
  cases e
  obtain ⟨A, cap, h1, h2, h3⟩ := h
  exact ⟨A, cap, h1, h2, h3.sub hb⟩
theorem ExCells.sub {w w' : World} (hb : Sub w w') : ∀ {es : List Ex} {xs : List Value}, ExCells w es xs → ExCells w' es xs
  | [], xs, h => by rw [ExCells] at h ⊢; exact h
  | e :: r, xs, h => by
    rw [ExCells] at h ⊢
    obtain ⟨c, rest, h0, h1, h2⟩ := h
    exact ⟨c, rest, h0, h1.sub hb, h2.sub hb⟩
theorem Src_sub {w w' : World} {size : Nat} {A : Option Addr} {m : Nat} {xs : List Value} (h : Src w size A m xs) (hb : Sub w w') : Src w' size A m xs := by
  refine ⟨h.1, ?_⟩
  rcases h.2 with h0 | ⟨b, o, e, hc⟩
  · exact .inl h0
  · exact .inr ⟨b, o, e, fun j u hu => hb _ _ _ (hc j u hu)⟩
theorem Ex.At.boths {w w' : World} {b o : Nat} {k : Int} {s : ByteArray} {n : Int} {ys : List Ex} {l : Int} {c : Int} (h : (Ex.mk k s n ys l c).At w b o) (hb : Sub w w') :
    ∃ (A : Option Addr) (cap : Nat), w'.cell? ⟨b, o, none⟩ = some (.int .i64 k) ∧ w'.cell? ⟨b, o + 1, none⟩ = some (.string s) ∧ w'.cell? ⟨b, o + 2, none⟩ = some (.int .i64 n) ∧ w'.cell? ⟨b, o + 3, none⟩ = some (.slice A ys.length cap) ∧ w'.cell? ⟨b, o + 4, none⟩ = some (.int .i64 l) ∧ w'.cell? ⟨b, o + 5, none⟩ = some (.int .i64 c) ∧
      (Ex.mk k s n ys l c).Val w (.agg #[.int .i64 k, .string s, .int .i64 n, .slice A ys.length cap, .int .i64 l, .int .i64 c]) := by
  rw [Ex.At] at h
  obtain ⟨A, cap, c0, c1, c2, c3, c4, c5, hh, hr⟩ := h
  exact ⟨A, cap, hb _ _ _ c0, hb _ _ _ c1, hb _ _ _ c2, hb _ _ _ c3, hb _ _ _ c4, hb _ _ _ c5, A, cap, rfl, hh, hr⟩
end Go.Proofs.Ytnaakhnmbckpmaa.Data
namespace Go.Proofs.Ytnaakhnmbckpmaa.Pats
open Go.ChangeShapes Go.WideShapes Go.ChangeAt Go.RowKit Go.Proofs.Ytnaakhnmbckpmaa.Lift Go.Proofs.Ytnaakhnmbckpmaa.Data Go.Proofs.Ytnaakhnmbckpmaa.Refs
set_option linter.unusedVariables false
set_option linter.unusedSimpArgs false
set_option maxRecDepth 100000 in
theorem cloneEx_sub (w0 : World) (es : List Ex) (w : World) (v : Value) (hv : Ex.Sl w0 v es) (h0 : Sub w0 w) : Calls Try.prog 70 #[v] w (NewEx w0 w.heap.size es w) := by
  obtain ⟨A, cap, rfl, ⟨hd1, hd2, hd3, hd4⟩, hs⟩ := hv
  cases A with
  | none =>
    have hc := hd4 rfl
    obtain rfl : es = [] := List.eq_nil_of_length_eq_zero (by omega)
    subst hc
    have he := fun (w : World) => Lib.run_eql_slice_nil (P := Try.prog) w 22 26 none 0 0 0 0 Try.underlying22
    go_enter Try.func70, Try.ntmps70
    go_wp2_with fail
    go_ret
    exact ⟨none, 0, [], rfl, World.ownsRow_nil _ _ _ _, by rw [ExCells], Below.refl _ _⟩
  | some a =>
    have he := fun (w : World) => Lib.run_eql_slice_nil (P := Try.prog) w 22 26 (some a) es.length cap 0 0 Try.underlying22
    obtain ⟨xs, hsrc, hcells⟩ := hs.cells
    obtain ⟨i0, hi, hz0, hz1, hz2⟩ := info_parts info26
    have hone := hcells.one
    have hb1 : Below w.heap.size w (w.alloc (.cells #[] 26)) := (Below.refl _ _).alloc (Nat.le_refl _) _
    have hown := own_new w 26 6 0 #[] rfl (by omega)
    have hs1 := Src_sub hsrc (h0.then hb1)
    have hcap : some a = none → cap = 0 := fun h => by cases h
    clear hd4 hsrc
    go_enter Try.func70, Try.ntmps70
    go_wp2_with (at_builtin; refine wpList_append_src rfl (.tmp 5) (.tmp 6) 22 rfl w.heap.size 26 i0 _ 6 72 Try.underlying22 hi hz0 hz1 hz2 rfl (by omega) _ 0 [] rfl hown (some a) es.length cap xs rfl hs1 hcap hone (by unfold maxLen; omega) (by omega) hb1.size ?_; intro v2 w2 hown2 hg2)
    go_ret
    obtain ⟨A2, cap2, rfl, _, _⟩ := own_form hown2
    have hb2 := below_grown hown hg2 hb1.size
    rw [Nat.zero_add] at hown2
    exact ⟨A2, cap2, _, by simp, hown2, hcells, hb1.trans hb2⟩
set_option maxRecDepth 100000 in
theorem head_sub (w0 : World) (e : Ex) (w : World) (v : Value) (hv : e.Val w0 v) (h0 : Sub w0 w) : Calls Try.prog 49 #[v] w (HeadRes w0 (headS e).1 (headS e).2 w) := by
  cases e with
  | mk k s n ys l c =>
  have hv0 := hv
  obtain ⟨A, cap, rfl, ⟨hd1, hd2, hd3, hd4⟩, hs⟩ := hv
  by_cases hk : k = 4
  · cases ys with
    | nil =>
      have HH : headS (.mk k s n [] l c) = (.mk k s n [] l c, []) := by simp [headS]
      rw [HH]
      clear HH
      subst hk
      rw [List.length_nil] at *
      go_enter Try.func49, Try.ntmps49
      go_wp2_with fail
      refine bodyPost_ret (v := .tuple #[.agg #[.int .i64 4, .string s, .int .i64 n, .slice A 0 cap, .int .i64 l, .int .i64 c], .slice none 0 0]) (by simp [results, Try.results49, go_sem]) rfl ⟨_, none, 0, [], rfl, hv0, World.ownsRow_nil _ _ _ _, by rw [ExCells], ?_⟩
      exact ((Below.refl _ _).alloc (Nat.le_refl _) _).alloc (by simp) _
    | cons y r =>
      have HH : headS (.mk k s n (y :: r) l c) = (y, r) := by simp [headS, hk]
      rw [HH]
      clear HH
      obtain ⟨b, o, rfl, hat⟩ := hs.get 0 (by simp)
      simp only [Nat.zero_mul, Nat.add_zero, List.getElem_cons_zero] at hat
      cases y with
      | mk k' s' n' ys' l' c' =>
      obtain ⟨A', cap', c0, c1, c2, c3, c4, c5, hv'⟩ := Ex.At.boths hat h0
      have hbl : b < w.heap.size := World.block_lt_of_cell? _ _ c0
      subst hk
      rw [List.length_cons] at *
      by_cases hcap : cap = 1
      · obtain rfl : r = [] := List.eq_nil_of_length_eq_zero (by omega)
        subst hcap
        simp only [List.length_nil, Nat.zero_add] at *
        have hx1 : (1 : Int) ≤ 1 := by omega
        go_enter Try.func49, Try.ntmps49
        go_wp2_with fail
        have hsl := exSl_tail (r := []) (cap := 1) (by simp) (by omega) (by omega) hs
        simp only [if_true, Nat.sub_self, List.length_nil] at hsl
        have hb2 : Below w.heap.size w ((w.alloc (.cells #[.int .i64 4, .string s, .int .i64 n, .slice (some ⟨b, o, none⟩) 1 1, .int .i64 l, .int .i64 c] 26)).alloc (.cells #[.int .i64 0, .string ⟨#[]⟩, .int .i64 0, .slice none 0 0, .int .i64 0, .int .i64 0] 26)) := ((Below.refl _ _).alloc (Nat.le_refl _) _).alloc (by simp) _
        have hW : ∃ W, W = ((w.alloc (.cells #[.int .i64 4, .string s, .int .i64 n, .slice (some ⟨b, o, none⟩) 1 1, .int .i64 l, .int .i64 c] 26)).alloc (.cells #[.int .i64 0, .string ⟨#[]⟩, .int .i64 0, .slice none 0 0, .int .i64 0, .int .i64 0] 26)) := ⟨_, rfl⟩
        obtain ⟨W, hWe⟩ := hW
        have e3 : W.cell? ⟨w.heap.size, 3, none⟩ = some (.slice (some ⟨b, o, none⟩) 1 1) := by rw [hWe]; simp [go_sem]
        have f0 : W.heap[w.heap.size + 1]? = some (.cells #[.int .i64 0, .string ⟨#[]⟩, .int .i64 0, .slice none 0 0, .int .i64 0, .int .i64 0] 26 (0, 0)) := by rw [hWe]; have := heap_alloc_new (w.alloc (.cells #[.int .i64 4, .string s, .int .i64 n, .slice (some ⟨b, o, none⟩) 1 1, .int .i64 l, .int .i64 c] 26)) (.cells #[.int .i64 0, .string ⟨#[]⟩, .int .i64 0, .slice none 0 0, .int .i64 0, .int .i64 0] 26); rw [World.size_alloc] at this; exact this
        have hWs : W.heap.size = w.heap.size + 2 := by rw [hWe]; simp
        rw [← hWe] at hb2 ⊢
        clear hWe
        have g0 := cellB hb2 (Nat.le_refl _) c0
        have g1 := cellB hb2 (Nat.le_refl _) c1
        have g2 := cellB hb2 (Nat.le_refl _) c2
        have g3 := cellB hb2 (Nat.le_refl _) c3
        have g4 := cellB hb2 (Nat.le_refl _) c4
        have g5 := cellB hb2 (Nat.le_refl _) c5
        have h02 := h0.then hb2
        have HWS := Lib.hid hWs
        have hWl : w.heap.size < W.heap.size := by omega
        have hWb : b < W.heap.size := by omega
        have hWl2 : w.heap.size + 1 < W.heap.size := by omega
        have hne1 : ¬ w.heap.size + 1 = b := by omega
        have hne2 : ¬ b = w.heap.size + 1 := by omega
        have hc1 : ¬ (1 : Nat) < 1 := by omega
        clear hWs c0 c1 c2 c3 c4 c5 hs hat hv0
        go_region_held3 (fun w' => w'.cell? ⟨w.heap.size, 3, none⟩ = some (.slice (some ⟨b, o, none⟩) 1 1) ∧ w'.cell? ⟨b, o, none⟩ = some (.int .i64 k') ∧ w'.cell? ⟨b, o + 1, none⟩ = some (.string s') ∧ w'.cell? ⟨b, o + 2, none⟩ = some (.int .i64 n') ∧
            w'.cell? ⟨b, o + 3, none⟩ = some (.slice A' ys'.length cap') ∧ w'.cell? ⟨b, o + 4, none⟩ = some (.int .i64 l') ∧ w'.cell? ⟨b, o + 5, none⟩ = some (.int .i64 c'))
          (first | go_keep | exact ⟨e3, g0, g1, g2, g3, g4, g5⟩ | exact ⟨k3, m0, m1, m2, m3, m4, m5⟩ )
          ((go_at_call 70; refine (cloneEx_sub w0 [] _ _ hsl h02.drew).mono ?_; rintro e w1 ⟨A1, cap1, xs1, rfl, hown1, hcells1, hb1⟩; have hbW : Below W.heap.size W w1 := ((Below.refl _ _).drew).trans hb1; have k3 := (hbW.cell (p := ⟨w.heap.size, 3, none⟩) hWl).trans e3; have m0 := (hbW.cell (p := ⟨b, o, none⟩) hWb).trans g0; have m1 := (hbW.cell (p := ⟨b, o + 1, none⟩) hWb).trans g1; have m2 := (hbW.cell (p := ⟨b, o + 2, none⟩) hWb).trans g2; have m3 := (hbW.cell (p := ⟨b, o + 3, none⟩) hWb).trans g3; have m4 := (hbW.cell (p := ⟨b, o + 4, none⟩) hWb).trans g4; have m5 := (hbW.cell (p := ⟨b, o + 5, none⟩) hWb).trans g5; obtain ⟨q0, q1, q2, q3, q4, q5, z0, z1, z2, z3, z4, z5⟩ := row6 ((hbW.block _ hWl2).trans f0)))
        go_wp2_with fail
        have hbn : Below w.heap.size w w1 := hb2.thenCall hb2.size hbW
        have hown2 := own_less hown1 (show w.heap.size ≤ W.drew.heap.size from hb2.size)
        refine bodyPost_ret (v := .tuple #[.agg #[.int .i64 k', .string s', .int .i64 n', .slice A' ys'.length cap', .int .i64 l', .int .i64 c'], .slice A1 0 cap1]) (by simp [results, Try.results49, go_sem, q0, q1, q2, q3, q4, q5]) rfl ⟨_, A1, cap1, xs1, rfl, hv', ?_, hcells1, ?_⟩
        · have hlt : w.heap.size + 1 < W.drew.heap.size := hWl2
          exact own_less ((((((ownsRow_setCell_below hown1 (a := ⟨w.heap.size + 1, 0, none⟩) hlt _) |> fun h => ownsRow_setCell_below h (a := ⟨w.heap.size + 1, 1, none⟩) hlt _) |> fun h => ownsRow_setCell_below h (a := ⟨w.heap.size + 1, 2, none⟩) hlt _) |> fun h => ownsRow_setCell_below h (a := ⟨w.heap.size + 1, 3, none⟩) hlt _) |> fun h => ownsRow_setCell_below h (a := ⟨w.heap.size + 1, 4, none⟩) hlt _) |> fun h => ownsRow_setCell_below h (a := ⟨w.heap.size + 1, 5, none⟩) hlt _) hb2.size
        · exact (((((hbn.setCell (Nat.le_succ _) _).setCell (Nat.le_succ _) _).setCell (Nat.le_succ _) _).setCell (Nat.le_succ _) _).setCell (Nat.le_succ _) _).setCell (Nat.le_succ _) _
      have hx1 : (1 : Int) ≤ (r.length : Int) + 1 := by omega
      go_enter Try.func49, Try.ntmps49
      go_wp2_with fail
      have hsl := exSl_tail hd1 hd2 hd3 hs
      rw [if_neg hcap] at hsl
      have hb2 : Below w.heap.size w ((w.alloc (.cells #[.int .i64 4, .string s, .int .i64 n, .slice (some ⟨b, o, none⟩) (r.length + 1) cap, .int .i64 l, .int .i64 c] 26)).alloc (.cells #[.int .i64 0, .string ⟨#[]⟩, .int .i64 0, .slice none 0 0, .int .i64 0, .int .i64 0] 26)) := ((Below.refl _ _).alloc (Nat.le_refl _) _).alloc (by simp) _
      have hW : ∃ W, W = ((w.alloc (.cells #[.int .i64 4, .string s, .int .i64 n, .slice (some ⟨b, o, none⟩) (r.length + 1) cap, .int .i64 l, .int .i64 c] 26)).alloc (.cells #[.int .i64 0, .string ⟨#[]⟩, .int .i64 0, .slice none 0 0, .int .i64 0, .int .i64 0] 26)) := ⟨_, rfl⟩
      obtain ⟨W, hWe⟩ := hW
      have e3 : W.cell? ⟨w.heap.size, 3, none⟩ = some (.slice (some ⟨b, o, none⟩) (r.length + 1) cap) := by rw [hWe]; simp [go_sem]
      have f0 : W.heap[w.heap.size + 1]? = some (.cells #[.int .i64 0, .string ⟨#[]⟩, .int .i64 0, .slice none 0 0, .int .i64 0, .int .i64 0] 26 (0, 0)) := by rw [hWe]; have := heap_alloc_new (w.alloc (.cells #[.int .i64 4, .string s, .int .i64 n, .slice (some ⟨b, o, none⟩) (r.length + 1) cap, .int .i64 l, .int .i64 c] 26)) (.cells #[.int .i64 0, .string ⟨#[]⟩, .int .i64 0, .slice none 0 0, .int .i64 0, .int .i64 0] 26); rw [World.size_alloc] at this; exact this
      have hWs : W.heap.size = w.heap.size + 2 := by rw [hWe]; simp
      rw [← hWe] at hb2 ⊢
      clear hWe
      have g0 := cellB hb2 (Nat.le_refl _) c0
      have g1 := cellB hb2 (Nat.le_refl _) c1
      have g2 := cellB hb2 (Nat.le_refl _) c2
      have g3 := cellB hb2 (Nat.le_refl _) c3
      have g4 := cellB hb2 (Nat.le_refl _) c4
      have g5 := cellB hb2 (Nat.le_refl _) c5
      have h02 := h0.then hb2
      have HWS := Lib.hid hWs
      have hWl : w.heap.size < W.heap.size := by omega
      have hWb : b < W.heap.size := by omega
      have hWl2 : w.heap.size + 1 < W.heap.size := by omega
      have hne1 : ¬ w.heap.size + 1 = b := by omega
      have hne2 : ¬ b = w.heap.size + 1 := by omega
      have hc1 : ¬ cap < r.length + 1 := by omega
      clear hWs c0 c1 c2 c3 c4 c5 hs hat hv0
      go_region_held3 (fun w' => w'.cell? ⟨w.heap.size, 3, none⟩ = some (.slice (some ⟨b, o, none⟩) (r.length + 1) cap) ∧ w'.cell? ⟨b, o, none⟩ = some (.int .i64 k') ∧ w'.cell? ⟨b, o + 1, none⟩ = some (.string s') ∧ w'.cell? ⟨b, o + 2, none⟩ = some (.int .i64 n') ∧
          w'.cell? ⟨b, o + 3, none⟩ = some (.slice A' ys'.length cap') ∧ w'.cell? ⟨b, o + 4, none⟩ = some (.int .i64 l') ∧ w'.cell? ⟨b, o + 5, none⟩ = some (.int .i64 c'))
        (first | go_keep | exact ⟨e3, g0, g1, g2, g3, g4, g5⟩ | exact ⟨k3, m0, m1, m2, m3, m4, m5⟩ )
        ((go_at_call 70; refine (cloneEx_sub w0 r _ _ hsl h02.drew).mono ?_; rintro e w1 ⟨A1, cap1, xs1, rfl, hown1, hcells1, hb1⟩; have hbW : Below W.heap.size W w1 := ((Below.refl _ _).drew).trans hb1; have k3 := (hbW.cell (p := ⟨w.heap.size, 3, none⟩) hWl).trans e3; have m0 := (hbW.cell (p := ⟨b, o, none⟩) hWb).trans g0; have m1 := (hbW.cell (p := ⟨b, o + 1, none⟩) hWb).trans g1; have m2 := (hbW.cell (p := ⟨b, o + 2, none⟩) hWb).trans g2; have m3 := (hbW.cell (p := ⟨b, o + 3, none⟩) hWb).trans g3; have m4 := (hbW.cell (p := ⟨b, o + 4, none⟩) hWb).trans g4; have m5 := (hbW.cell (p := ⟨b, o + 5, none⟩) hWb).trans g5; obtain ⟨q0, q1, q2, q3, q4, q5, z0, z1, z2, z3, z4, z5⟩ := row6 ((hbW.block _ hWl2).trans f0)))
      go_wp2_with fail
      have hbn : Below w.heap.size w w1 := hb2.thenCall hb2.size hbW
      have hown2 := own_less hown1 (show w.heap.size ≤ W.drew.heap.size from hb2.size)
      refine bodyPost_ret (v := .tuple #[.agg #[.int .i64 k', .string s', .int .i64 n', .slice A' ys'.length cap', .int .i64 l', .int .i64 c'], .slice A1 r.length cap1]) (by simp [results, Try.results49, go_sem, q0, q1, q2, q3, q4, q5]) rfl ⟨_, A1, cap1, xs1, rfl, hv', ?_, hcells1, ?_⟩
      · have hlt : w.heap.size + 1 < W.drew.heap.size := hWl2
        exact own_less ((((((ownsRow_setCell_below hown1 (a := ⟨w.heap.size + 1, 0, none⟩) hlt _) |> fun h => ownsRow_setCell_below h (a := ⟨w.heap.size + 1, 1, none⟩) hlt _) |> fun h => ownsRow_setCell_below h (a := ⟨w.heap.size + 1, 2, none⟩) hlt _) |> fun h => ownsRow_setCell_below h (a := ⟨w.heap.size + 1, 3, none⟩) hlt _) |> fun h => ownsRow_setCell_below h (a := ⟨w.heap.size + 1, 4, none⟩) hlt _) |> fun h => ownsRow_setCell_below h (a := ⟨w.heap.size + 1, 5, none⟩) hlt _) hb2.size
      · exact (((((hbn.setCell (Nat.le_succ _) _).setCell (Nat.le_succ _) _).setCell (Nat.le_succ _) _).setCell (Nat.le_succ _) _).setCell (Nat.le_succ _) _).setCell (Nat.le_succ _) _
  · have HH : headS (.mk k s n ys l c) = (.mk k s n ys l c, []) := by simp [headS, hk]
    rw [HH]
    clear HH
    go_enter Try.func49, Try.ntmps49
    go_wp2_with fail
    refine bodyPost_ret (v := .tuple #[.agg #[.int .i64 k, .string s, .int .i64 n, .slice A ys.length cap, .int .i64 l, .int .i64 c], .slice none 0 0]) (by simp [results, Try.results49, go_sem]) rfl ⟨_, none, 0, [], rfl, hv0, World.ownsRow_nil _ _ _ _, by rw [ExCells], ?_⟩
    exact ((Below.refl _ _).alloc (Nat.le_refl _) _).alloc (by simp) _
end Go.Proofs.Ytnaakhnmbckpmaa.Pats
