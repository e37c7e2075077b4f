/- Contracts: finger.place, Get, Len, Picks. -/
import Derived.Test.YtccknhhjkkbadaaPk
namespace Go.Proofs.Ytccknhhjkkbadaa.Fg
open Go.ChangeShapes Go.WideShapes Go.ChangeAt Go.RowKit Go.Proofs.Ytccknhhjkkbadaa.Lift
set_option linter.unusedVariables false
set_option linter.unusedSimpArgs false
theorem place1_any (w : World) (g : Nat) (id : Int) (x : Pk) (h : w.cell? ⟨g, 0, none⟩ = some (.int .i64 id)) :
    Calls Try.prog 116 #[.agg #[.int .i64 x.1, .int .i64 x.2], .pointer (some ⟨g, 0, none⟩)] w fun r w' => r = .returned (.bool (decide (id ≤ x.1))) ∧ Below w.heap.size w w' := by
  have hg := World.block_lt_of_cell? _ _ h
  obtain ⟨a, b⟩ := x
  go_enter Try.func116, Try.ntmps116
  go_wp2_with fail
  go_ret
  exact ⟨rfl, below1 w _⟩
/-- where an id is, or would be. -/
def placeF (l : List Pk) (id : Int) : Nat × Bool := match l.findIdx? (fun x => decide (id ≤ x.1)) with | some i => (i, match l[i]? with | some x => decide (x.1 = id) | none => false) | none => (l.length, false)
theorem placeF_none {l : List Pk} {id : Int} (h : l.findIdx? (fun x => decide (id ≤ x.1)) = none) : placeF l id = (l.length, false) := by simp [placeF, h]
theorem placeF_some {l : List Pk} {id : Int} {i : Nat} (h : l.findIdx? (fun x => decide (id ≤ x.1)) = some i) (hi : i < l.length) : placeF l id = (i, decide (l[i].1 = id)) := by simp [placeF, h, List.getElem?_eq_getElem hi]
set_option maxRecDepth 100000 in
theorem place_any (w0 : World) (l : List Pk) (id : Int) (w : World) (v : Value) (hv : PkSl w0 v l) (h0 : Below w0.heap.size w0 w) :
    Calls Try.prog 98 #[.agg #[v], .int .i64 id] w fun r w' => r = .returned (.tuple #[.int .i64 ((placeF l id).1 : Nat), .bool (placeF l id).2]) ∧ Below w.heap.size w w' := by
  have hv0 := hv
  obtain ⟨A, cap, rfl, h1, h2, h3, h4, h5⟩ := hv
  have hb2 : Below w.heap.size w ((w.alloc (.cells #[.slice A l.length cap] 84)).alloc (.cells #[.int .i64 id] 3)) := ((Below.refl _ _).alloc (Nat.le_refl _) _).alloc (by simp) _
  obtain ⟨W, hW⟩ : ∃ W, W = (w.alloc (.cells #[.slice A l.length cap] 84)).alloc (.cells #[.int .i64 id] 3) := ⟨_, rfl⟩
  have e0 : W.cell? ⟨w.heap.size, 0, none⟩ = some (.slice A l.length cap) := by rw [hW]; simp [go_sem]
  have e1 : W.cell? ⟨w.heap.size + 1, 0, none⟩ = some (.int .i64 id) := by rw [hW]; simp [go_sem]
  have hWs : w.heap.size + 1 < W.heap.size := by rw [hW]; simp
  have hWs0 : w.heap.size < W.heap.size := by omega
  rw [← hW] at hb2
  have hH := Lib.hid (indexFunc116_any (.pointer (some ⟨w.heap.size + 1, 0, none⟩)) (fun x => decide (id ≤ x.1)) W l _ (hv0.below (h0.trans (hb2.mono h0.size)) (Nat.le_refl _))
    (fun w' x hx => place1_any w' _ id x ((hx.cell (p := ⟨w.heap.size + 1, 0, none⟩) hWs).trans e1)) W (Below.refl _ _))
  have HW := Lib.hid hW
  clear hW
  cases hf : l.findIdx? (fun x => decide (id ≤ x.1)) with
  | none =>
    have HP := Lib.hid (placeF_none hf)
    have hi : idxP l (fun x => decide (id ≤ x.1)) = -1 := by simp [idxP, hf]
    rw [hi] at hH
    clear hf hi
    go_enter Try.func98, Try.ntmps98
    go_wp2_with fail
    rw [← HW.out]
    refine hH.out.mono ?_
    rintro e w1 ⟨rfl, hb1⟩
    have g0 := (hb1.cell (p := ⟨w.heap.size, 0, none⟩) hWs0).trans e0
    clear e0 e1
    go_wp2_with fail
    go_ret2
    rw [HP.out]
    exact ⟨rfl, hb2.thenCall hb2.size hb1⟩
  | some i =>
    obtain ⟨hil, _, _⟩ := List.findIdx?_eq_some_iff_getElem.1 hf
    have HP := Lib.hid (placeF_some hf hil)
    have hi : idxP l (fun x => decide (id ≤ x.1)) = i := by simp [idxP, hf]
    rw [hi] at hH
    clear hf hi
    obtain ⟨b, o, rfl, hbl, hc1, hc2⟩ := pk_cell h5 i hil
    have hb02 := h0.thenCall h0.size hb2
    clear h5 hv0
    generalize l[i] = x at *
    go_enter Try.func98, Try.ntmps98
    go_wp2_with fail
    rw [← HW.out]
    refine hH.out.mono ?_
    rintro e w1 ⟨rfl, hb1⟩
    have g0 := (hb1.cell (p := ⟨w.heap.size, 0, none⟩) hWs0).trans e0
    have g1 := (hb1.cell (p := ⟨w.heap.size + 1, 0, none⟩) hWs).trans e1
    have g2 := ((hb02.thenCall hb02.size hb1).cell (p := ⟨b, o + i * 2, none⟩) hbl).trans hc1
    have hx1 : (0 : Int) ≤ i := by omega
    have hx2 : (i : Int) < l.length := by omega
    clear e0 e1 hc1 hc2 h0
    go_wp2_with fail
    go_quiet (fail)
    go_wp2_with fail
    go_ret2
    rw [HP.out]
    refine ⟨?_, ?_⟩
    · rw [show (x.1 == id) = decide (x.1 = id) from by rw [Bool.eq_iff_iff]; simp]
      rfl
    · have := hb2.thenCall hb2.size hb1
      repeat (first | exact this | apply below_drewN)
/-- what was picked of an id. -/
def getF (l : List Pk) (id : Int) : Int × Bool := match l.findIdx? (fun x => decide (id ≤ x.1)) with | some i => (match l[i]? with | some x => if x.1 = id then (x.2, true) else (0, false) | none => (0, false)) | none => (0, false)
theorem getF_place (l : List Pk) (id : Int) : ((placeF l id).2 = false ∧ getF l id = (0, false)) ∨ ((placeF l id).2 = true ∧ ∃ h : (placeF l id).1 < l.length, getF l id = ((l[(placeF l id).1]).2, true)) := by
  unfold placeF getF
  cases hf : l.findIdx? (fun x => decide (id ≤ x.1)) with
  | none => exact .inl ⟨rfl, rfl⟩
  | some i =>
    obtain ⟨hil, _, _⟩ := List.findIdx?_eq_some_iff_getElem.1 hf
    simp only [List.getElem?_eq_getElem hil]
    by_cases h : l[i].1 = id
    · exact .inr ⟨by simp [h], hil, by simp [h]⟩
    · exact .inl ⟨by simp [h], by simp [h]⟩
set_option maxRecDepth 100000 in
theorem get_any (w0 : World) (l : List Pk) (id : Int) (w : World) (v : Value) (hv : PkSl w0 v l) (h0 : Below w0.heap.size w0 w) :
    Calls Try.prog 51 #[.agg #[v], .int .i64 id] w fun r w' => r = .returned (.tuple #[.int .i64 (getF l id).1, .bool (getF l id).2]) ∧ Below w.heap.size w w' := by
  have HP := fun o => Lib.hid (place_any w0 l id (w.alloc o) v hv (h0.alloc h0.size o))
  have hg := getF_place l id
  obtain ⟨A, cap, rfl, h1, h2, h3, h4, h5⟩ := hv
  generalize placeF l id = q at *
  obtain ⟨n, b⟩ := q
  dsimp only at hg HP
  rcases hg with ⟨rfl, hg⟩ | ⟨rfl, hn, hg⟩
  · have HG := Lib.hid hg
    clear hg
    go_enter Try.func51, Try.ntmps51
    go_wp2_with (go_at_call 98; refine (HP _).out.mono ?_; rintro e w1 ⟨rfl, hb1⟩)
    go_ret2
    rw [HG.out]
    exact ⟨rfl, Below.call1 hb1⟩
  · have HG := Lib.hid hg
    obtain ⟨b, o, rfl, hbl, hc1, hc2⟩ := pk_cell h5 n hn
    clear hg h5
    generalize l[n] = x at *
    go_enter Try.func51, Try.ntmps51
    go_wp2_with fail
    refine (HP _).out.mono ?_
    rintro e w1 ⟨rfl, hb1⟩
    have hbc := bcell hb1
    have hb2 := Below.call1 hb1
    have g2 := ((h0.thenCall h0.size hb2).cell (p := ⟨b, o + n * 2 + 1, none⟩) hbl).trans hc2
    have hx1 : (0 : Int) ≤ n := by omega
    have hx2 : (n : Int) < l.length := by omega
    have hz : w.heap.size < w1.heap.size := by have := hb1.size; simp only [World.size_alloc] at this; omega
    clear hc1 hc2 h0
    go_wp2_with fail
    all_goals (try (go_quiet (fail)))
    all_goals (try (go_wp2_with fail))
    go_ret2
    rw [HG.out]
    refine ⟨rfl, ?_⟩
    repeat (first | exact hb2 | apply below_drewN)
theorem len_any (w : World) (A : Option Addr) (n cap : Nat) : Calls Try.prog 59 #[.agg #[.slice A n cap]] w fun r w' => r = .returned (.int .i64 n) ∧ Below w.heap.size w w' := by
  go_enter Try.func59, Try.ntmps59
  go_wp2_with fail
  go_ret
  exact ⟨rfl, below1 w _⟩
theorem info95 : (Try.prog.info? 95).map (fun i => (i.zero, i.size, i.bytes)) = some (some (.agg #[.int .i64 0, .int .i64 0]), 2, 16) := by kernel_rfl
set_option maxRecDepth 100000 in
theorem clone_any (w : World) (v : Value) (l : List Pk) (hv : PkSl w v l) :
    Calls Try.prog 100 #[v] w fun r w' => ∃ v', r = .returned v' ∧ PkOwn w' w.heap.size v' l ∧ Below w.heap.size w w' := by
  obtain ⟨A, cap, rfl, h1, h2, h3, h4, h5⟩ := hv
  cases A with
  | none =>
    have hc := h4 rfl
    subst hc
    obtain rfl : l = [] := List.eq_nil_of_length_eq_zero (by omega)
    have he := fun (w : World) => Lib.run_eql_slice_nil (P := Try.prog) w 80 95 none 0 0 0 0 Try.underlying80
    go_enter Try.func100, Try.ntmps100
    go_wp2_with fail
    go_ret
    exact ⟨_, rfl, World.ownsRow_nil _ _ _ _, Below.refl _ _⟩
  | some a =>
    have he := fun (w : World) => Lib.run_eql_slice_nil (P := Try.prog) w 80 95 (some a) l.length cap 0 0 Try.underlying80
    obtain ⟨i0, hi, hz0, hz1, hz2⟩ := info_parts info95
    have hone := pkCells_one l
    have hb1 : Below w.heap.size w (w.alloc (.cells #[] 95)) := (Below.refl _ _).alloc (Nat.le_refl _) _
    have hown := own_new w 95 2 0 #[] rfl (by omega)
    have hs1 := h5.below hb1 (Nat.le_refl _)
    have hcap : some a = none → cap = 0 := fun h => by cases h
    have hg1 : 0 + l.length ≤ maxLen := by unfold maxLen; omega
    have hg2 : (0 + l.length) * 16 ≤ 140737488355328 := by omega
    clear h4 h5
    go_enter Try.func100, Try.ntmps100
    go_wp2_with (at_builtin; refine wpList_append_src rfl (.tmp 5) (.tmp 6) 80 rfl w.heap.size 95 i0 _ 2 16 Try.underlying80 hi hz0 hz1 hz2 rfl (by omega) _ 0 [] rfl hown (some a) l.length cap _ rfl hs1 hcap hone hg1 hg2 hb1.size ?_; intro v2 w2 hown2 hg2)
    go_ret
    have hb2 := below_grown hown hg2 hb1.size
    rw [Nat.zero_add] at hown2
    exact ⟨_, rfl, by simpa [PkOwn] using hown2, hb1.trans hb2⟩
theorem picks_any (w0 : World) (w : World) (v : Value) (l : List Pk) (hv : PkSl w0 v l) (h0 : Below w0.heap.size w0 w) :
    Calls Try.prog 54 #[.agg #[v]] w fun r w' => ∃ v', r = .returned v' ∧ PkOwn w' w.heap.size v' l ∧ Below w.heap.size w w' := by
  have HC := fun o => Lib.hid (clone_any (w.alloc o) v l (hv.below (h0.alloc h0.size o) (Nat.le_refl _)))
  obtain ⟨A, cap, rfl, h1, h2, h3, h4, h5⟩ := hv
  go_enter Try.func54, Try.ntmps54
  go_wp2_with (go_at_call 100; refine (HC _).out.mono ?_; rintro e w1 ⟨v1, rfl, ho, hb1⟩)
  go_ret
  exact ⟨_, rfl, own_less ho (by simp), Below.call1 hb1⟩
end Go.Proofs.Ytccknhhjkkbadaa.Fg
