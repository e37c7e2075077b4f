/- Contracts: finger.With, finger.Of. -/
import Derived.Test.YtccknhhjkkbadaaIns
namespace Go.Proofs.Ytccknhhjkkbadaa.Fg
open Go.ChangeShapes Go.WideShapes Go.ChangeAt Go.RowKit Go.Proofs.Ytccknhhjkkbadaa.Lift
set_option linter.unusedVariables false
set_option linter.unusedSimpArgs false
/-- one more pick. -/
def withF (l : List Pk) (id a : Int) : List Pk := if (placeF l id).2 then l else insAt l (placeF l id).1 (id, a)
theorem placeF_le (l : List Pk) (id : Int) : (placeF l id).1 ≤ l.length := by
  unfold placeF
  cases hf : l.findIdx? (fun x => decide (id ≤ x.1)) with
  | none => exact Nat.le_refl _
  | some i =>
    obtain ⟨hil, _, _⟩ := List.findIdx?_eq_some_iff_getElem.1 hf
    exact Nat.le_of_lt hil
theorem withF_len (l : List Pk) (id a : Int) : (withF l id a).length ≤ l.length + 1 := by
  unfold withF
  split
  · omega
  · rw [insAt_len _ _ _ (placeF_le l id)]; omega
/-- a finger of its own. -/
def NewFg (l : List Pk) (w : World) (e : Ending) (w' : World) : Prop := ∃ v, e = .returned (.agg #[v]) ∧ PkSl w' v l ∧ Below w.heap.size w w'
theorem pk_set {w : World} {g : Nat} {u v u' : Value} {l : List Pk} (h : PkSl w v l) (hg : w.heap[g]? = some (.cells #[u] 84 (0, 0))) (hu : ∀ n, u ≠ .int .i64 n) : PkSl (w.setCell ⟨g, 0, none⟩ u') v l := by
  obtain ⟨A, cap, rfl, h1, h2, h3, h4, h5⟩ := h
  refine ⟨A, cap, rfl, h1, h2, h3, h4, h5.1, ?_⟩
  rcases h5.2 with h0 | ⟨b, o, e, hc⟩
  · exact .inl h0
  · refine .inr ⟨b, o, e, fun j x hj => ?_⟩
    have hcj := hc j x hj
    have hne : b ≠ g := by
      rintro rfl
      simp only [World.cell?, hg] at hcj
      have hx : ∃ n, x = .int .i64 n := by
        have : ∀ (l : List Pk), x ∈ pkCells l → ∃ n, x = .int .i64 n := by
          intro l
          induction l with
          | nil => intro h; simp [pkCells] at h
          | cons p r ih =>
            intro h
            simp only [pkCells, List.mem_cons] at h
            rcases h with rfl | rfl | h
            · exact ⟨_, rfl⟩
            · exact ⟨_, rfl⟩
            · exact ih h
        exact this l (List.mem_of_getElem? hj)
      obtain ⟨n, rfl⟩ := hx
      match hq : o + j, hcj with
      | 0, hcj =>
        simp at hcj
        exact hu n hcj
      | q + 1, hcj =>
        simp at hcj
    exact (World.cell?_of_block (a := ⟨b, o + j, none⟩) (Below.heap_setCell _ _ _ _ hne)).trans hcj
theorem box2 (w : World) (o : Obj) (c : Array Value) : ((w.alloc o).alloc (.cells c 84)).heap[w.heap.size + 1]? = some (.cells c 84 (0, 0)) := by
  have h := heap_alloc_new (w.alloc o) (.cells c 84)
  rw [World.size_alloc] at h
  exact h
set_option maxRecDepth 100000 in
set_option maxHeartbeats 1000000 in
theorem with_any (w0 : World) (l : List Pk) (id a : Int) (w : World) (v : Value) (hv : PkSl w0 v l) (h0 : Below w0.heap.size w0 w) (hm : l.length + 1 ≤ 4194304) :
    Calls Try.prog 53 #[.agg #[v], .int .i64 id, .int .i64 a] w (NewFg (withF l id a) w) := by
  have hv0 := hv
  have hple := placeF_le l id
  have hb2 : ∀ o o', Below w.heap.size w ((w.alloc o).alloc o') := fun o o' => ((Below.refl _ _).alloc (Nat.le_refl _) _).alloc (by simp) _
  have HP := fun o o' => Lib.hid (place_any w0 l id ((w.alloc o).alloc o') v hv (h0.trans ((hb2 o o').mono h0.size)))
  have HW : Hid (withF l id a = if (placeF l id).2 then l else insAt l (placeF l id).1 (id, a)) := Lib.hid rfl
  generalize placeF l id = q at *
  obtain ⟨i, is⟩ := q
  dsimp only at *
  obtain ⟨A, cap, rfl, _⟩ := hv
  cases is with
  | true =>
    go_enter Try.func53, Try.ntmps53
    go_wp2_with fail
    refine (HP _ _).out.mono ?_
    rintro e w1 ⟨rfl, hb1⟩
    have hc := bcell hb1
    have hf := bfrozen hb1
    have hz := hb1.size
    simp only [World.size_alloc] at hz
    have hz1 : w.heap.size < w1.heap.size := by omega
    have hz2 : w.heap.size + 1 < w1.heap.size := by omega
    have hr := (hb1.block (w.heap.size + 1) (by simp)).trans (box2 w _ _)
    have q0 : w1.cell? ⟨w.heap.size + 1, 0, none⟩ = some (.slice none 0 0) := by simp [World.cell?, hr]
    have q1 : w1.frozen? ⟨w.heap.size + 1, 0, none⟩ = false := by simp [World.frozen?, hr]
    have hbw1 := (hb2 _ _).trans (hb1.mono (hb2 _ _).size)
    have h01 := h0.thenCall h0.size hbw1
    go_wp2_with fail
    refine bodyPost_ret (v := .agg #[.slice A l.length cap]) (by simp [results, Try.results53, go_sem, q0]) rfl ⟨_, rfl, ?_, hbw1.setCell (Nat.le_succ _) _⟩
    rw [HW.out]
    exact pk_set (hv0.below h01 (Nat.le_refl _)) hr (fun n h => by cases h)
  | false =>
    go_enter Try.func53, Try.ntmps53
    go_wp2_with fail
    refine (HP _ _).out.mono ?_
    rintro e w1 ⟨rfl, hb1⟩
    have hc := bcell hb1
    have hf := bfrozen hb1
    have hz := hb1.size
    simp only [World.size_alloc] at hz
    have hz1 : w.heap.size < w1.heap.size := by omega
    have hz2 : w.heap.size + 1 < w1.heap.size := by omega
    have hbw1 := (hb2 _ _).trans (hb1.mono (hb2 _ _).size)
    have h01 := h0.thenCall h0.size hbw1
    go_wp2_with fail
    refine (clone_any w1 _ l (hv0.below h01 (Nat.le_refl _))).mono ?_
    rintro e w2 ⟨v2, rfl, ho2, hq2⟩
    have hr := (hb1.block (w.heap.size + 1) (by simp)).trans (box2 w _ _)
    have hx := heap_alloc_new w2 (.cells #[.int .i64 id, .int .i64 a] 95)
    have HI := Lib.hid (insert_any (w2.alloc (.cells #[.int .i64 id, .int .i64 a] 95)) w1.heap.size v2 l i (id, a) w2.heap.size hple (ho2.alloc _) hx (fun e => by have := (own_block_lt ho2 e).2; omega) hm (by have := hq2.size; simp; omega))
    go_wp2_with (go_at_call 99; refine HI.out.mono ?_; rintro e w3 ⟨v3, rfl, ho3, hq3⟩; have hb13 := (hq2.alloc hq2.size (.cells #[.int .i64 id, .int .i64 a] 95)).trans hq3; have hr3 := (hb13.block _ hz2).trans hr; have q0 : w3.cell? ⟨w.heap.size + 1, 0, none⟩ = some (.slice none 0 0) := (by simp [World.cell?, hr3]); have q1 : w3.frozen? ⟨w.heap.size + 1, 0, none⟩ = false := (by simp [World.frozen?, hr3]); have hz3 : w.heap.size + 1 < w3.heap.size := Nat.lt_of_lt_of_le hz2 hb13.size; obtain ⟨A3, cap3, rfl, _, _⟩ := own_form ho3)
    have hlen : (insAt l i (id, a)).length ≤ 4194304 := by rw [insAt_len _ _ _ hple]; exact hm
    refine bodyPost_ret (v := .agg #[.slice A3 (insAt l i (id, a)).length cap3]) (by simp [results, Try.results53, go_sem, q0]) rfl ⟨_, rfl, ?_, (hbw1.thenCall hbw1.size hb13).setCell (Nat.le_succ _) _⟩
    rw [HW.out]
    have ho4 : PkOwn (w3.setCell ⟨w.heap.size + 1, 0, none⟩ (.slice A3 (insAt l i (id, a)).length cap3)) w1.heap.size (.slice A3 (insAt l i (id, a)).length cap3) (insAt l i (id, a)) := ownsRow_setCell_below ho3 (a := ⟨w.heap.size + 1, 0, none⟩) hz2 _
    exact ho4.sl hlen
/-- the picks of a row, one by one. -/
def ofF (l : List Pk) : List Pk := l.foldl (fun f p => withF f p.1 p.2) []
theorem ofF_take {l : List Pk} {k : Nat} (h : k < l.length) : ofF (l.take (k + 1)) = withF (ofF (l.take k)) l[k].1 l[k].2 := by
  rw [ofF, List.take_succ_eq_append_getElem h, List.foldl_append]
  rfl
theorem fold_len (l : List Pk) (acc : List Pk) : (l.foldl (fun f p => withF f p.1 p.2) acc).length ≤ acc.length + l.length := by
  induction l generalizing acc with
  | nil => simp
  | cons p r ih =>
    rw [List.foldl_cons]
    have h1 := ih (withF acc p.1 p.2)
    have h2 := withF_len acc p.1 p.2
    simp only [List.length_cons]
    omega
theorem ofF_len (l : List Pk) : (ofF l).length ≤ l.length := by
  have := fold_len l []
  simpa [ofF] using this
set_option maxRecDepth 100000 in
set_option maxHeartbeats 2000000 in
theorem of_any (w0 : World) (l : List Pk) (w : World) (v : Value) (hv : PkSl w0 v l) (h0 : Below w0.heap.size w0 w) (hm : l.length + 1 ≤ 4194304) : Calls Try.prog 49 #[v] w (NewFg (ofF l) w) := by
  obtain ⟨A, cap, rfl, a1, a2, a3, a4, a5⟩ := hv
  go_enter Try.func49, Try.ntmps49
  go_wp2_with fail
  go_loopw [8] (fun i wr => ∃ (k : Nat) (B : Option Addr) (n c : Nat), i = .int .i64 k ∧ k ≤ l.length ∧ wr.heap[w.heap.size + 1]? = some (.cells #[.slice B n c] 84 (0, 0)) ∧ wr.heap[w.heap.size]? = some (.cells #[.slice none 0 0] 84 (0, 0)) ∧ PkSl wr (.slice B n c) (ofF (l.take k)) ∧ Below w.heap.size w wr) (fun i _ => l.length - (intOf i).toNat)
  case atStart =>
    refine ⟨0, none, 0, 0, rfl, Nat.zero_le _, box2 w _ _, ?_, PkSl.nil _, ((Below.refl _ _).alloc (Nat.le_refl _) _).alloc (by simp) _⟩
    rw [Below.heap_alloc _ _ _ (by simp)]
    exact heap_alloc_new w _
  case round =>
    obtain ⟨k, B, n, c, rfl, hk, hx, hx0, hs, hb⟩ := hrel
    have hz1 : w.heap.size + 1 < wr.heap.size := (Array.getElem?_eq_some_iff.1 hx).1
    have hz0 : w.heap.size < wr.heap.size := by omega
    have q0 : wr.cell? ⟨w.heap.size + 1, 0, none⟩ = some (.slice B n c) := by simp [World.cell?, hx]
    by_cases hlt : k < l.length
    · obtain ⟨b, o, rfl, hbl, c1, c2⟩ := pk_cell a5 k hlt
      have hb0 := h0.trans (hb.mono h0.size)
      have x1 := (hb0.cell (p := ⟨b, o + k * 2, none⟩) hbl).trans c1
      have x2 := (hb0.cell (p := ⟨b, o + k * 2 + 1, none⟩) hbl).trans c2
      have hlen := ofF_len (l.take k)
      have hlen2 : (l.take k).length ≤ k := List.length_take_le _ _
      have HT := Lib.hid (ofF_take hlt)
      have hbr : b < wr.heap.size := Nat.lt_of_lt_of_le hbl hb0.size
      generalize l[k] = y at *
      have HWi := fun o' => Lib.hid (with_any wr (ofF (l.take k)) y.1 y.2 (wr.alloc o') _ hs (below1 wr o') (by omega))
      clear a5 c1 c2 hb0 h0
      go_wp2_with (go_at_call 53; refine (HWi _).out.mono ?_; rintro e w1 ⟨v1, rfl, hs1, hb1⟩; have hb1c := Below.call1 hb1; have hx1 := (hb1c.block _ hz1).trans hx; have hx2 := (hb1c.block _ hz0).trans hx0; have q1 : w1.cell? ⟨w.heap.size + 1, 0, none⟩ = some (.slice B n c) := (by simp [World.cell?, hx1]); have q2 : w1.frozen? ⟨w.heap.size + 1, 0, none⟩ = false := (by simp [World.frozen?, hx1]); have hz2 : w.heap.size + 1 < w1.heap.size := Nat.lt_of_lt_of_le hz1 hb1c.size; have hs1' := hs1; obtain ⟨B1, c1, rfl, _⟩ := hs1')
      refine ⟨⟨k + 1, B1, (withF (ofF (l.take k)) y.1 y.2).length, c1, by go_num, by omega, ?_, ?_, ?_, (hb.thenCall hb.size hb1c).setCell (Nat.le_succ _) _⟩, by simp [intOf]; omega⟩
      · simp [World.setCell, Array.getElem?_modify, hx1]
      · rw [Below.heap_setCell _ _ _ _ (by simp)]; exact hx2
      · rw [HT.out]; exact pk_set hs1 hx1 (fun n h => by cases h)
    · have q3 : wr.cell? ⟨w.heap.size, 0, none⟩ = some (.slice none 0 0) := by simp [World.cell?, hx0]
      have q4 : wr.frozen? ⟨w.heap.size, 0, none⟩ = false := by simp [World.frozen?, hx0]
      rw [List.take_of_length_le (by omega)] at hs
      go_wp2_with fail
      refine bodyPost_ret (v := .agg #[.slice B n c]) (by simp [results, Try.results49, go_sem, q3]) rfl ⟨_, rfl, pk_set hs hx0 (fun n h => by cases h), hb.setCell (Nat.le_refl _) _⟩
end Go.Proofs.Ytccknhhjkkbadaa.Fg
