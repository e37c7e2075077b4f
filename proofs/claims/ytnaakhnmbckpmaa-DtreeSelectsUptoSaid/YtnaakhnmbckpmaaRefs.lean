/- Contracts: the references' lists of an expression, or a term, and what is in it. -/
import Derived.Test.YtnaakhnmbckpmaaTm
namespace Go.Proofs.Ytnaakhnmbckpmaa.Refs
open Go.ChangeShapes Go.WideShapes Go.ChangeAt Go.RowKit Go.Proofs.Ytnaakhnmbckpmaa.Lift Go.Proofs.Ytnaakhnmbckpmaa.Data
set_option linter.unusedVariables false
set_option linter.unusedSimpArgs false
theorem info26 : (Try.prog.info? 26).map (fun i => (i.zero, i.size, i.bytes)) = some (some (.agg #[.int .i64 0, .string ⟨#[]⟩, .int .i64 0, .slice none 0 0, .int .i64 0, .int .i64 0]), 6, 72) := by kernel_rfl
/-- a new slice of these. -/
def NewEx (w0 : World) (B : Nat) (es : List Ex) (w : World) (e : Ending) (w' : World) : Prop :=
  ∃ A cap xs, e = .returned (.slice A es.length cap) ∧ w'.ownsRow B 26 6 (.slice A es.length cap) es.length xs ∧ ExCells w0 es xs ∧ Below B w w'
def FlatExRel (w0 : World) (B : Nat) (e : Ex) (ys : List Ex) (w : World) (t i : Value) (wr : World) : Prop :=
  ∃ (j : Nat) (xs : List Value), i = .int .i64 j ∧ j ≤ ys.length ∧ wr.ownsRow B 26 6 t (e :: ExFlats (ys.take j)).length xs ∧ ExCells w0 (e :: ExFlats (ys.take j)) xs ∧ Below B w wr
set_option maxRecDepth 100000 in
theorem flatEx_any (N : Nat) (w0 : World) : ∀ (e : Ex) (w : World) (v : Value), e.size ≤ N → e.size ≤ 1048576 → e.Val w0 v → Below w0.heap.size w0 w →
    Calls Try.prog 47 #[v] w (NewEx w0 w.heap.size e.flat w) := by
  induction N with
  | zero => intro e w v h; cases e; rw [Ex.size] at h; omega
  | succ N ih =>
    intro e w v hN hB hv h0
    cases e with
    | mk k s n ys l c =>
    obtain ⟨A, cap, rfl, ⟨hd1, hd2, hd3, hd4⟩, hs⟩ := hv
    rw [Ex.size_mk] at hN hB
    rw [Ex.flat]
    have hlen := ExSize_len ys
    obtain ⟨i0, hi, hz0, hz1, hz2⟩ := info_parts info26
    have hcs : (Ex.mk k s n ys l c).Cs w0 [.int .i64 k, .string s, .int .i64 n, .slice A ys.length cap, .int .i64 l, .int .i64 c] := ⟨A, cap, rfl, ⟨hd1, hd2, hd3, hd4⟩, hs⟩
    go_enter Try.func47, Try.ntmps47
    go_wp2_with fail
    go_loopw [3, 11] (fun t i wr => FlatExRel w0 w.heap.size (Ex.mk k s n ys l c) ys w t i wr) (fun _ i _ => ys.length - (intOf i).toNat)
    case atStart =>
      have hb0 : Below w.heap.size w ((w.alloc (.cells #[.int .i64 k, .string s, .int .i64 n, .slice A ys.length cap, .int .i64 l, .int .i64 c] 26)).alloc (.cells #[.int .i64 k, .string s, .int .i64 n, .slice A ys.length cap, .int .i64 l, .int .i64 c] 26)) := ((Below.refl _ _).alloc (Nat.le_refl _) _).alloc (by simp) _
      exact ⟨0, _, rfl, Nat.zero_le _, own_new2 _ _ 26 6 1 _ rfl (by omega), ExCells.single hcs, hb0⟩
    case round =>
      obtain ⟨j, xs, rfl, hj, hown, hcells, hb⟩ := hrel
      by_cases hlt : j < ys.length
      · obtain ⟨b, o, rfl, hat⟩ := hs.get j hlt
        have hsz := ExSize_get hlt
        have hb0 := h0.trans (hb.mono h0.size)
        have HT := Lib.hid (ExFlats_take hlt)
        have HS := ExSize_take hlt
        have hle2 := ExSize_take_le (ys := ys) (j := j + 1)
        have hf1 := ExFlats_len (ys.take j)
        generalize ys[j] = y at *
        cases y with
        | mk k' s' n' ys' l' c' =>
        obtain ⟨A', cap', c0, c1, c2, c3, c4, c5, hv'⟩ := Ex.At.both hat hb0 (Nat.le_refl _)
        clear hat hs hcs
        have HC := Lib.hid (fun o => ih _ (wr.alloc o) _ (Nat.le_trans hsz (Nat.le_of_succ_le_succ hN)) (by omega) hv' (hb0.alloc hb0.size o))
        have hf2 := Ex.flat_len (Ex.mk k' s' n' ys' l' c')
        have hL : (Ex.mk k s n ys l c :: ExFlats (ys.take j)).length = 1 + ExSize (ys.take j) := by rw [List.length_cons, hf1]; omega
        have hg4 : (Ex.mk k s n ys l c :: ExFlats (ys.take j)).length + (Ex.mk k' s' n' ys' l' c').flat.length ≤ maxLen := by unfold maxLen; omega
        have hg5 : ((Ex.mk k s n ys l c :: ExFlats (ys.take j)).length + (Ex.mk k' s' n' ys' l' c').flat.length) * 72 ≤ 140737488355328 := by omega
        clear hf1 hf2 hL HS
        generalize (Ex.mk k' s' n' ys' l' c').flat = fs at *
        generalize hE : (Ex.mk k s n ys l c :: ExFlats (ys.take j)) = es at *
        have HE := Lib.hid hE
        clear hE
        go_wp2_with (first | (go_at_call 47; refine (HC.out _).mono ?_; rintro e w1 ⟨A1, cap1, xs1, rfl, hown1, hcells1, hb1⟩; have hbc := Below.call1 hb1; have hbn := hb.thenCall hb.size hbc; have hown' := own_below hown hbc (Nat.le_refl _); have hsrc := Src.of_own hown1; have hcp := own_cap hown1; have hone1 := hcells1.one; clear hown1 hb1) | (at_builtin; refine wpList_append_src rfl (.tmp 15) (.tmp 17) 22 rfl w.heap.size 26 i0 _ 6 72 Try.underlying22 hi hz0 hz1 hz2 rfl (by omega) u3 es.length xs rfl hown' A1 fs.length cap1 xs1 rfl hsrc hcp hone1 hg4 hg5 hbn.size ?_; intro v2 w2 hown2 hg2))
        have hb2 := below_grown hown' hg2 hbn.size
        refine ⟨⟨j + 1, xs ++ xs1, by go_num, by omega, ?_, ?_, hbn.trans hb2⟩, by simp [intOf]; omega⟩
        · rw [HT.out, ← List.cons_append, HE.out, List.length_append]; exact hown2
        · rw [HT.out, ← List.cons_append, HE.out]; exact hcells.append hcells1
      · go_wp2_with fail
        go_ret
        obtain ⟨A1, cap1, rfl, _, _⟩ := own_form hown
        rw [List.take_of_length_le (by omega)] at hown hcells ⊢
        exact ⟨A1, cap1, xs, rfl, hown, hcells, hb⟩

theorem info29 : (Try.prog.info? 29).map (fun i => (i.zero, i.size, i.bytes)) = some (some (.agg #[.int .i64 0, .string ⟨#[]⟩, .int .i64 0, .slice none 0 0]), 4, 56) := by kernel_rfl
/-- a new slice of these. -/
def NewTm (w0 : World) (B : Nat) (es : List Tm) (w : World) (e : Ending) (w' : World) : Prop :=
  ∃ A cap xs, e = .returned (.slice A es.length cap) ∧ w'.ownsRow B 29 4 (.slice A es.length cap) es.length xs ∧ TmCells w0 es xs ∧ Below B w w'
def FlatTmRel (w0 : World) (B : Nat) (e : Tm) (ys : List Tm) (w : World) (t i : Value) (wr : World) : Prop :=
  ∃ (j : Nat) (xs : List Value), i = .int .i64 j ∧ j ≤ ys.length ∧ wr.ownsRow B 29 4 t (e :: TmFlats (ys.take j)).length xs ∧ TmCells w0 (e :: TmFlats (ys.take j)) xs ∧ Below B w wr
set_option maxRecDepth 100000 in
theorem flatTm_any (N : Nat) (w0 : World) : ∀ (e : Tm) (w : World) (v : Value), e.size ≤ N → e.size ≤ 1048576 → e.Val w0 v → Below w0.heap.size w0 w →
    Calls Try.prog 48 #[v] w (NewTm w0 w.heap.size e.flat w) := by
  induction N with
  | zero => intro e w v h; cases e; rw [Tm.size] at h; omega
  | succ N ih =>
    intro e w v hN hB hv h0
    cases e with
    | mk k s n ys  =>
    obtain ⟨A, cap, rfl, ⟨hd1, hd2, hd3, hd4⟩, hs⟩ := hv
    rw [Tm.size_mk] at hN hB
    rw [Tm.flat]
    have hlen := TmSize_len ys
    obtain ⟨i0, hi, hz0, hz1, hz2⟩ := info_parts info29
    have hcs : (Tm.mk k s n ys ).Cs w0 [.int .i64 k, .string s, .int .i64 n, .slice A ys.length cap] := ⟨A, cap, rfl, ⟨hd1, hd2, hd3, hd4⟩, hs⟩
    go_enter Try.func48, Try.ntmps48
    go_wp2_with fail
    go_loopw [3, 11] (fun t i wr => FlatTmRel w0 w.heap.size (Tm.mk k s n ys ) ys w t i wr) (fun _ i _ => ys.length - (intOf i).toNat)
    case atStart =>
      have hb0 : Below w.heap.size w ((w.alloc (.cells #[.int .i64 k, .string s, .int .i64 n, .slice A ys.length cap] 29)).alloc (.cells #[.int .i64 k, .string s, .int .i64 n, .slice A ys.length cap] 29)) := ((Below.refl _ _).alloc (Nat.le_refl _) _).alloc (by simp) _
      exact ⟨0, _, rfl, Nat.zero_le _, own_new2 _ _ 29 4 1 _ rfl (by omega), TmCells.single hcs, hb0⟩
    case round =>
      obtain ⟨j, xs, rfl, hj, hown, hcells, hb⟩ := hrel
      by_cases hlt : j < ys.length
      · obtain ⟨b, o, rfl, hat⟩ := hs.get j hlt
        have hsz := TmSize_get hlt
        have hb0 := h0.trans (hb.mono h0.size)
        have HT := Lib.hid (TmFlats_take hlt)
        have HS := TmSize_take hlt
        have hle2 := TmSize_take_le (ys := ys) (j := j + 1)
        have hf1 := TmFlats_len (ys.take j)
        generalize ys[j] = y at *
        cases y with
        | mk k' s' n' ys'  =>
        obtain ⟨A', cap', c0, c1, c2, c3, hv'⟩ := Tm.At.both hat hb0 (Nat.le_refl _)
        clear hat hs hcs
        have HC := Lib.hid (fun o => ih _ (wr.alloc o) _ (Nat.le_trans hsz (Nat.le_of_succ_le_succ hN)) (by omega) hv' (hb0.alloc hb0.size o))
        have hf2 := Tm.flat_len (Tm.mk k' s' n' ys' )
        have hL : (Tm.mk k s n ys  :: TmFlats (ys.take j)).length = 1 + TmSize (ys.take j) := by rw [List.length_cons, hf1]; omega
        have hg4 : (Tm.mk k s n ys  :: TmFlats (ys.take j)).length + (Tm.mk k' s' n' ys' ).flat.length ≤ maxLen := by unfold maxLen; omega
        have hg5 : ((Tm.mk k s n ys  :: TmFlats (ys.take j)).length + (Tm.mk k' s' n' ys' ).flat.length) * 56 ≤ 140737488355328 := by omega
        clear hf1 hf2 hL HS
        generalize (Tm.mk k' s' n' ys' ).flat = fs at *
        generalize hE : (Tm.mk k s n ys  :: TmFlats (ys.take j)) = es at *
        have HE := Lib.hid hE
        clear hE
        go_wp2_with (first | (go_at_call 48; refine (HC.out _).mono ?_; rintro e w1 ⟨A1, cap1, xs1, rfl, hown1, hcells1, hb1⟩; have hbc := Below.call1 hb1; have hbn := hb.thenCall hb.size hbc; have hown' := own_below hown hbc (Nat.le_refl _); have hsrc := Src.of_own hown1; have hcp := own_cap hown1; have hone1 := hcells1.one; clear hown1 hb1) | (at_builtin; refine wpList_append_src rfl (.tmp 15) (.tmp 17) 27 rfl w.heap.size 29 i0 _ 4 56 Try.underlying27 hi hz0 hz1 hz2 rfl (by omega) u3 es.length xs rfl hown' A1 fs.length cap1 xs1 rfl hsrc hcp hone1 hg4 hg5 hbn.size ?_; intro v2 w2 hown2 hg2))
        have hb2 := below_grown hown' hg2 hbn.size
        refine ⟨⟨j + 1, xs ++ xs1, by go_num, by omega, ?_, ?_, hbn.trans hb2⟩, by simp [intOf]; omega⟩
        · rw [HT.out, ← List.cons_append, HE.out, List.length_append]; exact hown2
        · rw [HT.out, ← List.cons_append, HE.out]; exact hcells.append hcells1
      · go_wp2_with fail
        go_ret
        obtain ⟨A1, cap1, rfl, _, _⟩ := own_form hown
        rw [List.take_of_length_le (by omega)] at hown hcells ⊢
        exact ⟨A1, cap1, xs, rfl, hown, hcells, hb⟩

end Go.Proofs.Ytnaakhnmbckpmaa.Refs
