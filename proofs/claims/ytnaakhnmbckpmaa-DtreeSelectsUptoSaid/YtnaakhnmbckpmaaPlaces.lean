/- Contracts: pats.places and pats.Places. -/
import Derived.Test.YtnaakhnmbckpmaaPths
import Derived.Test.YtnaakhnmbckpmaaOver
namespace Go.Proofs.Ytnaakhnmbckpmaa.Pats
open Go.ChangeShapes Go.WideShapes Go.ChangeAt Go.RowKit Go.Proofs.Ytnaakhnmbckpmaa.Lift Go.Proofs.Ytnaakhnmbckpmaa.Data Go.Proofs.Ytnaakhnmbckpmaa.Refs
set_option linter.unusedVariables false
set_option linter.unusedSimpArgs false
theorem sub_below {w0 w1 : World} {S : Nat → Bool} (hb : Below w0.heap.size w0 w1) : Sub (part w0 S) (part w1 S) := sub_part fun b hbl hs => ⟨hs, hb.block b hbl⟩
theorem sub_grown {w w' : World} {v v' : Value} (hg : w.grownBy w' v.ownBlock) (hf : Fresh w v v') : Sub (part w (frm 0 v.ownBlock)) (part w' (frm 0 v'.ownBlock)) :=
  sub_step (Below.refl _ _) hg hf fun b _ hs => frm_iff.1 hs
theorem fresh_after {w w' : World} {v v' : Value} (h : Fresh w' v v') (hs : w.heap.size ≤ w'.heap.size) : Fresh w v v' := (Fresh.refl w v).trans h hs
def PlacesRes (B : Nat) (olds : List (List Int)) (ps : List Ex) (path : List Int) (out : Value) (w : World) (e : Ending) (w' : World) : Prop :=
  ∃ v' xs', e = .returned v' ∧ w'.ownsRow B 58 1 v' (olds ++ placesS ps path 0).length xs' ∧ PCells (part w' (frm 0 v'.ownBlock)) (olds ++ placesS ps path 0) xs' ∧ w.grownBy w' out.ownBlock ∧ Fresh w out v'
def PlacesRel (B : Nat) (olds : List (List Int)) (ps : List Ex) (path : List Int) (out : Value) (w : World) (t i : Value) (wr : World) : Prop :=
  ∃ (j : Nat) (xs' : List Value), i = .int .i64 j ∧ j ≤ ps.length ∧ wr.ownsRow B 58 1 t (olds ++ placesS (ps.take j) path 0).length xs' ∧ PCells (part wr (frm 0 t.ownBlock)) (olds ++ placesS (ps.take j) path 0) xs' ∧ w.grownBy wr out.ownBlock ∧ Fresh w out t
set_option maxRecDepth 100000 in
set_option maxHeartbeats 4000000 in
theorem places_any (N : Nat) : ∀ (B : Nat) (olds : List (List Int)) (ps : List Ex) (path : List Int) (w : World) (out v u : Value) (xs : List Value), ExSize ps < N → olds.length + ExSize ps ≤ 1048576 → path.length + ExSize ps ≤ 1048576 → B ≤ w.heap.size →
    w.ownsRow B 58 1 out olds.length xs → PCells (part w (frm 0 out.ownBlock)) olds xs → Ex.Sl (part w (frm 0 out.ownBlock)) v ps → IS (part w (frm 0 out.ownBlock)) u path →
    Calls Try.prog 59 #[out, v, u] w (PlacesRes B olds ps path out w) := by
  induction N with
  | zero =>
    intro B olds ps path w out v u xs hN
    omega
  | succ N ih =>
    intro B olds ps path w out v u xs hN hx hpl hB hown0 hcells0 hv hu
    obtain ⟨A, cap, rfl, ⟨hd1, hd2, hd3, hd4⟩, hs⟩ := hv
    obtain ⟨i0, hi, hz0, hz1, hz2⟩ := info_parts info3
    obtain ⟨i1, hi1, hy0, hy1, hy2⟩ := info_parts info58
    have HU := Lib.hid hu
    obtain ⟨A9, cap9, rfl, _⟩ := hu
    go_enter Try.func59, Try.ntmps59
    go_wp2_with fail
    go_loopw [0, 14] (fun t i wr => PlacesRel B olds ps path out w t i wr) (fun _ i _ => ps.length - (intOf i).toNat)
    case atStart => exact ⟨0, xs, rfl, Nat.zero_le _, by simpa [placesS] using hown0, by simpa [placesS] using hcells0, grown_refl _ _, Fresh.refl _ _⟩
    case round =>
      obtain ⟨j, xs1, rfl, hj, hown, hcells, hgr, hfr⟩ := hrel
      by_cases hlt : j < ps.length
      · have hsub0 := sub_grown hgr hfr
        have HS := ExSize_take hlt
        have hle2 := ExSize_take_le (ys := ps) (j := j + 1)
        have hle3 := placesS_le (ps.take j) path 0
        have HT := Lib.hid (placesS_take hlt path)
        obtain ⟨b, o, rfl, hat⟩ := (hs.sub hsub0).get j hlt
        have hlen := ExSize_len ps
        have hP := HU.out.sub hsub0
        generalize ps[j] = y at *
        have hNargs := headS_lt y
        have HPD := Lib.hid (placeS_def y)
        generalize placesS (ps.take j) path 0 = pj at *
        have hlen3 : (olds ++ pj).length + y.size ≤ 1048576 := by rw [List.length_append]; omega
        generalize hacc : olds ++ pj = acc at *
        have HA := Lib.hid hacc
        clear hacc
        cases y with
        | mk k' s' n' ys' l' c' =>
        obtain ⟨A', cap', c0, c1, c2, c3, c4, c5, hv'⟩ := Ex.At.boths hat (sub_part_of _ _)
        have hsz1 := Ex.size_mk k' s' n' ys' l' c'
        clear hat hs hcells0 hown0
        have hbw := fun k h => own_block_lt hown (k := k) h
        have HC := fun o => Lib.hid (cloneInt_any (wr.alloc o) _ path (hP.sub ((sub_part_of wr _).alloc o)))
        have hg1 : path.length + 1 ≤ maxLen := by unfold maxLen; omega
        have hg2 : (path.length + 1) * 8 ≤ 140737488355328 := by omega
        have hg3 : acc.length + 1 ≤ maxLen := by unfold maxLen; omega
        have hg4 : (acc.length + 1) * 24 ≤ 140737488355328 := by omega
        have hBr : B ≤ wr.heap.size := Nat.le_trans hB hgr.size
        by_cases hk : k' = 1
        · subst hk
          have HP1 : ∀ here, placeS (.mk 1 s' n' ys' l' c') here = [here] := fun here => by rw [HPD.out]; simp [Ex.k]
          have HP := Lib.hid HP1
          clear HPD HP1
          go_wp2_with (first | (go_at_call 75; refine ((HC _).out).mono ?_; rintro e w1 ⟨v1, rfl, hown1, hb1⟩; obtain ⟨A1, cap1, rfl, hA11, hA12⟩ := own_form hown1; have hbw1 : Below wr.heap.size wr w1 := Below.call1 hb1; have hown1p := fun o2 => own_below hown1 ((Below.refl _ _).alloc (Nat.le_refl w1.heap.size) o2) (Nat.le_refl _); have hsrc1 := fun cs h => Src.of_own (own_new w1 3 1 1 cs h (by omega)); have hbase := fun o2 => Nat.le_trans hb1.size ((Below.refl w1.heap.size w1).alloc (Nat.le_refl _) o2).size; have hf8 : w1.heap[wr.heap.size]? = some (.cells #[.int .i64 1, .string s', .int .i64 n', .slice A' ys'.length cap', .int .i64 l', .int .i64 c'] 26 (0, 0)) := (hb1.block _ (by simp)).trans (heap_alloc_new wr _)) | (at_builtin; refine wpList_append_src rfl (.tmp 20) (.tmp 22) 58 rfl _ 3 i0 _ 1 8 Try.underlying58 hi hz0 hz1 hz2 rfl (by omega) (.slice A1 path.length cap1) path.length (path.map (Value.int .i64)) rfl (hown1p _) (some ⟨w1.heap.size, 0, none⟩) 1 1 [.int .i64 j] rfl (hsrc1 #[.int .i64 j] rfl) (fun h => by cases h) (by simp [Value.oneCell']) hg1 hg2 (hbase _) ?_; intro v2 w2 hown2 hgr2; have hb2 := below_grown (hown1p _) hgr2 (hbase _); have hbz : Below wr.heap.size wr w2 := (hbw1.alloc hbw1.size _).trans (hb2.mono (by simp)); have hf9 : w2.heap[wr.heap.size]? = some (.cells #[.int .i64 1, .string s', .int .i64 n', .slice A' ys'.length cap', .int .i64 l', .int .i64 c'] 26 (0, 0)) := (hb2.block _ (by simp)).trans ((heap_alloc_old w1 _ (Array.getElem?_eq_some_iff.1 hf8).1).trans hf8); obtain ⟨q0, q1, q2, q3, q4, q5, z0, z1, z2, z3, z4, z5⟩ := row6 hf9; obtain ⟨A2, cap2, rfl, hA1, hA2⟩ := own_form hown2; have hH : w2.ownsRow (wr.alloc (.cells #[.int .i64 1, .string s', .int .i64 n', .slice A' ys'.length cap', .int .i64 l', .int .i64 c'] 26)).heap.size 3 1 (.slice A2 (path.length + 1) cap2) (path ++ [(j : Int)]).length ((path ++ [(j : Int)]).map (Value.int .i64)) := by simpa using hown2) | (at_builtin; refine wpList_append_where rfl (.tmp 27) (.tmp 29) 56 rfl B 58 i1 _ 1 24 Try.underlying56 hi1 hy0 hy1 hy2 rfl (by omega) u0 acc.length xs1 rfl (own_below hown (hbz.alloc hbz.size _) (Nat.le_refl _)) (some ⟨w2.heap.size, 0, none⟩) 1 1 [.slice A2 (path.length + 1) cap2] rfl (Src.of_own (own_new w2 58 1 1 #[.slice A2 (path.length + 1) cap2] rfl (by omega))) (fun h => by cases h) (by simp [Value.oneCell']) hg3 hg4 (Nat.le_trans hBr (hbz.alloc hbz.size _).size) ?_; intro v3 w3 hown3 hgr3 hf3))
          have hbz2 := fun o => hbz.alloc hbz.size o
          have hgr4 := grown_trans hgr (grown_after (hbz2 _) hgr3) hfr
          have hfr4 := hfr.trans (fresh_after hf3 (hbz2 _).size) hgr.size
          refine ⟨⟨j + 1, _, by go_num, by omega, by rw [HT.out, HP.out, ← List.append_assoc, HA.out, List.length_append]; exact hown3, ?_, hgr4, hfr4⟩, by simp [intOf]; omega⟩
          rw [HT.out, HP.out, ← List.append_assoc, HA.out]
          refine (hcells.sub (sub_step (hbz2 _) hgr3 hf3 fun b _ hs => frm_iff.1 hs)).append (PCells.single ?_)
          have hI := IS_part (S := frm (wr.alloc (.cells #[.int .i64 1, .string s', .int .i64 n', .slice A' ys'.length cap', .int .i64 l', .int .i64 c'] 26)).heap.size none) hH (by simp; omega) (fun k hk => frm_iff.2 ⟨hk, by simp⟩)
          refine hI.sub (sub_step ((Below.refl _ _).alloc (Nat.le_refl _) _) hgr3 hf3 fun b hbl hs => ⟨Nat.zero_le _, fun e => ?_⟩)
          have h1 := (frm_iff.1 hs).1
          have h2 := (hbw _ e).2
          simp only [World.size_alloc] at h1
          omega
        · have HP1 : ∀ here, placeS (.mk k' s' n' ys' l' c') here = placesS (headS (.mk k' s' n' ys' l' c')).2 here 0 := fun here => by rw [HPD.out]; simp [Ex.k, hk]
          have HP := Lib.hid HP1
          clear HPD HP1
          have hkb : (k' == 1) = false := by simp [hk]
          clear hk
          go_wp2_with (first | (go_at_call 75; refine ((HC _).out).mono ?_; rintro e w1 ⟨v1, rfl, hown1, hb1⟩; obtain ⟨A1, cap1, rfl, hA11, hA12⟩ := own_form hown1; have hbw1 : Below wr.heap.size wr w1 := Below.call1 hb1; have hown1p := fun o2 => own_below hown1 ((Below.refl _ _).alloc (Nat.le_refl w1.heap.size) o2) (Nat.le_refl _); have hsrc1 := fun cs h => Src.of_own (own_new w1 3 1 1 cs h (by omega)); have hbase := fun o2 => Nat.le_trans hb1.size ((Below.refl w1.heap.size w1).alloc (Nat.le_refl _) o2).size; have hf8 : w1.heap[wr.heap.size]? = some (.cells #[.int .i64 k', .string s', .int .i64 n', .slice A' ys'.length cap', .int .i64 l', .int .i64 c'] 26 (0, 0)) := (hb1.block _ (by simp)).trans (heap_alloc_new wr _)) | (at_builtin; refine wpList_append_src rfl (.tmp 20) (.tmp 22) 58 rfl _ 3 i0 _ 1 8 Try.underlying58 hi hz0 hz1 hz2 rfl (by omega) (.slice A1 path.length cap1) path.length (path.map (Value.int .i64)) rfl (hown1p _) (some ⟨w1.heap.size, 0, none⟩) 1 1 [.int .i64 j] rfl (hsrc1 #[.int .i64 j] rfl) (fun h => by cases h) (by simp [Value.oneCell']) hg1 hg2 (hbase _) ?_; intro v2 w2 hown2 hgr2; have hb2 := below_grown (hown1p _) hgr2 (hbase _); have hbz : Below wr.heap.size wr w2 := (hbw1.alloc hbw1.size _).trans (hb2.mono (by simp)); have hf9 : w2.heap[wr.heap.size]? = some (.cells #[.int .i64 k', .string s', .int .i64 n', .slice A' ys'.length cap', .int .i64 l', .int .i64 c'] 26 (0, 0)) := (hb2.block _ (by simp)).trans ((heap_alloc_old w1 _ (Array.getElem?_eq_some_iff.1 hf8).1).trans hf8); obtain ⟨q0, q1, q2, q3, q4, q5, z0, z1, z2, z3, z4, z5⟩ := row6 hf9; obtain ⟨A2, cap2, rfl, hA1, hA2⟩ := own_form hown2; have hH : w2.ownsRow (wr.alloc (.cells #[.int .i64 k', .string s', .int .i64 n', .slice A' ys'.length cap', .int .i64 l', .int .i64 c'] 26)).heap.size 3 1 (.slice A2 (path.length + 1) cap2) (path ++ [(j : Int)]).length ((path ++ [(j : Int)]).map (Value.int .i64)) := by simpa using hown2) | fail)
          refine (head_sub (part wr (frm 0 u0.ownBlock)) _ w2 _ hv' ((sub_part_of wr _).then hbz)).mono ?_
          generalize headS (.mk k' s' n' ys' l' c') = hq at *
          obtain ⟨⟨k2, s2, n2, ys2, l2, c2'⟩, args⟩ := hq
          simp only at HP hNargs ⊢
          rintro e w3 ⟨v3, A3, cap3, xs3, rfl, hv3, hown3, hcells3, hb3⟩
          obtain ⟨A5, cap5, rfl, hd5, hs5⟩ := hv3
          have hbw3 : Below wr.heap.size wr w3 := hbz.thenCall hbz.size hb3
          have hal := ExSize_len args
          have hslA : ∀ o, Ex.Sl (part (w3.alloc o) (frm 0 u0.ownBlock)) (.slice A3 args.length cap3) args := fun o => by
            obtain ⟨_, _, e4, hf4, hf5⟩ := own_form hown3
            injection e4 with _ _ e4
            subst e4
            exact ⟨A3, cap3, rfl, ⟨hf4, hf5, by omega, own_cap hown3⟩, (Exs.of_src (src_part hown3 (fun k hk => frm_iff.2 ⟨Nat.zero_le _, fun e => by have := (hbw _ e).2; have := hbz.size; omega⟩)) (hcells3.sub (sub_below hbw3))).sub (sub_below ((Below.refl _ _).alloc (Nat.le_refl _) o))⟩
          have hisA : ∀ o, IS (part (w3.alloc o) (frm 0 u0.ownBlock)) (.slice A2 (path.length + 1) cap2) (path ++ [(j : Int)]) := fun o =>
            (IS_part hH (by simp; omega) (fun k hk => frm_iff.2 ⟨Nat.zero_le _, fun e => by have := (hbw _ e).2; simp only [World.size_alloc] at hk; omega⟩)).sub (sub_below (hb3.alloc hb3.size o))
          have HI := fun o => Lib.hid (ih B acc args (path ++ [(j : Int)]) (w3.alloc o) u0 (.slice A3 args.length cap3) (.slice A2 (path.length + 1) cap2) xs1 (by omega) (by omega) (by simp; omega) (Nat.le_trans hBr (hbw3.alloc hbw3.size o).size) (own_below hown (hbw3.alloc hbw3.size o) (Nat.le_refl _)) (hcells.sub (sub_below (hbw3.alloc hbw3.size o))) (hslA o) (hisA o))
          clear ih hslA hisA hcells3 hH
          go_wp2_with fail
          refine ((HI _).out).mono ?_
          rintro e w6 ⟨v6, xs6, rfl, hown6, hcells6, hgr6, hf6⟩
          go_wp2_with fail
          have hbz2 := fun o => hbw3.alloc hbw3.size o
          have hgr4 := grown_trans hgr (grown_after (hbz2 _) hgr6) hfr
          have hfr4 := hfr.trans (fresh_after hf6 (hbz2 _).size) hgr.size
          refine ⟨⟨j + 1, _, by go_num, by omega, by rw [HT.out, HP.out, ← List.append_assoc, HA.out]; exact hown6, ?_, hgr4, hfr4⟩, by simp [intOf]; omega⟩
          rw [HT.out, HP.out, ← List.append_assoc, HA.out]
          exact hcells6
      · go_wp2_with fail
        go_ret
        obtain rfl : j = ps.length := by omega
        rw [List.take_of_length_le (Nat.le_refl _)] at hcells hown
        exact ⟨_, _, rfl, hown, hcells, hgr, hfr⟩
theorem sub_whole (w : World) : Sub w (part w (frm 0 none)) := by
  intro b o v h
  rw [part_cell, if_pos (frm_iff.2 ⟨Nat.zero_le _, by simp⟩)]
  exact h
theorem below_grown_none {w w' : World} (h : w.grownBy w' none) : Below w.heap.size w w' := ⟨h.os, h.tape, h.output, h.size, fun k hk => h.block k hk (by simp)⟩
theorem placesTop_any (we : World) (ps : List Ex) (w : World) (v : Value) (hx : ExSize ps ≤ 1048576) (hv : Ex.Sl we v ps) (h0 : Below we.heap.size we w) :
    Calls Try.prog 31 #[v] w fun e w' => ∃ v', e = .returned v' ∧ PS w' v' (placesS ps [] 0) ∧ Below w.heap.size w w' := by
  have HP := Lib.hid (places_any (ExSize ps + 1) w.heap.size [] ps [] w (.slice none 0 0) v (.slice none 0 0) [] (by omega) (by simp; omega) (by simp; omega) (Nat.le_refl _) (World.ownsRow_nil _ _ _ _) (by rw [PCells]) ((hv.below h0 (Nat.le_refl _)).sub (sub_whole w)) (IS.nil _))
  have hl := placesS_le ps [] 0
  obtain ⟨A, cap, rfl, hd, hs⟩ := hv
  go_enter Try.func31, Try.ntmps31
  go_wp2_with fail
  refine HP.out.mono ?_
  rintro e w1 ⟨v1, xs1, rfl, hown1, hcells1, hgr1, hf1⟩
  rw [List.nil_append] at hown1 hcells1
  go_wp2_with fail
  go_ret
  exact ⟨v1, rfl, PS.of_own rfl hown1 (hcells1.sub (sub_part_of _ _)) (by omega), below_grown_none hgr1⟩
end Go.Proofs.Ytnaakhnmbckpmaa.Pats
