/- Contracts: pats.terms and pats.Term. -/
import Derived.Test.YtnaakhnmbckpmaaPart
import Derived.Test.YtnaakhnmbckpmaaOver
namespace Go.Proofs.Ytnaakhnmbckpmaa.Pats
open Go.ChangeShapes Go.WideShapes Go.ChangeAt Go.RowKit Go.Proofs.Ytnaakhnmbckpmaa.Lift Go.Proofs.Ytnaakhnmbckpmaa.Data Go.Proofs.Ytnaakhnmbckpmaa.Refs
set_option linter.unusedVariables false
set_option linter.unusedSimpArgs false
def TermsRes (ps : List Ex) (x : Nat) (w : World) (e : Ending) (w' : World) : Prop :=
  ∃ A cap xs, e = .returned (.tuple #[.slice A ps.length cap, .int .i64 ((termsS ps x).2 : Nat)]) ∧ w'.ownsRow w.heap.size 29 4 (.slice A ps.length cap) ps.length xs ∧
    TmCells (part w' (frm w.heap.size (Value.ownBlock (.slice A ps.length cap)))) (termsS ps x).1 xs ∧ Below w.heap.size w w'
def TermsRel (ps : List Ex) (x : Nat) (w : World) (n t i : Value) (wr : World) : Prop :=
  ∃ (j : Nat) (xs : List Value), i = .int .i64 j ∧ j ≤ ps.length ∧ n = .int .i64 ((termsS (ps.take j) x).2 : Nat) ∧ wr.ownsRow w.heap.size 29 4 t j xs ∧
    TmCells (part wr (frm w.heap.size t.ownBlock)) (termsS (ps.take j) x).1 xs ∧ Below w.heap.size w wr
theorem hSfrm {w : World} {B b : Nat} {t : Value} {r : Option Nat} (hr : t.ownBlock = r) : b < w.heap.size → frm B r b = true → B ≤ b ∧ t.ownBlock ≠ some b := by
  subst hr
  intro _ h
  exact frm_iff.1 h
theorem tmCs_leaf' (w : World) (k : Int) (s : ByteArray) (n : Int) : (Tm.mk k s n []).Cs w [.int .i64 k, .string s, .int .i64 n, .slice none 0 0] :=
  ⟨none, 0, rfl, ⟨Nat.le_refl _, by omega, by simp, fun _ => rfl⟩, .inl rfl⟩
theorem row4f {w : World} {g : Nat} {t : TypeId} {v0 v1 v2 v3 : Value} (h : w.heap[g]? = some (.cells #[v0, v1, v2, v3] t (0, 0))) :
    w.cell? ⟨g, 0, none⟩ = some v0 ∧ w.cell? ⟨g, 1, none⟩ = some v1 ∧ w.cell? ⟨g, 2, none⟩ = some v2 ∧ w.cell? ⟨g, 3, none⟩ = some v3 ∧
    w.frozen? ⟨g, 0, none⟩ = false ∧ w.frozen? ⟨g, 1, none⟩ = false ∧ w.frozen? ⟨g, 2, none⟩ = false ∧ w.frozen? ⟨g, 3, none⟩ = false := by
  refine ⟨?_, ?_, ?_, ?_, ?_, ?_, ?_, ?_⟩ <;> simp [World.cell?, World.frozen?, h]
theorem headS_len (e : Ex) : (headS e).2.length ≤ e.size := by
  have := ExSize_len (headS e).2
  have := headS_lt e
  omega
set_option maxRecDepth 100000 in
set_option maxHeartbeats 4000000 in
theorem terms_any (N : Nat) : ∀ (we : World) (ps : List Ex) (x : Nat) (w : World) (v : Value), ExSize ps < N → x + ExSize ps ≤ 1048576 → Ex.Sl we v ps → Below we.heap.size we w →
    Calls Try.prog 58 #[v, .int .i64 x] w (TermsRes ps x w) := by
  induction N with
  | zero =>
    intro we ps x w v hN
    omega
  | succ N ih =>
    intro we ps x w v hN hx hv h0
    obtain ⟨A, cap, rfl, ⟨hd1, hd2, hd3, hd4⟩, hs⟩ := hv
    obtain ⟨i0, hi, hz0, hz1, hz2⟩ := info_parts info29
    go_enter Try.func58, Try.ntmps58
    go_wp2_with fail
    go_loopw [1, 6, 14] (fun n t i wr => TermsRel ps x w n t i wr) (fun _ _ i _ => ps.length - (intOf i).toNat)
    case atStart => exact ⟨0, [], rfl, Nat.zero_le _, rfl, World.ownsRow_nil _ _ _ _, by simp [termsS, TmCells], Below.refl _ _⟩
    case round =>
      obtain ⟨j, xs, rfl, hj, rfl, hown, hcells, hb⟩ := hrel
      by_cases hlt : j < ps.length
      · obtain ⟨b, o, rfl, hat⟩ := hs.get j hlt
        have hsz := ExSize_get hlt
        have hb0 := h0.trans (hb.mono h0.size)
        have HT := Lib.hid (termsS_take hlt x)
        have HS := ExSize_take hlt
        have hle2 := ExSize_take_le (ys := ps) (j := j + 1)
        have hle3 := termsS_le (ps.take j) x
        have hlen := ExSize_len ps
        generalize ps[j] = y at *
        have hTD := termS_def y
        have hNargs := headS_lt y
        have hnx : (termsS (ps.take j) x).2 + y.size ≤ 1048576 := by omega
        generalize hq : termsS (ps.take j) x = q at *
        obtain ⟨done, nx⟩ := q
        simp only at HT hnx hle3 hcells ⊢
        clear hq
        have hbound : j + 1 ≤ maxLen := by unfold maxLen; omega
        have hbytes : (j + 1) * 56 ≤ 140737488355328 := by omega
        have hyl := headS_len y
        cases y with
        | mk k' s' n' ys' l' c' =>
        obtain ⟨A', cap', c0, c1, c2, c3, c4, c5, hv'⟩ := Ex.At.both hat hb0 (Nat.le_refl _)
        clear hat hs
        have HH := fun o => Lib.hid (head_any we _ (wr.alloc o) _ hv' (hb0.alloc hb0.size o))
        simp only [Ex.k, Ex.n, demB] at hTD
        have HTD := Lib.hid (hTD nx)
        clear hTD
        generalize headS (.mk k' s' n' ys' l' c') = hq at *
        obtain ⟨⟨k2, s2, n2, ys2, l2, c2'⟩, args⟩ := hq
        simp only at HH HTD hNargs hyl
        simp only [Ex.s] at HTD
        rw [Ex.size_mk] at hsz hnx
        have hwl : w.heap.size ≤ wr.heap.size := hb.size
        by_cases hk3 : k' = 3
        · subst hk3
          have HTD2 : Hid (termS (.mk 3 s' n' ys' l' c') nx = (.mk 2 ⟨#[]⟩ n' [], nx)) := Lib.hid (by rw [HTD.out]; simp)
          clear HTD
          go_wp2_with fail
          refine ((HH _).out).mono ?_
          rintro e w1 ⟨v1, A1, cap1, xs1, rfl, hv1, hown1, hcells1, hb1⟩
          obtain ⟨A3, cap3, rfl, hd3', hs3⟩ := hv1
          have hc1 := bcell hb1
          have hz5 := hb1.size
          simp only [World.size_alloc] at hz5
          have hz6 : wr.heap.size < w1.heap.size := by omega
          have hbw1 : Below wr.heap.size wr w1 := Below.call1 hb1
          have hown' := fun o1 o2 => own_below hown (hbw1.thenCall hbw1.size (below2 w1 o1 o2)) (Nat.le_refl _)
          have hsrc := fun o1 cs h => Src.of_own (own_new2 w1 o1 29 4 1 cs h (by omega))
          have hbz := fun o1 o2 => hbw1.thenCall hbw1.size (below2 w1 o1 o2)
          go_wp2_with (at_builtin; refine wpList_append_where rfl (.tmp 34) (.tmp 38) 27 rfl w.heap.size 29 i0 _ 4 56 Try.underlying27 hi hz0 hz1 hz2 rfl (by omega) u6 j xs rfl (hown' _ _) (some ⟨w1.heap.size + 1, 0, none⟩) 1 1 [.int .i64 2, .string ⟨#[]⟩, .int .i64 n', .slice none 0 0] rfl (hsrc _ #[.int .i64 2, .string ⟨#[]⟩, .int .i64 n', .slice none 0 0] rfl) (fun h => by cases h) (by simp [Value.oneCell']) hbound hbytes (Nat.le_trans hwl (hbz _ _).size) ?_; intro v2 w2 hown2 hg2 hf2)
          have hb2 := below_grown (hown' _ _) hg2 (Nat.le_trans hwl (hbz _ _).size)
          refine ⟨⟨j + 1, _, by go_num, by omega, by rw [HT.out, HTD2.out], hown2, ?_, (hb.thenCall hb.size (hbz _ _)).trans hb2⟩, by simp [intOf]; omega⟩
          rw [HT.out, HTD2.out]
          exact (hcells.sub (sub_step (hbz _ _) hg2 hf2 (fun b => hSfrm rfl))).append (TmCells.single (tmCs_leaf' _ _ _ _))
        have b3 : (k' == 3) = false := by simp [hk3]
        by_cases hk24 : ¬ (k' = 2 ∨ k' = 4)
        · have hdem : demB (.mk k' s' n' ys' l' c') = false := by simp [demB, Ex.k]; omega
          have HTD2 : Hid (termS (.mk k' s' n' ys' l' c') nx = (.mk 3 ⟨#[]⟩ nx [], nx + 1)) := Lib.hid (by rw [HTD.out]; simp; rw [if_neg hk3, if_neg (by omega)])
          clear HTD
          have hnx2 : nx + 1 ≤ 1048577 := by omega
          clear hk3 hk24
          go_wp2_with fail
          refine ((HH _).out).mono ?_
          rintro e w1 ⟨v1, A1, cap1, xs1, rfl, hv1, hown1, hcells1, hb1⟩
          obtain ⟨A3, cap3, rfl, hd3', hs3⟩ := hv1
          have hc1 := bcell hb1
          have hz5 := hb1.size
          simp only [World.size_alloc] at hz5
          have hz6 : wr.heap.size < w1.heap.size := by omega
          have hbw1 : Below wr.heap.size wr w1 := Below.call1 hb1
          have HD := fun o => Lib.hid (demands_any we (.mk k' s' n' ys' l' c') (w1.alloc o) _ hv')
          go_wp2_with fail
          refine ((HD _).out).mono ?_
          rintro e w2 ⟨rfl, hb2⟩
          have hc2 := bcell hb2
          have hz7 := hb2.size
          simp only [World.size_alloc] at hz7
          have hz8 : wr.heap.size < w2.heap.size := by omega
          have hz9 : w1.heap.size < w2.heap.size := by omega
          have hbw2 : Below wr.heap.size wr w2 := hbw1.thenCall hbw1.size (Below.call1 hb2)
          rw [hdem]
          have hown' := fun o2 => own_below hown (hbw2.alloc hbw2.size o2) (Nat.le_refl _)
          have hsrc := fun cs h => Src.of_own (own_new w2 29 4 1 cs h (by omega))
          have hbz := fun o2 => hbw2.alloc hbw2.size o2
          go_wp2_with (at_builtin; refine wpList_append_where rfl (.tmp 23) (.tmp 26) 27 rfl w.heap.size 29 i0 _ 4 56 Try.underlying27 hi hz0 hz1 hz2 rfl (by omega) u6 j xs rfl (hown' _) (some ⟨w2.heap.size, 0, none⟩) 1 1 [.int .i64 3, .string ⟨#[]⟩, .int .i64 nx, .slice none 0 0] rfl (hsrc #[.int .i64 3, .string ⟨#[]⟩, .int .i64 nx, .slice none 0 0] rfl) (fun h => by cases h) (by simp [Value.oneCell']) hbound hbytes (Nat.le_trans hwl (hbz _).size) ?_; intro v2 w3 hown2 hg2 hf2)
          have hb3 := below_grown (hown' _) hg2 (Nat.le_trans hwl (hbz _).size)
          refine ⟨⟨j + 1, _, by go_num, by omega, by rw [HT.out, HTD2.out]; go_num, hown2, ?_, (hb.thenCall hb.size (hbz _)).trans hb3⟩, by simp [intOf]; omega⟩
          rw [HT.out, HTD2.out]
          exact (hcells.sub (sub_step (hbz _) hg2 hf2 (fun b => hSfrm rfl))).append (TmCells.single (tmCs_leaf' _ _ _ _))
        · have hdem : demB (.mk k' s' n' ys' l' c') = true := by simp [demB, Ex.k]; omega
          have HTD2 : Hid (termS (.mk k' s' n' ys' l' c') nx = (.mk 1 s2 0 (termsS args nx).1, (termsS args nx).2)) := Lib.hid (by rw [HTD.out]; simp; rw [if_neg hk3, if_pos (by omega)])
          clear HTD
          clear hk3 hk24
          go_wp2_with fail
          refine ((HH _).out).mono ?_
          rintro e w1 ⟨v1, A1, cap1, xs1, rfl, hv1, hown1, hcells1, hb1⟩
          obtain ⟨A3, cap3, rfl, hd3', hs3⟩ := hv1
          have hc1 := bcell hb1
          have hz5 := hb1.size
          simp only [World.size_alloc] at hz5
          have hz6 : wr.heap.size < w1.heap.size := by omega
          have hbw1 : Below wr.heap.size wr w1 := Below.call1 hb1
          have HD := fun o => Lib.hid (demands_any we (.mk k' s' n' ys' l' c') (w1.alloc o) _ hv')
          go_wp2_with fail
          refine ((HD _).out).mono ?_
          rintro e w2 ⟨rfl, hb2⟩
          have hc2 := bcell hb2
          have hz7 := hb2.size
          simp only [World.size_alloc] at hz7
          have hz8 : wr.heap.size < w2.heap.size := by omega
          have hz9 : w1.heap.size < w2.heap.size := by omega
          have hbw2 : Below wr.heap.size wr w2 := hbw1.thenCall hbw1.size (Below.call1 hb2)
          rw [hdem]
          have hsl3 : Ex.Sl w2 (.slice A1 args.length cap1) args := (Ex.Sl.of_own hown1 (hcells1.below (hb0.trans (hbw1.mono hb0.size)) (Nat.le_refl _)) (by omega)).below (Below.call1 hb2) (Nat.le_refl _)
          have HI := fun o => Lib.hid (ih w2 args nx (w2.alloc o) _ (by omega) (by omega) hsl3 ((Below.refl _ _).alloc (Nat.le_refl _) o))
          go_wp2_with fail
          refine ((HI _).out).mono ?_
          rintro e w3 ⟨A4, cap4, xs4, rfl, hown4, hcells4, hb4⟩
          have hm4 : (termsS args nx).1.length = args.length := termsS_len _ _
          have hb4c := Below.call1 hb4
          have hbw3 : Below wr.heap.size wr w3 := hbw2.thenCall hbw2.size hb4c
          have hf0 : w3.heap[w2.heap.size]? = some (.cells #[.int .i64 1, .string s2, .int .i64 0, .slice none 0 0] 29 (0, 0)) := (hb4.block _ (by simp)).trans (heap_alloc_new w2 _)
          obtain ⟨q0, q1, q2, q3, z0, z1, z2, z3⟩ := row4f hf0
          have hle4 : wr.heap.size ≤ w2.heap.size := hbw2.size
          have hss : ∀ u, (w3.setCell ⟨w2.heap.size, 3, none⟩ u).heap.size = w3.heap.size := fun u => by simp [World.setCell]
          have hbz : ∀ u o2, Below wr.heap.size wr ((w3.setCell ⟨w2.heap.size, 3, none⟩ u).alloc o2) := fun u o2 => (hbw3.setCell hle4 u).alloc (by rw [hss]; exact hbw3.size) o2
          have hown' := fun u o2 => own_below hown (hbz u o2) (Nat.le_refl _)
          have hsrc : ∀ u cs, cs.size = 1 * 4 → Src ((w3.setCell ⟨w2.heap.size, 3, none⟩ u).alloc (.cells cs 29)) 4 (some ⟨w3.heap.size, 0, none⟩) 1 cs.toList := fun u cs h => by
            have h1 := own_new (w3.setCell ⟨w2.heap.size, 3, none⟩ u) 29 4 1 cs h (by omega)
            rw [hss] at h1
            exact Src.of_own h1
          have HSS := Lib.hid hss
          have hz10 : w2.heap.size < w3.heap.size := by have := hb4.size; simp only [World.size_alloc] at this; omega
          clear hss hf0
          go_wp2_with (at_builtin; refine wpList_append_where rfl (.tmp 53) (.tmp 55) 27 rfl w.heap.size 29 i0 _ 4 56 Try.underlying27 hi hz0 hz1 hz2 rfl (by omega) u6 j xs rfl (hown' _ _) (some ⟨w3.heap.size, 0, none⟩) 1 1 [.int .i64 1, .string s2, .int .i64 0, .slice A4 args.length cap4] rfl (hsrc _ #[.int .i64 1, .string s2, .int .i64 0, .slice A4 args.length cap4] rfl) (fun h => by cases h) (by simp [Value.oneCell']) hbound hbytes (Nat.le_trans hwl (hbz _ _).size) ?_; intro v2 w4 hown2 hg2 hf2)
          have hb3 := below_grown (hown' _ _) hg2 (Nat.le_trans hwl (hbz _ _).size)
          refine ⟨⟨j + 1, _, by go_num, by omega, by rw [HT.out, HTD2.out], hown2, ?_, (hb.thenCall hb.size (hbz _ _)).trans hb3⟩, by simp [intOf]; omega⟩
          rw [HT.out, HTD2.out]
          refine (hcells.sub (sub_step (hbz _ _) hg2 hf2 (fun b => hSfrm rfl))).append (TmCells.single ?_)
          have hT := tms_part hm4.symm hown4 hcells4
          have hcap4 := own_cap hown4
          obtain ⟨_, _, e4, hf4, hf5⟩ := own_form hown4
          injection e4 with _ _ e4
          subst e4
          refine ⟨A4, cap4, by rw [hm4], ⟨by omega, by omega, by omega, hcap4⟩, hT.sub (Sub.trans (b := part (w3.setCell ⟨w2.heap.size, 3, none⟩ (.slice A4 args.length cap4)) (frm (w2.alloc (.cells #[.int .i64 1, .string s2, .int .i64 0, .slice none 0 0] 29)).heap.size none)) (sub_part fun b hb hs => ⟨hs, ?_⟩) (sub_step ((Below.refl _ _).alloc (Nat.le_refl _) _) hg2 hf2 fun b hbl hs => ?_))⟩
          · have := (frm_iff.1 hs).1
            simp only [World.size_alloc] at this
            exact Below.heap_setCell _ _ _ _ (by simp only; omega)
          · have := (frm_iff.1 hs).1
            simp only [World.size_alloc] at this
            refine ⟨by omega, fun e => ?_⟩
            have := (own_block_lt hown e).2
            omega
      · go_wp2_with fail
        go_ret2
        obtain ⟨A1, cap1, rfl, _, _⟩ := own_form hown
        obtain rfl : j = ps.length := by omega
        rw [List.take_of_length_le (Nat.le_refl _)] at hcells ⊢
        exact ⟨A1, cap1, xs, rfl, hown, hcells, hb⟩
end Go.Proofs.Ytnaakhnmbckpmaa.Pats
