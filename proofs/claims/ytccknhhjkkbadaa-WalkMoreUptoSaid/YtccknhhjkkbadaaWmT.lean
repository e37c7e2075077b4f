/- Contract: the statement's own through. -/
import Derived.Test.YtccknhhjkkbadaaWmD
namespace Go.Proofs.Ytccknhhjkkbadaa.Wm
open Go.ChangeShapes Go.WideShapes Go.ChangeAt Go.RowKit Go.Proofs.Ytccknhhjkkbadaa.Lift Go.Proofs.Ytccknhhjkkbadaa.Arn Go.Proofs.Ytccknhhjkkbadaa.ArnN Go.Proofs.Ytccknhhjkkbadaa.Gr Go.Maps
set_option linter.unusedVariables false
set_option linter.unusedSimpArgs false
section
variable {g : Gph} {f : Int → Int × Bool} {N : Nat} {i : Int}
theorem thr_no (h : g.has i = false ∨ (g.k i ≠ 3 ∧ g.k i ≠ 11)) : ∀ m, thr g f N m i = (i, g.has i)
  | 0 => rfl
  | m + 1 => by rw [thr, if_pos h]
theorem thr_free (m : Nat) (h : ¬ (g.has i = false ∨ (g.k i ≠ 3 ∧ g.k i ≠ 11))) (hf : (f (g.n i)).2 = false) : thr g f N (m + 1) i = (i, true) := by rw [thr, if_neg h, if_pos hf]
theorem thr_out (m : Nat) (h : ¬ (g.has i = false ∨ (g.k i ≠ 3 ∧ g.k i ≠ 11))) (hf : ¬ (f (g.n i)).2 = false) (ho : (f (g.n i)).1 < 0 ∨ (g.a i).length ≤ (f (g.n i)).1) : thr g f N (m + 1) i = (i, false) := by rw [thr, if_neg h, if_neg hf, if_pos ho]
theorem thr_step (m : Nat) (h : ¬ (g.has i = false ∨ (g.k i ≠ 3 ∧ g.k i ≠ 11))) (hf : ¬ (f (g.n i)).2 = false) (ho : ¬ ((f (g.n i)).1 < 0 ∨ (g.a i).length ≤ (f (g.n i)).1)) : thr g f N (m + 1) i = thr g f N m (fol g N ((g.a i).getD (f (g.n i)).1.toNat 0)) := by rw [thr, if_neg h, if_neg hf, if_neg ho]
theorem thr64 (hg : Gok g N) : ∀ (m : Nat) {i : Int}, W64 i → W64 (thr g f N m i).1
  | 0, _, hi => hi
  | m + 1, i, hi => by
    rw [thr]
    split
    · exact hi
    split
    · exact hi
    split
    · exact hi
    · rename_i ho
      exact thr64 hg m (fol64 hg _ (arg64 hg hi (by omega)))
theorem thrG64 (hg : Gok g N) {i : Int} (hi : W64 i) : W64 (thrG g f N i).1 := thr64 hg _ (fol64 hg _ hi)
end
/-- a box's cells behind a call. -/
theorem box3n (wr : World) (o : Obj) {w2 : World} {v0 v1 v2 : Value} (hb : Below (wr.alloc o).heap.size (wr.alloc o) w2) (h : (wr.alloc o).heap[wr.heap.size]? = some (.cells #[v0, v1, v2] 43)) :
    w2.cell? ⟨wr.heap.size, 0, none⟩ = some v0 ∧ w2.cell? ⟨wr.heap.size, 1, none⟩ = some v1 ∧ w2.cell? ⟨wr.heap.size, 2, none⟩ = some v2 := by
  have := (hb.block _ (Array.getElem?_eq_some_iff.1 h).1).trans h
  refine ⟨?_, ?_, ?_⟩ <;> simp [World.cell?, this]
set_option maxRecDepth 100000 in
set_option maxHeartbeats 2000000 in
theorem lthrough_any {w0 : World} {g : Gph} {N m : Nat} (hM : MapOk w0 g N m) (hk : Gok g N) (v : Value) (l : List Fg.Pk) (hv : Fg.PkSl w0 v l) (i : Int) (hi : W64 i) (w : World) (h0 : Below w0.heap.size w0 w) :
    Calls Try.prog 115 #[.map (some m), v, .int .i64 i] w fun e w' => e = .returned (.tuple #[.int .i64 (thrG g (Fg.getR l) N i).1, .bool (thrG g (Fg.getR l) N i).2]) ∧ Below w.heap.size w w' := by
  have hNb := hk.1
  have HK := Lib.hid hk
  have HM : Hid (∀ y, Below w0.heap.size w0 y → MapOk y g N m) := Lib.hid (fun y hy => hM.below hy)
  have HFo : Hid (∀ (y : World) i, Below w0.heap.size w0 y → W64 i → _) := Lib.hid (fun y i hy hi => lfollow_any hM hk i hi y hy)
  have HGe : Hid (∀ (y : World) (n : Int), Below w0.heap.size w0 y → _) := Lib.hid (fun y n hy => Fg.refGet_any w0 l n y v hv hy)
  obtain ⟨D, n, hown, hsz, -⟩ := HM.out w h0
  obtain ⟨A0, cap0, rfl, -⟩ := hv
  have hsz := Lib.hid hsz
  have HI := Lib.hid hi
  clear hM hk hi
  go_enter Try.func115, Try.ntmps115
  go_wp2_with fail
  refine (HFo.out w i h0 HI.out).mono ?_
  rintro _ w1 ⟨rfl, q1⟩
  have hown1 := own_mapC_keep hown (q1.block _ hown.lt)
  go_wp2_with (at_len; refine wpList_len_own _ rfl _ 48 rfl 3 43 Try.underlying48 rC m n D rfl hown1 ?_; rw [hsz.out])
  clear hown hown1 hsz
  have h01 := h0.thenCall h0.size q1
  go_loopw [2, 19] (fun q c wr => ∃ (j : Nat) (i' : Int), c = .int .i64 j ∧ q = .int .i64 i' ∧ j ≤ N ∧ Hid (W64 i') ∧ Hid (thr g (Fg.getR l) N (N - j) i' = thrG g (Fg.getR l) N i) ∧ Below w.heap.size w wr) (fun _ c _ => N + 1 - (intOf c).toNat)
  case atStart => exact ⟨0, fol g N i, rfl, rfl, Nat.zero_le _, Lib.hid (fol64 HK.out _ HI.out), Lib.hid rfl, q1⟩
  case round =>
    obtain ⟨j, i', rfl, rfl, hj, hi', hf, hb⟩ := hrel
    have h0r := h0.trans (hb.mono h0.size)
    obtain ⟨D, n, hown, hsz, h3⟩ := HM.out wr h0r
    obtain ⟨hhas, y, a1, a2, a3, a4⟩ := h3 i' hi'.out
    have hkey := keyOf_int_mk Try.underlying3 hi'.out
    have hb2 := Lib.hid (fun o => hb.alloc hb.size o)
    have hc2 := Lib.hid (fun o => Below.refl wr.heap.size wr |>.alloc (Nat.le_refl _) o)
    by_cases hlt : j < N
    · have hf2 := hf.out
      rw [show N - j = (N - (j + 1)) + 1 by omega] at hf2
      have hkin : g.has i' = false ∨ (g.has i' = true ∧ ¬ g.k i' = 3 ∧ ¬ g.k i' = 11) ∨ ((g.k i' = 3 ∨ g.k i' = 11) ∧ g.has i' = true) := by
        cases g.has i' <;> simp; by_cases h3 : g.k i' = 3 <;> by_cases h4 : g.k i' = 11 <;> simp [h3, h4]
      rcases hkin with hh | ⟨hh, hk3, hk11⟩ | ⟨hk3, hh⟩
      · rw [thr_no (.inl hh), hh] at hf2
        have HF := Lib.hid hf2.symm
        rw [hh] at hhas
        have HH := Lib.hid hhas
        clear hf hf2 hh hhas h3 a1 a2 a3 a4
        go_wp2_with (at_lookup; refine wpList_lookup_own_ok _ rfl _ _ 48 rfl 3 43 law3 Try.underlying48 rC (Try.zeroValue43 _) (codeN nd0) [] rfl m n D rfl hown _ _ rfl hkey ?_; intro v ps hv; obtain ⟨⟨yk, yn, yA, yl, yc⟩, rfl, -⟩ := rC_inv hv; rw [HH.out]; clear hv)
        go_ret2
        exact ⟨by rw [HF.out]; rfl, hb2.out _⟩
      · rw [thr_no (.inr ⟨hk3, hk11⟩), hh] at hf2
        have HF := Lib.hid hf2.symm
        rw [hh] at hhas
        have HH := Lib.hid hhas
        have q1 : (g.k i' == 3) = false := by simpa using hk3
        have q2 : (g.k i' != 3) = true := by simpa using hk3
        have q3 : (g.k i' == 11) = false := by simpa using hk11
        have q4 : (g.k i' != 11) = true := by simpa using hk11
        have HA : Hid (∀ x : Nd, codeN x = D.atKey (.int .i64 i') (codeN nd0) → x.k = g.k i') := Lib.hid (fun x hx => by rw [a1] at hx; rw [(a4.code hx).2.1, a2])
        clear hf hf2 hh hhas h3 a1 a2 a3 a4 hk3 hk11
        go_wp2_with (at_lookup; refine wpList_lookup_own_ok _ rfl _ _ 48 rfl 3 43 law3 Try.underlying48 rC (Try.zeroValue43 _) (codeN nd0) [] rfl m n D rfl hown _ _ rfl hkey ?_; intro v ps hv; obtain ⟨⟨yk, yn, yA, yl, yc⟩, rfl, hx⟩ := rC_inv hv; have hyk := HA.out _ hx; dsimp only at hyk; subst hyk; rw [HH.out]; clear hv hx)
        go_ret2
        exact ⟨by rw [HF.out]; rfl, hb2.out _⟩
      · have hno : ¬ (g.has i' = false ∨ (g.k i' ≠ 3 ∧ g.k i' ≠ 11)) := by
          rintro (e | ⟨e1, e2⟩)
          · rw [hh] at e; cases e
          · rcases hk3 with e | e
            · exact e1 e
            · exact e2 e
        rw [hh] at hhas
        have HH := Lib.hid hhas
        have HA : Hid (∀ x : Nd, codeN x = D.atKey (.int .i64 i') (codeN nd0) → Args wr x (g.a i') ∧ x.k = g.k i' ∧ x.n = g.n i') := Lib.hid (fun x hx => by rw [a1] at hx; have := a4.code hx; exact ⟨this.1, by rw [this.2.1, a2], by rw [this.2.2, a3]⟩)
        have HT1 := Lib.hid (thr_free (f := Fg.getR l) (N := N) (N - (j + 1)) hno)
        have HT2 := Lib.hid (thr_out (f := Fg.getR l) (N := N) (N - (j + 1)) hno)
        have HT3 := Lib.hid (thr_step (f := Fg.getR l) (N := N) (N - (j + 1)) hno)
        have HF := Lib.hid hf2
        have HW : Hid (∀ k, k < (g.a i').length → W64 ((g.a i').getD k 0)) := Lib.hid (fun k hk => arg64 HK.out hi'.out hk)
        clear hf hf2 hh hhas h3 a1 a2 a3 a4 hno
        generalize g.a i' = la at *
        generalize g.n i' = gn at *
        generalize g.k i' = gk at *
        generalize hq : Fg.getR l gn = q at *
        obtain ⟨at', hs⟩ := q
        have hq := Lib.hid hq
        dsimp only at *
        rcases hk3 with rfl | rfl
        all_goals
          go_wp2_with (at_lookup; refine wpList_lookup_own_ok _ rfl _ _ 48 rfl 3 43 law3 Try.underlying48 rC (Try.zeroValue43 _) (codeN nd0) [] rfl m n D rfl hown _ _ rfl hkey ?_; intro v ps hv; obtain ⟨⟨yk, yn, yA, yl, yc⟩, rfl, hx⟩ := rC_inv hv; obtain ⟨hA, hyk, hyn⟩ := HA.out _ hx; have hyl := hA.1; dsimp only at hyk hyn hyl; subst hyk hyn hyl; have HAx := Lib.hid hA; rw [HH.out]; clear hv hx hA HA)
          refine (HGe.out _ _ (h0r.trans ((hc2.out _).mono h0r.size))).mono ?_
          rintro _ w2 ⟨rfl, q2⟩
          rw [hq.out]
          have q2s := q2.size
          rw [World.size_alloc] at q2s
          have q2' := Below.call1 q2
          have c2 := Lift.bcell q2
          have hw2 : wr.heap.size < w2.heap.size := by omega
          have b0 : w2.cell? ⟨wr.heap.size, 2, none⟩ = some (.slice yA la.length yc) := (box3n wr (.cells #[.int .i64 _, .int .i64 yn, .slice yA la.length yc] 43) q2 (heap_alloc_new wr _)).2.2
          clear c2 q2s
          cases hs with
          | false =>
            have HF2 := Lib.hid (HF.out.symm.trans (HT1.out rfl))
            clear HF HT1 HT2 HT3
            go_wp2_with fail
            go_ret2
            exact ⟨by rw [HF2.out]; rfl, hb.thenCall hb.size q2'⟩
          | true =>
            by_cases hat : at' < 0
            · have HF2 := Lib.hid (HF.out.symm.trans (HT2.out (by simp) (.inl hat)))
              clear HF HT1 HT2 HT3
              go_wp2_with fail
              go_ret2
              exact ⟨by rw [HF2.out]; rfl, hb.thenCall hb.size q2'⟩
            · obtain ⟨q, rfl⟩ : ∃ q : Nat, at' = q := ⟨at'.toNat, by omega⟩
              by_cases hqa : q < la.length
              · have HF2 := Lib.hid (HF.out.symm.trans (HT3.out (by simp) (by omega))).symm
                have hWq := Lib.hid (HW.out q hqa)
                obtain ⟨b, o, e1, e2, e3⟩ := HAx.out.2.1 q hqa
                dsimp only at e1
                subst e1
                have e4 := (q2'.cell (p := ⟨b, o + q, none⟩) e2).trans e3
                have h02 := h0r.thenCall h0r.size q2'
                have hqi : (q : Int) < la.length := by omega
                have hqn : ¬ ((la.length : Int) ≤ q) := by omega
                clear HF HT1 HT2 HT3 e3 hat
                rw [Int.toNat_natCast] at HF2
                generalize la.getD q 0 = z at *
                go_wp2_with fail
                refine (HFo.out w2 z h02 hWq.out).mono ?_
                rintro _ w3 ⟨rfl, q3⟩
                go_wp2_with fail
                exact ⟨⟨j + 1, fol g N z, by go_num, rfl, by omega, Lib.hid (fol64 HK.out _ hWq.out), Lib.hid HF2, (hb.thenCall hb.size q2').thenCall (Nat.le_trans hb.size q2'.size) q3⟩, by simp [intOf]; omega⟩
              · have HF2 := Lib.hid (HF.out.symm.trans (HT2.out (by simp) (.inr (by omega))))
                have hqi : ¬ (q : Int) < la.length := by omega
                have hqn : ((la.length : Int) ≤ q) := by omega
                have hqm : la.length ≤ q := by omega
                clear HF HT1 HT2 HT3
                go_wp2_with fail
                go_ret2
                exact ⟨by rw [HF2.out]; rfl, hb.thenCall hb.size q2'⟩
    · obtain rfl : j = N := by omega
      have hf2 := hf.out
      rw [Nat.sub_self, thr] at hf2
      have HF := Lib.hid hf2.symm
      have HH := Lib.hid hhas
      clear hf hf2 hhas h3 a1 a2 a3 a4
      go_wp2_with (at_lookup; refine wpList_lookup_own_ok _ rfl _ _ 48 rfl 3 43 law3 Try.underlying48 rC (Try.zeroValue43 _) (codeN nd0) [] rfl m n D rfl hown _ _ rfl hkey ?_; intro v ps hv; obtain ⟨⟨yk, yn, yA, yl, yc⟩, rfl, -⟩ := rC_inv hv; rw [HH.out]; clear hv)
      go_ret2
      exact ⟨by rw [HF.out]; rfl, hb2.out _⟩
end Go.Proofs.Ytccknhhjkkbadaa.Wm
