/- Contract: whimbrelref15.Match. -/
import Derived.Test.YtnaakhnmbckpmaaHeadV
import Derived.Test.YtnaakhnmbckpmaaAll
namespace Go.Proofs.Ytnaakhnmbckpmaa.Pats
open Go.ChangeShapes Go.WideShapes Go.ChangeAt Go.RowKit Go.Proofs.Ytnaakhnmbckpmaa.Lift Go.Proofs.Ytnaakhnmbckpmaa.Data Go.Proofs.Ytnaakhnmbckpmaa.Refs
set_option linter.unusedVariables false
set_option linter.unusedSimpArgs false
/-- blocks of other types are as they were. -/
def Stays (E : TypeId) (w w' : World) : Prop := ∀ (k : Nat) (o : Obj), w.heap[k]? = some o → (∀ cur z, o ≠ .cells cur E z) → w'.heap[k]? = some o
theorem Stays.refl (E : TypeId) (w : World) : Stays E w w := fun _ _ h _ => h
theorem Stays.trans {E : TypeId} {a b c : World} (h : Stays E a b) (g : Stays E b c) : Stays E a c := fun k o hk ho => g k o (h k o hk ho) ho
theorem Stays.drew {E : TypeId} {a b : World} (h : Stays E a b) : Stays E a b.drew := fun k o hk ho => h k o hk ho
theorem Stays.drewN {E : TypeId} {a b : World} (h : Stays E a b) (n : Nat) : Stays E a (b.drewN n) := fun k o hk ho => h k o hk ho
theorem Stays.alloc {E : TypeId} {a b : World} (h : Stays E a b) (o' : Obj) : Stays E a (b.alloc o') := fun k o hk ho => by
  have h1 := h k o hk ho
  rw [heap_alloc_old b o' (Array.getElem?_eq_some_iff.1 h1).1]
  exact h1
theorem Stays.grown {E : TypeId} {w w' : World} {B size n : Nat} {v : Value} {xs : List Value} (hown : w.ownsRow B E size v n xs) (hg : w.grownBy w' v.ownBlock) : Stays E w w' := fun k o hk ho => by
  rw [hg.block k (Array.getElem?_eq_some_iff.1 hk).1]
  · exact hk
  · intro hr
    rcases hown.2 with ⟨rfl, _⟩ | ⟨g, cap, cur, rfl, _, h3, _⟩
    · simp [Value.ownBlock] at hr
    · simp [Value.ownBlock] at hr
      subst hr
      rw [h3] at hk
      injection hk with hk
      exact ho cur (0, 0) hk.symm
theorem Stays.of_below {E : TypeId} {w w' : World} (h : Below w.heap.size w w') : Stays E w w' := fun k o hk _ => (h.block k (Array.getElem?_eq_some_iff.1 hk).1).trans hk
theorem heap2 (w : World) (o : Obj) (cur : Array Value) (t : TypeId) : ((w.alloc o).alloc (.cells cur t)).heap[w.heap.size + 1]? = some (.cells cur t (0, 0)) := by
  have := heap_alloc_new (w.alloc o) (.cells cur t)
  rw [World.size_alloc] at this
  exact this
theorem row4 {w : World} {g : Nat} {t : TypeId} {v0 v1 v2 v3 : Value} (h : w.heap[g]? = some (.cells #[v0, v1, v2, v3] t (0, 0))) :
    w.cell? ⟨g, 0, none⟩ = some v0 ∧ w.cell? ⟨g, 1, none⟩ = some v1 ∧ w.cell? ⟨g, 2, none⟩ = some v2 ∧ w.cell? ⟨g, 3, none⟩ = some v3 := by
  refine ⟨?_, ?_, ?_, ?_⟩ <;> simp [World.cell?, h]
theorem info86 : (Try.prog.info? 86).map (fun i => (i.zero, i.size, i.bytes)) = some (some (.agg #[.string ⟨#[]⟩, .int .i64 0, .string ⟨#[]⟩, .int .i64 0, .slice none 0 0]), 5, 72) := by kernel_rfl
/-- what the document's match answers: behind what there was. -/
def RefRes (w0 : World) (m : Option (List Bd)) (B n : Nat) (xs : List Value) (w : World) (e : Ending) (w' : World) : Prop :=
  ∃ A n' cap b xs', e = .returned (.tuple #[.slice A n' cap, .bool b]) ∧ w'.ownsRow B 86 5 (.slice A n' cap) n' xs' ∧ Below B w w' ∧ Stays 86 w w' ∧
    (match m with
    | none => b = false
    | some l => b = true ∧ n' = n + l.length ∧ ∃ ys, xs' = xs ++ ys ∧ BdCells w0 l ys)
/-- the loop over the arguments. -/
def RefRel (w0 : World) (B n : Nat) (xs : List Value) (args : List Ex) (zs : List Tm) (w : World) (t i : Value) (wr : World) : Prop :=
  ∃ (j : Nat) (acc : List Bd) (ys : List Value), i = .int .i64 j ∧ j ≤ args.length ∧ wr.ownsRow B 86 5 t (n + acc.length) (xs ++ ys) ∧ BdCells w0 acc ys ∧ allS (args.take j) (zs.take j) = some acc ∧ Below B w wr ∧ Stays 86 w wr
set_option maxRecDepth 100000 in
set_option maxHeartbeats 4000000 in
theorem refMatch_any (N : Nat) (w0 : World) : ∀ (p : Ex) (t : Tm) (w : World) (v u out : Value) (n : Nat) (xs : List Value) (B : Nat), p.size ≤ N → n + p.size ≤ 1048576 → p.Val w0 v → t.Val w0 u → Below w0.heap.size w0 w → w0.heap.size ≤ B → B ≤ w.heap.size →
    w.ownsRow B 86 5 out n xs → Calls Try.prog 14 #[out, v, u] w (RefRes w0 (matchS p t) B n xs w) := by
  induction N with
  | zero => intro p t w v u out n xs B h; cases p; rw [Ex.size] at h; omega
  | succ N ih =>
  intro p t w v u out n0 xs B hN hB hv hu hb0 hwB hBw hown
  cases p with
  | mk k s n ys l c =>
  cases t with
  | mk k2 s2 n2 zs =>
  have hv0 := hv
  have hu0 := hu
  obtain ⟨A, cap, rfl, hd, hs⟩ := hv
  obtain ⟨A2, cap2, rfl, he, hs2⟩ := hu
  rw [Ex.size_mk] at hN hB
  have hbb : ∀ o o', Below B w ((w.alloc o).alloc o') := fun o o' => ((Below.refl _ _).alloc hBw _).alloc (by simp; omega) _
  have hss : ∀ o o', Stays 86 w ((w.alloc o).alloc o') := fun o o' => ((Stays.refl _ _).alloc _).alloc _
  by_cases h1 : k = 1
  · have hm : matchS (.mk k s n ys l c) (.mk k2 s2 n2 zs) = some [(s, .mk k2 s2 n2 zs)] := by rw [matchS.eq_def]; simp [h1]
    rw [hm]
    clear hm
    subst h1
    obtain ⟨i0, hi, hz0, hz1, hz2⟩ := info_parts info86
    have hg4 : n0 + 1 ≤ maxLen := by unfold maxLen; omega
    have hg5 : (n0 + 1) * 72 ≤ 140737488355328 := by omega
    have hbase : B ≤ ((((w.alloc (.cells #[.int .i64 1, .string s, .int .i64 n, .slice A ys.length cap, .int .i64 l, .int .i64 c] 26)).alloc (.cells #[.int .i64 k2, .string s2, .int .i64 n2, .slice A2 zs.length cap2] 29)).alloc (.cells #[.string s, .int .i64 k2, .string s2, .int .i64 n2, .slice A2 zs.length cap2] 86)).heap.size) := by simp; omega
    have hcs : BdCells w0 [(s, .mk k2 s2 n2 zs)] [.string s, .int .i64 k2, .string s2, .int .i64 n2, .slice A2 zs.length cap2] := by
      rw [BdCells]
      exact ⟨_, [], by simp, ⟨A2, cap2, rfl, he, hs2⟩, by rw [BdCells]⟩
    have hsrc := Src.of_own (own_new3 w (.cells #[.int .i64 1, .string s, .int .i64 n, .slice A ys.length cap, .int .i64 l, .int .i64 c] 26) (.cells #[.int .i64 k2, .string s2, .int .i64 n2, .slice A2 zs.length cap2] 29) 86 5 1 #[.string s, .int .i64 k2, .string s2, .int .i64 n2, .slice A2 zs.length cap2] rfl (by omega))
    have hown' := ((hown.alloc (.cells #[.int .i64 1, .string s, .int .i64 n, .slice A ys.length cap, .int .i64 l, .int .i64 c] 26)).alloc (.cells #[.int .i64 k2, .string s2, .int .i64 n2, .slice A2 zs.length cap2] 29)).alloc (.cells #[.string s, .int .i64 k2, .string s2, .int .i64 n2, .slice A2 zs.length cap2] 86)
    go_enter Try.func14, Try.ntmps14
    go_wp2_with (at_builtin; refine wpList_append_src rfl (.tmp 69) (.tmp 74) 36 rfl B 86 i0 _ 5 72 Try.underlying36 hi hz0 hz1 hz2 rfl (by omega) out n0 xs rfl hown' _ 1 1 _ rfl hsrc (by simp) hcs.one hg4 hg5 hbase ?_; intro v2 w2 hown2 hg2)
    go_ret2
    obtain ⟨A5, cap5, rfl, _, _⟩ := own_form hown2
    exact ⟨A5, _, cap5, true, _, rfl, hown2, ((hbb _ _).alloc (by simp; omega) _).trans (below_grown hown' hg2 hbase), ((hss _ _).alloc _).trans (Stays.grown hown' hg2), rfl, rfl, _, rfl, hcs⟩
  by_cases h9 : k = 9
  · have hm : matchS (.mk k s n ys l c) (.mk k2 s2 n2 zs) = some [] := by rw [matchS.eq_def]; simp [h9]
    rw [hm]
    clear hm h1
    subst h9
    go_enter Try.func14, Try.ntmps14
    go_wp2_with fail
    go_ret2
    obtain ⟨A5, cap5, rfl, _, _⟩ := own_form hown
    exact ⟨A5, _, cap5, true, _, rfl, (hown.alloc _).alloc _, hbb _ _, hss _ _, rfl, rfl, [], by simp, by rw [BdCells]⟩
  by_cases h3 : k = 3
  · subst h3
    clear h1 h9
    obtain ⟨A5, cap5, rfl, _, _⟩ := own_form hown
    by_cases g1 : k2 = 2
    · by_cases g2 : n2 = n
      · have hm : matchS (.mk 3 s n ys l c) (.mk k2 s2 n2 zs) = some [] := by rw [matchS.eq_def]; simp [g1, g2, Tm.k, Tm.n]
        rw [hm]
        clear hm
        subst g1 g2
        go_enter Try.func14, Try.ntmps14
        go_wp2_with fail
        go_quiet (fail)
        go_wp2_with fail
        go_ret2
        exact ⟨A5, _, cap5, true, _, rfl, (hown.alloc _).alloc _, (hbb _ _).drewN _, (hss _ _).drewN _, rfl, rfl, [], by simp, by rw [BdCells]⟩
      · have hm : matchS (.mk 3 s n ys l c) (.mk k2 s2 n2 zs) = none := by rw [matchS.eq_def]; simp [g2, Tm.k, Tm.n]
        have hg2 : (n2 == n) = false := by simp [g2]
        rw [hm]
        clear hm g2
        subst g1
        go_enter Try.func14, Try.ntmps14
        go_wp2_with fail
        go_quiet (fail)
        go_wp2_with fail
        go_ret2
        exact ⟨A5, _, cap5, false, _, rfl, (hown.alloc _).alloc _, (hbb _ _).drewN _, (hss _ _).drewN _, rfl⟩
    · have hm : matchS (.mk 3 s n ys l c) (.mk k2 s2 n2 zs) = none := by rw [matchS.eq_def]; simp [g1, Tm.k, Tm.n]
      have hg1 : (k2 == 2) = false := by simp [g1]
      rw [hm]
      clear hm g1
      go_enter Try.func14, Try.ntmps14
      go_wp2_with fail
      go_quiet (fail)
      go_wp2_with fail
      go_ret2
      exact ⟨A5, _, cap5, false, _, rfl, (hown.alloc _).alloc _, (hbb _ _).drewN _, (hss _ _).drewN _, rfl⟩
  have HH := fun W hW => Lib.hid (headV_any w0 (.mk k s n ys l c) W _ hv0 hW)
  have b1 : (k == 1) = false := by simp [h1]
  have b9 : (k == 9) = false := by simp [h9]
  have b3 : (k == 3) = false := by simp [h3]
  have hb02 := Lib.hid (fun o o' => hb0.trans ((below2 w o o').mono hb0.size))
  have hM := matchS_yes (s := s) (n := n) (ys := ys) (l := l) (c := c) (t := .mk k2 s2 n2 zs) h1 h9 h3
  have hM0 := matchS_no (s := s) (n := n) (ys := ys) (l := l) (c := c) (t := .mk k2 s2 n2 zs) h1 h9 h3
  have hsz := headS_size k s n ys l c
  have HBB := Lib.hid hbb
  have HSS := Lib.hid hss
  have HOWN := Lib.hid hown
  clear hbb hss
  obtain ⟨Ao, capo, rfl, _, _⟩ := own_form hown
  generalize hE : headS (.mk k s n ys l c) = he2 at *
  obtain ⟨hd2, args⟩ := he2
  dsimp only at *
  have HE := Lib.hid hE
  clear hE h1 h9 h3 hown
  cases hd2 with
  | mk hk hs' hn hys hl hc =>
  by_cases g1 : hk = 2
  · by_cases g2 : k2 = 1
    · by_cases g3 : s2.toList = hs'.toList
      · by_cases g4 : args.length = zs.length
        · rw [hM ⟨g1, g2, g3⟩]
          dsimp only [Tm.ys]
          clear hM hM0
          subst g1 g2
          have hg3 : (hs'.toList == s2.toList) = true := by rw [beq_iff_eq]; exact g3.symm
          have hg3' : (hs'.toList != s2.toList) = false := by rw [bne_eq_false_iff_eq]; exact g3.symm
          go_enter Try.func14, Try.ntmps14
          go_wp2_with fail
          refine ((HH _ (hb02.out _ _)).out).mono ?_
          rintro e w1 ⟨v1, u1, rfl, hv1, hsl1, hb1⟩
          obtain ⟨A3, cap3, rfl, hd3, hs3⟩ := hv1
          obtain ⟨A1, cap1, rfl, hd1, hs1⟩ := hsl1
          have hz1 := hb1.size
          have hb1c := Below.call2 hb1
          have hbx := hb1.block (w.heap.size + 1) (by simp)
          have hbx := hbx.trans (heap2 w _ _ _)
          obtain ⟨r0, r1, r2, r3⟩ := row4 hbx
          simp only [World.size_alloc] at hz1
          have hz2 : w.heap.size < w1.heap.size := by omega
          have hz3 : w.heap.size + 1 < w1.heap.size := by omega
          have hown1 := own_below HOWN.out hb1c (Nat.le_refl _)
          have hBB1 : Below B w w1 := hb1c.mono hBw
          have hSS1 : Stays 86 w w1 := Stays.of_below hb1c
          go_wp2_with fail
          have hb2 : Below w.heap.size w (w1.alloc (.cells #[.int .i64 2, .string hs', .int .i64 hn, .slice A3 hys.length cap3, .int .i64 hl, .int .i64 hc] 26)) := hb1c.alloc hb1c.size _
          have hown2 := hown1.alloc (.cells #[.int .i64 2, .string hs', .int .i64 hn, .slice A3 hys.length cap3, .int .i64 hl, .int .i64 hc] 26)
          have hbox2 := (heap_alloc_old w1 (.cells #[.int .i64 2, .string hs', .int .i64 hn, .slice A3 hys.length cap3, .int .i64 hl, .int .i64 hc] 26) hz3).trans hbx
          clear r0 r1 r2 r3 hb1 HBB HSS HH hb02 HE hv0 hu0 hown1 hbx
          have hg4b : zs.length ≤ args.length := by omega
          have hlenA := ExSize_len args
          rw [← g4] at hbox2 ⊢
          have HG4 := Lib.hid g4
          clear g4
          obtain ⟨W2, hW2⟩ : ∃ W2, W2 = (w1.alloc (.cells #[.int .i64 2, .string hs', .int .i64 hn, .slice A3 hys.length cap3, .int .i64 hl, .int .i64 hc] 26)) := ⟨_, rfl⟩
          have hz5 : w.heap.size + 1 < W2.heap.size := by rw [hW2, World.size_alloc]; omega
          rw [← hW2] at hb2 hown2 hbox2 ⊢
          have hSS2 : Stays 86 w W2 := Stays.of_below hb2
          have hBB2 : Below B w W2 := hb2.mono hBw
          clear hW2 hb2 hBB1 hSS1 hb1c hz1
          go_loopw [0, 45] (fun t i wr => RefRel w0 B n0 xs args zs W2 t i wr) (fun _ i _ => args.length - (intOf i).toNat)
          case atStart => exact ⟨0, [], [], rfl, Nat.zero_le _, by simpa using hown2, by rw [BdCells], by simp [allS], Below.refl _ _, Stays.refl _ _⟩
          case round =>
            obtain ⟨j, acc, ys2, rfl, hj, hown, hcells, hacc, hb, hst⟩ := hrel
            have hBB3 := hBB2.trans hb
            have hSS3 := hSS2.trans hst
            have hbox := hst _ _ hbox2 (by intro cur z hh; cases hh)
            obtain ⟨r0, r1, r2, r3⟩ := row4 hbox
            have hz6 : w.heap.size + 1 < wr.heap.size := Nat.lt_of_lt_of_le hz5 hb.size
            have hBr : B ≤ wr.heap.size := Nat.le_trans hBw (Nat.le_of_lt (by omega))
            by_cases hlt : j < args.length
            · have hlt2 : j < zs.length := by have := HG4.out; omega
              obtain ⟨b, o, rfl, hat⟩ := hs1.get j hlt
              obtain ⟨b', o', rfl, hat2⟩ := hs2.get j hlt2
              have hz := ExSize_get hlt
              have hb01 := hb0.trans (hBB3.mono hwB)
              have HT := Lib.hid (fun b => allS_take (b := b) hlt hlt2 hacc)
              have HF := Lib.hid (allS_none hlt hlt2)
              have hal := allS_size _ _ _ hacc
              have HS := ExSize_take hlt
              have hle2 := ExSize_take_le (ys := args) (j := j + 1)
              generalize args[j] = y at *
              generalize zs[j] = z at *
              have HI := fun v u => Lib.hid (fun hv hu => ih y z wr.drew v u u0 (n0 + acc.length) (xs ++ ys2) B (by omega) (by omega) hv hu hb01.drew hwB hBr hown)
              cases y with
              | mk k' s' n' ys' l' c' =>
              cases z with
              | mk k'' s'' n'' ys'' =>
              obtain ⟨A', cap', c0, c1, c2, c3, c4, c5, hv'⟩ := Ex.At.both hat hb01 (Nat.le_refl _)
              obtain ⟨A'', cap'', d0, d1, d2, d3, hu'⟩ := Tm.At.both hat2 hb01 (Nat.le_refl _)
              obtain ⟨_, _, x0, _⟩ := Ex.At.open_ hat
              obtain ⟨_, _, y0, _⟩ := Tm.At.open_ hat2
              have hblB : b < B := Nat.lt_of_lt_of_le (World.block_lt_of_cell? _ _ x0) hwB
              have hblB2 : b' < B := Nat.lt_of_lt_of_le (World.block_lt_of_cell? _ _ y0) hwB
              have hbl : b < wr.heap.size := by omega
              have hbl2 : b' < wr.heap.size := by omega
              have HC := Lib.hid ((HI _ _).out hv' hu')
              have HBX := Lib.hid (fun w' (h : Stays 86 wr w') => (row4 (h _ _ hbox (by intro cur z hh; cases hh))).2.2.2)
              clear HI hat hat2 hs1 hs2 x0 y0 hbox hbox2 ih
              go_wp2_with fail
              go_region_held3 (fun w' => w'.cell? ⟨b, o + j * 6, none⟩ = some (.int .i64 k') ∧ w'.cell? ⟨b, o + j * 6 + 1, none⟩ = some (.string s') ∧ w'.cell? ⟨b, o + j * 6 + 2, none⟩ = some (.int .i64 n') ∧ w'.cell? ⟨b, o + j * 6 + 3, none⟩ = some (.slice A' ys'.length cap') ∧ w'.cell? ⟨b, o + j * 6 + 4, none⟩ = some (.int .i64 l') ∧ w'.cell? ⟨b, o + j * 6 + 5, none⟩ = some (.int .i64 c') ∧ w'.cell? ⟨b', o' + j * 4, none⟩ = some (.int .i64 k'') ∧ w'.cell? ⟨b', o' + j * 4 + 1, none⟩ = some (.string s'') ∧ w'.cell? ⟨b', o' + j * 4 + 2, none⟩ = some (.int .i64 n'') ∧ w'.cell? ⟨b', o' + j * 4 + 3, none⟩ = some (.slice A'' ys''.length cap'') ∧ w'.cell? ⟨w.heap.size + 1, 3, none⟩ = some (.slice (some ⟨b', o', none⟩) args.length cap2))
                (first | go_keep | exact ⟨c0, c1, c2, c3, c4, c5, d0, d1, d2, d3, r3⟩ | exact ⟨k0, k1, k2, k3, k4, k5, k6, k7, k8, k9, k10⟩)
                ((go_at_call 14; refine HC.out.mono ?_; rintro e w3 ⟨A6, m6, cap6, b6, xs6, rfl, hown6, hb6, hst6, hm6⟩; have hbW : Below B wr w3 := ((Below.refl _ _).drew).trans hb6; have hstW : Stays 86 wr w3 := ((Stays.refl _ _).drew).trans hst6; have k10 := HBX.out w3 hstW; have k0 := (hbW.cell (p := ⟨b, o + j * 6, none⟩) hblB).trans c0; have k1 := (hbW.cell (p := ⟨b, o + j * 6 + 1, none⟩) hblB).trans c1; have k2 := (hbW.cell (p := ⟨b, o + j * 6 + 2, none⟩) hblB).trans c2; have k3 := (hbW.cell (p := ⟨b, o + j * 6 + 3, none⟩) hblB).trans c3; have k4 := (hbW.cell (p := ⟨b, o + j * 6 + 4, none⟩) hblB).trans c4; have k5 := (hbW.cell (p := ⟨b, o + j * 6 + 5, none⟩) hblB).trans c5; have k6 := (hbW.cell (p := ⟨b', o' + j * 4, none⟩) hblB2).trans d0; have k7 := (hbW.cell (p := ⟨b', o' + j * 4 + 1, none⟩) hblB2).trans d1; have k8 := (hbW.cell (p := ⟨b', o' + j * 4 + 2, none⟩) hblB2).trans d2; have k9 := (hbW.cell (p := ⟨b', o' + j * 4 + 3, none⟩) hblB2).trans d3; skip))
              clear k0 k1 k2 k3 k4 k5 k6 k7 k8 k9 c0 c1 c2 c3 c4 c5 d0 d1 d2 d3 HC HBX
              cases hm : matchS (Ex.mk k' s' n' ys' l' c') (Tm.mk k'' s'' n'' ys'') with
              | none =>
                rw [hm] at hm6
                obtain rfl := hm6
                have HF1 := HF.out hm
                clear HF HT hm
                go_wp2_with fail
                go_ret2
                try rw [HF1]
                exact ⟨A6, _, cap6, false, _, rfl, hown6, hBB3.trans hbW, hSS3.trans hstW, rfl⟩
              | some l9 =>
                rw [hm] at hm6
                obtain ⟨rfl, rfl, ys6, rfl, hcells6⟩ := hm6
                have HT1 := HT.out l9 hm
                clear HF HT hm
                go_wp2_with fail
                refine ⟨⟨j + 1, acc ++ l9, ys2 ++ ys6, by go_num, by omega, ?_, hcells.append hcells6, HT1, hb.trans hbW, hst.trans hstW⟩, by simp [intOf]; omega⟩
                rw [List.length_append, ← Nat.add_assoc, ← List.append_assoc]
                exact hown6
            · have hj2 : j = args.length := by omega
              subst hj2
              go_wp2_with fail
              go_ret2
              rw [List.take_of_length_le (Nat.le_refl _), List.take_of_length_le (Nat.le_of_eq HG4.out.symm)] at hacc
              obtain ⟨A7, cap7, rfl, _, _⟩ := own_form hown
              rw [hacc]
              exact ⟨A7, _, cap7, true, _, rfl, hown, hBB3, hSS3, rfl, rfl, ys2, rfl, hcells⟩
        · rw [hM ⟨g1, g2, g3⟩]
          dsimp only [Tm.ys]
          rw [allS_len g4]
          clear hM hM0 ih
          subst g1 g2
          have hg3 : (hs'.toList == s2.toList) = true := by rw [beq_iff_eq]; exact g3.symm
          have hg3' : (hs'.toList != s2.toList) = false := by rw [bne_eq_false_iff_eq]; exact g3.symm
          have hg4 : ((args.length : Int) == zs.length) = false := by rw [beq_eq_false_iff_ne]; omega
          go_enter Try.func14, Try.ntmps14
          go_wp2_with fail
          refine ((HH _ (hb02.out _ _)).out).mono ?_
          rintro e w1 ⟨v1, u1, rfl, hv1, hsl1, hb1⟩
          obtain ⟨A3, cap3, rfl, hd3, hs3⟩ := hv1
          obtain ⟨A1, cap1, rfl, hd1, hs1⟩ := hsl1
          have hz1 := hb1.size
          have hb1c := Below.call2 hb1
          have hbx := hb1.block (w.heap.size + 1) (by simp)
          have hbx := hbx.trans (heap2 w _ _ _)
          obtain ⟨r0, r1, r2, r3⟩ := row4 hbx
          simp only [World.size_alloc] at hz1
          have hz2 : w.heap.size < w1.heap.size := by omega
          have hz3 : w.heap.size + 1 < w1.heap.size := by omega
          have hown1 := own_below HOWN.out hb1c (Nat.le_refl _)
          have hBB1 : Below B w w1 := hb1c.mono hBw
          have hSS1 : Stays 86 w w1 := Stays.of_below hb1c
          go_wp2_with fail
          go_ret2
          exact ⟨Ao, _, capo, false, _, rfl, hown1.alloc _, hBB1.alloc (by omega) _, hSS1.alloc _, rfl⟩
      · have hg3 : (hs'.toList == s2.toList) = false := by rw [beq_eq_false_iff_ne]; exact fun e => g3 e.symm
        have hg3' : (hs'.toList != s2.toList) = true := by rw [bne_iff_ne]; exact fun e => g3 e.symm
        rw [hM0 (by rintro ⟨x, y, z⟩; exact g3 z)]
        clear hM hM0 ih
        subst g1 g2
        go_enter Try.func14, Try.ntmps14
        go_wp2_with fail
        refine ((HH _ (hb02.out _ _)).out).mono ?_
        rintro e w1 ⟨v1, u1, rfl, hv1, hsl1, hb1⟩
        obtain ⟨A3, cap3, rfl, hd3, hs3⟩ := hv1
        obtain ⟨A1, cap1, rfl, hd1, hs1⟩ := hsl1
        have hz1 := hb1.size
        have hb1c := Below.call2 hb1
        have hbx := hb1.block (w.heap.size + 1) (by simp)
        have hbx := hbx.trans (heap2 w _ _ _)
        obtain ⟨r0, r1, r2, r3⟩ := row4 hbx
        simp only [World.size_alloc] at hz1
        have hz2 : w.heap.size < w1.heap.size := by omega
        have hz3 : w.heap.size + 1 < w1.heap.size := by omega
        have hown1 := own_below HOWN.out hb1c (Nat.le_refl _)
        have hBB1 : Below B w w1 := hb1c.mono hBw
        have hSS1 : Stays 86 w w1 := Stays.of_below hb1c
        go_wp2_with fail
        go_ret2
        exact ⟨Ao, _, capo, false, _, rfl, hown1.alloc _, hBB1.alloc (by omega) _, hSS1.alloc _, rfl⟩
    · have hg2 : (k2 == 1) = false := by simp [g2]
      rw [hM0 (by rintro ⟨x, y, z⟩; exact g2 y)]
      clear hM hM0 ih
      subst g1
      go_enter Try.func14, Try.ntmps14
      go_wp2_with fail
      refine ((HH _ (hb02.out _ _)).out).mono ?_
      rintro e w1 ⟨v1, u1, rfl, hv1, hsl1, hb1⟩
      obtain ⟨A3, cap3, rfl, hd3, hs3⟩ := hv1
      obtain ⟨A1, cap1, rfl, hd1, hs1⟩ := hsl1
      have hz1 := hb1.size
      have hb1c := Below.call2 hb1
      have hbx := hb1.block (w.heap.size + 1) (by simp)
      have hbx := hbx.trans (heap2 w _ _ _)
      obtain ⟨r0, r1, r2, r3⟩ := row4 hbx
      simp only [World.size_alloc] at hz1
      have hz2 : w.heap.size < w1.heap.size := by omega
      have hz3 : w.heap.size + 1 < w1.heap.size := by omega
      have hown1 := own_below HOWN.out hb1c (Nat.le_refl _)
      have hBB1 : Below B w w1 := hb1c.mono hBw
      have hSS1 : Stays 86 w w1 := Stays.of_below hb1c
      go_wp2_with fail
      go_ret2
      exact ⟨Ao, _, capo, false, _, rfl, hown1.alloc _, hBB1.alloc (by omega) _, hSS1.alloc _, rfl⟩
  · have hg1 : (hk == 2) = false := by simp [g1]
    rw [hM0 (by rintro ⟨x, y, z⟩; exact g1 x)]
    clear hM hM0 ih
    go_enter Try.func14, Try.ntmps14
    go_wp2_with fail
    refine ((HH _ (hb02.out _ _)).out).mono ?_
    rintro e w1 ⟨v1, u1, rfl, hv1, hsl1, hb1⟩
    obtain ⟨A3, cap3, rfl, hd3, hs3⟩ := hv1
    obtain ⟨A1, cap1, rfl, hd1, hs1⟩ := hsl1
    have hz1 := hb1.size
    have hb1c := Below.call2 hb1
    have hbx := hb1.block (w.heap.size + 1) (by simp)
    have hbx := hbx.trans (heap2 w _ _ _)
    obtain ⟨r0, r1, r2, r3⟩ := row4 hbx
    simp only [World.size_alloc] at hz1
    have hz2 : w.heap.size < w1.heap.size := by omega
    have hz3 : w.heap.size + 1 < w1.heap.size := by omega
    have hown1 := own_below HOWN.out hb1c (Nat.le_refl _)
    have hBB1 : Below B w w1 := hb1c.mono hBw
    have hSS1 : Stays 86 w w1 := Stays.of_below hb1c
    go_wp2_with fail
    go_ret2
    exact ⟨Ao, _, capo, false, _, rfl, hown1.alloc _, hBB1.alloc (by omega) _, hSS1.alloc _, rfl⟩
end Go.Proofs.Ytnaakhnmbckpmaa.Pats
