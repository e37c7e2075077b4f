/- Contracts: whimbrelref03.place and whimbrelref03.Vars. -/
import Derived.Test.YtnaakhnmbckpmaaReach
namespace Go.Proofs.Ytnaakhnmbckpmaa.Pats
open Go.ChangeShapes Go.WideShapes Go.ChangeAt Go.RowKit Go.Proofs.Ytnaakhnmbckpmaa.Lift Go.Proofs.Ytnaakhnmbckpmaa.Data Go.Proofs.Ytnaakhnmbckpmaa.Refs
set_option linter.unusedVariables false
set_option linter.unusedSimpArgs false
theorem mem_take_succ {l : List Int} {j : Nat} (h : j < l.length) (n : Int) : n ∈ l.take (j + 1) ↔ n ∈ l.take j ∨ n = l[j] := by
  rw [List.take_succ_eq_append_getElem h, List.mem_append, List.mem_singleton]
theorem placeInt_any (w : World) (l : List Int) (n : Int) (v : Value) (hv : IS w v l) : Calls Try.prog 61 #[v, .int .i64 n] w fun e w' => ∃ r : Int, e = .returned (.int .i64 r) ∧ (r < 0 ↔ n ∉ l) ∧ Below w.heap.size w w' := by
  obtain ⟨A, cap, rfl, g1, g2, g3, g4, g5⟩ := hv
  go_enter Try.func61, Try.ntmps61
  go_wp2_with fail
  go_loopw [9] (fun i wr => ∃ j : Nat, i = .int .i64 j ∧ j ≤ l.length ∧ n ∉ l.take j ∧ wr = w) (fun i _ => l.length - (intOf i).toNat)
  case atStart => exact ⟨0, rfl, Nat.zero_le _, by simp, rfl⟩
  case round =>
    obtain ⟨j, rfl, hj, hno, rfl⟩ := hrel
    by_cases hlt : j < l.length
    · obtain ⟨b, o, rfl, hbl, hc⟩ := IS_cell g5 j hlt
      have HM := Lib.hid (mem_take_succ hlt n)
      have HN := Lib.hid (List.getElem_mem hlt)
      have HNO := Lib.hid hno
      clear g5 hno
      generalize l[j] = y at *
      by_cases hy : y = n
      · subst hy
        go_wp2_with fail
        go_ret
        exact ⟨_, rfl, by constructor; (intro h; omega); (intro h; exact absurd HN.out h), Below.refl _ _⟩
      · have hy2 : (y == n) = false := by simp [hy]
        go_wp2_with fail
        refine ⟨⟨j + 1, by go_num, by omega, ?_, trivial⟩, by simp [intOf]; omega⟩
        rw [HM.out]
        rintro (h | h)
        · exact HNO.out h
        · exact hy h.symm
    · have HNO := Lib.hid hno
      clear hno
      go_wp2_with fail
      go_ret
      rw [List.take_of_length_le (by omega)] at HNO
      exact ⟨_, rfl, by constructor; (intro h; exact HNO.out); (intro h; omega), Below.refl _ _⟩
/-- one step of gathering. -/
def varStep (acc : List Int) (x : Tm) : List Int := if x.k = 3 ∧ x.n ∉ acc then acc ++ [x.n] else acc
def varsS (ts : List Tm) : List Int := (TmFlats ts).foldl varStep []
theorem varStep_len (acc : List Int) (x : Tm) : (varStep acc x).length ≤ acc.length + 1 := by
  unfold varStep
  split <;> simp
theorem varsFold_len : ∀ (fs : List Tm) (acc : List Int), (fs.foldl varStep acc).length ≤ acc.length + fs.length
  | [], acc => by simp
  | x :: r, acc => by
    have h1 := varsFold_len r (varStep acc x)
    have h2 := varStep_len acc x
    simp only [List.foldl_cons, List.length_cons]
    omega
theorem own_ne {w : World} {B B' e e' size size' n m : Nat} {v u : Value} {xs ys : List Value} (he : e ≠ e') (h : w.ownsRow B e size v n xs) (g : w.ownsRow B' e' size' u m ys) : ∀ k, v.ownBlock = some k → u.ownBlock ≠ some k := by
  intro k h1 h2
  rcases h.2 with ⟨rfl, _⟩ | ⟨a, cap, cur, rfl, _, h3, _⟩
  · cases h1
  rcases g.2 with ⟨rfl, _⟩ | ⟨b, cap2, cur2, rfl, _, h4, _⟩
  · cases h2
  simp only [Value.ownBlock, Option.some.injEq] at h1 h2
  subst h1
  subst h2
  rw [h3] at h4
  injection h4 with h4
  injection h4 with _ h4
  exact he h4
def VarsRel (ts : List Tm) (w : World) (t i : Value) (wr : World) : Prop :=
  ∃ (j : Nat), i = .int .i64 j ∧ j ≤ ts.length ∧ wr.ownsRow w.heap.size 3 1 t (varsS (ts.take j)).length ((varsS (ts.take j)).map (Value.int .i64)) ∧ Below w.heap.size w wr
def VarsIn (fs : List Tm) (acc0 : List Int) (Bf : Nat) (fv : Value) (xs1 : List Value) (w : World) (t i : Value) (wr : World) : Prop :=
  ∃ (j : Nat), i = .int .i64 j ∧ j ≤ fs.length ∧ wr.ownsRow w.heap.size 3 1 t ((fs.take j).foldl varStep acc0).length (((fs.take j).foldl varStep acc0).map (Value.int .i64)) ∧ wr.ownsRow Bf 29 4 fv fs.length xs1 ∧ Below w.heap.size w wr
theorem fold_take {fs : List Tm} {j : Nat} (h : j < fs.length) (acc : List Int) : (fs.take (j + 1)).foldl varStep acc = varStep ((fs.take j).foldl varStep acc) fs[j] := by
  rw [List.take_succ_eq_append_getElem h, List.foldl_append]
  rfl
theorem varsS_take {ts : List Tm} {j : Nat} (h : j < ts.length) : varsS (ts.take (j + 1)) = (ts[j]).flat.foldl varStep (varsS (ts.take j)) := by
  unfold varsS
  rw [TmFlats_take h, List.foldl_append]
theorem varsS_len (ts : List Tm) : (varsS ts).length ≤ TmSize ts := by
  have := varsFold_len (TmFlats ts) []
  rw [TmFlats_len] at this
  simpa [varsS] using this
set_option maxRecDepth 100000 in
set_option maxHeartbeats 4000000 in
theorem vars_any (w0 : World) (ts : List Tm) (w : World) (v : Value) (hv : Tm.Sl w0 v ts) (hm : TmSize ts ≤ 1048576) (h0 : Below w0.heap.size w0 w) :
    Calls Try.prog 35 #[v] w fun e w' => ∃ v', e = .returned v' ∧ IS w' v' (varsS ts) ∧ Below w.heap.size w w' := by
  obtain ⟨A, cap, rfl, ⟨hd1, hd2, hd3, hd4⟩, hs⟩ := hv
  obtain ⟨i0, hi, hz0, hz1, hz2⟩ := info_parts info3
  go_enter Try.func35, Try.ntmps35
  go_wp2_with fail
  go_loopw [3, 10] (fun t i wr => VarsRel ts w t i wr) (fun _ i _ => ts.length - (intOf i).toNat)
  case atStart => exact ⟨0, rfl, Nat.zero_le _, World.ownsRow_nil _ _ _ _, Below.refl _ _⟩
  case round =>
    obtain ⟨j, rfl, hj, hown, hb⟩ := hrel
    by_cases hlt : j < ts.length
    · obtain ⟨b, o, rfl, hat⟩ := hs.get j hlt
      have hsz := TmSize_get hlt
      have hb0 := h0.trans (hb.mono h0.size)
      have HT := Lib.hid (varsS_take hlt)
      have hl1 := varsS_len (ts.take j)
      have hl2 := TmSize_take_le (ys := ts) (j := j)
      generalize ts[j] = y at *
      generalize varsS (ts.take j) = acc0 at *
      cases y with
      | mk k' s' n' ys' =>
      obtain ⟨A', cap', c0, c1, c2, c3, hv'⟩ := Tm.At.both hat hb0 (Nat.le_refl _)
      clear hat hs
      have HC := fun o => Lib.hid (flatTm_any _ w0 _ (wr.alloc o) _ (Nat.le_refl _) (by omega) hv' (hb0.alloc hb0.size o))
      have hfl := Tm.flat_len (Tm.mk k' s' n' ys')
      generalize (Tm.mk k' s' n' ys').flat = fs at *
      have hfs : fs.length ≤ 1048576 := by omega
      have HS := Lib.hid hl1
      clear hfl
      go_wp2_with (go_at_call 48; refine (HC _).out.mono ?_; rintro e w1 ⟨A1, cap1, xs1, rfl, hown1, hcells1, hb1⟩)
      have hbc := Below.call1 hb1
      have hbn := hb.thenCall hb.size hbc
      have hown' := own_below hown hbc (Nat.le_refl _)
      clear hown HC hb1 hbc
      obtain ⟨Bf, hBf⟩ : ∃ n, n = wr.heap.size + 1 := ⟨_, rfl⟩
      have hownf0 := own_less hown1 (show Bf ≤ _ by simp; omega)
      clear hBf hown1
      go_loopw [3, 17] (fun t i wr' => VarsIn fs acc0 Bf (.slice A1 fs.length cap1) xs1 w t i wr') (fun _ i _ => fs.length - (intOf i).toNat)
      case atStart => exact ⟨0, rfl, Nat.zero_le _, by simpa using hown', hownf0, hbn⟩
      case round =>
        obtain ⟨i, rfl, hi2, howni, hownf, hbi⟩ := hrel
        by_cases hlti : i < fs.length
        · have hb0i := h0.trans (hbi.mono h0.size)
          have hslf := Tm.Sl.of_own hownf (hcells1.below hb0i (Nat.le_refl _)) hfs
          obtain ⟨_, _, e9, _, hsf⟩ := hslf
          cases e9
          obtain ⟨bf, of, rfl, hatf⟩ := hsf.get i hlti
          have HT2 := Lib.hid (fold_take hlti acc0)
          have hlf := varsFold_len (fs.take i) acc0
          have hlf2 : (fs.take i).length ≤ fs.length := by rw [List.length_take]; omega
          generalize (fs.take i).foldl varStep acc0 = acc at *
          generalize fs[i] = x at *
          cases x with
          | mk k2 s2 n2 ys2 =>
          obtain ⟨A2, cap2, d0, d1, d2, d3, hv2⟩ := Tm.At.open_ hatf
          clear hatf hsf hv2
          have his := IS.of_own howni (by omega)
          have hbl7 := fun o => (Below.refl wr.heap.size wr).alloc (Nat.le_refl _) o
          have HP := fun o => Lib.hid (placeInt_any (wr.alloc o) acc n2 _ (his.sub (Sub.of_below (hbl7 o))))
          have hfin : ∀ W, Below wr.heap.size wr W → varStep acc (.mk k2 s2 n2 ys2) = acc → VarsIn fs acc0 Bf (.slice (some ⟨bf, of, none⟩) fs.length cap1) xs1 w u3 (.int .i64 ((i + 1 : Nat) : Int)) W := fun W hbW hv => by
            refine ⟨i + 1, rfl, by omega, ?_, own_below hownf hbW (Nat.le_refl _), hbi.thenCall hbi.size hbW⟩
            rw [HT2.out, hv]
            exact own_below howni hbW (Nat.le_refl _)
          by_cases hk : k2 = 3
          · subst hk
            by_cases hmem : n2 ∈ acc
            · have HF := Lib.hid (fun W h => hfin W h (by simp [varStep, hmem, Tm.k, Tm.n]))
              clear hfin
              go_wp2_with (go_at_call 61; refine (HP _).out.mono ?_; rintro e w2 ⟨r, rfl, hr, hb2⟩; have hr2 : ¬ r < 0 := fun h => hr.1 h hmem; clear hr)
              refine ⟨?_, by simp [intOf]; omega⟩
              exact (by go_num : (Value.int .i64 _) = _) ▸ HF.out _ (Below.call1 hb2)
            · have hvs : varStep acc (.mk 3 s2 n2 ys2) = acc ++ [n2] := by simp [varStep, hmem, Tm.k, Tm.n]
              have HVS := Lib.hid hvs
              clear hfin hvs
              have hg4 : acc.length + 1 ≤ maxLen := by unfold maxLen; omega
              have hg5 : (acc.length + 1) * 8 ≤ 140737488355328 := by omega
              go_wp2_with (first | (go_at_call 61; refine (HP _).out.mono ?_; rintro e w2 ⟨r, rfl, hr, hb2⟩; have hr2 : r < 0 := hr.2 hmem; clear hr; have hz7 := hb2.size; simp only [World.size_alloc] at hz7; have hz8 : wr.heap.size < w2.heap.size := (by omega); have hc2 := bcell hb2; have hbw2 : Below wr.heap.size wr w2 := Below.call1 hb2) | (at_builtin; refine wpList_append_src rfl (.tmp 31) (.tmp 34) 58 rfl w.heap.size 3 i0 _ 1 8 Try.underlying58 hi hz0 hz1 hz2 rfl (by omega) u3 acc.length (acc.map (Value.int .i64)) rfl (own_below howni (hbw2.alloc hbw2.size _) (Nat.le_refl _)) (some ⟨w2.heap.size, 0, none⟩) 1 1 [.int .i64 n2] rfl (Src.of_own (own_new w2 3 1 1 #[.int .i64 n2] rfl (by omega))) (fun h => by cases h) (by simp [Value.oneCell']) hg4 hg5 (Nat.le_trans hbi.size (hbw2.alloc hbw2.size _).size) ?_; intro v3 w3 hown3 hg3))
              have hbz := fun o => hbw2.alloc hbw2.size o
              have hb3 := below_grown (own_below howni (hbz _) (Nat.le_refl _)) hg3 (Nat.le_trans hbi.size (hbz _).size)
              refine ⟨⟨i + 1, by go_num, by omega, ?_, own_grown (own_below hownf (hbz _) (Nat.le_refl _)) hg3 (own_ne (by decide) hownf howni), (hbi.thenCall hbi.size (hbz _)).trans hb3⟩, by simp [intOf]; omega⟩
              rw [HT2.out, HVS.out, List.length_append, List.map_append]
              exact hown3
          · have HF := Lib.hid (fun W h => hfin W h (by simp [varStep, hk, Tm.k]))
            have hkb : (k2 == 3) = false := by simp [hk]
            clear hfin hk
            go_wp2_with fail
            refine ⟨?_, by simp [intOf]; omega⟩
            exact (by go_num : (Value.int .i64 _) = _) ▸ HF.out _ (hbl7 _)
        · go_wp2_with fail
          refine ⟨⟨j + 1, by go_num, by omega, ?_, hbi⟩, by simp [intOf]; omega⟩
          rw [List.take_of_length_le (by omega)] at howni
          rw [HT.out]
          exact howni
    · go_wp2_with fail
      go_ret
      rw [List.take_of_length_le (by omega)] at hown
      exact ⟨_, rfl, IS.of_own hown (by have := varsS_len ts; omega), hb⟩
end Go.Proofs.Ytnaakhnmbckpmaa.Pats
