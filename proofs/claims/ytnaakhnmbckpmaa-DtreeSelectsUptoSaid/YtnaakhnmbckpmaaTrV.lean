/- Contracts: dtree.Leaves, Depth and Ors. -/
import Derived.Test.YtnaakhnmbckpmaaCt
import Derived.Test.YtnaakhnmbckpmaaBuB
namespace Go.Proofs.Ytnaakhnmbckpmaa.Pats
open Go.ChangeShapes Go.WideShapes Go.ChangeAt Go.RowKit Go.Proofs.Ytnaakhnmbckpmaa.Lift Go.Proofs.Ytnaakhnmbckpmaa.Data Go.Proofs.Ytnaakhnmbckpmaa.Refs Go.Proofs.Ytnaakhnmbckpmaa.Strs
set_option linter.unusedVariables false
set_option linter.unusedSimpArgs false
mutual
def orsC : Ct → Nat
  | .mk _ _ k _ _ cs => (if k = 3 then 1 else 0) + orsCs cs
def orsCs : List Ct → Nat
  | [] => 0
  | e :: r => orsC e + orsCs r
end
mutual
def depC : Ct → Nat
  | .mk _ _ _ _ _ cs => depCs cs + 1
def depCs : List Ct → Nat
  | [] => 0
  | e :: r => max (depC e) (depCs r)
end
theorem CtLeaves_append : ∀ (a b : List Ct), CtLeaves (a ++ b) = CtLeaves a ++ CtLeaves b
  | [], b => by simp [CtLeaves]
  | e :: r, b => by simp [CtLeaves, CtLeaves_append r b]
theorem orsCs_append : ∀ (a b : List Ct), orsCs (a ++ b) = orsCs a + orsCs b
  | [], b => by simp [orsCs]
  | e :: r, b => by simp [orsCs, orsCs_append r b]; omega
theorem depCs_append : ∀ (a b : List Ct), depCs (a ++ b) = max (depCs a) (depCs b)
  | [], b => by simp [depCs]
  | e :: r, b => by simp [depCs, depCs_append r b, Nat.max_assoc]
theorem CtSize_append : ∀ (a b : List Ct), CtSize (a ++ b) = CtSize a + CtSize b
  | [], b => by simp [CtSize]
  | e :: r, b => by simp [CtSize, CtSize_append r b]; omega
mutual
theorem leaves_le : ∀ T : Ct, T.leaves.length ≤ T.size
  | .mk a b k r p cs => by
    have := CtLeaves_le cs
    rw [Ct.leaves, Ct.size]
    split
    · simp
    · omega
theorem CtLeaves_le : ∀ cs : List Ct, (CtLeaves cs).length ≤ CtSize cs
  | [] => by simp [CtLeaves]
  | e :: r => by
    have h1 := leaves_le e
    have h2 := CtLeaves_le r
    simp only [CtLeaves, List.length_append, CtSize]
    omega
end
mutual
theorem ors_le : ∀ T : Ct, orsC T ≤ T.size
  | .mk a b k r p cs => by
    have := orsCs_le cs
    rw [orsC, Ct.size]
    split <;> omega
theorem orsCs_le : ∀ cs : List Ct, orsCs cs ≤ CtSize cs
  | [] => by simp [orsCs]
  | e :: r => by
    have h1 := ors_le e
    have h2 := orsCs_le r
    simp only [orsCs, CtSize]
    omega
end
mutual
theorem dep_le : ∀ T : Ct, depC T ≤ T.size
  | .mk a b k r p cs => by
    have := depCs_le cs
    rw [depC, Ct.size]
    omega
theorem depCs_le : ∀ cs : List Ct, depCs cs ≤ CtSize cs
  | [] => by simp [depCs]
  | e :: r => by
    have h1 := dep_le e
    have h2 := depCs_le r
    simp only [depCs, CtSize]
    omega
end
theorem take_le_CtSize (cs : List Ct) (j : Nat) : CtSize (cs.take j) ≤ CtSize cs := by
  conv => rhs; rw [← List.take_append_drop j cs, CtSize_append]
  omega
theorem take_succ_Ct {cs : List Ct} {j : Nat} (h : j < cs.length) : cs.take (j + 1) = cs.take j ++ [cs[j]] := List.take_succ_eq_append_getElem h
set_option maxRecDepth 100000 in
set_option maxHeartbeats 2000000 in
theorem leaves_any (N : Nat) : ∀ (w0 : World) (T : Ct) (w : World) (v : Value), T.size ≤ N → T.size ≤ 1000000 → T.Tr w0 v → Below w0.heap.size w0 w →
    Calls Try.prog 42 #[v] w fun e w' => ∃ v', e = .returned v' ∧ IntOwn w' w.heap.size v' T.leaves ∧ Below w.heap.size w w' := by
  induction N with
  | zero => intro w0 T w v h; cases T; rw [Ct.size] at h; omega
  | succ N ih =>
  intro w0 T w v hN hm hv h0
  cases T with
  | mk con is k rr p cs =>
  obtain ⟨A, cap, pv, rfl, ⟨Ap, cp, rfl, -⟩, ⟨hd1, hd2, hd3, hd4⟩, hs⟩ := hv
  rw [Ct.size_mk] at hN hm
  rw [Ct.leaves]
  by_cases h1 : k = 1
  · subst h1
    rw [if_pos rfl]
    go_enter Try.func42, Try.ntmps42
    go_wp2_with fail
    go_ret
    exact ⟨_, rfl, own_new2 w _ 3 1 1 #[.int .i64 rr] rfl (by omega), below2 w _ _⟩
  · rw [if_neg h1]
    obtain ⟨i3, hi3, hz30, hz31, hz32⟩ := info_parts info3
    have hk1 : (k == 1) = false := by simp [h1]
    have hbV := below1 w (.cells #[.int .i64 k, .int .i64 rr, .slice Ap p.length cp, .slice A cs.length cap] 74)
    clear h1
    go_enter Try.func42, Try.ntmps42
    go_wp2_with fail
    go_loopw [3, 15] (fun t i wr => ∃ j : Nat, i = .int .i64 j ∧ j ≤ cs.length ∧ IntOwn wr w.heap.size t (CtLeaves (cs.take j)) ∧ Below w.heap.size w wr) (fun _ i _ => cs.length - (intOf i).toNat)
    case atStart => exact ⟨0, rfl, Nat.zero_le _, World.ownsRow_nil _ _ _ _, hbV⟩
    case round =>
      obtain ⟨j, rfl, hj, hown, hb⟩ := hrel
      unfold IntOwn at hown
      by_cases hlt : j < cs.length
      · obtain ⟨b, o, rfl, hat⟩ := hs.get j hlt
        have hsz := CtSize_get hlt
        have hT : Hid (CtLeaves (cs.take (j + 1)) = CtLeaves (cs.take j) ++ (cs[j]).leaves) := Lib.hid (by rw [take_succ_Ct hlt, CtLeaves_append]; simp [CtLeaves])
        have hle1 := CtLeaves_le (cs.take j)
        have hle2 := take_le_CtSize cs j
        have hle3 := leaves_le cs[j]
        generalize cs[j] = y at *
        generalize CtLeaves (cs.take j) = acc at *
        cases y with
        | mk con2 is2 k2 r2 p2 cs2 =>
        obtain ⟨A2, cap2, Ap2, cp2, c0, c1, c2, c3, c4, c5, hv2⟩ := hat.open_
        have hb0 := h0.trans (hb.mono h0.size)
        have d0 := cellB hb0 (Nat.le_refl _) c0
        have d1 := cellB hb0 (Nat.le_refl _) c1
        have d2 := cellB hb0 (Nat.le_refl _) c2
        have d3 := cellB hb0 (Nat.le_refl _) c3
        have d4 := cellB hb0 (Nat.le_refl _) c4
        have d5 := cellB hb0 (Nat.le_refl _) c5
        have hbl := World.block_lt_of_cell? _ _ d0
        simp only at hbl
        have HC := fun o => Lib.hid (ih w0 _ (wr.alloc o) _ (by omega) (by omega) hv2 (hb0.alloc hb0.size o))
        have hg1 : acc.length + (Ct.mk con2 is2 k2 r2 p2 cs2).leaves.length ≤ maxLen := by unfold maxLen; omega
        have hg2 : (acc.length + (Ct.mk con2 is2 k2 r2 p2 cs2).leaves.length) * 8 ≤ 140737488355328 := by omega
        generalize (Ct.mk con2 is2 k2 r2 p2 cs2).leaves = ls at *
        have hone := one_ints ls
        clear hat hs c0 c1 c2 c3 c4 c5 ih
        go_wp2_with (first | (go_at_call 42; refine (HC _).out.mono ?_; rintro _ w1 ⟨v1, rfl, hown1, hb1⟩; obtain ⟨A1, c1, rfl, h11, h12⟩ := own_form hown1; have hbc := Below.call1 hb1; have hbn := hb.thenCall hb.size hbc; have hown' := own_below hown hbc (Nat.le_refl _); have hsrc := Src.of_own hown1; have hcp := own_cap hown1) | (at_builtin; refine wpList_append_src rfl (.tmp 19) (.tmp 22) 58 rfl w.heap.size 3 i3 _ 1 8 Try.underlying58 hi3 hz30 hz31 hz32 rfl (by omega) u3 acc.length (acc.map (Value.int .i64)) rfl hown' A1 ls.length c1 (ls.map (Value.int .i64)) rfl hsrc hcp hone hg1 hg2 hbn.size ?_; intro v2 w2 hown2 hg3))
        have hb2 := below_grown hown' hg3 hbn.size
        refine ⟨⟨j + 1, by go_num, by omega, ?_, hbn.trans hb2⟩, by simp [intOf]; omega⟩
        unfold IntOwn
        rw [hT.out, List.length_append, List.map_append]
        exact hown2
      · go_wp2_with fail
        go_ret
        rw [List.take_of_length_le (by omega)] at hown
        exact ⟨_, rfl, hown, hb⟩
set_option maxRecDepth 100000 in
set_option maxHeartbeats 2000000 in
theorem depth_any (N : Nat) : ∀ (w0 : World) (T : Ct) (w : World) (v : Value), T.size ≤ N → T.size ≤ 1000000 → T.Tr w0 v → Below w0.heap.size w0 w →
    Calls Try.prog 45 #[v] w fun e w' => e = .returned (.int .i64 (depC T : Nat)) ∧ Below w.heap.size w w' := by
  induction N with
  | zero => intro w0 T w v h; cases T; rw [Ct.size] at h; omega
  | succ N ih =>
  intro w0 T w v hN hm hv h0
  cases T with
  | mk con is k rr p cs =>
  obtain ⟨A, cap, pv, rfl, ⟨Ap, cp, rfl, -⟩, ⟨hd1, hd2, hd3, hd4⟩, hs⟩ := hv
  rw [Ct.size_mk] at hN hm
  rw [depC]
  have hbV := below1 w (.cells #[.int .i64 k, .int .i64 rr, .slice Ap p.length cp, .slice A cs.length cap] 74)
  by_cases htriv : True
  · go_enter Try.func45, Try.ntmps45
    go_wp2_with fail
    go_loopw [3, 9] (fun t i wr => ∃ j : Nat, i = .int .i64 j ∧ j ≤ cs.length ∧ t = .int .i64 (depCs (cs.take j) : Nat) ∧ Below w.heap.size w wr) (fun _ i _ => cs.length - (intOf i).toNat)
    case atStart => exact ⟨0, rfl, Nat.zero_le _, by simp [depCs], hbV⟩
    case round =>
      obtain ⟨j, rfl, hj, rfl, hb⟩ := hrel
      by_cases hlt : j < cs.length
      · obtain ⟨b, o, rfl, hat⟩ := hs.get j hlt
        have hsz := CtSize_get hlt
        have hT : Hid (depCs (cs.take (j + 1)) = max (depCs (cs.take j)) (depC cs[j])) := Lib.hid (by rw [take_succ_Ct hlt, depCs_append]; simp [depCs])
        have hle1 := depCs_le (cs.take j)
        have hle2 := take_le_CtSize cs j
        have hle3 := dep_le cs[j]
        generalize cs[j] = y at *
        generalize depCs (cs.take j) = acc at *
        cases y with
        | mk con2 is2 k2 r2 p2 cs2 =>
        obtain ⟨A2, cap2, Ap2, cp2, c0, c1, c2, c3, c4, c5, hv2⟩ := hat.open_
        have hb0 := h0.trans (hb.mono h0.size)
        have d0 := cellB hb0 (Nat.le_refl _) c0
        have d1 := cellB hb0 (Nat.le_refl _) c1
        have d2 := cellB hb0 (Nat.le_refl _) c2
        have d3 := cellB hb0 (Nat.le_refl _) c3
        have d4 := cellB hb0 (Nat.le_refl _) c4
        have d5 := cellB hb0 (Nat.le_refl _) c5
        have hbl := World.block_lt_of_cell? _ _ d0
        simp only at hbl
        have HC := fun o => Lib.hid (ih w0 _ (wr.alloc o) _ (by omega) (by omega) hv2 (hb0.alloc hb0.size o))
        generalize depC (Ct.mk con2 is2 k2 r2 p2 cs2) = q at *
        have hsum : ((acc : Nat) : Int) + q ≤ 9223372036854775807 := by omega
        clear hat hs c0 c1 c2 c3 c4 c5 ih
        go_wp2_with (go_at_call 45; refine (HC _).out.mono ?_; rintro _ w1 ⟨rfl, hb1⟩)
        refine ⟨⟨j + 1, by go_num, by omega, by rw [hT.out]; go_num, hb.thenCall hb.size (Below.call1 hb1)⟩, by simp [intOf]; omega⟩
      · rw [List.take_of_length_le (by omega : cs.length ≤ j)]
        have hle9 := depCs_le cs
        go_wp2_with fail
        go_ret
        exact ⟨by go_num, hb⟩
  · exact absurd trivial htriv
set_option maxRecDepth 100000 in
set_option maxHeartbeats 2000000 in
theorem ors_any (N : Nat) : ∀ (w0 : World) (T : Ct) (w : World) (v : Value), T.size ≤ N → T.size ≤ 1000000 → T.Tr w0 v → Below w0.heap.size w0 w →
    Calls Try.prog 46 #[v] w fun e w' => e = .returned (.int .i64 (orsC T : Nat)) ∧ Below w.heap.size w w' := by
  induction N with
  | zero => intro w0 T w v h; cases T; rw [Ct.size] at h; omega
  | succ N ih =>
  intro w0 T w v hN hm hv h0
  cases T with
  | mk con is k rr p cs =>
  obtain ⟨A, cap, pv, rfl, ⟨Ap, cp, rfl, -⟩, ⟨hd1, hd2, hd3, hd4⟩, hs⟩ := hv
  rw [Ct.size_mk] at hN hm
  rw [orsC]
  have hbV := below1 w (.cells #[.int .i64 k, .int .i64 rr, .slice Ap p.length cp, .slice A cs.length cap] 74)
  by_cases hk : k = 3
  · subst hk
    rw [if_pos rfl]
    go_enter Try.func46, Try.ntmps46
    go_wp2_with fail
    go_loopw [3, 14] (fun t i wr => ∃ j : Nat, i = .int .i64 j ∧ j ≤ cs.length ∧ t = .int .i64 (1 + orsCs (cs.take j) : Nat) ∧ Below w.heap.size w wr) (fun _ i _ => cs.length - (intOf i).toNat)
    case atStart => exact ⟨0, rfl, Nat.zero_le _, by simp [orsCs], hbV⟩
    case round =>
      obtain ⟨j, rfl, hj, rfl, hb⟩ := hrel
      by_cases hlt : j < cs.length
      · obtain ⟨b, o, rfl, hat⟩ := hs.get j hlt
        have hsz := CtSize_get hlt
        have hT : Hid (orsCs (cs.take (j + 1)) = orsCs (cs.take j) + orsC cs[j]) := Lib.hid (by rw [take_succ_Ct hlt, orsCs_append]; simp [orsCs])
        have hle1 := orsCs_le (cs.take j)
        have hle2 := take_le_CtSize cs j
        have hle3 := ors_le cs[j]
        generalize cs[j] = y at *
        generalize orsCs (cs.take j) = acc at *
        cases y with
        | mk con2 is2 k2 r2 p2 cs2 =>
        obtain ⟨A2, cap2, Ap2, cp2, c0, c1, c2, c3, c4, c5, hv2⟩ := hat.open_
        have hb0 := h0.trans (hb.mono h0.size)
        have d0 := cellB hb0 (Nat.le_refl _) c0
        have d1 := cellB hb0 (Nat.le_refl _) c1
        have d2 := cellB hb0 (Nat.le_refl _) c2
        have d3 := cellB hb0 (Nat.le_refl _) c3
        have d4 := cellB hb0 (Nat.le_refl _) c4
        have d5 := cellB hb0 (Nat.le_refl _) c5
        have hbl := World.block_lt_of_cell? _ _ d0
        simp only at hbl
        have HC := fun o => Lib.hid (ih w0 _ (wr.alloc o) _ (by omega) (by omega) hv2 (hb0.alloc hb0.size o))
        generalize orsC (Ct.mk con2 is2 k2 r2 p2 cs2) = q at *
        have hsum : ((1 + acc : Nat) : Int) + q ≤ 9223372036854775807 := by omega
        clear hat hs c0 c1 c2 c3 c4 c5 ih
        go_wp2_with (go_at_call 46; refine (HC _).out.mono ?_; rintro _ w1 ⟨rfl, hb1⟩)
        refine ⟨⟨j + 1, by go_num, by omega, by rw [hT.out]; go_num, hb.thenCall hb.size (Below.call1 hb1)⟩, by simp [intOf]; omega⟩
      · rw [List.take_of_length_le (by omega : cs.length ≤ j)]
        have hle9 := orsCs_le cs
        go_wp2_with fail
        go_ret
        exact ⟨by go_num, hb⟩
  · rw [if_neg hk]
    have hk1 : (k == 3) = false := by simp [hk]
    clear hk
    go_enter Try.func46, Try.ntmps46
    go_wp2_with fail
    go_loopw [3, 14] (fun t i wr => ∃ j : Nat, i = .int .i64 j ∧ j ≤ cs.length ∧ t = .int .i64 (0 + orsCs (cs.take j) : Nat) ∧ Below w.heap.size w wr) (fun _ i _ => cs.length - (intOf i).toNat)
    case atStart => exact ⟨0, rfl, Nat.zero_le _, by simp [orsCs], hbV⟩
    case round =>
      obtain ⟨j, rfl, hj, rfl, hb⟩ := hrel
      by_cases hlt : j < cs.length
      · obtain ⟨b, o, rfl, hat⟩ := hs.get j hlt
        have hsz := CtSize_get hlt
        have hT : Hid (orsCs (cs.take (j + 1)) = orsCs (cs.take j) + orsC cs[j]) := Lib.hid (by rw [take_succ_Ct hlt, orsCs_append]; simp [orsCs])
        have hle1 := orsCs_le (cs.take j)
        have hle2 := take_le_CtSize cs j
        have hle3 := ors_le cs[j]
        generalize cs[j] = y at *
        generalize orsCs (cs.take j) = acc at *
        cases y with
        | mk con2 is2 k2 r2 p2 cs2 =>
        obtain ⟨A2, cap2, Ap2, cp2, c0, c1, c2, c3, c4, c5, hv2⟩ := hat.open_
        have hb0 := h0.trans (hb.mono h0.size)
        have d0 := cellB hb0 (Nat.le_refl _) c0
        have d1 := cellB hb0 (Nat.le_refl _) c1
        have d2 := cellB hb0 (Nat.le_refl _) c2
        have d3 := cellB hb0 (Nat.le_refl _) c3
        have d4 := cellB hb0 (Nat.le_refl _) c4
        have d5 := cellB hb0 (Nat.le_refl _) c5
        have hbl := World.block_lt_of_cell? _ _ d0
        simp only at hbl
        have HC := fun o => Lib.hid (ih w0 _ (wr.alloc o) _ (by omega) (by omega) hv2 (hb0.alloc hb0.size o))
        generalize orsC (Ct.mk con2 is2 k2 r2 p2 cs2) = q at *
        have hsum : ((0 + acc : Nat) : Int) + q ≤ 9223372036854775807 := by omega
        clear hat hs c0 c1 c2 c3 c4 c5 ih
        go_wp2_with (go_at_call 46; refine (HC _).out.mono ?_; rintro _ w1 ⟨rfl, hb1⟩)
        refine ⟨⟨j + 1, by go_num, by omega, by rw [hT.out]; go_num, hb.thenCall hb.size (Below.call1 hb1)⟩, by simp [intOf]; omega⟩
      · rw [List.take_of_length_le (by omega : cs.length ≤ j)]
        have hle9 := orsCs_le cs
        go_wp2_with fail
        go_ret
        exact ⟨by go_num, hb⟩
end Go.Proofs.Ytnaakhnmbckpmaa.Pats
