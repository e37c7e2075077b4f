/- Contract: dtree.Build. -/
import Derived.Test.YtnaakhnmbckpmaaBrW
namespace Go.Proofs.Ytnaakhnmbckpmaa.Pats
open Go.ChangeShapes Go.WideShapes Go.ChangeAt Go.RowKit Go.Proofs.Ytnaakhnmbckpmaa.Lift Go.Proofs.Ytnaakhnmbckpmaa.Data Go.Proofs.Ytnaakhnmbckpmaa.Refs Go.Proofs.Ytnaakhnmbckpmaa.Strs
set_option linter.unusedVariables false
set_option linter.unusedSimpArgs false
theorem build_all : ∀ N, BuildOk N
  | 0 => fun S w mv rv sv lv makers rules ss pl h => by omega
  | N + 1 => build_step N (build_all N) (branch_step N (build_all N))
/-- all rules' numbers; the first places. -/
def allR (n : Nat) : List Int := upto n
def firstP (n : Nat) : List (List Int) := (List.range n).map fun k => [Int.ofNat k]
theorem firstP_succ (n : Nat) : firstP (n + 1) = firstP n ++ [[Int.ofNat n]] := by simp [firstP, List.range_succ]
theorem firstP_len (n : Nat) : (firstP n).length = n := by simp [firstP]
theorem upto_len (n : Nat) : (upto n).length = n := by simp [upto]
/-- what tree is built of rules. -/
def TreeOf (makers : List ByteArray) (rules : List (List Ex)) (T : Ct) : Prop := (rules = [] ∧ T = failT) ∨ (rules ≠ [] ∧ BuildR makers rules (upto rules.length) (firstP (rules.getD 0 []).length) T)
theorem wt_first (rules : List (List Ex)) (i : Int) (n : Nat) : wt rules i (firstP n) ≤ ExSize (rules.getD i.toNat []) := by
  have key : ∀ n, wt rules i (firstP n) ≤ ExSize ((rules.getD i.toNat []).take n) := by
    intro n
    induction n with
    | zero => simp [firstP, wt]
    | succ n ih =>
      rw [firstP_succ, wt_append]
      simp only [wt]
      cases hg : (rules.getD i.toNat [])[n]? with
      | none =>
        have : atS (rules.getD i.toNat []) [Int.ofNat n] = none := by rw [atS]; simp only [Int.ofNat_eq_natCast, Int.toNat_natCast, hg]; split <;> rfl
        rw [this]
        have h2 := List.getElem?_eq_none_iff.1 hg
        rw [List.take_of_length_le (by omega)] at ih ⊢
        simpa using ih
      | some x =>
        have : atS (rules.getD i.toNat []) [Int.ofNat n] = some x := atS_one hg
        rw [this]
        obtain ⟨h2, h3⟩ := List.getElem?_eq_some_iff.1 hg
        rw [ExSize_take h2, h3]
        simp only
        omega
  exact Nat.le_trans (key n) ExSize_take_le
theorem mu_first (rules : List (List Ex)) (n : Nat) (h : ∀ l ∈ rules, ExSize l ≤ 200) : ∀ (ss : List Int), mu rules (firstP n) ss ≤ ss.length * 201
  | [] => by simp [mu]
  | i :: ss => by
    have h1 := mu_first rules n h ss
    have h2 := wt_first rules i n
    have h3 : ExSize (rules.getD i.toNat []) ≤ 200 := by
      cases hg : rules[i.toNat]? with
      | none => simp [List.getD, hg, ExSize]
      | some l => simp only [List.getD, hg, Option.getD_some]; exact h l (List.mem_of_getElem? hg)
    simp only [mu, List.length_cons]
    omega
theorem bnd_first (rules : List (List Ex)) (h : ∀ l ∈ rules, ExSize l ≤ 200) (hn : rules.length ≤ 8) : Bnd rules (upto rules.length) (firstP (rules.getD 0 []).length) := by
  have h1 := mu_first rules (rules.getD 0 []).length h (upto rules.length)
  rw [upto_len] at h1
  have h3 : (rules.getD 0 []).length ≤ 200 := by
    refine Nat.le_trans (ExSize_len _) ?_
    cases hg : rules[0]? with
    | none => simp [List.getD, hg, ExSize]
    | some l => simp only [List.getD, hg, Option.getD_some]; exact h l (List.mem_of_getElem? hg)
  refine ⟨fun i hi => ?_, by rw [firstP_len]; omega, fun p hp => ?_⟩
  · simp only [upto, List.mem_map, List.mem_range] at hi
    obtain ⟨k, hk, rfl⟩ := hi
    simp only [Int.ofNat_eq_natCast]
    omega
  · simp only [firstP, List.mem_map] at hp
    obtain ⟨k, _, rfl⟩ := hp
    simp only [List.length_cons, List.length_nil]
    omega
def notR (R : Nat) (b : Nat) : Bool := !decide (b = R)
theorem notR_iff {R b : Nat} : notR R b = true ↔ b ≠ R := by simp [notR]
theorem sub_notR {w0 w wF : World} (h : Below w0.heap.size w0 w) (hb : Below w.heap.size w wF) : Data.Sub w0 (part wF (notR w.heap.size)) := by
  intro b o v hv
  have h1 := cellB h (Nat.le_refl _) hv
  have h2 := World.block_lt_of_cell? _ _ h1
  simp only at h2
  rw [part_cell, if_pos (notR_iff.2 (by omega))]
  exact cellB hb (Nat.le_refl _) h1
theorem sub_notR_end {R m : Nat} {w2 w3 : World} (hh : ∀ b, b ≠ R → w3.heap[b]? = w2.heap[b]?) (h : R < m) : Data.Sub (part w2 (gap (notR R) m m)) w3 := by
  refine Data.Sub.trans (sub_part (S' := notR R) fun b _ hs => ?_) (sub_part_of _ _)
  have hb : b ≠ R := by
    rcases gap_iff.1 hs with ⟨h5, _⟩ | h5
    · exact notR_iff.1 h5
    · omega
  exact ⟨notR_iff.2 hb, hh b hb⟩
set_option maxRecDepth 100000 in
set_option maxHeartbeats 4000000 in
theorem build_any (w0 w : World) (mv rv : Value) (makers : List ByteArray) (rules : List (List Ex)) (hM : StrSl w0 mv makers) (hR : RS w0 rv rules) (h200 : ∀ l ∈ rules, ExSize l ≤ 200) (hn : rules.length ≤ 8) (h0 : Below w0.heap.size w0 w) :
    Calls Try.prog 41 #[mv, rv] w fun r w' => ∃ T v, r = .returned v ∧ TreeOf makers rules T ∧ T.Tr w' v ∧ Below w.heap.size w w' := by
  obtain ⟨i3, hi3, hz30, hz31, hz32⟩ := info_parts info3
  obtain ⟨i1, hi1, hy0, hy1, hy2⟩ := info_parts info58
  have HM := Lib.hid hM
  have HR := Lib.hid hR
  obtain ⟨Am, capm, rfl, -⟩ := hM
  obtain ⟨Ar, capr, xr, rfl, r1, r2, r3, r4, r5, r6⟩ := hR
  go_enter Try.func41, Try.ntmps41
  cases rules with
  | nil =>
    rw [List.length_nil] at *
    go_wp2_with fail
    refine bodyPost_ret (v := .agg #[.int .i64 0, .int .i64 0, .slice none 0 0, .slice none 0 0]) (by simp [results, Try.results41, go_sem]) rfl ?_
    exact ⟨failT, _, rfl, .inl ⟨rfl, rfl⟩, tr_leaf _ 0 0, below1 w _⟩
  | cons l0 rs =>
    obtain ⟨b, o, lv0, rfl, hbl, hc, hsl⟩ := RS_get r5 r6 0 (by simp)
    simp only [List.getElem_cons_zero, Nat.add_zero] at hc hsl
    obtain ⟨Al, capl, rfl, -⟩ := hsl
    have hc2 := cellB h0 (Nat.le_refl _) hc
    have hbw := World.block_lt_of_cell? _ _ hc2
    simp only at hbw
    have hne0 : ((rs.length : Int) + 1 == 0) = false := by rw [beq_eq_false_iff_ne]; omega
    have hl0 : l0.length ≤ 200 := Nat.le_trans (ExSize_len l0) (h200 l0 (List.mem_cons_self ..))
    have hbnd := Lib.hid (bnd_first (l0 :: rs) h200 hn)
    have hx1 : (0 : Int) < (rs.length : Int) + 1 := by omega
    rw [List.length_cons] at *
    have hbZ := below1 w (.cells #[.int .i64 0, .int .i64 0, .slice none 0 0, .slice none 0 0] 74)
    have hfZ := heap_alloc_new w (.cells #[.int .i64 0, .int .i64 0, .slice none 0 0, .slice none 0 0] 74)
    have hsZ : (w.alloc (.cells #[.int .i64 0, .int .i64 0, .slice none 0 0, .slice none 0 0] 74)).heap.size = w.heap.size + 1 := by simp
    go_wp2_with fail
    generalize w.alloc (.cells #[.int .i64 0, .int .i64 0, .slice none 0 0, .slice none 0 0] 74) = V at *
    go_loopw [5, 15] (fun t i wr => ∃ k : Nat, i = .int .i64 k ∧ k ≤ rs.length + 1 ∧ wr.ownsRow V.heap.size 3 1 t k ((upto k).map (Value.int .i64)) ∧ Below V.heap.size V wr) (fun _ i _ => rs.length + 1 - (intOf i).toNat)
    case atStart => exact ⟨0, rfl, Nat.zero_le _, World.ownsRow_nil _ _ _ _, Below.refl _ _⟩
    case round =>
      obtain ⟨k, rfl, hk, hown, hb⟩ := hrel
      by_cases hlt : k < rs.length + 1
      · have hbz := fun o => (below1 wr o)
        have hg1 : k + 1 ≤ maxLen := by unfold maxLen; omega
        have hg2 : (k + 1) * 8 ≤ 140737488355328 := by omega
        have hup := upto_succ k
        have HUP := Lib.hid hup
        clear hup
        go_wp2_with (at_builtin; refine wpList_append_src rfl (.tmp 18) (.tmp 20) 58 rfl V.heap.size 3 i3 _ 1 8 Try.underlying58 hi3 hz30 hz31 hz32 rfl (by omega) u5 k _ rfl (own_below hown (hbz _) (Nat.le_refl _)) (some ⟨wr.heap.size, 0, none⟩) 1 1 [.int .i64 k] rfl (Src.of_own (own_new wr 3 1 1 #[.int .i64 k] rfl (by omega))) (fun h => by cases h) (by simp [Value.oneCell']) hg1 hg2 (Nat.le_trans hb.size (hbz _).size) ?_; intro v2 w2 hown2 hgr2)
        have hb2 := below_grown (own_below hown (hbz _) (Nat.le_refl _)) hgr2 (Nat.le_trans hb.size (hbz _).size)
        refine ⟨⟨k + 1, by go_num, by omega, ?_, (hb.thenCall hb.size (hbz _)).trans hb2⟩, by simp [intOf]; omega⟩
        rw [HUP.out, List.map_append]
        exact hown2
      · obtain rfl : k = rs.length + 1 := by omega
        obtain ⟨A5, c5, rfl, h51, h52⟩ := own_form hown
        obtain ⟨wB, hwB⟩ : ∃ x, x = wr := ⟨_, rfl⟩
        have hVB := hb
        rw [← hwB] at hown hVB
        have hbwB : Below w.heap.size w wB := hbZ.trans (hVB.mono hbZ.size)
        have hcB := cellB hbwB (Nat.le_refl _) hc2
        have hbB : b < wB.heap.size := World.block_lt_of_cell? _ _ hcB
        have hzB := hVB.size
        rw [← hwB]
        clear hb hwB wr
        go_wp2_with fail
        go_loopw [7, 27] (fun t i wr' => ∃ (k : Nat) (xs' : List Value), i = .int .i64 k ∧ k ≤ l0.length ∧ wr'.ownsRow wB.heap.size 58 1 t k xs' ∧ PCells (part wr' (frm wB.heap.size t.ownBlock)) (firstP k) xs' ∧ Below wB.heap.size wB wr') (fun _ i _ => l0.length - (intOf i).toNat)
        case atStart => exact ⟨0, [], rfl, Nat.zero_le _, World.ownsRow_nil _ _ _ _, by simp [firstP, PCells], Below.refl _ _⟩
        case round =>
          obtain ⟨k, xi, rfl, hk2, hiown, hicells, hbi⟩ := hrel
          have hzi := hbi.size
          by_cases hltk : k < l0.length
          · have hbz := fun o o' => below2 wr o o'
            have hg3 : k + 1 ≤ maxLen := by unfold maxLen; omega
            have hg4 : (k + 1) * 24 ≤ 140737488355328 := by omega
            have hH := own_new wr 3 1 1 #[.int .i64 k] rfl (by omega)
            go_wp2_with (at_builtin; refine wpList_append_where rfl (.tmp 30) (.tmp 33) 56 rfl wB.heap.size 58 i1 _ 1 24 Try.underlying56 hi1 hy0 hy1 hy2 rfl (by omega) u7 k xi rfl (own_below hiown (hbz _ _) (Nat.le_refl _)) (some ⟨wr.heap.size + 1, 0, none⟩) 1 1 [.slice (some ⟨wr.heap.size, 0, none⟩) 1 1] rfl (Src.of_own (own_new2 wr _ 58 1 1 #[.slice (some ⟨wr.heap.size, 0, none⟩) 1 1] rfl (by omega))) (fun h => by cases h) (by simp [Value.oneCell']) hg3 hg4 (Nat.le_trans hzi (hbz _ _).size) ?_; intro v7 w7 hown7 hgr7 hf7)
            have hb7 := below_grown (own_below hiown (hbz _ _) (Nat.le_refl _)) hgr7 (Nat.le_trans hzi (hbz _ _).size)
            refine ⟨⟨v7, _, .int .i64 ((k + 1 : Nat) : Int), ⟨k + 1, rfl, by omega, _, hown7, ?_, (hbi.thenCall hbi.size (hbz _ _)).trans hb7⟩, rfl, rfl, by go_num⟩, by simp [intOf]; omega⟩
            rw [firstP_succ]
            refine (hicells.sub (sub_step (hbz _ _) hgr7 hf7 (fun b _ hs => frm_iff.1 hs))).append (PCells.single ?_)
            refine (IS_part (l := [Int.ofNat k]) (S := frm wr.heap.size none) hH (by simp) (fun k hk => frm_iff.2 ⟨hk, by simp⟩)).sub (sub_step ((Below.refl _ _).alloc (Nat.le_refl _) _) hgr7 hf7 fun b hbl hs => ⟨?_, fun e => ?_⟩)
            · have := (frm_iff.1 hs).1; omega
            · have h1 := (frm_iff.1 hs).1
              have h2 := (own_block_lt hiown e).2
              omega
          · obtain rfl : k = l0.length := by omega
            have hbwi := hbwB.thenCall hbwB.size hbi
            obtain ⟨A7, c7, rfl, h71, h72⟩ := own_form hiown
            have hsub := sub_notR h0 hbwi
            have hfl : (firstP l0.length).length = l0.length := firstP_len _
            have hul : (upto (rs.length + 1)).length = rs.length + 1 := upto_len _
            have hisF : IS (part wr (notR w.heap.size)) (.slice A5 (rs.length + 1) c5) (upto (rs.length + 1)) := by
              have := own_below hown hbi (Nat.le_refl _)
              refine IS_part (l := upto (rs.length + 1)) (by rw [hul]; exact this) (by rw [hul]; omega) (fun k' hk' => notR_iff.2 (by omega))
            have hpsF : PS (part wr (notR w.heap.size)) (.slice A7 l0.length c7) (firstP l0.length) := by
              refine ⟨A7, c7, xi, by rw [hfl], by omega, by omega, by omega, own_cap hiown, ?_, hicells.sub (sub_part fun b' _ hs => ⟨notR_iff.2 (by have := (frm_iff.1 hs).1; omega), rfl⟩)⟩
              rw [hfl]
              exact src_part hiown (fun k' hk' => notR_iff.2 (by omega))
            have HBu := Lib.hid (build_all (mu (l0 :: rs) (firstP l0.length) (upto (rs.length + 1)) + 1) (notR w.heap.size) wr _ _ _ _ makers (l0 :: rs) (upto (rs.length + 1)) (firstP l0.length) (Nat.lt_succ_self _) ⟨Data.StrSl.sub HM.out hsub, HR.out.sub hsub, h200⟩ hisF hpsF (by simpa using hbnd.out))
            have hf0 := (hbi.block _ (by omega)).trans ((hVB.block _ (by omega)).trans hfZ)
            have hwl : w.heap.size < wr.heap.size := by omega
            clear hisF hpsF hsub hicells
            go_wp2_with fail
            refine HBu.out.mono ?_
            rintro _ w9 ⟨T, vT, rfl, hT, hTr, hb9⟩
            obtain ⟨Tp, tl, tc, TA, tcap, rfl⟩ := hTr.form
            obtain ⟨q0, q1, q2, q3, z0, z1, z2, z3⟩ := row4f ((hb9.block _ hwl).trans hf0)
            go_wp2_with fail
            refine bodyPost_ret (v := .agg #[.int .i64 T.kind, .int .i64 T.rule, .slice Tp tl tc, .slice TA T.cs.length tcap]) (by simp [results, Try.results41, go_sem, q0, q1, q2, q3]) rfl ?_
            exact ⟨T, _, rfl, .inr ⟨by simp, by simpa using hT⟩, hTr.sub (sub_notR_end (R := w.heap.size) setCell4 hwl), below_setCell4 (hbwi.thenCall hbwi.size hb9) (Nat.le_refl _)⟩
end Go.Proofs.Ytnaakhnmbckpmaa.Pats
