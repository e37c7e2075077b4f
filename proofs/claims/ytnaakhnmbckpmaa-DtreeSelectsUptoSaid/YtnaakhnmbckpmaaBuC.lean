/- Contracts: slices.Grow and slices.Concat at rows of paths; dtree.or. -/
import Derived.Test.YtnaakhnmbckpmaaBuB
import Derived.Lib.AppendZeros
namespace Go.Proofs.Ytnaakhnmbckpmaa.Pats
open Go.ChangeShapes Go.WideShapes Go.ChangeAt Go.RowKit Go.Proofs.Ytnaakhnmbckpmaa.Lift Go.Proofs.Ytnaakhnmbckpmaa.Data Go.Proofs.Ytnaakhnmbckpmaa.Refs Go.Proofs.Ytnaakhnmbckpmaa.Strs
set_option linter.unusedVariables false
set_option linter.unusedSimpArgs false
theorem grow_any (w : World) (k : Nat) (hk : k ≤ 4194304) : Calls Try.prog 91 #[.slice none 0 0, .int .i64 k] w fun r w' => ∃ v, r = .returned v ∧ w'.ownsRow w.heap.size 58 1 v 0 [] ∧ Below w.heap.size w w' := by
  rcases Nat.eq_zero_or_pos k with h0 | h0
  · subst h0
    go_enter Try.func91, Try.ntmps91
    go_wp2_with fail
    go_ret
    exact ⟨_, rfl, World.ownsRow_nil _ _ _ _, Below.refl _ _⟩
  · obtain ⟨i1, hi1, hy0, hy1, hy2⟩ := info_parts info58
    have hrun := Lib.run_append_nil_zeros (P := Try.prog) w 56 3 56 58 i1 _ .i64 .i64 Try.underlying56 Try.underlying3 hi1 hy0 k h0 (by omega) (by omega) (by rw [hy2]; omega)
    have hge := grownCap_ge w k 0 58
    have hmx := grownCap_le_maxLen w k 0 58 (by unfold maxLen; omega)
    have hsz : (Builtin.zeroCells (Value.slice none 0 0).cells k ++ Builtin.zeroCells (Value.slice none 0 0).cells (grownCap w k 0 58 - k)).size = grownCap w k 0 58 * 1 := by
      simp only [Array.size_append, size_zeroCells]
      have : (Value.slice none 0 0).cells.size = 1 := rfl
      rw [this]
      omega
    have hown : (w.drew.alloc (.cells (Builtin.zeroCells (Value.slice none 0 0).cells k ++ Builtin.zeroCells (Value.slice none 0 0).cells (grownCap w k 0 58 - k)) 58)).ownsRow w.heap.size 58 1 (.slice (some ⟨w.heap.size, 0, none⟩) 0 (grownCap w k 0 58)) 0 [] :=
      ⟨rfl, .inr ⟨w.heap.size, _, _, rfl, Nat.le_refl _, heap_alloc_new w.drew _, Nat.zero_le _, hmx, hsz, by simp⟩⟩
    have hbn : Below w.heap.size w (w.drew.alloc (.cells (Builtin.zeroCells (Value.slice none 0 0).cells k ++ Builtin.zeroCells (Value.slice none 0 0).cells (grownCap w k 0 58 - k)) 58)) := (Below.refl _ _).drew.alloc (Nat.le_refl _) _
    generalize (w.drew.alloc (.cells (Builtin.zeroCells (Value.slice none 0 0).cells k ++ Builtin.zeroCells (Value.slice none 0 0).cells (grownCap w k 0 58 - k)) 58)) = W at *
    generalize grownCap w k 0 58 = c at *
    have hneg : ¬ ((k : Int) < 0) := by omega
    have hpos : (0 : Int) < k := by omega
    have hcm : c ≤ 9223372036854775807 := by unfold maxLen at hmx; omega
    clear hsz hmx
    go_enter Try.func91, Try.ntmps91
    go_wp2_with (at_builtin; refine Lib.wpList_append_run w rfl (.tmp 20) (.tmp 21) 56 3 rfl _ _ rfl rfl _ _ hrun ?_)
    go_ret
    exact ⟨_, rfl, hown, hbn⟩
/-- the cells of a row of rows of paths. -/
def QCells (w : World) : List (List (List Int)) → List Value → Prop
  | [], xs => xs = []
  | l :: r, xs => ∃ v rest, xs = v :: rest ∧ PS w v l ∧ QCells w r rest
theorem QCells.get {w : World} : ∀ {es : List (List (List Int))} {xs : List Value}, QCells w es xs → ∀ (j : Nat) (h : j < es.length), ∃ v, xs[j]? = some v ∧ PS w v es[j]
  | [], xs, _, j, h => by simp at h
  | e :: r, xs, h, 0, _ => by
    rw [QCells] at h
    obtain ⟨c, rest, rfl, h1, h2⟩ := h
    exact ⟨c, rfl, h1⟩
  | e :: r, xs, h, j + 1, hj => by
    rw [QCells] at h
    obtain ⟨c, rest, rfl, h1, h2⟩ := h
    simpa using h2.get j (by simpa using hj)
theorem QS_get {w0 w : World} {A : Option Addr} {ls : List (List (List Int))} {xs : List Value} (h : Src w 1 A ls.length xs) (hc : QCells w0 ls xs) (j : Nat) (hj : j < ls.length) : ∃ b o v, A = some ⟨b, o, none⟩ ∧ b < w.heap.size ∧ w.cell? ⟨b, o + j, none⟩ = some v ∧ PS w0 v ls[j] := by
  obtain ⟨v, h1, h2⟩ := hc.get j hj
  rcases h.2 with h0 | ⟨b, o, rfl, hc'⟩
  · omega
  · have := hc' j v h1
    exact ⟨b, o, v, rfl, World.block_lt_of_cell? _ _ this, this, h2⟩
theorem flatten_take {ls : List (List (List Int))} {j : Nat} (h : j < ls.length) : (ls.take (j + 1)).flatten = (ls.take j).flatten ++ ls[j] := by
  rw [List.take_succ_eq_append_getElem h, List.flatten_append]
  simp
theorem flatten_take_le (ls : List (List (List Int))) (j : Nat) : (ls.take j).flatten.length ≤ ls.flatten.length := by
  conv => rhs; rw [← List.take_append_drop j ls, List.flatten_append, List.length_append]
  omega
/-- so many in the first ones. -/
def cntF (ls : List (List (List Int))) (j : Nat) : Nat := (ls.take j).flatten.length
theorem cntF_zero (ls : List (List (List Int))) : cntF ls 0 = 0 := by simp [cntF]
theorem cntF_all {ls : List (List (List Int))} {j : Nat} (h : ls.length ≤ j) : cntF ls j = ls.flatten.length := by rw [cntF, List.take_of_length_le h]
set_option maxRecDepth 100000 in
set_option maxHeartbeats 2000000 in
theorem concat_any (w0 w : World) (hsub : Data.Sub w0 w) (A : Option Addr) (cap : Nat) (ls : List (List (List Int))) (xs : List Value) (hcap : ls.length ≤ cap) (hcap2 : cap ≤ 9223372036854775807) (hsrc : Src w 1 A ls.length xs) (hcells : QCells w0 ls xs) (hm : ls.flatten.length ≤ 4194304) (hl : ls.length ≤ 1048576) :
    Calls Try.prog 90 #[.slice A ls.length cap] w fun r w' => ∃ v xs', r = .returned v ∧ w'.ownsRow w.heap.size 58 1 v ls.flatten.length xs' ∧ PCells w0 ls.flatten xs' ∧ Below w.heap.size w w' := by
  obtain ⟨i1, hi1, hy0, hy1, hy2⟩ := info_parts info58
  obtain ⟨N, hN⟩ : ∃ N, ls.flatten.length = N := ⟨_, rfl⟩
  rw [hN] at hm ⊢
  have HG := fun W => Lib.hid (grow_any W N hm)
  have HNN := Lib.hid hN
  clear hN
  go_enter Try.func90, Try.ntmps90
  go_wp2_with fail
  go_loopw [3, 11] (fun t i wr => ∃ j : Nat, i = .int .i64 j ∧ j ≤ ls.length ∧ t = .int .i64 (cntF ls j : Nat) ∧ w = wr) (fun _ i _ => ls.length - (intOf i).toNat)
  case atStart => exact ⟨0, rfl, Nat.zero_le _, by rw [cntF_zero]; rfl, rfl⟩
  case round =>
    obtain ⟨j, rfl, hj, rfl, rfl⟩ := hrel
    by_cases hlt : j < ls.length
    · obtain ⟨b, o, v, rfl, hbl, hc, hp⟩ := QS_get hsrc hcells j hlt
      obtain ⟨Ap, capp, xp, rfl, -⟩ := hp
      have hle := flatten_take_le ls (j + 1)
      have hT : cntF ls (j + 1) = cntF ls j + ls[j].length := by unfold cntF; rw [flatten_take hlt, List.length_append]
      rw [HNN.out, show (ls.take (j + 1)).flatten.length = cntF ls (j + 1) from rfl, hT] at hle
      have HT := Lib.hid hT
      clear hT
      generalize cntF ls j = n at *
      generalize ls[j].length = m at *
      have hneg : ¬ ((n : Int) + m < 0) := by omega
      clear hsrc hcells
      go_wp2_with fail
      exact ⟨⟨j + 1, by go_num, by omega, by rw [HT.out]; go_num, trivial⟩, by simp [intOf]; omega⟩
    · rw [cntF_all (by omega : ls.length ≤ j), HNN.out]
      go_wp2_with (go_at_call 91; refine ((HG _).out).mono ?_; rintro _ w1 ⟨v1, rfl, hown1, hb1⟩)
      go_loopw [6, 27] (fun t i wr' => ∃ (k : Nat) (xs' : List Value), i = .int .i64 k ∧ k ≤ ls.length ∧ wr'.ownsRow w.heap.size 58 1 t (cntF ls k) xs' ∧ PCells w0 (ls.take k).flatten xs' ∧ Below w.heap.size w wr') (fun _ i _ => ls.length - (intOf i).toNat)
      case atStart => exact ⟨0, [], rfl, Nat.zero_le _, by rw [cntF_zero]; exact hown1, by simp [PCells], hb1⟩
      case round =>
        obtain ⟨k, xs', rfl, hk, hown, hpc, hb⟩ := hrel
        by_cases hltk : k < ls.length
        · obtain ⟨b, o, v, rfl, hbl, hc, hp⟩ := QS_get hsrc hcells k hltk
          have hc' := cellB hb (Nat.le_refl _) hc
          obtain ⟨Ap, capp, xp, rfl, k1, k2, k3, k4, k5, k6⟩ := hp
          have hle := flatten_take_le ls (k + 1)
          have hT : cntF ls (k + 1) = cntF ls k + ls[k].length := by unfold cntF; rw [flatten_take hltk, List.length_append]
          rw [HNN.out, show (ls.take (k + 1)).flatten.length = cntF ls (k + 1) from rfl, hT] at hle
          have HF := Lib.hid (flatten_take hltk)
          have HT := Lib.hid hT
          have hone := k6.one
          have hsr := (Src_sub k5 hsub).below hb (Nat.le_refl _)
          clear hT hsrc hcells hc k5
          generalize (ls.take k).flatten = lf at *
          generalize ls[k] = q at *
          generalize cntF ls k = n at *
          have hg1 : n + q.length ≤ maxLen := by unfold maxLen; omega
          have hg2 : (n + q.length) * 24 ≤ 140737488355328 := by omega
          go_wp2_with (at_builtin; refine wpList_append_src rfl (.tmp 31) (.tmp 32) 56 rfl w.heap.size 58 i1 _ 1 24 Try.underlying56 hi1 hy0 hy1 hy2 rfl (by omega) _ n xs' rfl hown Ap q.length capp xp rfl hsr k4 hone hg1 hg2 hb.size ?_; intro v2 w2 hown2 hg3)
          have hb2 := below_grown hown hg3 hb.size
          refine ⟨⟨k + 1, xs' ++ xp, by go_num, by omega, by rw [HT.out]; exact hown2, by rw [HF.out]; exact hpc.append k6, hb.trans hb2⟩, by simp [intOf]; omega⟩
        · clear hsrc hcells
          go_wp2_with fail
          go_ret
          rw [cntF_all (by omega), HNN.out] at hown
          rw [List.take_of_length_le (by omega)] at hpc
          exact ⟨_, _, rfl, hown, hpc, hb⟩
theorem Ct.Tr.inCase {w : World} {e : Ct} {Ap A : Option Addr} {lp cp cap : Nat} (con : Int) (is : Bool) (h : e.Tr w (.agg #[.int .i64 e.kind, .int .i64 e.rule, .slice Ap lp cp, .slice A e.cs.length cap])) :
    (e.inCase con is).Cs w [.int .i64 con, .bool is, .int .i64 e.kind, .int .i64 e.rule, .slice Ap lp cp, .slice A e.cs.length cap] := by
  cases e
  obtain ⟨A', cap', pv, h1, h2, h3, h4⟩ := h
  simp only [Ct.kind, Ct.rule, Ct.cs] at h1 ⊢
  injection h1 with h1
  have h5 := congrArg (fun x => x[2]?) h1
  have h6 := congrArg (fun x => x[3]?) h1
  simp at h5 h6
  obtain ⟨rfl, rfl⟩ := h6
  subst h5
  exact ⟨_, _, _, rfl, h2, h3, h4⟩
def leafT (r : Int) : Ct := .mk 0 false 1 r [] []
def failT : Ct := .mk 0 false 0 0 [] []
def orT (a b : Ct) : Ct := .mk 0 false 3 0 [] [a.inCase 0 false, b.inCase 0 false]
/-- what a call that makes a tree answers. -/
def TreeRes (S : Nat → Bool) (P : Ct → Prop) (w : World) (r : Ending) (w' : World) : Prop :=
  ∃ T v, r = .returned v ∧ P T ∧ T.Tr (part w' (gap S w.heap.size w.heap.size)) v ∧ Below w.heap.size w w'
set_option maxRecDepth 100000 in
theorem or_any (w : World) (S : Nat → Bool) (va vb : Value) (a b : Ct) (ha : a.Tr (part w S) va) (hb : b.Tr (part w S) vb) : Calls Try.prog 85 #[va, vb] w (TreeRes S (fun T => T = orT a b) w) := by
  obtain ⟨Ap, lp, cp, A, cap, rfl⟩ := ha.form
  obtain ⟨Bp, mp, dp, B, cbp, rfl⟩ := hb.form
  have hca := Ct.Tr.inCase 0 false ha
  have hcb := Ct.Tr.inCase 0 false hb
  clear ha hb
  have HE : ∀ T, T = orT a b → T = .mk 0 false 3 0 [] [a.inCase 0 false, b.inCase 0 false] := fun T h => h
  have HR : Hid (∀ (w' : World) (v : Value) (c : Nat) (X : Option Addr), w.heap.size ≤ c → Below w.heap.size w w' → w'.ownsRow c 101 6 (.slice X 2 2) 2 [.int .i64 0, .bool false, .int .i64 a.kind, .int .i64 a.rule, .slice Ap lp cp, .slice A a.cs.length cap, .int .i64 0, .bool false, .int .i64 b.kind, .int .i64 b.rule, .slice Bp mp dp, .slice B b.cs.length cbp] →
      v = .agg #[.int .i64 3, .int .i64 0, .slice none 0 0, .slice X 2 2] → TreeRes S (fun T => T = orT a b) w (.returned v) w') := Lib.hid (by
    rintro w' v c X hc hbw hown rfl
    refine ⟨orT a b, _, rfl, rfl, ⟨X, 2, .slice none 0 0, rfl, IS.nil _, ⟨by simp, by omega, by simp, own_cap hown⟩, ?_⟩, hbw⟩
    refine Cts.of_src (xs := [.int .i64 0, .bool false, .int .i64 a.kind, .int .i64 a.rule, .slice Ap lp cp, .slice A a.cs.length cap] ++ [.int .i64 0, .bool false, .int .i64 b.kind, .int .i64 b.rule, .slice Bp mp dp, .slice B b.cs.length cbp]) (src_part hown fun k hk => gap_iff.2 (.inr (by omega))) ?_
    exact (CtCells.single (hca.sub (sub_gap hbw))).append (CtCells.single (hcb.sub (sub_gap hbw))))
  clear HE hca hcb
  generalize a.kind = a1 at *
  generalize a.rule = a2 at *
  generalize a.cs.length = a3 at *
  generalize b.kind = b1 at *
  generalize b.rule = b2 at *
  generalize b.cs.length = b3 at *
  go_enter Try.func85, Try.ntmps85
  go_wp2_with fail
  refine bodyPost_ret (v := .agg #[.int .i64 3, .int .i64 0, .slice none 0 0, .slice (some ⟨w.heap.size + 3, 0, none⟩) 2 2]) (by simp [results, Try.results85, go_sem]) rfl ?_
  refine HR.out _ _ (w.heap.size + 3) (some ⟨w.heap.size + 3, 0, none⟩) (by omega) ((((below2 w _ _).alloc (by simp; omega) _).alloc (by simp; omega) _)) ?_ rfl
  have h := own_new (((w.alloc (.cells #[.int .i64 a1, .int .i64 a2, .slice Ap lp cp, .slice A a3 cap] 74)).alloc (.cells #[.int .i64 b1, .int .i64 b2, .slice Bp mp dp, .slice B b3 cbp] 74)).alloc (.cells #[.int .i64 3, .int .i64 0, .slice none 0 0, .slice (some ⟨w.heap.size + 3, 0, none⟩) 2 2] 74)) 101 6 2 #[.int .i64 0, .bool false, .int .i64 a1, .int .i64 a2, .slice Ap lp cp, .slice A a3 cap, .int .i64 0, .bool false, .int .i64 b1, .int .i64 b2, .slice Bp mp dp, .slice B b3 cbp] rfl (by omega)
  simpa using h
end Go.Proofs.Ytnaakhnmbckpmaa.Pats
