/- Contracts: the reference's list of a term and what is in it; whether terms are few. -/
import Derived.Test.YtccknhhjkkbadaaTm
import Derived.Lib.Hide
namespace Go.Proofs.Ytccknhhjkkbadaa.Tmr
open Go.ChangeShapes Go.WideShapes Go.ChangeAt Go.RowKit Go.Proofs.Ytccknhhjkkbadaa.Lift Go.Proofs.Ytccknhhjkkbadaa.Data
set_option linter.unusedVariables false
set_option linter.unusedSimpArgs false
theorem info71 : (Try.prog.info? 71).map (fun i => (i.zero, i.size, i.bytes)) = some (some (.agg #[.int .i64 0, .string ⟨#[]⟩, .int .i64 0, .slice none 0 0]), 4, 56) := by kernel_rfl
/-- a new slice of these. -/
def NewTm (w0 : World) (B : Nat) (es : List Tm) (w : World) (e : Ending) (w' : World) : Prop :=
  ∃ A cap xs, e = .returned (.slice A es.length cap) ∧ w'.ownsRow B 71 4 (.slice A es.length cap) es.length xs ∧ TmCells w0 es xs ∧ Below B w w'
def FlatTmRel (w0 : World) (B : Nat) (e : Tm) (ys : List Tm) (w : World) (t i : Value) (wr : World) : Prop :=
  ∃ (j : Nat) (xs : List Value), i = .int .i64 j ∧ j ≤ ys.length ∧ wr.ownsRow B 71 4 t (e :: TmFlats (ys.take j)).length xs ∧ TmCells w0 (e :: TmFlats (ys.take j)) xs ∧ Below B w wr
set_option maxRecDepth 100000 in
theorem flatTm_any (N : Nat) (w0 : World) : ∀ (e : Tm) (w : World) (v : Value), e.size ≤ N → e.size ≤ 1048576 → e.Val w0 v → Below w0.heap.size w0 w →
    Calls Try.prog 109 #[v] w (NewTm w0 w.heap.size e.flat w) := by
  induction N with
  | zero => intro e w v h; cases e; rw [Tm.size] at h; omega
  | succ N ih =>
    intro e w v hN hB hv h0
    cases e with
    | mk k s n ys  =>
    obtain ⟨A, cap, rfl, ⟨hd1, hd2, hd3, hd4⟩, hs⟩ := hv
    rw [Tm.size_mk] at hN hB
    rw [Tm.flat]
    have hlen := TmSize_len ys
    obtain ⟨i0, hi, hz0, hz1, hz2⟩ := info_parts info71
    have hcs : (Tm.mk k s n ys ).Cs w0 [.int .i64 k, .string s, .int .i64 n, .slice A ys.length cap] := ⟨A, cap, rfl, ⟨hd1, hd2, hd3, hd4⟩, hs⟩
    go_enter Try.func109, Try.ntmps109
    go_wp2_with fail
    go_loopw [3, 11] (fun t i wr => FlatTmRel w0 w.heap.size (Tm.mk k s n ys ) ys w t i wr) (fun _ i _ => ys.length - (intOf i).toNat)
    case atStart =>
      have hb0 : Below w.heap.size w ((w.alloc (.cells #[.int .i64 k, .string s, .int .i64 n, .slice A ys.length cap] 71)).alloc (.cells #[.int .i64 k, .string s, .int .i64 n, .slice A ys.length cap] 71)) := ((Below.refl _ _).alloc (Nat.le_refl _) _).alloc (by simp) _
      exact ⟨0, _, rfl, Nat.zero_le _, own_new2 _ _ 71 4 1 _ rfl (by omega), TmCells.single hcs, hb0⟩
    case round =>
      obtain ⟨j, xs, rfl, hj, hown, hcells, hb⟩ := hrel
      by_cases hlt : j < ys.length
      · obtain ⟨b, o, rfl, hat⟩ := hs.get j hlt
        have hsz := TmSize_get hlt
        have hb0 := h0.trans (hb.mono h0.size)
        have HT := Lib.hid (TmFlats_take hlt)
        have HS := TmSize_take hlt
        have hle2 := TmSize_take_le (ys := ys) (j := j + 1)
        have hf1 := TmFlats_len (ys.take j)
        generalize ys[j] = y at *
        cases y with
        | mk k' s' n' ys'  =>
        obtain ⟨A', cap', c0, c1, c2, c3, hv'⟩ := Tm.At.both hat hb0 (Nat.le_refl _)
        clear hat hs hcs
        have HC := Lib.hid (fun o => ih _ (wr.alloc o) _ (Nat.le_trans hsz (Nat.le_of_succ_le_succ hN)) (by omega) hv' (hb0.alloc hb0.size o))
        have hf2 := Tm.flat_len (Tm.mk k' s' n' ys' )
        have hL : (Tm.mk k s n ys  :: TmFlats (ys.take j)).length = 1 + TmSize (ys.take j) := by rw [List.length_cons, hf1]; omega
        have hg4 : (Tm.mk k s n ys  :: TmFlats (ys.take j)).length + (Tm.mk k' s' n' ys' ).flat.length ≤ maxLen := by unfold maxLen; omega
        have hg5 : ((Tm.mk k s n ys  :: TmFlats (ys.take j)).length + (Tm.mk k' s' n' ys' ).flat.length) * 56 ≤ 140737488355328 := by omega
        clear hf1 hf2 hL HS
        generalize (Tm.mk k' s' n' ys' ).flat = fs at *
        generalize hE : (Tm.mk k s n ys  :: TmFlats (ys.take j)) = es at *
        have HE := Lib.hid hE
        clear hE
        go_wp2_with (first | (go_at_call 109; refine (HC.out _).mono ?_; rintro e w1 ⟨A1, cap1, xs1, rfl, hown1, hcells1, hb1⟩; have hbc := Below.call1 hb1; have hbn := hb.thenCall hb.size hbc; have hown' := own_below hown hbc (Nat.le_refl _); have hsrc := Src.of_own hown1; have hcp := own_cap hown1; have hone1 := hcells1.one; clear hown1 hb1) | (at_builtin; refine wpList_append_src rfl (.tmp 15) (.tmp 17) 69 rfl w.heap.size 71 i0 _ 4 56 Try.underlying69 hi hz0 hz1 hz2 rfl (by omega) u3 es.length xs rfl hown' A1 fs.length cap1 xs1 rfl hsrc hcp hone1 hg4 hg5 hbn.size ?_; intro v2 w2 hown2 hg2))
        have hb2 := below_grown hown' hg2 hbn.size
        refine ⟨⟨j + 1, xs ++ xs1, by go_num, by omega, ?_, ?_, hbn.trans hb2⟩, by simp [intOf]; omega⟩
        · rw [HT.out, ← List.cons_append, HE.out, List.length_append]; exact hown2
        · rw [HT.out, ← List.cons_append, HE.out]; exact hcells.append hcells1
      · go_wp2_with fail
        go_ret
        obtain ⟨A1, cap1, rfl, _, _⟩ := own_form hown
        rw [List.take_of_length_le (by omega)] at hown hcells ⊢
        exact ⟨A1, cap1, xs, rfl, hown, hcells, hb⟩

def fewTm (es : List Tm) : Bool := decide (TmSize es ≤ 200) && decide (es.length ≤ 30)
theorem fewTm_any (w0 : World) (es : List Tm) (w : World) (v : Value) (hv : Tm.Sl w0 v es) (hm : TmSize es ≤ 1048576) (h0 : Below w0.heap.size w0 w) :
    Calls Try.prog 85 #[v] w fun r w' => r = .returned (.bool (fewTm es)) ∧ Below w.heap.size w w' := by
  obtain ⟨A, cap, rfl, ⟨hd1, hd2, hd3, hd4⟩, hs⟩ := hv
  go_enter Try.func85, Try.ntmps85
  go_wp2_with fail
  go_loopw [3, 8] (fun t i wr => ∃ j : Nat, i = .int .i64 j ∧ j ≤ es.length ∧ t = .int .i64 (TmSize (es.take j) : Nat) ∧ TmSize (es.take j) ≤ 200 ∧ Below w.heap.size w wr) (fun _ i _ => es.length - (intOf i).toNat)
  case atStart => exact ⟨0, rfl, Nat.zero_le _, rfl, by simp [TmSize], Below.refl _ _⟩
  case round =>
    obtain ⟨j, rfl, hj, rfl, h200, hb⟩ := hrel
    by_cases hlt : j < es.length
    · obtain ⟨b, o, rfl, hat⟩ := hs.get j hlt
      have hsz := TmSize_get hlt
      have hb0 := h0.trans (hb.mono h0.size)
      have HS := TmSize_take hlt
      have hle2 := TmSize_take_le (ys := es) (j := j + 1)
      generalize es[j] = y at *
      cases y with
      | mk k' s' n' ys'  =>
      obtain ⟨A', cap', c0, c1, c2, c3, hv'⟩ := Tm.At.both hat hb0 (Nat.le_refl _)
      clear hat hs
      have HC := Lib.hid (fun o => flatTm_any _ w0 _ (wr.alloc o) _ (Nat.le_refl _) (by omega) hv' (hb0.alloc hb0.size o))
      have hfl := Tm.flat_len (Tm.mk k' s' n' ys' )
      generalize (Tm.mk k' s' n' ys' ).flat = fs at *
      generalize (Tm.mk k' s' n' ys' ).size = m at *
      generalize hP : TmSize (es.take j) = p at *
      generalize hP2 : TmSize (es.take (j + 1)) = p2 at *
      have HP2 := Lib.hid hP2
      have HSS := Lib.hid HS
      have HFL := Lib.hid hfl
      have hfl1 : fs.length ≤ m := by omega
      have hfl2 : m ≤ fs.length := by omega
      clear hP hP2 HS hfl
      by_cases hgt : 200 < p + m
      · have hf : fewTm es = false := by
          have h1 := HSS.out
          simp only [fewTm, Bool.and_eq_false_iff, decide_eq_false_iff_not]
          omega
        have HFew := Lib.hid hf
        clear hf
        go_wp2_with (go_at_call 109; refine (HC.out _).mono ?_; rintro e w1 ⟨A1, cap1, xs1, rfl, hown1, hcells1, hb1⟩; have hbn := hb.thenCall hb.size (Below.call1 hb1); clear hown1 hcells1 hb1)
        go_ret
        refine ⟨?_, hbn⟩
        rw [HFew.out]
        rfl
      · go_wp2_with (go_at_call 109; refine (HC.out _).mono ?_; rintro e w1 ⟨A1, cap1, xs1, rfl, hown1, hcells1, hb1⟩; have hbn := hb.thenCall hb.size (Below.call1 hb1); clear hown1 hcells1 hb1)
        refine ⟨⟨j + 1, by go_num, by omega, ?_, by rw [HP2.out]; have := HSS.out; omega, hbn⟩, by simp [intOf]; omega⟩
        rw [HP2.out]
        have := HSS.out
        congr 1; omega
    · have hf : fewTm es = decide (es.length ≤ 30) := by
        have : es.take j = es := List.take_of_length_le (by omega)
        rw [this] at h200
        simp [fewTm, h200]
      have HF := Lib.hid hf
      clear hf
      by_cases h30 : es.length ≤ 30
      · go_wp2_with fail
        go_ret
        refine ⟨?_, hb⟩
        exact ret_bool (by rw [HF.out, decide_eq_decide]; omega)
      · go_wp2_with fail
        go_ret
        refine ⟨?_, hb⟩
        exact ret_bool (by rw [HF.out, decide_eq_decide]; omega)

end Go.Proofs.Ytccknhhjkkbadaa.Tmr
