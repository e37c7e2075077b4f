/- Contract: the builder's branch, by that of its build. -/
import Derived.Test.YtnaakhnmbckpmaaBuW
import Derived.Deep.DeepCutAuto
namespace Go.Proofs.Ytnaakhnmbckpmaa.Pats
open Go.ChangeShapes Go.WideShapes Go.ChangeAt Go.RowKit Go.Proofs.Ytnaakhnmbckpmaa.Lift Go.Proofs.Ytnaakhnmbckpmaa.Data Go.Proofs.Ytnaakhnmbckpmaa.Refs Go.Proofs.Ytnaakhnmbckpmaa.Strs
set_option linter.unusedVariables false
set_option linter.unusedSimpArgs false
theorem setCell6 {w : World} {R : Nat} {u0 u1 u2 u3 u4 u5 : Value} : ∀ b, b ≠ R → ((((((w.setCell ⟨R, 0, none⟩ u0).setCell ⟨R, 1, none⟩ u1).setCell ⟨R, 2, none⟩ u2).setCell ⟨R, 3, none⟩ u3).setCell ⟨R, 4, none⟩ u4).setCell ⟨R, 5, none⟩ u5).heap[b]? = w.heap[b]? := by
  intro b hb
  iterate 6 rw [Below.heap_setCell _ _ _ _ hb]
theorem below_setCell6 {B : Nat} {a w : World} {R : Nat} {u0 u1 u2 u3 u4 u5 : Value} (h : Below B a w) (hB : B ≤ R) : Below B a ((((((w.setCell ⟨R, 0, none⟩ u0).setCell ⟨R, 1, none⟩ u1).setCell ⟨R, 2, none⟩ u2).setCell ⟨R, 3, none⟩ u3).setCell ⟨R, 4, none⟩ u4).setCell ⟨R, 5, none⟩ u5) := by
  iterate 6 refine Below.setCell ?_ hB _
  exact h
theorem setCell6_keep {w : World} {R b o : Nat} {u0 u1 u2 u3 u4 u5 v : Value} (hb : b ≠ R) (h : w.cell? ⟨b, o, none⟩ = some v) : ((((((w.setCell ⟨R, 0, none⟩ u0).setCell ⟨R, 1, none⟩ u1).setCell ⟨R, 2, none⟩ u2).setCell ⟨R, 3, none⟩ u3).setCell ⟨R, 4, none⟩ u4).setCell ⟨R, 5, none⟩ u5).cell? ⟨b, o, none⟩ = some v := by
  unfold World.cell? at h ⊢
  simp only at h ⊢
  rw [setCell6 b hb]
  exact h
theorem setCell6_block {w : World} {R : Nat} {t : TypeId} {a0 a1 a2 a3 a4 a5 u0 u1 u2 u3 u4 u5 : Value} (h : w.heap[R]? = some (.cells #[a0, a1, a2, a3, a4, a5] t (0, 0))) : ((((((w.setCell ⟨R, 0, none⟩ u0).setCell ⟨R, 1, none⟩ u1).setCell ⟨R, 2, none⟩ u2).setCell ⟨R, 3, none⟩ u3).setCell ⟨R, 4, none⟩ u4).setCell ⟨R, 5, none⟩ u5).heap[R]? = some (.cells #[u0, u1, u2, u3, u4, u5] t (0, 0)) := by
  simp [World.setCell, Array.getElem?_modify, h]
theorem set25 {w : World} {R : Nat} {u2 u3 u4 u5 : Value} : ∀ b, b ≠ R → ((((w.setCell ⟨R, 2, none⟩ u2).setCell ⟨R, 3, none⟩ u3).setCell ⟨R, 4, none⟩ u4).setCell ⟨R, 5, none⟩ u5).heap[b]? = w.heap[b]? := by
  intro b hb
  iterate 4 rw [Below.heap_setCell _ _ _ _ hb]
theorem set25_keep {w : World} {R b o : Nat} {u2 u3 u4 u5 v : Value} (hb : b ≠ R) (h : w.cell? ⟨b, o, none⟩ = some v) : ((((w.setCell ⟨R, 2, none⟩ u2).setCell ⟨R, 3, none⟩ u3).setCell ⟨R, 4, none⟩ u4).setCell ⟨R, 5, none⟩ u5).cell? ⟨b, o, none⟩ = some v := by
  unfold World.cell? at h ⊢
  simp only at h ⊢
  rw [set25 b hb]
  exact h
theorem below_set25 {B : Nat} {a w : World} {R : Nat} {u2 u3 u4 u5 : Value} (h : Below B a w) (hB : B ≤ R) : Below B a ((((w.setCell ⟨R, 2, none⟩ u2).setCell ⟨R, 3, none⟩ u3).setCell ⟨R, 4, none⟩ u4).setCell ⟨R, 5, none⟩ u5) := by
  iterate 4 refine Below.setCell ?_ hB _
  exact h
theorem set25_size {w : World} {R : Nat} {u2 u3 u4 u5 : Value} : ((((w.setCell ⟨R, 2, none⟩ u2).setCell ⟨R, 3, none⟩ u3).setCell ⟨R, 4, none⟩ u4).setCell ⟨R, 5, none⟩ u5).heap.size = w.heap.size := by simp [World.setCell]
theorem set25_block {w : World} {R : Nat} {t : TypeId} {a0 a1 a2 a3 a4 a5 u2 u3 u4 u5 : Value} (h : w.heap[R]? = some (.cells #[a0, a1, a2, a3, a4, a5] t (0, 0))) : ((((w.setCell ⟨R, 2, none⟩ u2).setCell ⟨R, 3, none⟩ u3).setCell ⟨R, 4, none⟩ u4).setCell ⟨R, 5, none⟩ u5).heap[R]? = some (.cells #[a0, a1, u2, u3, u4, u5] t (0, 0)) := by
  simp [World.setCell, Array.getElem?_modify, h]
theorem set3_block {w : World} {R : Nat} {t : TypeId} {a0 a1 a2 a3 u : Value} (h : w.heap[R]? = some (.cells #[a0, a1, a2, a3] t (0, 0))) : (w.setCell ⟨R, 3, none⟩ u).heap[R]? = some (.cells #[a0, a1, a2, u] t (0, 0)) := by
  simp [World.setCell, Array.getElem?_modify, h]
theorem own_heap {w w' : World} {base e size n : Nat} {v : Value} {xs : List Value} (h : w.ownsRow base e size v n xs) (hh : ∀ k, base ≤ k → w'.heap[k]? = w.heap[k]?) : w'.ownsRow base e size v n xs := by
  refine ⟨h.1, ?_⟩
  rcases h.2 with h0 | ⟨g, cap, cur, h1, h2, h3, h4⟩
  · exact .inl h0
  · exact .inr ⟨g, cap, cur, h1, h2, (hh g h2).trans h3, h4⟩
theorem PCells_take {w : World} : ∀ {ls : List (List Int)} {xs : List Value} (j : Nat), PCells w ls xs → PCells w (ls.take j) (xs.take j)
  | ls, xs, 0, _ => by simp [PCells]
  | [], xs, j + 1, h => by rw [PCells] at h; subst h; simp [PCells]
  | l :: r, xs, j + 1, h => by
    rw [PCells] at h
    obtain ⟨v, rest, rfl, h1, h2⟩ := h
    simp only [List.take_succ_cons]
    rw [PCells]
    exact ⟨v, rest.take j, rfl, h1, PCells_take j h2⟩
theorem PCells_drop {w : World} : ∀ {ls : List (List Int)} {xs : List Value} (j : Nat), PCells w ls xs → PCells w (ls.drop j) (xs.drop j)
  | ls, xs, 0, h => by simpa using h
  | [], xs, j + 1, h => by rw [PCells] at h; subst h; simp [PCells]
  | l :: r, xs, j + 1, h => by
    rw [PCells] at h
    obtain ⟨v, rest, rfl, h1, h2⟩ := h
    simpa using PCells_drop j h2
theorem PS_parts {w : World} {b o capl : Nat} {pl : List (List Int)} {xl : List Value} (at_ : Nat) (h : at_ < pl.length) (l1 : pl.length ≤ capl) (l2 : capl ≤ 9223372036854775807) (l3 : pl.length ≤ 4194304) (l5 : Src w 1 (some ⟨b, o, none⟩) pl.length xl) (l6 : PCells w pl xl) :
    PS w (.slice (some ⟨b, o, none⟩) at_ capl) (pl.take at_) ∧ PS w (.slice (if capl = at_ + 1 then some ⟨b, o, none⟩ else some ⟨b, o + (at_ + 1), none⟩) (pl.length - (at_ + 1)) (capl - (at_ + 1))) (pl.drop (at_ + 1)) := by
  have hx : xl.length = pl.length := l6.len
  have hc : ∀ j u, xl[j]? = some u → w.cell? ⟨b, o + j, none⟩ = some u := by
    rcases l5.2 with h0 | ⟨b', o', e, hc⟩
    · omega
    · injection e with e
      injection e with e1 e2
      subst e1 e2
      exact hc
  have ht : (pl.take at_).length = at_ := by rw [List.length_take]; omega
  have hd : (pl.drop (at_ + 1)).length = pl.length - (at_ + 1) := List.length_drop
  refine ⟨⟨some ⟨b, o, none⟩, capl, xl.take at_, by rw [ht], by omega, l2, by omega, (fun h => by cases h), ⟨by rw [List.length_take, ht]; omega, .inr ⟨b, o, rfl, fun j u hu => ?_⟩⟩, PCells_take _ l6⟩,
    ⟨_, capl - (at_ + 1), xl.drop (at_ + 1), by rw [hd], by omega, by omega, by omega, (fun h => by split at h <;> cases h), ⟨by rw [List.length_drop, hd]; omega, ?_⟩, PCells_drop _ l6⟩⟩
  · by_cases hj : j < at_
    · rw [List.getElem?_take_of_lt hj] at hu
      exact hc j u hu
    · rw [List.getElem?_eq_none (by rw [List.length_take]; omega)] at hu
      cases hu
  · by_cases hz : capl = at_ + 1
    · exact .inl (by omega)
    · rw [if_neg hz]
      refine .inr ⟨b, o + (at_ + 1), rfl, fun j u hu => ?_⟩
      rw [List.getElem?_drop] at hu
      have := hc _ u hu
      rw [show o + (at_ + 1) + j = o + (at_ + 1 + j) by omega]
      exact this
/-- what came in, and what is new but for the call's own four blocks and the row of cases. -/
def out4 (S : Nat → Bool) (n : Nat) (cv : Value) (b : Nat) : Bool := gap S n (n + 4) b && !decide (cv.ownBlock = some b)
theorem out4_iff {S : Nat → Bool} {n : Nat} {cv : Value} {b : Nat} : out4 S n cv b = true ↔ ((S b = true ∧ b < n) ∨ n + 4 ≤ b) ∧ cv.ownBlock ≠ some b := by
  simp only [out4, Bool.and_eq_true, gap_iff]
  simp
theorem sub_in_out {w wr : World} {S : Nat → Bool} {cv : Value} (hb : Below w.heap.size w wr) (hc : ∀ k, cv.ownBlock = some k → w.heap.size ≤ k) : Data.Sub (part w S) (part wr (out4 S w.heap.size cv)) :=
  sub_part fun b hbl hs => ⟨out4_iff.2 ⟨.inl ⟨hs, hbl⟩, fun e => by have := hc _ e; omega⟩, hb.block b hbl⟩
theorem sub_out_grown {w0 w1 w2 : World} {S : Nat → Bool} {n : Nat} {cv cv2 : Value} (hb : Below w0.heap.size w0 w1) (hg : w1.grownBy w2 cv.ownBlock) (hf : Fresh w1 cv cv2) : Data.Sub (part w0 (out4 S n cv)) (part w2 (out4 S n cv2)) := by
  refine sub_part fun b hbl hs => ?_
  obtain ⟨h1, h2⟩ := out4_iff.1 hs
  refine ⟨out4_iff.2 ⟨h1, ?_⟩, ?_⟩
  · rcases hf with hf | ⟨g, h3, h4⟩
    · rw [hf]; exact h2
    · rw [h3]
      intro e
      injection e with e
      have := hb.size
      omega
  · rw [hg.block b (Nat.lt_of_lt_of_le hbl hb.size) (fun e => h2 e.symm), hb.block b hbl]
theorem sub_out_set {w : World} {S : Nat → Bool} {n i o : Nat} {cv u : Value} (hi : i < 4) : Data.Sub (part w (out4 S n cv)) (part (w.setCell ⟨n + i, o, none⟩ u) (out4 S n cv)) := by
  refine sub_part fun b hbl hs => ⟨hs, Below.heap_setCell _ _ _ _ ?_⟩
  obtain ⟨h1, h2⟩ := out4_iff.1 hs
  simp only
  rcases h1 with ⟨_, h1⟩ | h1 <;> omega
/-- the tree of a case, behind the store into the case's box. -/
theorem sub_case {S : Nat → Bool} {n hi m R : Nat} {cv : Value} {w2 w3 : World} (hh : ∀ b, b ≠ R → w3.heap[b]? = w2.heap[b]?) (h0 : n + 4 ≤ hi) (h1 : n + 4 ≤ R) (h2 : R < hi) (h3 : hi ≤ m) (hc : ∀ k, cv.ownBlock = some k → n ≤ k ∧ k < hi) :
    Data.Sub (part w2 (gap (gap S n hi) m m)) (part w3 (out4 S n cv)) := by
  refine sub_part fun b _ hs => ?_
  have hcase : (S b = true ∧ b < n) ∨ hi ≤ b := by
    rcases gap_iff.1 hs with ⟨h4, _⟩ | h4
    · exact gap_iff.1 h4
    · exact .inr (by omega)
  rcases hcase with ⟨h5, h6⟩ | h5
  · exact ⟨out4_iff.2 ⟨.inl ⟨h5, h6⟩, fun e => by have := hc _ e; omega⟩, hh b (by omega)⟩
  · exact ⟨out4_iff.2 ⟨.inr (by omega), fun e => by have := hc _ e; omega⟩, hh b (by omega)⟩
theorem sub_end {S : Nat → Bool} {n R : Nat} {w2 w3 : World} (hh : ∀ b, b ≠ R → w3.heap[b]? = w2.heap[b]?) (h1 : n ≤ R) (h2 : R < n + 4) : Data.Sub (part w2 (gap S n (n + 4))) (part w3 (gap S n n)) := by
  refine sub_part fun b _ hs => ?_
  rcases gap_iff.1 hs with ⟨h5, h6⟩ | h5
  · exact ⟨gap_iff.2 (.inl ⟨h5, h6⟩), hh b (by omega)⟩
  · exact ⟨gap_iff.2 (.inr (by omega)), hh b (by omega)⟩
theorem sub_out_gap (w : World) (S : Nat → Bool) (n : Nat) (cv : Value) : Data.Sub (part w (out4 S n cv)) (part w (gap S n (n + 4))) :=
  sub_part fun b _ hs => ⟨gap_iff.2 (out4_iff.1 hs).1, rfl⟩
theorem innerP_succ (path : List Int) (k : Nat) : innerP path (k + 1) = innerP path k ++ [path ++ [Int.ofNat k]] := by simp [innerP, List.range_succ]
def BrRel (S : Nat → Bool) (mv rv pv : Value) (makers : List ByteArray) (rules : List (List Ex)) (ss : List Int) (pl : List (List Int)) (at_ : Nat) (w : World) (t : Value) (wr : World) : Prop :=
  ∃ (lf : List Int) (cs : List Ct) (xs : List Value) (cv : Value), IS (part wr (out4 S w.heap.size cv)) t lf ∧ (∀ i ∈ lf, i ∈ ss) ∧ mu rules pl lf ≤ mu rules pl ss ∧ cs.length + lf.length ≤ ss.length ∧
    wr.heap[w.heap.size]? = some (.cells #[mv, rv] 98 (0, 0)) ∧ wr.heap[w.heap.size + 1]? = some (.cells #[.int .i64 0, .int .i64 0, .slice none 0 0, .slice none 0 0] 74 (0, 0)) ∧ wr.heap[w.heap.size + 1 + 1]? = some (.cells #[pv] 58 (0, 0)) ∧ wr.heap[w.heap.size + 1 + 1 + 1]? = some (.cells #[.int .i64 2, .int .i64 0, pv, cv] 74 (0, 0)) ∧
    wr.ownsRow (w.heap.size + 4) 101 6 cv cs.length xs ∧ CtCells (part wr (out4 S w.heap.size cv)) cs xs ∧ (∀ cs', BranchR makers rules lf pl at_ cs' → BranchR makers rules ss pl at_ (cs ++ cs')) ∧ Below w.heap.size w wr
def BrCut (wr : World) (k1 : Int) (k2 : Bool) (k3 : Nat) (u v : Value) (wx : World) : Prop :=
  ∃ cb, u = .pointer (some ⟨cb, 0, none⟩) ∧ v = .int .i64 k3 ∧ wr.heap.size ≤ cb ∧ wx.heap[cb]? = some (.cells #[.int .i64 k1, .bool k2, .int .i64 0, .int .i64 0, .slice none 0 0, .slice none 0 0] 101 (0, 0)) ∧ Below wr.heap.size wr wx
def slcLen : Value → Nat | .slice _ n _ => n | _ => 0
theorem info101 : (Try.prog.info? 101).map (fun i => (i.zero, i.size, i.bytes)) = some (some (.agg #[.int .i64 0, .bool false, .int .i64 0, .int .i64 0, .slice none 0 0, .slice none 0 0]), 6, 80) := by kernel_rfl
set_option maxRecDepth 100000 in
set_option maxHeartbeats 4000000 in
theorem branch_step (N : Nat) (ih : BuildOk N) : BranchOk N := by
  intro S w mv rv sv lv makers rules ss pl at_ hN hB hs hp hbnd hat hall
  have hgd : pl.getD at_ [] = pl[at_] := by simp [List.getD, List.getElem?_eq_getElem hat]
  rw [hgd] at hall ⊢
  have HS := Lib.hid hs
  have HP := Lib.hid hp
  have HB := Lib.hid hB
  obtain ⟨As, caps, rfl, s1, s2, s3, s4, s5⟩ := hs
  obtain ⟨Al, capl, xl, rfl, l1, l2, l3, l4, l5, l6⟩ := hp
  obtain ⟨b, o, pv, rfl, hbl, hc, his⟩ := PS_get l5 l6 at_ hat
  have hc' := sub_part_of _ _ _ _ _ hc
  have hblw := World.block_lt_of_cell? _ _ hc'
  simp only at hblw
  have HIS := Lib.hid his
  obtain ⟨Ap, capp, rfl, -⟩ := his
  obtain ⟨hM, hR, hR200⟩ := hB
  obtain ⟨Am, capm, rfl, -⟩ := hM
  obtain ⟨Ar, capr, xr, rfl, -⟩ := hR
  have hir := hbnd.1
  go_enter Try.func81, Try.ntmps81
  go_wp2_with fail
  have hW0 : ∃ W, W = ((((w.alloc (.cells #[.slice Am makers.length capm, .slice Ar rules.length capr] 98)).alloc (.cells #[.int .i64 0, .int .i64 0, .slice none 0 0, .slice none 0 0] 74)).alloc (.cells #[.slice Ap pl[at_].length capp] 58)).alloc (.cells #[.int .i64 2, .int .i64 0, .slice Ap pl[at_].length capp, .slice none 0 0] 74)) := ⟨_, rfl⟩
  obtain ⟨W0, hW0⟩ := hW0
  obtain ⟨f0, f1, f2, f3, hz0, hb0⟩ := four hW0
  rw [← hW0]
  clear hW0
  go_loopw [11] (fun t wr => BrRel S (.slice Am makers.length capm) (.slice Ar rules.length capr) (.slice Ap pl[at_].length capp) makers rules ss pl at_ w t wr) (fun t _ => slcLen t)
  case atStart => exact ⟨ss, [], [], .slice none 0 0, HS.out.sub (sub_in_out hb0 (fun k h => by cases h)), fun i h => h, Nat.le_refl _, by simp, f0, f1, f2, f3, World.ownsRow_nil _ _ _ _, by rw [CtCells], fun cs' h => h, hb0⟩
  case round =>
    obtain ⟨lf, cs, xs, cv, hlf, hsub, hmuf, hlen, g0, g1, g2, g3, hown, hcells, hrel2, hb⟩ := hrel
    have hzr := hb.size
    have hlt3 : w.heap.size + 1 + 1 + 1 < wr.heap.size := (Array.getElem?_eq_some_iff.1 g3).1
    have hlt0 : w.heap.size < wr.heap.size := by omega
    have hlt1 : w.heap.size + 1 < wr.heap.size := by omega
    have hlt2 : w.heap.size + 1 + 1 < wr.heap.size := by omega
    obtain ⟨b0, b1⟩ := cell2of g0
    have b2 := cell1of g2
    obtain ⟨q0, q1, q2, q3, z0, z1, z2, z3⟩ := row4f g3
    obtain ⟨y0, y1, y2, y3, x0, x1, x2, x3⟩ := row4f g1
    have hss : ss.length ≤ 20000 := by have := mu_len rules pl ss; have := hbnd.2.1; omega
    obtain ⟨C, ccap, rfl, hc1, hc2⟩ := own_form hown
    cases lf with
    | nil =>
      obtain ⟨Af, cf, rfl, -⟩ := hlf
      have hne : ¬ w.heap.size + 1 = w.heap.size + 1 + 1 + 1 := by omega
      rw [List.length_nil] at hlen ⊢
      go_wp2_with fail
      refine bodyPost_ret (v := .agg #[.int .i64 2, .int .i64 0, .slice Ap pl[at_].length capp, .slice C cs.length ccap]) (by simp [results, Try.results81, go_sem, y0, y1, y2, y3]) rfl ?_
      have hwf : Below w.heap.size w ((((wr.setCell ⟨w.heap.size + 1, 0, none⟩ (.int .i64 2)).setCell ⟨w.heap.size + 1, 1, none⟩ (.int .i64 0)).setCell ⟨w.heap.size + 1, 2, none⟩ (.slice Ap pl[at_].length capp)).setCell ⟨w.heap.size + 1, 3, none⟩ (.slice C cs.length ccap)) := below_setCell4 hb (by omega)
      refine ⟨_, _, rfl, ⟨cs, rfl, by have := hrel2 [] (BranchR.nil _ _); simpa using this⟩, ⟨C, ccap, _, rfl, HIS.out.sub (sub_gap hwf), ⟨hc1, hc2, by omega, own_cap hown⟩, ?_⟩, hwf⟩
      exact (Cts.of_src (src_part (S := gap S w.heap.size (w.heap.size + 4)) hown (fun k hk => gap_iff.2 (.inr hk))) (hcells.sub (sub_out_gap wr S w.heap.size _))).sub (sub_end (R := w.heap.size + 1) setCell4 (by omega) (by omega))
    | cons s0 r =>
      have hin : Data.Sub (part w S) (part wr (out4 S w.heap.size (.slice C cs.length ccap))) := sub_in_out hb (fun k h => by have := (own_block_lt hown h).1; omega)
      have hs0 := hir s0 (hsub s0 (List.mem_cons_self ..))
      obtain ⟨i0, rfl⟩ := Int.eq_ofNat_of_zero_le hs0.1
      have hdem : ∀ i ∈ ((i0 : Int) :: r), ∃ e, atS (rules.getD i.toNat []) pl[at_] = some e := fun i hi => by
        have h1 := hall
        rw [allDem, List.all_eq_true] at h1
        obtain ⟨e, he, _⟩ := demI_at (h1 i (hsub i hi))
        exact ⟨e, he⟩
      obtain ⟨e, he⟩ := hdem (i0 : Int) (List.mem_cons_self ..)
      have HKey := fun (W : World) (h : Below wr.heap.size wr W) => Lib.hid (key_any _ W _ _ _ makers rules i0 pl[at_] e (HB.out.sub hin).1 (HB.out.sub hin).2.1 (by omega) (HIS.out.sub hin) (((sub_part_of wr _).then h)) (by simpa using he))
      have hlf2 := hlf
      obtain ⟨Af, cf, rfl, t1, t2, t3, t4, t5⟩ := hlf2
      obtain ⟨bf, of, rfl, hbf, hcf⟩ := IS_cell (l := (i0 : Int) :: r) t5 0 (by simp)
      have hcf2 := sub_part_of _ _ _ _ _ hcf
      simp only [List.getElem_cons_zero, Nat.add_zero] at hcf2
      have hbf2 := World.block_lt_of_cell? _ _ hcf2
      simp only at hbf2
      have hx1 : (0 : Int) < (r.length : Int) + 1 := by omega
      rw [List.length_cons] at *
      have hbZ := below1 wr (.cells #[.int .i64 0, .bool false, .int .i64 0, .int .i64 0, .slice none 0 0, .slice none 0 0] 101)
      have hzZ := heap_alloc_new wr (.cells #[.int .i64 0, .bool false, .int .i64 0, .int .i64 0, .slice none 0 0, .slice none 0 0] 101)
      have hsZ : (wr.alloc (.cells #[.int .i64 0, .bool false, .int .i64 0, .int .i64 0, .slice none 0 0, .slice none 0 0] 101)).heap.size = wr.heap.size + 1 := by simp
      have HKA := HKey (wr.alloc (.cells #[.int .i64 0, .bool false, .int .i64 0, .int .i64 0, .slice none 0 0, .slice none 0 0] 101)).drew hbZ.drew
      have HKB := HKey wr.drew (Below.refl _ _).drew
      clear HKey
      unfold KeyRes at HKA HKB
      have hKle := keyE_le makers e
      generalize hKK : keyE makers e = K at *
      obtain ⟨k1, k2, k3⟩ := K
      have HKK := Lib.hid hKK
      clear hKK
      simp only at HKA HKB hKle
      have HPARTS := Lib.hid (PS_parts at_ hat l1 l2 l3 l5 l6)
      clear hc l5 l6 s5 hbl hc' hblw
      have MS : Hid (∀ x, Below wr.heap.size wr x → (fun w' => w'.cell? ⟨w.heap.size, 0, none⟩ = some (.slice Am makers.length capm) ∧ w'.cell? ⟨w.heap.size, 1, none⟩ = some (.slice Ar rules.length capr) ∧ w'.cell? ⟨w.heap.size + 1 + 1, 0, none⟩ = some (.slice Ap pl[at_].length capp) ∧ w'.cell? ⟨bf, of, none⟩ = some (.int .i64 i0)) x) := Lib.hid (fun x hx => ⟨cellB hx (Nat.le_refl _) b0, cellB hx (Nat.le_refl _) b1, cellB hx (Nat.le_refl _) b2, cellB hx (Nat.le_refl _) hcf2⟩)
      have hB0 : Below wr.heap.size wr wr.drew := (Below.refl _ _).drew
      have hBZd := hbZ.drew
      go_upto_region 5 with fail
      go_cut [12, 13] (fun u v wx => BrCut wr k1 k2 k3 u v wx)
      case first =>
        go_region_held3 (fun w' => w'.cell? ⟨w.heap.size, 0, none⟩ = some (.slice Am makers.length capm) ∧ w'.cell? ⟨w.heap.size, 1, none⟩ = some (.slice Ar rules.length capr) ∧ w'.cell? ⟨w.heap.size + 1 + 1, 0, none⟩ = some (.slice Ap pl[at_].length capp) ∧ w'.cell? ⟨bf, of, none⟩ = some (.int .i64 i0))
          (first | with_reducible exact MS.out _ (below_setCell6 hA1 (Nat.le_refl _)) | with_reducible exact MS.out _ hA1 | with_reducible exact MS.out _ (below_setCell6 (hC1.alloc hC1.size _) hC1.size) | with_reducible exact MS.out _ (hC1.alloc hC1.size _) | with_reducible exact MS.out _ hC1 | with_reducible exact MS.out _ hBZd | with_reducible exact MS.out _ (hB0.alloc hB0.size _) | with_reducible exact MS.out _ hB0 | exact MS.out _ (Below.refl _ _) | exact MS.out _ hbZ.drew | exact MS.out _ (hB0.alloc hB0.size _))
          (first
           | (go_at_call 88; ((with_reducible refine HKA.out.mono ?_); rintro _ w1 ⟨rfl, hb1⟩; have hZ1 := ((Below.refl _ _).drew).trans hb1; have hA1 : Below wr.heap.size wr w1 := hbZ.thenCall hbZ.size hZ1; have hcb := (hZ1.block _ (Nat.lt_of_lt_of_eq (Nat.lt_succ_self _) hsZ.symm)).trans hzZ; obtain ⟨d0, d1, d2, d3, d4, d5, j0, j1, j2, j3, j4, j5⟩ := row6 hcb))
           | (go_at_call 88; ((with_reducible refine HKB.out.mono ?_); rintro _ w1 ⟨rfl, hb1⟩; have hC1 : Below wr.heap.size wr w1 := hB0.thenCall (Nat.le_refl _) hb1)))
        all_goals
          go_wp2_with fail
          go_meet
        all_goals first | exact ⟨_, rfl, rfl, hC1.size, heap_alloc_new w1 _, hC1.alloc hC1.size _⟩ | exact ⟨_, rfl, rfl, Nat.le_refl _, setCell6_block hcb, below_setCell6 hA1 (Nat.le_refl _)⟩
      case rest =>
        obtain ⟨cb, rfl, rfl, hcb1, hcbx, hbx⟩ := hcut
        clear MS HKA HKB hB0 hBZd hbZ hzZ hsZ b0 b1 b2 q0 q1 q2 q3 z0 z1 z2 z3 y0 y1 y2 y3 x0 x1 x2 x3 hcf2
        have hbwc := hb.thenCall hb.size hbx
        have g0 := (hbx.block _ hlt0).trans g0
        have g1 := (hbx.block _ hlt1).trans g1
        have g2 := (hbx.block _ hlt2).trans g2
        have g3 := (hbx.block _ hlt3).trans g3
        have hcbl := (Array.getElem?_eq_some_iff.1 hcbx).1
        have hzc := hbx.size
        have hcb2 : w.heap.size + 4 ≤ cb := by omega
        have hM0 : w.heap.size < wc.heap.size := by omega
        have hM1 : w.heap.size + 1 < wc.heap.size := by omega
        have hM2 : w.heap.size + 1 + 1 < wc.heap.size := by omega
        have hM3 : w.heap.size + 1 + 1 + 1 < wc.heap.size := by omega
        have hinc : Data.Sub (part w S) wc := (sub_below hbwc).trans (sub_part_of _ _)
        have hBc : StrSl wc _ makers ∧ RS wc _ rules := ⟨Data.StrSl.sub HB.out.1 hinc, HB.out.2.1.sub hinc⟩
        have hic := HIS.out.sub hinc
        have hlfc := hlf.sub ((sub_below hbx).trans (sub_part_of _ _))
        have hownc := own_below hown hbx (Nat.le_refl _)
        have hcellsc := hcells.sub (sub_below (S := out4 S w.heap.size (.slice C cs.length ccap)) hbx)
        have HSp := Lib.hid (split_89 (keyI makers rules pl[at_] k1 k2) (.pointer (some ⟨w.heap.size, 0, none⟩)) (.pointer (some ⟨w.heap.size + 1 + 1, 0, none⟩)) (.pointer (some ⟨cb, 0, none⟩)) wc ((i0 : Int) :: r) _ hlfc (fun j hj z hz => by
          obtain ⟨e', he'⟩ := hdem _ (List.getElem_mem hj)
          exact clo89 wc z _ _ _ makers rules (((i0 : Int) :: r)[j]) pl[at_] e' k1 k2 _ _ _ _ w.heap.size (w.heap.size + 1 + 1) cb hBc.1 hBc.2 (hir _ (hsub _ (List.getElem_mem hj))) hic he' (Sub.of_below hz) ((hz.block _ hM0).trans g0) ((hz.block _ hM2).trans g2) ((hz.block _ hcbl).trans hcbx)))
        have hcvb : ∀ k', (Value.slice C cs.length ccap).ownBlock = some k' → w.heap.size ≤ k' ∧ k' < wc.heap.size := fun k' h => by have := own_block_lt hown h; omega
        obtain ⟨i101, hi101, ha0, ha1, ha2⟩ := info_parts info101
        clear hlf hlfc t5 hcf
        go_wp2_with fail
        refine HSp.out.mono ?_
        rintro _ w3 ⟨vo, vt, rfl, hown3, hoth3, hb3⟩
        clear HSp
        have hbw3 := hbwc.thenCall hbwc.size hb3
        have hbo3 := hbx.thenCall hbx.size hb3
        have g0 := (hb3.block _ hM0).trans g0
        have g1 := (hb3.block _ hM1).trans g1
        have g2 := (hb3.block _ hM2).trans g2
        have g3 := (hb3.block _ hM3).trans g3
        have hcb3 := (hb3.block _ hcbl).trans hcbx
        have hz3 := hb3.size
        have hic3 := hic.sub (Sub.of_below hb3)
        obtain ⟨p2⟩ : Nonempty Unit := ⟨()⟩
        have hpl200 : k3 ≤ 200 := by
          have h1 := atS_size he
          have h2 : ExSize (rules.getD ((i0 : Int)).toNat []) ≤ 200 := by
            rw [List.getD, List.getElem?_eq_getElem (by simp; omega)]
            exact hR200 _ (List.getElem_mem _)
          omega
        have hplen : pl[at_].length ≤ 4000000 := by have := hbnd.2.2 _ (List.getElem_mem hat); omega
        obtain ⟨i3, hi3, hz30, hz31, hz32⟩ := info_parts info3
        obtain ⟨i1, hi1, hy0, hy1, hy2⟩ := info_parts info58
        go_wp2_with fail
        go_loopw [16, 44] (fun t i wr' => ∃ (k : Nat) (xs' : List Value), i = .int .i64 k ∧ k ≤ k3 ∧ wr'.ownsRow w3.heap.size 58 1 t k xs' ∧ PCells (part wr' (frm w3.heap.size t.ownBlock)) (innerP pl[at_] k) xs' ∧ Below w3.heap.size w3 wr') (fun _ i _ => k3 - (intOf i).toNat)
        case atStart => exact ⟨0, [], rfl, Nat.zero_le _, World.ownsRow_nil _ _ _ _, by simp [innerP, PCells], Below.refl _ _⟩
        case round =>
          obtain ⟨k, xi, rfl, hk, hiown, hicells, hbi⟩ := hrel
          have hzi := hbi.size
          have e2 := cell1of ((hbi.block _ (by omega)).trans g2)
          by_cases hltk : k < k3
          · have HC := Lib.hid (cloneInt_any wr _ pl[at_] (hic3.sub (Sub.of_below hbi)))
            have hg1 : pl[at_].length + 1 ≤ maxLen := by unfold maxLen; omega
            have hg2 : (pl[at_].length + 1) * 8 ≤ 140737488355328 := by omega
            have hg3 : k + 1 ≤ maxLen := by unfold maxLen; omega
            have hg4 : (k + 1) * 24 ≤ 140737488355328 := by omega
            generalize hpa : pl[at_] = path at *
            go_wp2_with (first | (go_at_call 75; refine HC.out.mono ?_; rintro _ w5 ⟨v5, rfl, hown5, hb5⟩; obtain ⟨A5, c5, rfl, h51, h52⟩ := own_form hown5; have hown5p := fun o2 => own_below hown5 ((Below.refl _ _).alloc (Nat.le_refl w5.heap.size) o2) (Nat.le_refl _); have hbase5 := fun o2 => Nat.le_trans hb5.size ((Below.refl w5.heap.size w5).alloc (Nat.le_refl _) o2).size) | (at_builtin; refine wpList_append_src rfl (.tmp 49) (.tmp 51) 58 rfl wr.heap.size 3 i3 _ 1 8 Try.underlying58 hi3 hz30 hz31 hz32 rfl (by omega) (.slice A5 path.length c5) path.length (path.map (Value.int .i64)) rfl (hown5p _) (some ⟨w5.heap.size, 0, none⟩) 1 1 [.int .i64 k] rfl (Src.of_own (own_new w5 3 1 1 #[.int .i64 k] rfl (by omega))) (fun h => by cases h) (by simp [Value.oneCell']) hg1 hg2 (hbase5 _) ?_; intro v6 w6 hown6 hgr6; have hb6 := below_grown (hown5p _) hgr6 (hbase5 _); have hbz : Below wr.heap.size wr w6 := (hb5.alloc hb5.size _).trans (hb6.mono (Nat.le_refl _)); obtain ⟨A6, c6, rfl, h61, h62⟩ := own_form hown6; have hH : w6.ownsRow wr.heap.size 3 1 (.slice A6 (path.length + 1) c6) (path ++ [Int.ofNat k]).length ((path ++ [Int.ofNat k]).map (Value.int .i64)) := (by simpa using hown6)) | (at_builtin; refine wpList_append_where rfl (.tmp 47) (.tmp 53) 56 rfl w3.heap.size 58 i1 _ 1 24 Try.underlying56 hi1 hy0 hy1 hy2 rfl (by omega) u16 k xi rfl (own_below hiown (hbz.alloc hbz.size _) (Nat.le_refl _)) (some ⟨w6.heap.size, 0, none⟩) 1 1 [.slice A6 (path.length + 1) c6] rfl (Src.of_own (own_new w6 58 1 1 #[.slice A6 (path.length + 1) c6] rfl (by omega))) (fun h => by cases h) (by simp [Value.oneCell']) hg3 hg4 (Nat.le_trans hzi (hbz.alloc hbz.size _).size) ?_; intro v7 w7 hown7 hgr7 hf7))
            have hbz2 := fun o => hbz.alloc hbz.size o
            have hb7 := below_grown (own_below hiown (hbz2 _) (Nat.le_refl _)) hgr7 (Nat.le_trans hzi (hbz2 _).size)
            refine ⟨⟨k + 1, _, by go_num, by omega, hown7, ?_, (hbi.thenCall hbi.size (hbz2 _)).trans hb7⟩, by simp [intOf]; omega⟩
            rw [innerP_succ]
            refine (hicells.sub (sub_step (hbz2 _) hgr7 hf7 (fun b _ hs => frm_iff.1 hs))).append (PCells.single ?_)
            refine (IS_part (S := frm wr.heap.size none) hH (by simp; omega) (fun k hk => frm_iff.2 ⟨hk, by simp⟩)).sub (sub_step ((Below.refl _ _).alloc (Nat.le_refl _) _) hgr7 hf7 fun b hbl hs => ⟨?_, fun e => ?_⟩)
            · have := (frm_iff.1 hs).1; omega
            · have h1 := (frm_iff.1 hs).1
              have h2 := (own_block_lt hiown e).2
              omega
          · obtain rfl : k = k3 := by omega
            have hbwi := hbw3.thenCall hbw3.size hbi
            have hboi := hbo3.thenCall hbo3.size hbi
            have g0 := (hbi.block _ (by omega)).trans g0
            have g1 := (hbi.block _ (by omega)).trans g1
            have g2 := (hbi.block _ (by omega)).trans g2
            have g3 := (hbi.block _ (by omega)).trans g3
            have hcbi := (hbi.block _ (by omega)).trans hcb3
            obtain ⟨Ai, ci, rfl, hi1', hi2'⟩ := own_form hiown
            obtain ⟨b0, b1⟩ := cell2of g0
            have hat1 : (at_ : Int) + 1 ≤ pl.length := by omega
            have hat0 : (0 : Int) ≤ at_ := by omega
            have hat2 : (at_ : Int) ≤ pl.length := by omega
            have hat3 : at_ ≤ capl := by omega
            have hat4 : at_ + 1 ≤ capl := by omega
            have HPT := HPARTS.out
            obtain ⟨X, hX⟩ : ∃ X, X = (if capl = at_ + 1 then some (⟨b, o, none⟩ : Addr) else some ⟨b, o + (at_ + 1), none⟩) := ⟨_, rfl⟩
            rw [← hX] at HPT
            obtain ⟨hpt, hpd⟩ := HPT
            have hwcz : w.heap.size + 4 ≤ wc.heap.size := by omega
            have hinl : (innerP pl[at_] k).length = k := by simp [innerP]
            have hQ : ∀ W, Below wr.heap.size wr W → QCells (part W (gap S w.heap.size wc.heap.size)) [pl.take at_, innerP pl[at_] k, pl.drop (at_ + 1)] [.slice (some ⟨b, o, none⟩) at_ capl, .slice Ai k ci, .slice X (pl.length - (at_ + 1)) (capl - (at_ + 1))] := fun W hW => by
              have hbW := hbwi.thenCall hbwi.size hW
              refine ⟨_, _, rfl, hpt.sub (sub_gap hbW), _, _, rfl, ?_, _, _, rfl, hpd.sub (sub_gap hbW), by rw [QCells]⟩
              refine ⟨Ai, ci, xi, by rw [hinl], by omega, by omega, by omega, own_cap hiown, ?_, hicells.sub (sub_part fun b' hb' hs => ⟨gap_iff.2 (.inr (by have := (frm_iff.1 hs).1; omega)), hW.block b' hb'⟩)⟩
              rw [hinl]
              exact Src_sub (src_part hiown (fun k' hk' => gap_iff.2 (.inr (by omega)))) (sub_below hW)
            have hfl : ([pl.take at_, innerP pl[at_] k, pl.drop (at_ + 1)] : List (List (List Int))).flatten = nextP pl at_ k := by unfold nextP; rw [hgd]; simp
            have hnl := nextP_len pl at_ k hat
            have hb200 : pl.length ≤ 4000000 := by have := hbnd.2.1; omega
            have hHC' : True := trivial
            have hHC : ∀ o', Hid (Calls Try.prog 90 #[.slice (some ⟨wr.heap.size, 0, none⟩) 3 3] (wr.alloc (.cells #[.slice (some ⟨b, o, none⟩) at_ capl, .slice Ai k ci, .slice X (pl.length - (at_ + 1)) (capl - (at_ + 1))] o')).drew (fun r w' => ∃ v xs', r = .returned v ∧ w'.ownsRow (wr.alloc (.cells #[.slice (some ⟨b, o, none⟩) at_ capl, .slice Ai k ci, .slice X (pl.length - (at_ + 1)) (capl - (at_ + 1))] o')).drew.heap.size 58 1 v (nextP pl at_ k).length xs' ∧ PCells (part (wr.alloc (.cells #[.slice (some ⟨b, o, none⟩) at_ capl, .slice Ai k ci, .slice X (pl.length - (at_ + 1)) (capl - (at_ + 1))] o')).drew (gap S w.heap.size wc.heap.size)) (nextP pl at_ k) xs' ∧ Below (wr.alloc (.cells #[.slice (some ⟨b, o, none⟩) at_ capl, .slice Ai k ci, .slice X (pl.length - (at_ + 1)) (capl - (at_ + 1))] o')).drew.heap.size (wr.alloc (.cells #[.slice (some ⟨b, o, none⟩) at_ capl, .slice Ai k ci, .slice X (pl.length - (at_ + 1)) (capl - (at_ + 1))] o')).drew w')) := fun o' => Lib.hid (by
              have hE := (below1 wr (.cells #[.slice (some ⟨b, o, none⟩) at_ capl, .slice Ai k ci, .slice X (pl.length - (at_ + 1)) (capl - (at_ + 1))] o')).drew
              have h := concat_any (part (wr.alloc (.cells #[.slice (some ⟨b, o, none⟩) at_ capl, .slice Ai k ci, .slice X (pl.length - (at_ + 1)) (capl - (at_ + 1))] o')).drew (gap S w.heap.size wc.heap.size)) (wr.alloc (.cells #[.slice (some ⟨b, o, none⟩) at_ capl, .slice Ai k ci, .slice X (pl.length - (at_ + 1)) (capl - (at_ + 1))] o')).drew (sub_part_of _ _) (some ⟨wr.heap.size, 0, none⟩) 3 [pl.take at_, innerP pl[at_] k, pl.drop (at_ + 1)] [.slice (some ⟨b, o, none⟩) at_ capl, .slice Ai k ci, .slice X (pl.length - (at_ + 1)) (capl - (at_ + 1))] (Nat.le_refl _) (by omega) (Src.of_own (own_new wr o' 1 3 #[.slice (some ⟨b, o, none⟩) at_ capl, .slice Ai k ci, .slice X (pl.length - (at_ + 1)) (capl - (at_ + 1))] rfl (by omega))) (hQ _ hE) (by rw [hfl]; omega) (by simp)
              rw [hfl] at h
              exact h)
            have hmuO : mu rules (nextP pl at_ k) (((i0 : Int) :: r).filter (keyI makers rules pl[at_] k1 k2)) < mu rules pl ((i0 : Int) :: r) := by
              refine mu_own rules pl at_ k hat _ _ _ r rfl ?_ (fun i hi _ => by rw [hgd]; exact hdem i hi)
              have := keyI_self (makers := makers) he
              rw [HKK.out] at this
              exact this
            have hbO : Bnd rules (((i0 : Int) :: r).filter (keyI makers rules pl[at_] k1 k2)) (nextP pl at_ k) := by
              refine ⟨fun i hi => hir i (hsub i (List.mem_filter.1 hi).1), ?_, fun p hp => ?_⟩
              · have := hbnd.2.1
                omega
              · rw [nextP, hgd] at hp
                rcases List.mem_append.1 hp with hp | hp
                · have := hbnd.2.2 p (List.mem_of_mem_take hp); omega
                rcases List.mem_append.1 hp with hp | hp
                · simp only [innerP, List.mem_map] at hp
                  obtain ⟨q, _, rfl⟩ := hp
                  have := hbnd.2.2 _ (List.getElem_mem hat)
                  simp only [List.length_append, List.length_cons, List.length_nil]
                  omega
                · have := hbnd.2.2 p (List.mem_of_mem_drop hp); omega
            have HFin : Hid (∀ T cs', BuildR makers rules (((i0 : Int) :: r).filter (keyI makers rules pl[at_] k1 k2)) (nextP pl at_ k) T → BranchR makers rules (((i0 : Int) :: r).filter (fun x => !keyI makers rules pl[at_] k1 k2 x)) pl at_ cs' → BranchR makers rules ss pl at_ (cs ++ (T.inCase k1 k2 :: cs'))) := Lib.hid (fun T cs' hT hc => by
              have h := BranchR.cons (makers := makers) (rules := rules) (i0 : Int) r pl at_ e T cs' (by rw [hgd]; exact he)
              rw [HKK.out, hgd] at h
              exact hrel2 _ (h hT hc))
            have hlO : (((i0 : Int) :: r).filter (keyI makers rules pl[at_] k1 k2)).length ≤ 4194304 := Nat.le_trans (List.length_filter_le _ _) (by rw [List.length_cons]; omega)
            have hlT : (((i0 : Int) :: r).filter (fun x => !keyI makers rules pl[at_] k1 k2 x)).length ≤ r.length := by
              have h1 := keyI_self (makers := makers) he
              rw [HKK.out] at h1
              simp only at h1
              rw [List.filter_cons, h1]
              simp only [Bool.not_true, Bool.false_eq_true, if_false]
              exact List.length_filter_le _ _
            have hmT : ∀ i ∈ ((i0 : Int) :: r).filter (fun x => !keyI makers rules pl[at_] k1 k2 x), i ∈ ss := fun i hi => hsub i (List.mem_filter.1 hi).1
            have hmuT : mu rules pl (((i0 : Int) :: r).filter (fun x => !keyI makers rules pl[at_] k1 k2 x)) ≤ mu rules pl ss := Nat.le_trans (mu_filter ..) hmuf
            generalize ((i0 : Int) :: r).filter (keyI makers rules pl[at_] k1 k2) = own at *
            generalize ((i0 : Int) :: r).filter (fun x => !keyI makers rules pl[at_] k1 k2 x) = oth at *
            have hgS : ∀ k', wc.heap.size ≤ k' → gap S w.heap.size wc.heap.size k' = true := fun k' hk' => gap_iff.2 (.inr hk')
            have HBd := fun (W5 : World) (vq : Value) (base : Nat) (xs5 : List Value) (hbase : wr.heap.size ≤ base) (hb5 : Below wr.heap.size wr W5) (ho : W5.ownsRow base 58 1 vq (nextP pl at_ k).length xs5) (hp : PCells (part W5 (gap S w.heap.size wc.heap.size)) (nextP pl at_ k) xs5) => Lib.hid (ih (gap S w.heap.size wc.heap.size) W5 (.slice Am makers.length capm) (.slice Ar rules.length capr) vo vq makers rules own (nextP pl at_ k) (by omega) (HB.out.sub (sub_gap (hbwi.thenCall hbwi.size hb5))) ((IS_part hown3 hlO hgS).sub (sub_below (hbi.thenCall hbi.size hb5))) (by
              obtain ⟨Aq, cq, rfl, q1, q2⟩ := own_form ho
              exact ⟨Aq, cq, xs5, rfl, q1, q2, by omega, own_cap ho, src_part ho (fun k' hk' => hgS k' (by omega)), hp⟩) hbO)
            have hothw := own_below hoth3 hbi (Nat.le_refl _)
            obtain ⟨Ao, co, rfl, -, -⟩ := own_form hown3
            obtain ⟨At', ct, rfl, ht1, ht2⟩ := own_form hoth3
            have hwr0 : w.heap.size < wr.heap.size := by omega
            have hwrc : cb < wr.heap.size := by omega
            have hwr3 : w.heap.size + 1 + 1 + 1 < wr.heap.size := by omega
            have n0 : w.heap.size ≠ cb := by omega
            have MS : Hid (∀ x, Below wr.heap.size wr x → (fun w' => w'.cell? ⟨w.heap.size, 0, none⟩ = some (.slice Am makers.length capm) ∧ w'.cell? ⟨w.heap.size, 1, none⟩ = some (.slice Ar rules.length capr)) x) := Lib.hid (fun x hx => ⟨cellB hx (Nat.le_refl _) b0, cellB hx (Nat.le_refl _) b1⟩)
            have hE0 := fun o' => (below1 wr (.cells #[.slice (some ⟨b, o, none⟩) at_ capl, .slice Ai k ci, .slice X (pl.length - (at_ + 1)) (capl - (at_ + 1))] o')).drew
            have hE1 := fun o' => (below1 wr (.cells #[.slice (some ⟨b, o, none⟩) at_ capl, .slice Ai k ci, .slice X (pl.length - (at_ + 1)) (capl - (at_ + 1))] o'))
            have hE2 := (Below.refl wr.heap.size wr).drew
            have hat5 : (0 : Int) ≤ (at_ : Int) + 1 := by omega
            have hat7 : ¬ capl < pl.length := by omega
            have hat8 : ¬ capl < at_ + 1 := by omega
            have HX := Lib.hid hX
            clear hX hpt hpd hQ hmuO hbO hHC' hfl hnl
            by_cases hcz : capl = at_ + 1
            · rw [if_pos hcz] at HX
              have hcz4 : (capl = at_ + 1) = True := by simp [hcz]
              clear hcz
              have hXX := HX.out
              subst hXX
              clear HX
              have hwrap : IntKind.i64.wrap ((at_ : Int) + 1) = (at_ : Int) + 1 := by rw [IntKind.wrap_i64]; omega
              go_wp2_with fail
              go_region_held3 (fun w' => w'.cell? ⟨w.heap.size, 0, none⟩ = some (.slice Am makers.length capm) ∧ w'.cell? ⟨w.heap.size, 1, none⟩ = some (.slice Ar rules.length capr))
                (first | with_reducible exact ⟨set25_keep n0 (MS.out _ hbW6).1, set25_keep n0 (MS.out _ hbW6).2⟩ | with_reducible exact MS.out _ hbW6 | with_reducible exact MS.out _ hbW5 | with_reducible exact MS.out _ (hE0 _) | with_reducible exact MS.out _ hE2 | exact MS.out _ (hE0 _) | exact MS.out _ (Below.refl _ _) | go_keep)
                (first | (go_at_call 90; refine (hHC _).out.mono ?_; rintro _ w5 ⟨vq, xs5, rfl, hoq, hpq, hbq⟩; have hbW5 : Below wr.heap.size wr w5 := (hE0 _).trans (hbq.mono (hE0 _).size); have HBq := HBd w5 vq _ xs5 (hE0 _).size hbW5 hoq (hpq.sub (sub_below hbq)); obtain ⟨Aq, cq, rfl, -, -⟩ := own_form hoq) | (go_at_call 63; refine HBq.out.mono ?_; clear HBq; rintro _ w6 ⟨T, vT, rfl, hT, hTr, hb6⟩; have hbW6 : Below wr.heap.size wr w6 := hbW5.thenCall hbW5.size hb6; obtain ⟨Tp, tl, tc, TA, tcap, rfl⟩ := hTr.form; obtain ⟨d0, d1, d2, d3, d4, d5, j0, j1, j2, j3, j4, j5⟩ := row6 ((hbW6.block _ hwrc).trans hcbi)))
              have hz6 := hbW6.size
              have hz5 := hbW5.size
              have hbo6 := hboi.thenCall hboi.size hbW6
              have hcb7 := set25_block (u2 := .int .i64 T.kind) (u3 := .int .i64 T.rule) (u4 := .slice Tp tl tc) (u5 := .slice TA T.cs.length tcap) ((hbW6.block _ hwrc).trans hcbi)
              have hs7 := set25_size (w := w6) (R := cb) (u2 := .int .i64 T.kind) (u3 := .int .i64 T.rule) (u4 := .slice Tp tl tc) (u5 := .slice TA T.cs.length tcap)
              have hh7 := set25 (w := w6) (R := cb) (u2 := .int .i64 T.kind) (u3 := .int .i64 T.rule) (u4 := .slice Tp tl tc) (u5 := .slice TA T.cs.length tcap)
              have hbo7 := below_set25 (R := cb) (u2 := .int .i64 T.kind) (u3 := .int .i64 T.rule) (u4 := .slice Tp tl tc) (u5 := .slice TA T.cs.length tcap) hbo6 hcb1
              clear d0 d1 d2 d3 d4 d5 j0 j1 j2 j3 j4 j5 MS HBd hHC hE0 hE1 hE2 hbq hoq hpq
              generalize ((((w6.setCell ⟨cb, 2, none⟩ (.int .i64 T.kind)).setCell ⟨cb, 3, none⟩ (.int .i64 T.rule)).setCell ⟨cb, 4, none⟩ (.slice Tp tl tc)).setCell ⟨cb, 5, none⟩ (.slice TA T.cs.length tcap)) = W7 at *
              have hTr7 : T.Tr (part W7 (out4 S w.heap.size (.slice C cs.length ccap))) _ := hTr.sub (sub_case (R := cb) hh7 (by omega) hcb2 hcbl (by omega) hcvb)
              have hTC := Ct.Tr.inCase k1 k2 hTr7
              have g3' := (hh7 _ (by omega)).trans ((hbW6.block _ hwr3).trans g3)
              have g0' := (hh7 _ (by omega)).trans ((hbW6.block _ (by omega)).trans g0)
              have g1' := (hh7 _ (by omega)).trans ((hbW6.block _ (by omega)).trans g1)
              have g2' := (hh7 _ (by omega)).trans ((hbW6.block _ (by omega)).trans g2)
              have hoth7 : IntOwn W7 wc.heap.size (.slice At' oth.length ct) oth := own_heap (own_below hothw hbW6 (Nat.le_refl _)) (fun k' hk' => hh7 k' (by omega))
              have hown7 := own_below hown hbo7 (Nat.le_refl _)
              have hbw7 := hb.thenCall hb.size hbo7
              obtain ⟨e0, e1, e2, e3, e4, e5, -⟩ := row6 hcb7
              obtain ⟨q0, q1, q2, q3, z0, z1, z2, z3⟩ := row4f g3'
              have hlw3 : w.heap.size + 1 + 1 + 1 < W7.heap.size := by omega
              have hlwc : cb < W7.heap.size := by omega
              have hg91 : cs.length + 1 ≤ maxLen := by unfold maxLen; omega
              have hg92 : (cs.length + 1) * 80 ≤ 140737488355328 := by omega
              have hb9 : ∀ o', w.heap.size + 4 ≤ (W7.alloc o').heap.size := fun o' => by simp only [World.size_alloc]; omega
              have hne3 : cb ≠ w.heap.size + 1 + 1 + 1 := by omega
              have hW74 : w.heap.size + 4 ≤ W7.heap.size := by omega
              clear hs7
              go_wp2_with (at_builtin; go_must (refine wpList_append_where rfl (.tmp 71) (.tmp 73) 72 rfl (w.heap.size + 4) 101 i101 _ 6 80 Try.underlying72 hi101 ha0 ha1 ha2 rfl (by omega) (.slice C cs.length ccap) cs.length xs rfl (own_below hown7 (below1 W7 _) (Nat.le_refl _)) (some ⟨W7.heap.size, 0, none⟩) 1 1 [.int .i64 k1, .bool k2, .int .i64 T.kind, .int .i64 T.rule, .slice Tp tl tc, .slice TA T.cs.length tcap] rfl (Src.of_own (own_new W7 101 6 1 #[.int .i64 k1, .bool k2, .int .i64 T.kind, .int .i64 T.rule, .slice Tp tl tc, .slice TA T.cs.length tcap] rfl (by omega))) (fun h => by cases h) (by simp [Value.oneCell']) hg91 hg92 (hb9 _) ?_; intro v8 w8 hown8 hgr8 hf8; have hb8 := below_grown (own_below hown7 (below1 W7 _) (Nat.le_refl _)) hgr8 (hb9 _); have hb78 := ((below1 W7 _).mono hW74).trans hb8; have g38 := (hb78.block _ (by omega)).trans g3'; obtain ⟨q0', q1', q2', q3', z0', z1', z2', z3'⟩ := row4f g38; obtain ⟨C8, c8, rfl, h81, h82⟩ := own_form hown8))
              have hsg : Data.Sub (part W7 (out4 S w.heap.size (.slice C cs.length ccap))) (part (w8.setCell ⟨w.heap.size + 1 + 1 + 1, 3, none⟩ (.slice C8 (cs.length + 1) c8)) (out4 S w.heap.size (.slice C8 (cs.length + 1) c8))) :=
                (sub_out_grown (below1 W7 _) hgr8 hf8).trans (sub_out_set (n := w.heap.size) (i := 3) (by omega))
              have hg9 : ∀ k' v', W7.heap[k']? = some v' → k' < w.heap.size + 1 + 1 + 1 → (w8.setCell ⟨w.heap.size + 1 + 1 + 1, 3, none⟩ (.slice C8 (cs.length + 1) c8)).heap[k']? = some v' := fun k' v' h hk' => by
                rw [Below.heap_setCell _ _ _ _ (by simp only; omega), hb78.block _ (by omega)]
                exact h
              have hCl : (cs ++ [T.inCase k1 k2]).length = cs.length + 1 := by simp
              refine ⟨⟨oth, cs ++ [T.inCase k1 k2], xs ++ [.int .i64 k1, .bool k2, .int .i64 T.kind, .int .i64 T.rule, .slice Tp tl tc, .slice TA T.cs.length tcap], .slice C8 (cs.length + 1) c8, ?_, hmT, hmuT, ?_, hg9 _ _ g0' (by omega), hg9 _ _ g1' (by omega), hg9 _ _ g2' (by omega), set3_block g38, ?_, ?_, ?_, ?_⟩, by simp only [slcLen]; omega⟩
              · exact (IS_part (S := out4 S w.heap.size (.slice C cs.length ccap)) hoth7 (by omega) (fun k' hk' => out4_iff.2 ⟨.inr (by omega), fun e => by have := (hcvb _ e).2; omega⟩)).sub hsg
              · rw [hCl]; omega
              · rw [hCl]; exact ownsRow_setCell_below hown8 (a := ⟨w.heap.size + 1 + 1 + 1, 3, none⟩) (by simp only; omega) _
              · exact ((hcells.sub (sub_below hbo7)).sub hsg).append (CtCells.single (hTC.sub hsg))
              · intro cs'' h''
                rw [List.append_assoc]
                exact HFin.out T cs'' hT h''
              · exact Below.setCell (hbw7.trans (hb78.mono (by omega))) (by simp only; omega) _
            · rw [if_neg hcz] at HX
              have hXX := HX.out
              subst hXX
              clear HX
              have hwrap : IntKind.i64.wrap ((at_ : Int) + 1) = (at_ : Int) + 1 := by rw [IntKind.wrap_i64]; omega
              go_wp2_with fail
              go_region_held3 (fun w' => w'.cell? ⟨w.heap.size, 0, none⟩ = some (.slice Am makers.length capm) ∧ w'.cell? ⟨w.heap.size, 1, none⟩ = some (.slice Ar rules.length capr))
                (first | with_reducible exact ⟨set25_keep n0 (MS.out _ hbW6).1, set25_keep n0 (MS.out _ hbW6).2⟩ | with_reducible exact MS.out _ hbW6 | with_reducible exact MS.out _ hbW5 | with_reducible exact MS.out _ (hE0 _) | with_reducible exact MS.out _ hE2 | exact MS.out _ (hE0 _) | exact MS.out _ (Below.refl _ _) | go_keep)
                (first | (go_at_call 90; refine (hHC _).out.mono ?_; rintro _ w5 ⟨vq, xs5, rfl, hoq, hpq, hbq⟩; have hbW5 : Below wr.heap.size wr w5 := (hE0 _).trans (hbq.mono (hE0 _).size); have HBq := HBd w5 vq _ xs5 (hE0 _).size hbW5 hoq (hpq.sub (sub_below hbq)); obtain ⟨Aq, cq, rfl, -, -⟩ := own_form hoq) | (go_at_call 63; refine HBq.out.mono ?_; clear HBq; rintro _ w6 ⟨T, vT, rfl, hT, hTr, hb6⟩; have hbW6 : Below wr.heap.size wr w6 := hbW5.thenCall hbW5.size hb6; obtain ⟨Tp, tl, tc, TA, tcap, rfl⟩ := hTr.form; obtain ⟨d0, d1, d2, d3, d4, d5, j0, j1, j2, j3, j4, j5⟩ := row6 ((hbW6.block _ hwrc).trans hcbi)))
              have hz6 := hbW6.size
              have hz5 := hbW5.size
              have hbo6 := hboi.thenCall hboi.size hbW6
              have hcb7 := set25_block (u2 := .int .i64 T.kind) (u3 := .int .i64 T.rule) (u4 := .slice Tp tl tc) (u5 := .slice TA T.cs.length tcap) ((hbW6.block _ hwrc).trans hcbi)
              have hs7 := set25_size (w := w6) (R := cb) (u2 := .int .i64 T.kind) (u3 := .int .i64 T.rule) (u4 := .slice Tp tl tc) (u5 := .slice TA T.cs.length tcap)
              have hh7 := set25 (w := w6) (R := cb) (u2 := .int .i64 T.kind) (u3 := .int .i64 T.rule) (u4 := .slice Tp tl tc) (u5 := .slice TA T.cs.length tcap)
              have hbo7 := below_set25 (R := cb) (u2 := .int .i64 T.kind) (u3 := .int .i64 T.rule) (u4 := .slice Tp tl tc) (u5 := .slice TA T.cs.length tcap) hbo6 hcb1
              clear d0 d1 d2 d3 d4 d5 j0 j1 j2 j3 j4 j5 MS HBd hHC hE0 hE1 hE2 hbq hoq hpq
              generalize ((((w6.setCell ⟨cb, 2, none⟩ (.int .i64 T.kind)).setCell ⟨cb, 3, none⟩ (.int .i64 T.rule)).setCell ⟨cb, 4, none⟩ (.slice Tp tl tc)).setCell ⟨cb, 5, none⟩ (.slice TA T.cs.length tcap)) = W7 at *
              have hTr7 : T.Tr (part W7 (out4 S w.heap.size (.slice C cs.length ccap))) _ := hTr.sub (sub_case (R := cb) hh7 (by omega) hcb2 hcbl (by omega) hcvb)
              have hTC := Ct.Tr.inCase k1 k2 hTr7
              have g3' := (hh7 _ (by omega)).trans ((hbW6.block _ hwr3).trans g3)
              have g0' := (hh7 _ (by omega)).trans ((hbW6.block _ (by omega)).trans g0)
              have g1' := (hh7 _ (by omega)).trans ((hbW6.block _ (by omega)).trans g1)
              have g2' := (hh7 _ (by omega)).trans ((hbW6.block _ (by omega)).trans g2)
              have hoth7 : IntOwn W7 wc.heap.size (.slice At' oth.length ct) oth := own_heap (own_below hothw hbW6 (Nat.le_refl _)) (fun k' hk' => hh7 k' (by omega))
              have hown7 := own_below hown hbo7 (Nat.le_refl _)
              have hbw7 := hb.thenCall hb.size hbo7
              obtain ⟨e0, e1, e2, e3, e4, e5, -⟩ := row6 hcb7
              obtain ⟨q0, q1, q2, q3, z0, z1, z2, z3⟩ := row4f g3'
              have hlw3 : w.heap.size + 1 + 1 + 1 < W7.heap.size := by omega
              have hlwc : cb < W7.heap.size := by omega
              have hg91 : cs.length + 1 ≤ maxLen := by unfold maxLen; omega
              have hg92 : (cs.length + 1) * 80 ≤ 140737488355328 := by omega
              have hb9 : ∀ o', w.heap.size + 4 ≤ (W7.alloc o').heap.size := fun o' => by simp only [World.size_alloc]; omega
              have hne3 : cb ≠ w.heap.size + 1 + 1 + 1 := by omega
              have hW74 : w.heap.size + 4 ≤ W7.heap.size := by omega
              clear hs7
              go_wp2_with (at_builtin; go_must (refine wpList_append_where rfl (.tmp 71) (.tmp 73) 72 rfl (w.heap.size + 4) 101 i101 _ 6 80 Try.underlying72 hi101 ha0 ha1 ha2 rfl (by omega) (.slice C cs.length ccap) cs.length xs rfl (own_below hown7 (below1 W7 _) (Nat.le_refl _)) (some ⟨W7.heap.size, 0, none⟩) 1 1 [.int .i64 k1, .bool k2, .int .i64 T.kind, .int .i64 T.rule, .slice Tp tl tc, .slice TA T.cs.length tcap] rfl (Src.of_own (own_new W7 101 6 1 #[.int .i64 k1, .bool k2, .int .i64 T.kind, .int .i64 T.rule, .slice Tp tl tc, .slice TA T.cs.length tcap] rfl (by omega))) (fun h => by cases h) (by simp [Value.oneCell']) hg91 hg92 (hb9 _) ?_; intro v8 w8 hown8 hgr8 hf8; have hb8 := below_grown (own_below hown7 (below1 W7 _) (Nat.le_refl _)) hgr8 (hb9 _); have hb78 := ((below1 W7 _).mono hW74).trans hb8; have g38 := (hb78.block _ (by omega)).trans g3'; obtain ⟨q0', q1', q2', q3', z0', z1', z2', z3'⟩ := row4f g38; obtain ⟨C8, c8, rfl, h81, h82⟩ := own_form hown8))
              have hsg : Data.Sub (part W7 (out4 S w.heap.size (.slice C cs.length ccap))) (part (w8.setCell ⟨w.heap.size + 1 + 1 + 1, 3, none⟩ (.slice C8 (cs.length + 1) c8)) (out4 S w.heap.size (.slice C8 (cs.length + 1) c8))) :=
                (sub_out_grown (below1 W7 _) hgr8 hf8).trans (sub_out_set (n := w.heap.size) (i := 3) (by omega))
              have hg9 : ∀ k' v', W7.heap[k']? = some v' → k' < w.heap.size + 1 + 1 + 1 → (w8.setCell ⟨w.heap.size + 1 + 1 + 1, 3, none⟩ (.slice C8 (cs.length + 1) c8)).heap[k']? = some v' := fun k' v' h hk' => by
                rw [Below.heap_setCell _ _ _ _ (by simp only; omega), hb78.block _ (by omega)]
                exact h
              have hCl : (cs ++ [T.inCase k1 k2]).length = cs.length + 1 := by simp
              refine ⟨⟨oth, cs ++ [T.inCase k1 k2], xs ++ [.int .i64 k1, .bool k2, .int .i64 T.kind, .int .i64 T.rule, .slice Tp tl tc, .slice TA T.cs.length tcap], .slice C8 (cs.length + 1) c8, ?_, hmT, hmuT, ?_, hg9 _ _ g0' (by omega), hg9 _ _ g1' (by omega), hg9 _ _ g2' (by omega), set3_block g38, ?_, ?_, ?_, ?_⟩, by simp only [slcLen]; omega⟩
              · exact (IS_part (S := out4 S w.heap.size (.slice C cs.length ccap)) hoth7 (by omega) (fun k' hk' => out4_iff.2 ⟨.inr (by omega), fun e => by have := (hcvb _ e).2; omega⟩)).sub hsg
              · rw [hCl]; omega
              · rw [hCl]; exact ownsRow_setCell_below hown8 (a := ⟨w.heap.size + 1 + 1 + 1, 3, none⟩) (by simp only; omega) _
              · exact ((hcells.sub (sub_below hbo7)).sub hsg).append (CtCells.single (hTC.sub hsg))
              · intro cs'' h''
                rw [List.append_assoc]
                exact HFin.out T cs'' hT h''
              · exact Below.setCell (hbw7.trans (hb78.mono (by omega))) (by simp only; omega) _
end Go.Proofs.Ytnaakhnmbckpmaa.Pats
