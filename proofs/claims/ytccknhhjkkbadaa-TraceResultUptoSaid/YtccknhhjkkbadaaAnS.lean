/- An answer as a text: plain, and the contract of answer.Show. -/
import Derived.Test.YtccknhhjkkbadaaAnF
import Derived.Test.YtccknhhjkkbadaaShT
namespace Go.Proofs.Ytccknhhjkkbadaa.Shw
open Go.ChangeShapes Go.WideShapes Go.ChangeAt Go.RowKit Go.Proofs.Ytccknhhjkkbadaa.Lift Go.Proofs.Ytccknhhjkkbadaa.Data Go.Proofs.Ytccknhhjkkbadaa.Dig Go.Proofs.Ytccknhhjkkbadaa.Tmr
set_option linter.unusedVariables false
set_option linter.unusedSimpArgs false
def StrR (cs : List Value) (s : ByteArray) : Prop := cs = [.string s]
/-- names that came in; none is longer than M. -/
def Names (w : World) (A : Option Addr) (cap M : Nat) (ns : List ByteArray) : Prop := Lift.RowsIn StrR w 1 A ns ∧ ns.length ≤ cap ∧ cap ≤ 9223372036854775807 ∧ ns.length ≤ 1048576 ∧ (∀ s ∈ ns, s.size ≤ M) ∧ M ≤ 1048576
def nm (ns : List ByteArray) (i : Nat) : ByteArray := ns.getD i ⟨#[63]⟩
def piece (ns : List ByteArray) (i : Nat) (t : Tm) : ByteArray := nm ns i ++ ⟨#[32, 61, 32]⟩ ++ showB t ++ ⟨#[44, 32]⟩
def bindsB (ns : List ByteArray) : ByteArray → Nat → List Tm → ByteArray
  | s, _, [] => s
  | s, i, t :: r => bindsB ns (s ++ piece ns i t) (i + 1) r
theorem bindsB_take (ns : List ByteArray) : ∀ {bs : List Tm} {j : Nat} (s : ByteArray) (i : Nat) (h : j < bs.length), bindsB ns s i (bs.take (j + 1)) = bindsB ns s i (bs.take j) ++ piece ns (i + j) bs[j]
  | [], j, s, i, h => by simp at h
  | y :: r, 0, s, i, _ => by simp [bindsB]
  | y :: r, j + 1, s, i, h => by
    simp only [List.take_succ_cons, bindsB, List.getElem_cons_succ]
    rw [bindsB_take ns _ _ (by simpa using h), Nat.add_right_comm, Nat.add_assoc]
theorem nm_size {ns : List ByteArray} {M : Nat} (h : ∀ s ∈ ns, s.size ≤ M) (i : Nat) : (nm ns i).size ≤ M + 1 := by
  unfold nm
  rw [List.getD_eq_getElem?_getD]
  rcases Nat.lt_or_ge i ns.length with hi | hi
  · rw [List.getElem?_eq_getElem hi]
    have := h _ (List.getElem_mem hi)
    simp only [Option.getD_some]
    omega
  · rw [List.getElem?_eq_none hi]
    simp only [Option.getD_none, bsize]
    simp
theorem bindsB_size {ns : List ByteArray} {M : Nat} (hM : ∀ s ∈ ns, s.size ≤ M) : ∀ (bs : List Tm) (s : ByteArray) (i : Nat), goods bs → (bindsB ns s i bs).size ≤ s.size + wts bs + bs.length * (M + 6)
  | [], s, i, _ => by simp [bindsB]
  | t :: r, s, i, h => by
    rw [goods] at h
    have h1 := bindsB_size hM r (s ++ piece ns i t) (i + 1) h.2
    have h2 := nm_size hM i
    have h3 := showB_len t h.1
    rw [bindsB, wts, List.length_cons, Nat.add_mul]
    have h4 : (s ++ piece ns i t).size = s.size + ((nm ns i).size + 3 + (showB t).size + 2) := by
      unfold piece
      simp only [ByteArray.size_append, bsize]
      simp
    omega
theorem goods_take {ys : List Tm} (j : Nat) (h : goods ys) : goods (ys.take j) := by
  induction ys generalizing j with
  | nil => simpa using h
  | cons y r ih =>
    cases j with
    | zero => rw [List.take_zero, goods]; trivial
    | succ j =>
      rw [goods] at h
      rw [List.take_succ_cons, goods]
      exact ⟨h.1, ih j h.2⟩
theorem bindsB_sizeT {ns : List ByteArray} {M : Nat} (hM : ∀ s ∈ ns, s.size ≤ M) (bs : List Tm) (j : Nat) (s : ByteArray) (h : goods bs) : (bindsB ns s 0 (bs.take j)).size ≤ s.size + wts bs + bs.length * (M + 6) := by
  have h1 := bindsB_size hM (bs.take j) s 0 (goods_take j h)
  have h2 := wts_take (ys := bs) (j := j)
  have h3 : (bs.take j).length * (M + 6) ≤ bs.length * (M + 6) := Nat.mul_le_mul_right _ (by simp; omega)
  omega
def ansB (ns : List ByteArray) (a : An) : ByteArray := bindsB ns ⟨#[]⟩ 0 a.binds ++ showB a.v
/-- how great an answer's text may be. -/
def anW (M : Nat) (a : An) : Nat := wts a.binds + wt a.v + a.binds.length * (M + 6) + 2
def anGood (a : An) : Prop := goods a.binds ∧ good a.v
theorem name_cell {w0 w : World} {A : Option Addr} {cap M : Nat} {ns : List ByteArray} (h : Names w0 A cap M ns) (hb : Below w0.heap.size w0 w) {i : Nat} (hi : i < ns.length) : ∃ b o, A = some ⟨b, o, none⟩ ∧ b < w.heap.size ∧ w.cell? ⟨b, o + i, none⟩ = some (.string (nm ns i)) := by
  obtain ⟨b, o, cs, e, hl, hR, -, hc⟩ := h.1 i hi
  unfold StrR at hR
  subst hR
  have := (hb.cell (p := ⟨b, o + i * 1 + 0, none⟩) hl).trans (hc 0 _ rfl)
  refine ⟨b, o, e, Nat.lt_of_lt_of_le hl hb.size, ?_⟩
  rw [Nat.mul_one, Nat.add_zero] at this
  rw [this]
  simp [nm, List.getD, List.getElem?_eq_getElem hi]
set_option maxRecDepth 100000 in
set_option maxHeartbeats 4000000 in
theorem ans_any (w0 : World) (A : Option Addr) (cap M : Nat) (ns : List ByteArray) (a : An) (A1 A2 : Option Addr) (c1 c2 : Nat) (w : World) (hN : Names w0 A cap M ns)
    (h1 : TmHd A1 a.binds.length c1) (h2 : Tms w0 A1 a.binds) (h3 : TmHd A2 a.ys.length c2) (h4 : Tms w0 A2 a.ys) (hg : anGood a) (hs : a.size ≤ 1048576) (hw : wts a.binds + wt a.v ≤ 1000000000) (h0 : Below w0.heap.size w0 w) :
    Calls Try.prog 89 #[.slice A ns.length cap, .agg #[.slice A1 a.binds.length c1, .int .i64 a.k, .string a.s, .int .i64 a.n, .slice A2 a.ys.length c2]] w fun r w' => r = .returned (.string (ansB ns a)) ∧ Below w.heap.size w w' := by
  have hlast := fun (z : World) (hz : Below w0.heap.size w0 z) => term_any (Tm.size a.v) w0 a.v (Nat.le_refl _) hg.2 (by omega) z (.agg #[.int .i64 a.k, .string a.s, .int .i64 a.n, .slice A2 a.ys.length c2]) ⟨A2, c2, rfl, h3, h4⟩ hz
  have hE : ansB ns a = bindsB ns ⟨#[]⟩ 0 a.binds ++ showB a.v := rfl
  have hlv := showB_len a.v hg.2
  have hg1 := hg.1
  have hM := hN.2.2.2.2.1
  have hMl := hN.2.2.2.2.2
  have hsz : TmSize a.binds ≤ 1048576 := by unfold An.size at hs; omega
  have hbl := TmSize_len a.binds
  generalize wt a.v = wv at *
  generalize showB a.v = SV at *
  generalize ansB ns a = R at *
  obtain ⟨bs, k, s, n, ys⟩ := a
  dsimp only at *
  have hb3 : bs.length * (M + 6) ≤ 1048576 * 1048582 := Nat.mul_le_mul (by omega) (by omega)
  have hcn := hN.2.1
  have hcm := hN.2.2.1
  have hc1 := h1.1
  have hc2 := h1.2.1
  have HE := Lib.hid hE
  clear hE h3 h4 hg
  go_enter Try.func89, Try.ntmps89
  go_wp2_with fail
  go_loopw [5, 12] (fun t i wr => ∃ j : Nat, i = .int .i64 j ∧ j ≤ bs.length ∧ t = .string (bindsB ns ⟨#[]⟩ 0 (bs.take j)) ∧ Hid (Below (w.heap.size + 1) (w.alloc (.cells #[.slice A1 bs.length c1, .int .i64 k, .string s, .int .i64 n, .slice A2 ys.length c2] 73)) wr)) (fun _ i _ => bs.length - (intOf i).toNat)
  case atStart => exact ⟨0, rfl, Nat.zero_le _, by rw [List.take_zero, bindsB], Lib.hid (Below.refl _ _)⟩
  case round =>
    obtain ⟨j, rfl, hj, rfl, hb⟩ := hrel
    have hbw : Below w.heap.size w wr := (below1T w _).trans (hb.out.mono (Nat.le_succ _))
    have hb0 := h0.trans (hbw.mono h0.size)
    have hnb : wr.heap[w.heap.size]? = some (.cells #[.slice A1 bs.length c1, .int .i64 k, .string s, .int .i64 n, .slice A2 ys.length c2] 73 (0, 0)) := (hb.out.block w.heap.size (Nat.lt_succ_self _)).trans (heap_alloc_new w _)
    have hsz1 : w.heap.size + 1 ≤ wr.heap.size := by have := hb.out.size; simpa using this
    have hPs := bindsB_sizeT hM bs j ⟨#[]⟩ hg1
    have hz : (⟨#[]⟩ : ByteArray).size = 0 := rfl
    rw [hz] at hPs
    by_cases hlt : j < bs.length
    · obtain ⟨b, o, rfl, hat⟩ := h2.get j hlt
      have HT := bindsB_take ns ⟨#[]⟩ 0 hlt
      rw [Nat.zero_add] at HT
      have hgy := goods_get hg1 hlt
      have hwy := wts_get hlt
      have hsy := TmSize_get hlt
      have hC := term_any (Tm.size bs[j]) w0 bs[j] (Nat.le_refl _) hgy (by omega)
      have hSy := showB_len _ hgy
      have hPe : piece ns j bs[j] = nm ns j ++ ⟨#[32, 61, 32]⟩ ++ showB bs[j] ++ ⟨#[44, 32]⟩ := rfl
      rw [hPe] at HT
      clear hPe
      generalize bs[j] = y at *
      cases y with
      | mk k' s' n' ys' =>
      obtain ⟨A', cap', d0, d1, d2, d3, hv'⟩ := Tm.At.both hat hb0 (Nat.le_refl _)
      have HC := Lib.hid (fun o => hC (wr.alloc o) _ hv' (hb0.alloc hb0.size o))
      have hnN := nm_size hM j
      generalize showB (.mk k' s' n' ys') = S at *
      generalize hP : bindsB ns ⟨#[]⟩ 0 (bs.take j) = P at *
      have HTT := Lib.hid HT
      clear hP HT hC hat h2 hnb
      by_cases hjn : j < ns.length
      · obtain ⟨bn, on, rfl, hnl, hcell⟩ := name_cell hN hb0 hjn
        have hcellA := fun O => (World.cell?_alloc_lt wr O ⟨bn, on + j, none⟩ hnl).trans hcell
        generalize nm ns j = nn at *
        have t1 : ¬ 9223372036854775807 < nn.size + 3 := by omega
        have t2 : ¬ 9223372036854775807 < nn.size + 3 + S.size := by omega
        have t3 : ¬ 9223372036854775807 < nn.size + 3 + S.size + 2 := by omega
        have t4 : ¬ 9223372036854775807 < P.size + (nn.size + 3 + S.size + 2) := by omega
        have hji : (j : Int) < ns.length := by omega
        clear hN h0 hb0 hv'
        go_wp2_with (go_at_call 112; refine (HC.out _).mono ?_; rintro e w1 ⟨rfl, hb1⟩; have hbn := hb.out.thenCall hsz1 (Below.call1 hb1); clear hb1)
        exact ⟨⟨j + 1, by go_num, by omega, by rw [HTT.out], Lib.hid hbn⟩, by simp [intOf]; omega⟩
      · have hnq : nm ns j = ⟨#[63]⟩ := by unfold nm; rw [List.getD_eq_getElem?_getD, List.getElem?_eq_none (by omega)]; rfl
        rw [hnq] at HTT hnN
        have t2 : ¬ 9223372036854775807 < 4 + S.size := by omega
        have t3 : ¬ 9223372036854775807 < 4 + S.size + 2 := by omega
        have t4 : ¬ 9223372036854775807 < P.size + (4 + S.size + 2) := by omega
        clear hN h0 hb0 hv'
        go_wp2_with (go_at_call 112; refine (HC.out _).mono ?_; rintro e w1 ⟨rfl, hb1⟩; have hbn := hb.out.thenCall hsz1 (Below.call1 hb1); clear hb1)
        exact ⟨⟨j + 1, by go_num, by omega, by rw [HTT.out], Lib.hid hbn⟩, by simp [intOf]; omega⟩
    · have e : bs.take j = bs := List.take_of_length_le (by omega)
      rw [e] at hPs ⊢
      have c0 := cells5A hnb
      obtain ⟨c0, d1, d2, d3, d4⟩ := c0
      generalize bindsB ns ⟨#[]⟩ 0 bs = P at *
      have HL := Lib.hid (hlast wr hb0)
      have t1 : ¬ 9223372036854775807 < P.size + SV.size := by omega
      clear hnb hlast h2
      go_wp2_with (go_at_call 112; refine HL.out.mono ?_; rintro e w1 ⟨rfl, hb1⟩; have hbn := hbw.thenCall hbw.size hb1; clear hb1)
      go_ret
      exact ⟨by rw [HE.out]; try rfl, hbn⟩
end Go.Proofs.Ytccknhhjkkbadaa.Shw
