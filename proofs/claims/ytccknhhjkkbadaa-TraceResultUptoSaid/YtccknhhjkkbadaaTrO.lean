/- TraceResult's input as it came in. -/
import Derived.Test.YtccknhhjkkbadaaTrW
import Derived.OpenShut
namespace Go.Proofs.Ytccknhhjkkbadaa.Shw
open Go.ChangeShapes Go.WideShapes Go.ChangeAt Go.RowKit Go.Proofs.Ytccknhhjkkbadaa.Lift Go.Proofs.Ytccknhhjkkbadaa.Data Go.Proofs.Ytccknhhjkkbadaa.Dig Go.Proofs.Ytccknhhjkkbadaa.Tmr
set_option linter.unusedVariables false
set_option linter.unusedSimpArgs false
mutual
def tk : Tm → Nat
  | .mk k s n ys => s.size + 1 + tks ys
def tks : List Tm → Nat
  | [] => 0
  | y :: r => tk y + tks r
end
theorem tk_pos : ∀ t : Tm, 1 ≤ tk t
  | .mk k s n ys => by rw [tk]; omega
theorem tks_len : ∀ l : List Tm, l.length ≤ tks l
  | [] => by simp
  | y :: r => by have := tks_len r; have := tk_pos y; rw [tks, List.length_cons]; omega
mutual
theorem tk_size : ∀ t : Tm, t.size ≤ tk t
  | .mk k s n ys => by have := tks_size ys; rw [tk, Tm.size]; omega
theorem tks_size : ∀ l : List Tm, TmSize l ≤ tks l
  | [] => by simp [TmSize, tks]
  | y :: r => by have := tk_size y; have := tks_size r; rw [tks, TmSize]; omega
end
mutual
theorem wt_tk : ∀ t : Tm, wt t ≤ 41 * tk t
  | .mk k s n ys => by have := wts_tks ys; rw [tk, wt]; omega
theorem wts_tks : ∀ l : List Tm, wts l ≤ 41 * tks l
  | [] => by simp [wts, tks]
  | y :: r => by have := wt_tk y; have := wts_tks r; rw [tks, wts]; omega
end
theorem w64_of {n : Int} (h : (Lit.int .i64 n).wf = true) : W64 n := by
  unfold Lit.wf at h
  simp [IntKind.min, IntKind.max, IntKind.bits, IntKind.signed] at h
  unfold W64
  omega
theorem cells3 : Try.prog.cellsOf 3 = 1 := by kernel_rfl
theorem cells9 : Try.prog.cellsOf 9 = 1 := by kernel_rfl
theorem cells69 : Try.prog.cellsOf 69 = 1 := by kernel_rfl
theorem cells71 : Try.prog.cellsOf 71 = 4 := by kernel_rfl
/-- elements that lie one behind the other. -/
theorem openTm_rows {H : Type} {enc : TypeId × Value → H} {W : World} {sp : Nat → Bool} {held : Bool} {m : Nat}
    (IH : ∀ (cs : List Value) (x : DataW H × List MemPlace), DataW.trod enc Try.prog W 0 sp held m 71 cs = some x → Rows.uptoBulk x.1 ≤ 1048576 → ∃ e : Tm, e.Cs W cs ∧ tk e ≤ Rows.uptoBulk x.1 ∧ good e) (b : Nat) :
    ∀ (elems : List (DataW H × List MemPlace)) (o : Nat), (∀ i, i < elems.length → (W.cells? 0 ⟨b, o + i * 4, none⟩ 4).bind (DataW.trod enc Try.prog W 0 sp held m 71) = elems[i]?) → Rows.uptoBulkAll (elems.map (·.1)) ≤ 1048576 →
      ∃ es : List Tm, es.length = elems.length ∧ TmRow W es b o ∧ tks es ≤ Rows.uptoBulkAll (elems.map (·.1)) ∧ goods es
  | [], o, _, _ => ⟨[], rfl, by rw [TmRow]; trivial, by simp [tks], by rw [goods]; trivial⟩
  | y :: r, o, h, hb => by
    rw [List.map_cons, Rows.uptoBulkAll] at hb ⊢
    have h0 := h 0 (by simp)
    rw [Nat.zero_mul, Nat.add_zero, List.getElem?_cons_zero] at h0
    obtain ⟨cs', h1, h2⟩ := Option.bind_eq_some_iff.1 h0
    obtain ⟨e, he, hsz, hgd⟩ := IH cs' y h2 (by omega)
    obtain ⟨es, hl, hr, hs, hgs⟩ := openTm_rows IH b r (o + 4) (fun i hi => by
      have := h (i + 1) (by simpa using hi)
      rw [List.getElem?_cons_succ] at this
      rw [← this, show o + 4 + i * 4 = o + (i + 1) * 4 by omega]) (by omega)
    refine ⟨e :: es, by simp [hl], ?_, by rw [tks]; omega, by rw [goods]; exact ⟨hgd, hgs⟩⟩
    obtain ⟨_, hlen, hc⟩ := World.cells?_some h1
    have h3 := TmCells.row (w := W) (b := b) (o := o) (TmCells.single he) (fun j u hu => by
      have hj : j < cs'.length := (List.getElem?_eq_some_iff.1 hu).1
      have := hc j (by omega)
      rw [← add_plain0, this]
      exact hu)
    rw [TmRow] at h3 ⊢
    exact ⟨h3.1, hr⟩
set_option maxRecDepth 100000 in
theorem openTms_of {H : Type} {enc : TypeId × Value → H} {W : World} {sp : Nat → Bool} {held : Bool} {m : Nat}
    (IH : ∀ n, n < m → ∀ (cs : List Value) (x : DataW H × List MemPlace), DataW.trod enc Try.prog W 0 sp held n 71 cs = some x → Rows.uptoBulk x.1 ≤ 1048576 → ∃ e : Tm, e.Cs W cs ∧ tk e ≤ Rows.uptoBulk x.1 ∧ good e)
    {cs : List Value} {x : DataW H × List MemPlace} (h : DataW.trod enc Try.prog W 0 sp held m 69 cs = some x) (hb : Rows.uptoBulk x.1 ≤ 1048576) :
    ∃ (A : Option Addr) (cap : Nat) (es : List Tm), cs = [.slice A es.length cap] ∧ TmHd A es.length cap ∧ Tms W A es ∧ tks es + 1 ≤ Rows.uptoBulk x.1 ∧ goods es := by
  rcases DataW.trod_slice Try.underlying69 h with ⟨rfl, rfl⟩ | ⟨a, len, cap, elems, rest, n, rfl, rfl, rfl, _, h1, h2, h3, h4, _, _⟩
  · exact ⟨none, 0, [], rfl, ⟨Nat.le_refl _, by omega, by simp, fun _ => rfl⟩, .inl rfl, by simp [Rows.uptoBulk, tks], by rw [goods]; trivial⟩
  · simp only [Rows.uptoBulk] at hb ⊢
    unfold maxLen at h2
    subst h3
    rw [cells71] at h4
    cases elems with
    | nil => exact ⟨some a, cap, [], rfl, ⟨Nat.zero_le _, by omega, by simp, fun h => by cases h⟩, .inl rfl, by simp [tks], by rw [goods]; trivial⟩
    | cons y r =>
      have hp : a.spot = none := by
        have h0 := h4 0 (by simp)
        rw [List.getElem?_cons_zero] at h0
        obtain ⟨cs', g1, g2⟩ := Option.bind_eq_some_iff.1 h0
        obtain ⟨_, hlen, hc⟩ := World.cells?_some g1
        have := hc 0 (by omega)
        rw [List.getElem?_eq_getElem (by omega)] at this
        simpa [Addr.add] using World.cell?_spot this
      obtain ⟨b, o, spot⟩ := a
      simp only at hp
      subst hp
      obtain ⟨es, hl, hr, hs, hgs⟩ := openTm_rows (IH n (Nat.lt_succ_self n)) b (y :: r) o (fun i hi => by rw [← add_plain0]; exact h4 i hi) (by omega)
      have hle := tks_len es
      refine ⟨some ⟨b, o, none⟩, cap, es, by rw [hl], ⟨by omega, by omega, by omega, fun h => by cases h⟩, .inr ⟨b, o, rfl, hr⟩, by omega, hgs⟩
set_option maxRecDepth 100000 in
theorem openTm_cs {H : Type} {enc : TypeId × Value → H} {W : World} {sp : Nat → Bool} {held : Bool} (fuel : Nat) : ∀ (cs : List Value) (x : DataW H × List MemPlace),
    DataW.trod enc Try.prog W 0 sp held fuel 71 cs = some x → Rows.uptoBulk x.1 ≤ 1048576 → ∃ e : Tm, e.Cs W cs ∧ tk e ≤ Rows.uptoBulk x.1 ∧ good e := by
  induction fuel using Nat.strongRecOn with
  | _ fuel ih =>
  intro cs x h hb
  obtain ⟨xs, n, rfl, rfl, hl, hlen, hf⟩ := DataW.trod_struct Try.underlying71 h
  rw [cells71] at hl
  match cs, hl, xs, hlen with
  | [c0, c1, c2, c3], _, [y0, y1, y2, y3], _ =>
  have f0 : DataW.trod enc Try.prog W 0 sp held n 3 (([c0, c1, c2, c3].drop 0).take (Try.prog.cellsOf 3)) = some y0 := hf 0 _ rfl
  have f1 : DataW.trod enc Try.prog W 0 sp held n 9 (([c0, c1, c2, c3].drop 1).take (Try.prog.cellsOf 9)) = some y1 := hf 1 _ rfl
  have f2 : DataW.trod enc Try.prog W 0 sp held n 3 (([c0, c1, c2, c3].drop 2).take (Try.prog.cellsOf 3)) = some y2 := hf 2 _ rfl
  have f3 : DataW.trod enc Try.prog W 0 sp held n 69 (([c0, c1, c2, c3].drop 3).take (Try.prog.cellsOf 69)) = some y3 := hf 3 _ rfl
  skip
  obtain ⟨k, e0, rfl, _⟩ := DataW.trod_int Try.underlying3 f0
  obtain ⟨s, e1, rfl, _⟩ := DataW.trod_string Try.underlying9 f1
  obtain ⟨n', e2, rfl, w2⟩ := DataW.trod_int Try.underlying3 f2
  skip
  skip
  simp only [List.map_cons, List.map_nil, Rows.uptoBulk, Rows.uptoBulkAll] at hb ⊢
  obtain ⟨A, cap, es, e3, hh, hr, hs, hgs⟩ := openTms_of (fun n hn => ih n (by omega)) f3 (by omega)
  rw [cells3] at e0 e2
  rw [cells9] at e1
  rw [cells69] at e3
  skip
  simp at e0 e1 e2 e3 
  subst e0 e1 e2 e3 
  exact ⟨.mk k s n' es, ⟨A, cap, rfl, hh, hr⟩, by rw [tk]; simp only [Array.length_toList] at hb ⊢; have : s.data.size = s.size := rfl; omega, by rw [good]; exact ⟨w64_of w2, hgs⟩⟩

set_option maxRecDepth 100000 in
theorem open_rows_cs {H : Type} {enc : TypeId × Value → H} {P : Program} {W : World} {α : Type} {R : List Value → α → Prop} {sz : α → Nat} {t e k : Nat} (ht : P.underlying t = some (.slice e)) (hk : P.cellsOf e = k) (hk0 : 0 < k)
    (IH : ∀ n cs (x : DataW H × List MemPlace), DataW.trod enc P W 0 (fun _ => true) true n e cs = some x → Rows.uptoBulk x.1 ≤ 1048576 → ∃ a, R cs a ∧ sz a + 1 ≤ Rows.uptoBulk x.1)
    {fuel : Nat} {cs0 : List Value} {x : DataW H × List MemPlace} (hf : DataW.trod enc P W 0 (fun _ => true) true fuel t cs0 = some x) (hb : Rows.uptoBulk x.1 ≤ 1048576) :
    ∃ (A : Option Addr) (cap : Nat) (l : List α), cs0 = [.slice A l.length cap] ∧ l.length ≤ cap ∧ cap ≤ 9223372036854775807 ∧ (A = none → cap = 0) ∧ Lift.RowsIn R W k A l ∧ (l.map sz).sum + l.length + 1 ≤ Rows.uptoBulk x.1 := by
  have hall : ∀ (n b : Nat) (elems : List (DataW H × List MemPlace)) (o : Nat), (∀ i, i < elems.length → (W.cells? 0 ⟨b, o + i * k, none⟩ k).bind (DataW.trod enc P W 0 (fun _ => true) true n e) = elems[i]?) → Rows.uptoBulkAll (elems.map (·.1)) ≤ 1048576 →
      ∃ l : List α, l.length = elems.length ∧ (l.map sz).sum + l.length ≤ Rows.uptoBulkAll (elems.map (·.1)) ∧ Lift.RowsIn R W k (some ⟨b, o, none⟩) l := by
    intro n b elems
    induction elems with
    | nil => intro o _ _; exact ⟨[], rfl, by simp, fun i hi => by simp at hi⟩
    | cons y rr ih =>
      intro o h hb
      rw [List.map_cons, Rows.uptoBulkAll] at hb ⊢
      have h0 := h 0 (by simp)
      rw [Nat.zero_mul, Nat.add_zero, List.getElem?_cons_zero] at h0
      obtain ⟨cs', h1, h2⟩ := Option.bind_eq_some_iff.1 h0
      obtain ⟨a, ha, hs⟩ := IH n cs' y h2 (by omega)
      obtain ⟨l, hl, hsum, hr⟩ := ih (o + k) (fun i hi => by
        have := h (i + 1) (by simpa using hi)
        rw [List.getElem?_cons_succ] at this
        rw [← this, show o + k + i * k = o + (i + 1) * k by rw [Nat.add_mul]; omega]) (by omega)
      obtain ⟨_, hlen, hc⟩ := World.cells?_some h1
      refine ⟨a :: l, by simp [hl], by simp only [List.map_cons, List.sum_cons, List.length_cons]; omega, fun i hi => ?_⟩
      cases i with
      | zero =>
        have hc0 := hc 0 hk0
        rw [List.getElem?_eq_getElem (by omega), add_plain'] at hc0
        refine ⟨b, o, cs', rfl, World.block_lt_of_cell? W _ hc0, ha, hlen, fun j u hu => ?_⟩
        have hj : j < cs'.length := (List.getElem?_eq_some_iff.1 hu).1
        have := hc j (by omega)
        rw [add_plain', hu] at this
        rw [Nat.zero_mul]
        exact this
      | succ i =>
        obtain ⟨b', o', cs, e', hbl, hR, hk', hcc⟩ := hr i (by simpa using hi)
        have e2 := Option.some.inj e'
        have e3 : b = b' ∧ o + k = o' := by
          injection e2 with a1 a2
          exact ⟨a1, a2⟩
        obtain ⟨rfl, rfl⟩ := e3
        refine ⟨b, o, cs, rfl, hbl, by simpa using hR, hk', fun j u hu => ?_⟩
        rw [show o + (i + 1) * k + j = o + k + i * k + j by rw [Nat.add_mul]; omega]
        exact hcc j u hu
  rcases DataW.trod_slice ht hf with ⟨rfl, rfl⟩ | ⟨a, len0, cap0, elems, rest, n, rfl, rfl, rfl, _, h1, h2, h3, h4, _, _⟩
  · exact ⟨none, 0, [], rfl, Nat.le_refl _, by omega, fun _ => rfl, fun i hi => by simp at hi, by simp [Rows.uptoBulk]⟩
  · simp only [Rows.uptoBulk] at hb ⊢
    unfold maxLen at h2
    subst h3
    rw [hk] at h4
    cases elems with
    | nil => exact ⟨some a, cap0, [], rfl, Nat.zero_le _, by omega, (fun h => by cases h), fun i hi => by simp at hi, by simp⟩
    | cons y rr =>
      have hp : a.spot = none := by
        have h0 := h4 0 (by simp)
        rw [List.getElem?_cons_zero] at h0
        obtain ⟨cs', g1, g2⟩ := Option.bind_eq_some_iff.1 h0
        obtain ⟨_, hlen, hc⟩ := World.cells?_some g1
        have := hc 0 (by omega)
        rw [List.getElem?_eq_getElem (by omega)] at this
        simpa [Addr.add] using World.cell?_spot this
      obtain ⟨b, o, spot⟩ := a
      simp only at hp
      subst hp
      obtain ⟨l, hl, hsum, hr⟩ := hall n b (y :: rr) o (fun i hi => by rw [← add_plain']; exact h4 i hi) (by omega)
      exact ⟨some ⟨b, o, none⟩, cap0, l, by rw [hl], by omega, by omega, (fun h => by cases h), hr, by omega⟩

def anK (a : An) : Nat := tks a.binds + tk a.v
theorem cells73 : Try.prog.cellsOf 73 = 5 := by kernel_rfl
theorem cells67 : Try.prog.cellsOf 67 = 6 := by kernel_rfl
theorem cells64 : Try.prog.cellsOf 64 = 2 := by kernel_rfl
theorem cells65 : Try.prog.cellsOf 65 = 1 := by kernel_rfl
theorem cells62 : Try.prog.cellsOf 62 = 1 := by kernel_rfl
def AnQ (W : World) (cs : List Value) (a : An) : Prop := AnR W cs a ∧ anGood a
set_option maxRecDepth 100000 in
theorem openAn_cs {H : Type} {enc : TypeId × Value → H} {W : World} (n : Nat) (cs : List Value) (x : DataW H × List MemPlace) (h : DataW.trod enc Try.prog W 0 (fun _ => true) true n 73 cs = some x) (hb : Rows.uptoBulk x.1 ≤ 1048576) :
    ∃ a : An, AnQ W cs a ∧ anK a + 1 ≤ Rows.uptoBulk x.1 := by
  obtain ⟨xs, n', rfl, rfl, hl, hlen, hf⟩ := DataW.trod_struct Try.underlying73 h
  rw [cells73] at hl
  match cs, hl, xs, hlen with
  | [c0, c1, c2, c3, c4], _, [y0, y1], _ =>
  have f0 : DataW.trod enc Try.prog W 0 _ true n' 69 (([c0, c1, c2, c3, c4].drop 0).take (Try.prog.cellsOf 69)) = some y0 := hf 0 _ rfl
  have f1 : DataW.trod enc Try.prog W 0 _ true n' 71 (([c0, c1, c2, c3, c4].drop 1).take (Try.prog.cellsOf 71)) = some y1 := hf 1 _ rfl
  rw [cells69] at f0
  rw [cells71] at f1
  simp only [List.map_cons, List.map_nil, Rows.uptoBulk, Rows.uptoBulkAll] at hb ⊢
  obtain ⟨A, cap, es, e0, hh, hr, hs, hg⟩ := openTms_of (fun n _ => openTm_cs n) f0 (by omega)
  obtain ⟨e, he, hs2, hg2⟩ := openTm_cs n' _ _ f1 (by omega)
  cases e with
  | mk k s m ys =>
  obtain ⟨A2, cap2, e1, hh2, hr2⟩ := he
  simp at e0 e1
  subst e0
  obtain ⟨rfl, rfl, rfl, rfl⟩ := e1
  exact ⟨⟨es, k, s, m, ys⟩, ⟨⟨A, cap, A2, cap2, rfl, hh, hr, hh2, hr2⟩, hg, hg2⟩, by unfold anK An.v; dsimp only; omega⟩
def StrQ (cs : List Value) (s : ByteArray) : Prop := StrR cs s
set_option maxRecDepth 100000 in
theorem openStr_cs {H : Type} {enc : TypeId × Value → H} {W : World} (n : Nat) (cs : List Value) (x : DataW H × List MemPlace) (h : DataW.trod enc Try.prog W 0 (fun _ => true) true n 9 cs = some x) (hb : Rows.uptoBulk x.1 ≤ 1048576) :
    ∃ s : ByteArray, StrR cs s ∧ s.size + 1 ≤ Rows.uptoBulk x.1 := by
  obtain ⟨s, e, rfl, _⟩ := DataW.trod_string Try.underlying9 h
  refine ⟨s, e, ?_⟩
  simp only [Rows.uptoBulk, Array.length_toList]
  have : s.data.size = s.size := rfl
  omega
theorem rows_map {α : Type} {R R' : List Value → α → Prop} {w : World} {k : Nat} {A : Option Addr} {l : List α} (h : Lift.RowsIn R w k A l) (hh : ∀ cs a, R cs a → R' cs a) : Lift.RowsIn R' w k A l := fun i hi => by
  obtain ⟨b, o, cs, e, hl, hr, hk, hc⟩ := h i hi
  exact ⟨b, o, cs, e, hl, hh _ _ hr, hk, hc⟩
theorem rows_all {α : Type} {R : List Value → α → Prop} {w : World} {k : Nat} {A : Option Addr} {l : List α} {Q : α → Prop} (h : Lift.RowsIn R w k A l) (hh : ∀ cs a, R cs a → Q a) : ∀ a ∈ l, Q a := fun a ha => by
  obtain ⟨i, hi, rfl⟩ := List.getElem_of_mem ha
  obtain ⟨b, o, cs, e, hl, hr, hk, hc⟩ := h i hi
  exact hh _ _ hr
theorem mem_sum {α : Type} (f : α → Nat) : ∀ (l : List α), ∀ a ∈ l, f a ≤ (l.map f).sum
  | [], a, h => by simp at h
  | x :: r, a, h => by
    rcases List.mem_cons.1 h with rfl | h
    · simp
    · have := mem_sum f r a h; simp only [List.map_cons, List.sum_cons]; omega
theorem anW_le (a : An) : anW 1048576 a ≤ 1048623 * anK a + 2 := by
  have h1 := wts_tks a.binds
  have h2 := wt_tk a.v
  have h3 := tks_len a.binds
  unfold anW anK
  omega
theorem ansW_le : ∀ l : List An, ansW 1048576 l ≤ 1048623 * (l.map anK).sum + 2 * l.length
  | [] => by simp [ansW]
  | a :: r => by have := anW_le a; have := ansW_le r; rw [ansW, List.map_cons, List.sum_cons, List.length_cons]; omega
set_option maxRecDepth 100000 in
theorem openNs_sl {H : Type} {enc : TypeId × Value → H} {W : World} {r : Reach} {b0 : Nat} {v : Value} {d : DataW H} {ps : List MemPlace} (hval : Value.okWide Try.prog W r b0 61 v) (h : DataW.Trod enc Try.prog W 0 (fun _ => true) true 61 v d ps) (hb : Rows.uptoBulk d ≤ 1048576) :
    ∃ (A : Option Addr) (cap : Nat) (l : List ByteArray), v = .slice A l.length cap ∧ Names W A cap 1048576 l := by
  obtain ⟨A, cap, l, rfl, h1, h2, h3, h4, h5⟩ := open_rows (sz := fun s : ByteArray => s.size) Try.underlying61 cells9 (by omega) (fun n cs x hx hb => openStr_cs n cs x hx hb) hval h hb
  exact ⟨A, cap, l, rfl, h4, h1, h2, by omega, fun s hs => by have := mem_sum (fun s : ByteArray => s.size) l s hs; omega, Nat.le_refl _⟩
set_option maxRecDepth 100000 in
theorem openRes_arg {H : Type} {enc : TypeId × Value → H} {W : World} {r : Reach} {b0 : Nat} {v : Value} {d : DataW H} {ps : List MemPlace} (hval : Value.okWide Try.prog W r b0 67 v) (h : DataW.Trod enc Try.prog W 0 (fun _ => true) true 67 v d ps) (hb : Rows.uptoBulk d ≤ 1048576) :
    ∃ (AA : Option Addr) (ca : Nat) (l : List An) (err line col stuck steps : Int), v = .agg #[.int .i64 err, .int .i64 line, .int .i64 col, .slice AA l.length ca, .int .i64 stuck, .int .i64 steps] ∧ Anss W AA ca 1048576 l ∧ W64 line ∧ W64 col ∧ W64 stuck := by
  obtain ⟨cs, rfl, _⟩ := okWide_struct Try.underlying67 hval
  obtain ⟨fuel, hf⟩ := h
  obtain ⟨x, hx⟩ : ∃ x : DataW H × List MemPlace, x = (d, ps) := ⟨_, rfl⟩
  rw [← hx] at hf
  obtain rfl : d = x.1 := by rw [hx]
  clear hx
  obtain ⟨xs, n', rfl, rfl, hl, hlen, hf⟩ := DataW.trod_struct Try.underlying67 hf
  simp only [Value.cells] at hl hf
  rw [cells67] at hl
  obtain ⟨cs⟩ := cs
  dsimp only at hl hf
  match cs, hl, xs, hlen with
  | [c0, c1, c2, c3, c4, c5], _, [y0, y1, y2, y3, y4], _ =>
  have f0 : DataW.trod enc Try.prog W 0 _ true n' 62 (([c0, c1, c2, c3, c4, c5].drop 0).take (Try.prog.cellsOf 62)) = some y0 := hf 0 _ rfl
  have f1 : DataW.trod enc Try.prog W 0 _ true n' 64 (([c0, c1, c2, c3, c4, c5].drop 1).take (Try.prog.cellsOf 64)) = some y1 := hf 1 _ rfl
  have f2 : DataW.trod enc Try.prog W 0 _ true n' 65 (([c0, c1, c2, c3, c4, c5].drop 3).take (Try.prog.cellsOf 65)) = some y2 := hf 2 _ rfl
  have f3 : DataW.trod enc Try.prog W 0 _ true n' 3 (([c0, c1, c2, c3, c4, c5].drop 4).take (Try.prog.cellsOf 3)) = some y3 := hf 3 _ rfl
  have f4 : DataW.trod enc Try.prog W 0 _ true n' 3 (([c0, c1, c2, c3, c4, c5].drop 5).take (Try.prog.cellsOf 3)) = some y4 := hf 4 _ rfl
  rw [cells62] at f0
  rw [cells64] at f1
  rw [cells65] at f2
  rw [cells3] at f3 f4
  simp only [List.map_cons, List.map_nil, Rows.uptoBulk, Rows.uptoBulkAll] at hb
  obtain ⟨err, e0, rfl, -⟩ := DataW.trod_int Try.underlying62 f0
  obtain ⟨zs, n2, rfl, rfl, hl2, hlen2, hf2⟩ := DataW.trod_struct Try.underlying64 f1
  match zs, hlen2 with
  | [z0, z1], _ =>
  have g0 : DataW.trod enc Try.prog W 0 _ true n2 3 (((([c0, c1, c2, c3, c4, c5].drop 1).take 2).drop 0).take (Try.prog.cellsOf 3)) = some z0 := hf2 0 _ rfl
  have g1 : DataW.trod enc Try.prog W 0 _ true n2 3 (((([c0, c1, c2, c3, c4, c5].drop 1).take 2).drop 1).take (Try.prog.cellsOf 3)) = some z1 := hf2 1 _ rfl
  rw [cells3] at g0 g1
  obtain ⟨line, e1, rfl, w1⟩ := DataW.trod_int Try.underlying3 g0
  obtain ⟨col, e2, rfl, w2⟩ := DataW.trod_int Try.underlying3 g1
  obtain ⟨stuck, e4, rfl, w4⟩ := DataW.trod_int Try.underlying3 f3
  obtain ⟨steps, e5, rfl, -⟩ := DataW.trod_int Try.underlying3 f4
  obtain ⟨AA, ca, l, e3, h1, h2, h3, h4, h5⟩ := open_rows_cs (sz := anK) Try.underlying65 cells73 (by omega) (fun n cs x hx hb => openAn_cs n cs x hx hb) f2 (by omega)
  simp at e0 e1 e2 e3 e4 e5
  subst e0 e1 e2 e3 e4 e5
  have h6 := ansW_le l
  refine ⟨AA, ca, l, err, line, col, stuck, steps, rfl, ⟨rows_map h4 (fun _ _ h => h.1), h1, h2, by omega, rows_all h4 (fun _ _ h => h.2), fun a ha => ?_, by omega⟩, w64_of w1, w64_of w2, w64_of w4⟩
  have h7 := mem_sum anK l a ha
  have h8 := tks_size a.binds
  have h9 := tk_size a.v
  have h10 := wts_tks a.binds
  have h11 := wt_tk a.v
  unfold An.size
  have e7 : anK a = tks a.binds + tk a.v := rfl
  rw [e7] at h7
  omega
end Go.Proofs.Ytccknhhjkkbadaa.Shw
