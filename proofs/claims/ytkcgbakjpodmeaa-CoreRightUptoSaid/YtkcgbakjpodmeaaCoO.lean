/- Core, lists of numbers and a program that came in. -/
import Derived.Test.YtkcgbakjpodmeaaCoC
import Derived.Test.YtkcgbakjpodmeaaRowsIn
import Derived.OpenShut
namespace Go.Proofs.Ytkcgbakjpodmeaa.Data
open Go.ChangeShapes Go.WideShapes Go.ChangeAt Go.RowKit Go.Proofs.Ytkcgbakjpodmeaa.Lift
set_option linter.unusedVariables false
set_option linter.unusedSimpArgs false
theorem cells3 : Try.prog.cellsOf 3 = 1 := by kernel_rfl
theorem cells9 : Try.prog.cellsOf 9 = 1 := by kernel_rfl
theorem cells22 : Try.prog.cellsOf 22 = 1 := by kernel_rfl
theorem cells23 : Try.prog.cellsOf 23 = 1 := by kernel_rfl
theorem cells24 : Try.prog.cellsOf 24 = 1 := by kernel_rfl
theorem cells27 : Try.prog.cellsOf 27 = 1 := by kernel_rfl
theorem cells26 : Try.prog.cellsOf 26 = 3 := by kernel_rfl
theorem cells43 : Try.prog.cellsOf 43 = 7 := by kernel_rfl
theorem cells59 : Try.prog.cellsOf 59 = 4 := by kernel_rfl
theorem add_plain (b o j : Nat) : (⟨b, o, none⟩ : Addr).add j = ⟨b, o + j, none⟩ := by unfold Addr.add; split <;> simp_all
theorem cells29 : Try.prog.cellsOf 29 = 3 := by kernel_rfl
/-- elements that lie one behind the other. -/
theorem openCo_rows {H : Type} {enc : TypeId × Value → H} {W : World} {sp : Nat → Bool} {held : Bool} {m : Nat}
    (IH : ∀ (cs : List Value) (x : DataW H × List MemPlace), DataW.trod enc Try.prog W 0 sp held m 29 cs = some x → Rows.uptoBulk x.1 ≤ 1048576 → ∃ e : Co, e.Cs W cs ∧ e.size ≤ Rows.uptoBulk x.1) (b : Nat) :
    ∀ (elems : List (DataW H × List MemPlace)) (o : Nat), (∀ i, i < elems.length → (W.cells? 0 ⟨b, o + i * 3, none⟩ 3).bind (DataW.trod enc Try.prog W 0 sp held m 29) = elems[i]?) → Rows.uptoBulkAll (elems.map (·.1)) ≤ 1048576 →
      ∃ es : List Co, es.length = elems.length ∧ CoRow W es b o ∧ CoSize es ≤ Rows.uptoBulkAll (elems.map (·.1))
  | [], o, _, _ => ⟨[], rfl, by rw [CoRow]; trivial, by simp [CoSize]⟩
  | y :: r, o, h, hb => by
    rw [List.map_cons, Rows.uptoBulkAll] at hb ⊢
    have h0 := h 0 (by simp)
    rw [Nat.zero_mul, Nat.add_zero, List.getElem?_cons_zero] at h0
    obtain ⟨cs', h1, h2⟩ := Option.bind_eq_some_iff.1 h0
    obtain ⟨e, he, hsz⟩ := IH cs' y h2 (by omega)
    obtain ⟨es, hl, hr, hs⟩ := openCo_rows IH b r (o + 3) (fun i hi => by
      have := h (i + 1) (by simpa using hi)
      rw [List.getElem?_cons_succ] at this
      rw [← this, show o + 3 + i * 3 = o + (i + 1) * 3 by omega]) (by omega)
    refine ⟨e :: es, by simp [hl], ?_, by rw [CoSize]; omega⟩
    obtain ⟨_, hlen, hc⟩ := World.cells?_some h1
    have h3 := CoCells.row (w := W) (b := b) (o := o) (CoCells.single he) (fun j u hu => by
      have hj : j < cs'.length := (List.getElem?_eq_some_iff.1 hu).1
      have := hc j (by omega)
      rw [← add_plain, this]
      exact hu)
    rw [CoRow] at h3 ⊢
    exact ⟨h3.1, hr⟩
set_option maxRecDepth 100000 in
theorem openCos_of {H : Type} {enc : TypeId × Value → H} {W : World} {sp : Nat → Bool} {held : Bool} {m : Nat}
    (IH : ∀ n, n < m → ∀ (cs : List Value) (x : DataW H × List MemPlace), DataW.trod enc Try.prog W 0 sp held n 29 cs = some x → Rows.uptoBulk x.1 ≤ 1048576 → ∃ e : Co, e.Cs W cs ∧ e.size ≤ Rows.uptoBulk x.1)
    {cs : List Value} {x : DataW H × List MemPlace} (h : DataW.trod enc Try.prog W 0 sp held m 27 cs = some x) (hb : Rows.uptoBulk x.1 ≤ 1048576) :
    ∃ (A : Option Addr) (cap : Nat) (es : List Co), cs = [.slice A es.length cap] ∧ CoHd A es.length cap ∧ Cos W A es ∧ CoSize es + 1 ≤ Rows.uptoBulk x.1 := by
  rcases DataW.trod_slice Try.underlying27 h with ⟨rfl, rfl⟩ | ⟨a, len, cap, elems, rest, n, rfl, rfl, rfl, _, h1, h2, h3, h4, _, _⟩
  · exact ⟨none, 0, [], rfl, ⟨Nat.le_refl _, by omega, by simp, fun _ => rfl⟩, .inl rfl, by simp [Rows.uptoBulk, CoSize]⟩
  · simp only [Rows.uptoBulk] at hb ⊢
    unfold maxLen at h2
    subst h3
    rw [cells29] at h4
    cases elems with
    | nil => exact ⟨some a, cap, [], rfl, ⟨Nat.zero_le _, by omega, by simp, fun h => by cases h⟩, .inl rfl, by simp [CoSize]⟩
    | cons y r =>
      have hp : a.spot = none := by
        have h0 := h4 0 (by simp)
        rw [List.getElem?_cons_zero] at h0
        obtain ⟨cs', g1, g2⟩ := Option.bind_eq_some_iff.1 h0
        obtain ⟨_, hlen, hc⟩ := World.cells?_some g1
        have := hc 0 (by omega)
        rw [List.getElem?_eq_getElem (by omega)] at this
        simpa [Addr.add] using World.cell?_spot this
      obtain ⟨b, o, spot⟩ := a
      simp only at hp
      subst hp
      obtain ⟨es, hl, hr, hs⟩ := openCo_rows (IH n (Nat.lt_succ_self n)) b (y :: r) o (fun i hi => by rw [← add_plain]; exact h4 i hi) (by omega)
      have hle := CoSize_len es
      refine ⟨some ⟨b, o, none⟩, cap, es, by rw [hl], ⟨by omega, by omega, by omega, fun h => by cases h⟩, .inr ⟨b, o, rfl, hr⟩, by omega⟩
set_option maxRecDepth 100000 in
theorem openCo_cs {H : Type} {enc : TypeId × Value → H} {W : World} {sp : Nat → Bool} {held : Bool} (fuel : Nat) : ∀ (cs : List Value) (x : DataW H × List MemPlace),
    DataW.trod enc Try.prog W 0 sp held fuel 29 cs = some x → Rows.uptoBulk x.1 ≤ 1048576 → ∃ e : Co, e.Cs W cs ∧ e.size ≤ Rows.uptoBulk x.1 := by
  induction fuel using Nat.strongRecOn with
  | _ fuel ih =>
  intro cs x h hb
  obtain ⟨xs, n, rfl, rfl, hl, hlen, hf⟩ := DataW.trod_struct Try.underlying29 h
  rw [cells29] at hl
  match cs, hl, xs, hlen with
  | [c0, c1, c2], _, [y0, y1, y2], _ =>
  have f0 : DataW.trod enc Try.prog W 0 sp held n 3 (([c0, c1, c2].drop 0).take (Try.prog.cellsOf 3)) = some y0 := hf 0 _ rfl
  have f1 : DataW.trod enc Try.prog W 0 sp held n 3 (([c0, c1, c2].drop 1).take (Try.prog.cellsOf 3)) = some y1 := hf 1 _ rfl
  have f2 : DataW.trod enc Try.prog W 0 sp held n 27 (([c0, c1, c2].drop 2).take (Try.prog.cellsOf 27)) = some y2 := hf 2 _ rfl
  obtain ⟨k, e0, rfl, _⟩ := DataW.trod_int Try.underlying3 f0
  obtain ⟨n', e1, rfl, _⟩ := DataW.trod_int Try.underlying3 f1
  simp only [List.map_cons, List.map_nil, Rows.uptoBulk, Rows.uptoBulkAll] at hb ⊢
  obtain ⟨A, cap, es, e2, hh, hr, hs⟩ := openCos_of (fun n hn => ih n (by omega)) f2 (by omega)
  rw [cells3] at e0 e1
  rw [cells27] at e2
  simp at e0 e1 e2
  subst e0 e1 e2
  exact ⟨.mk k n' es, ⟨A, cap, rfl, hh, hr⟩, by rw [Co.size_mk]; omega⟩
set_option maxRecDepth 100000 in
theorem openCo_arg {H : Type} {enc : TypeId × Value → H} {W : World} {r : Reach} {b0 : Nat} {v : Value} {d : DataW H} {ps : List MemPlace} (hval : Value.okWide Try.prog W r b0 29 v) (h : DataW.Trod enc Try.prog W 0 (fun _ => true) true 29 v d ps)
    (hb : Rows.uptoBulk d ≤ 1048576) : ∃ e : Co, e.Val W v ∧ e.size ≤ Rows.uptoBulk d := by
  obtain ⟨cs, rfl, _⟩ := okWide_struct Try.underlying29 hval
  obtain ⟨fuel, hf⟩ := h
  obtain ⟨e, he, hs⟩ := openCo_cs fuel _ _ hf hb
  exact ⟨e, by simpa [Value.cells] using he.val, hs⟩
set_option maxRecDepth 100000 in
theorem open_rows_cs {H : Type} {enc : TypeId × Value → H} {P : Program} {W : World} {α : Type} {R : List Value → α → Prop} {sz : α → Nat} {t e k : Nat} (ht : P.underlying t = some (.slice e)) (hk : P.cellsOf e = k) (hk0 : 0 < k)
    (IH : ∀ n cs (x : DataW H × List MemPlace), DataW.trod enc P W 0 (fun _ => true) true n e cs = some x → Rows.uptoBulk x.1 ≤ 1048576 → ∃ a, R cs a ∧ sz a + 1 ≤ Rows.uptoBulk x.1)
    {fuel : Nat} {cs0 : List Value} {x : DataW H × List MemPlace} (hf : DataW.trod enc P W 0 (fun _ => true) true fuel t cs0 = some x) (hb : Rows.uptoBulk x.1 ≤ 1048576) :
    ∃ (A : Option Addr) (cap : Nat) (l : List α), cs0 = [.slice A l.length cap] ∧ l.length ≤ cap ∧ cap ≤ 9223372036854775807 ∧ (A = none → cap = 0) ∧ Lift.RowsIn R W k A l ∧ (l.map sz).sum + l.length + 1 ≤ Rows.uptoBulk x.1 := by
  have hall : ∀ (n b : Nat) (elems : List (DataW H × List MemPlace)) (o : Nat), (∀ i, i < elems.length → (W.cells? 0 ⟨b, o + i * k, none⟩ k).bind (DataW.trod enc P W 0 (fun _ => true) true n e) = elems[i]?) → Rows.uptoBulkAll (elems.map (·.1)) ≤ 1048576 →
      ∃ l : List α, l.length = elems.length ∧ (l.map sz).sum + l.length ≤ Rows.uptoBulkAll (elems.map (·.1)) ∧ Lift.RowsIn R W k (some ⟨b, o, none⟩) l := by
    intro n b elems
    induction elems with
    | nil => intro o _ _; exact ⟨[], rfl, by simp, fun i hi => by simp at hi⟩
    | cons y rr ih =>
      intro o h hb
      rw [List.map_cons, Rows.uptoBulkAll] at hb ⊢
      have h0 := h 0 (by simp)
      rw [Nat.zero_mul, Nat.add_zero, List.getElem?_cons_zero] at h0
      obtain ⟨cs', h1, h2⟩ := Option.bind_eq_some_iff.1 h0
      obtain ⟨a, ha, hs⟩ := IH n cs' y h2 (by omega)
      obtain ⟨l, hl, hsum, hr⟩ := ih (o + k) (fun i hi => by
        have := h (i + 1) (by simpa using hi)
        rw [List.getElem?_cons_succ] at this
        rw [← this, show o + k + i * k = o + (i + 1) * k by rw [Nat.add_mul]; omega]) (by omega)
      obtain ⟨_, hlen, hc⟩ := World.cells?_some h1
      refine ⟨a :: l, by simp [hl], by simp only [List.map_cons, List.sum_cons, List.length_cons]; omega, fun i hi => ?_⟩
      cases i with
      | zero =>
        have hc0 := hc 0 hk0
        rw [List.getElem?_eq_getElem (by omega), add_plain'] at hc0
        refine ⟨b, o, cs', rfl, World.block_lt_of_cell? W _ hc0, ha, hlen, fun j u hu => ?_⟩
        have hj : j < cs'.length := (List.getElem?_eq_some_iff.1 hu).1
        have := hc j (by omega)
        rw [add_plain', hu] at this
        rw [Nat.zero_mul]
        exact this
      | succ i =>
        obtain ⟨b', o', cs, e', hbl, hR, hk', hcc⟩ := hr i (by simpa using hi)
        have e2 := Option.some.inj e'
        have e3 : b = b' ∧ o + k = o' := by
          injection e2 with a1 a2
          exact ⟨a1, a2⟩
        obtain ⟨rfl, rfl⟩ := e3
        refine ⟨b, o, cs, rfl, hbl, by simpa using hR, hk', fun j u hu => ?_⟩
        rw [show o + (i + 1) * k + j = o + k + i * k + j by rw [Nat.add_mul]; omega]
        exact hcc j u hu
  rcases DataW.trod_slice ht hf with ⟨rfl, rfl⟩ | ⟨a, len0, cap0, elems, rest, n, rfl, rfl, rfl, _, h1, h2, h3, h4, _, _⟩
  · exact ⟨none, 0, [], rfl, Nat.le_refl _, by omega, fun _ => rfl, fun i hi => by simp at hi, by simp [Rows.uptoBulk]⟩
  · simp only [Rows.uptoBulk] at hb ⊢
    unfold maxLen at h2
    subst h3
    rw [hk] at h4
    cases elems with
    | nil => exact ⟨some a, cap0, [], rfl, Nat.zero_le _, by omega, (fun h => by cases h), fun i hi => by simp at hi, by simp⟩
    | cons y rr =>
      have hp : a.spot = none := by
        have h0 := h4 0 (by simp)
        rw [List.getElem?_cons_zero] at h0
        obtain ⟨cs', g1, g2⟩ := Option.bind_eq_some_iff.1 h0
        obtain ⟨_, hlen, hc⟩ := World.cells?_some g1
        have := hc 0 (by omega)
        rw [List.getElem?_eq_getElem (by omega)] at this
        simpa [Addr.add] using World.cell?_spot this
      obtain ⟨b, o, spot⟩ := a
      simp only at hp
      subst hp
      obtain ⟨l, hl, hsum, hr⟩ := hall n b (y :: rr) o (fun i hi => by rw [← add_plain']; exact h4 i hi) (by omega)
      exact ⟨some ⟨b, o, none⟩, cap0, l, by rw [hl], by omega, by omega, (fun h => by cases h), hr, by omega⟩
/-- a row's second cell is a number. -/
def Ar2 (cs : List Value) (a : Int) : Prop := cs[1]? = some (.int .i64 a)
set_option maxRecDepth 100000 in
theorem openMk {H : Type} {enc : TypeId × Value → H} {W : World} (n : Nat) (cs : List Value) (x : DataW H × List MemPlace) (h : DataW.trod enc Try.prog W 0 (fun _ => true) true n 59 cs = some x) (hb : Rows.uptoBulk x.1 ≤ 1048576) :
    ∃ a : Int, Ar2 cs a ∧ 0 + 1 ≤ Rows.uptoBulk x.1 := by
  obtain ⟨xs, n', rfl, rfl, hl, hlen, hf⟩ := DataW.trod_struct Try.underlying59 h
  rw [cells59] at hl
  match cs, hl, xs, hlen with
  | [c0, c1, c2, c3], _, [y0, y1, y2, y3], _ =>
  have f1 : DataW.trod enc Try.prog W 0 _ true n' 3 (([c0, c1, c2, c3].drop 1).take (Try.prog.cellsOf 3)) = some y1 := hf 1 _ rfl
  obtain ⟨a, e0, rfl, w0⟩ := DataW.trod_int Try.underlying3 f1
  rw [cells3] at e0
  simp at e0
  subst e0
  exact ⟨a, rfl, by simp only [Rows.uptoBulk]; omega⟩
set_option maxRecDepth 100000 in
theorem openFn {H : Type} {enc : TypeId × Value → H} {W : World} (n : Nat) (cs : List Value) (x : DataW H × List MemPlace) (h : DataW.trod enc Try.prog W 0 (fun _ => true) true n 43 cs = some x) (hb : Rows.uptoBulk x.1 ≤ 1048576) :
    ∃ a : Int, Ar2 cs a ∧ 0 + 1 ≤ Rows.uptoBulk x.1 := by
  obtain ⟨xs, n', rfl, rfl, hl, hlen, hf⟩ := DataW.trod_struct Try.underlying43 h
  rw [cells43] at hl
  match cs, hl, xs, hlen with
  | [c0, c1, c2, c3, c4, c5, c6], _, [y0, y1, y2, y3], _ =>
  have f1 : DataW.trod enc Try.prog W 0 _ true n' 3 (([c0, c1, c2, c3, c4, c5, c6].drop 1).take (Try.prog.cellsOf 3)) = some y1 := hf 1 _ rfl
  obtain ⟨a, e0, rfl, w0⟩ := DataW.trod_int Try.underlying3 f1
  rw [cells3] at e0
  simp at e0
  subst e0
  exact ⟨a, rfl, by simp only [Rows.uptoBulk]; omega⟩
set_option maxRecDepth 100000 in
theorem openPr_arg {H : Type} {enc : TypeId × Value → H} {W : World} {r : Reach} {b0 : Nat} {v : Value} {d : DataW H} {ps : List MemPlace} (hval : Value.okWide Try.prog W r b0 26 v) (h : DataW.Trod enc Try.prog W 0 (fun _ => true) true 26 v d ps)
    (hb : Rows.uptoBulk d ≤ 1048576) : ∃ mk fn : List Int, Co.PrV W v mk fn := by
  obtain ⟨cs, rfl, hsz⟩ := okWide_struct Try.underlying26 hval
  obtain ⟨fuel, hf0⟩ := h
  obtain ⟨x, hx⟩ : ∃ x : DataW H × List MemPlace, x = (d, ps) := ⟨_, rfl⟩
  rw [← hx] at hf0
  obtain rfl : d = x.1 := by rw [hx]
  clear hx
  obtain ⟨xs, n', e, rfl, hl, hlen, hf⟩ := DataW.trod_struct Try.underlying26 hf0
  obtain ⟨q⟩ := cs
  simp only [Value.cells] at e hf hl
  rw [cells26] at hl
  match q, hl, xs, hlen with
  | [c0, c1, c2], _, [y0, y1, y2], _ =>
  have f0 : DataW.trod enc Try.prog W 0 _ true n' 22 (([c0, c1, c2].drop 0).take (Try.prog.cellsOf 22)) = some y0 := hf 0 _ rfl
  have f1 : DataW.trod enc Try.prog W 0 _ true n' 23 (([c0, c1, c2].drop 1).take (Try.prog.cellsOf 23)) = some y1 := hf 1 _ rfl
  have f2 : DataW.trod enc Try.prog W 0 _ true n' 24 (([c0, c1, c2].drop 2).take (Try.prog.cellsOf 24)) = some y2 := hf 2 _ rfl
  rw [cells22] at f0
  rw [cells23] at f1
  rw [cells24] at f2
  simp only [List.map_cons, List.map_nil, Rows.uptoBulk, Rows.uptoBulkAll] at hb
  obtain ⟨A1, c1', l1, e1, -, -, -, hr1, hm1⟩ := open_rows_cs (sz := fun _ => 0) Try.underlying23 cells59 (by omega) (fun n cs x hx hb => openMk n cs x hx hb) f1 (by omega)
  obtain ⟨A2, c2', l2, e2, -, -, -, hr2, hm2⟩ := open_rows_cs (sz := fun _ => 0) Try.underlying24 cells43 (by omega) (fun n cs x hx hb => openFn n cs x hx hb) f2 (by omega)
  have hk : ∃ A0 n0 k0, c0 = .slice A0 n0 k0 := by
    have f0' : DataW.trod enc Try.prog W 0 (fun _ => true) true n' 22 [c0] = some y0 := f0
    rcases DataW.trod_slice Try.underlying22 f0' with ⟨h1, _⟩ | ⟨a, len0, cap0, elems, rest, n, _, h1, _⟩
    · exact ⟨_, _, _, (List.cons.inj h1).1⟩
    · exact ⟨_, _, _, (List.cons.inj h1).1⟩
  obtain ⟨A0, n0, k0, rfl⟩ := hk
  simp at e1 e2
  subst e1 e2
  refine ⟨l1, l2, A0, n0, k0, A1, c1', A2, c2', rfl, fun j hj => ?_, fun j hj => ?_, by omega, by omega⟩
  · obtain ⟨b, o, cs, a1, a2, a3, a4, a5⟩ := hr1 j hj
    exact ⟨b, o, a1, a2, a5 1 _ a3⟩
  · obtain ⟨b, o, cs, a1, a2, a3, a4, a5⟩ := hr2 j hj
    exact ⟨b, o, a1, a2, a5 1 _ a3⟩
theorem bulk_lits {H : Type} (k : IntKind) : ∀ zs : List Int, zs.length ≤ Rows.uptoBulkAll (H := H) (lits k zs)
  | [] => by simp
  | z :: r => by
    have := bulk_lits (H := H) k r
    have e : Rows.uptoBulkAll (H := H) (lits k (z :: r)) = Rows.uptoBulk (H := H) (.lit (.int k z)) + Rows.uptoBulkAll (lits k r) := rfl
    have : 1 ≤ Rows.uptoBulk (H := H) (.lit (.int k z)) := by simp [Rows.uptoBulk]
    simp only [List.length_cons]
    omega
set_option maxRecDepth 100000 in
theorem openB_arg {H : Type} {enc : TypeId × Value → H} {W : World} {r : Reach} {b0 : Nat} {v : Value} {d : DataW H} {ps : List MemPlace} (hval : Value.okWide Try.prog W r b0 30 v) (h : DataW.Trod enc Try.prog W 0 (fun _ => true) true 30 v d ps) (hb : Rows.uptoBulk d ≤ 1048576) :
    ∃ (A : Option Addr) (cap : Nat) (l : List Int), v = .slice A l.length cap ∧ Co.InSl W A cap l := by
  obtain ⟨a0, len0, cap0, rfl⟩ := okWide_slice Try.underlying30 hval
  obtain ⟨fuel, hf⟩ := h
  obtain ⟨x, hx⟩ : ∃ x : DataW H × List MemPlace, x = (d, ps) := ⟨_, rfl⟩
  rw [← hx] at hf
  obtain rfl : d = x.1 := by rw [hx]
  clear hx
  rcases open_ints Try.underlying30 Try.underlying3 cells3 hf with ⟨h1, rfl⟩ | ⟨a, len, cap, zs, h1, h2, h3, h4, h5, rfl, h7, h8⟩
  · simp [Value.cells] at h1
    obtain ⟨rfl, rfl, rfl⟩ := h1
    exact ⟨none, 0, [], rfl, fun k hk => by simp at hk, Nat.le_refl _, by omega, by simp, fun _ => rfl⟩
  · simp [Value.cells] at h1
    obtain ⟨rfl, rfl, rfl⟩ := h1
    simp only [if_true] at h5
    unfold maxLen at h4
    have h9 := bulk_lits (H := H) .i64 (zs.take len0)
    simp only [Rows.uptoBulk] at hb
    have hl : (zs.take len0).length = len0 := by rw [List.length_take]; omega
    rw [hl] at h9
    have hg : ∀ k, k < len0 → (zs.take len0).getD k 0 = zs.getD k 0 := by
      intro k hk
      simp [List.getD, List.getElem?_take, hk]
    refine ⟨some a, cap0, zs.take len0, by rw [hl], fun k hk => ?_, by omega, by omega, by omega, (fun h => by cases h)⟩
    have h0 : 0 < zs.length := by omega
    obtain ⟨b, o, rfl, hcell⟩ := ints_at h7 h0
    refine ⟨b, o, rfl, World.block_lt_of_cell? W _ (hcell 0 h0), ?_⟩
    rw [hl] at hk
    rw [hg k hk]
    exact hcell k (by omega)
end Go.Proofs.Ytkcgbakjpodmeaa.Data
