/- Trees that came in. -/
import Derived.Test.YtnaakhnmbckpmaaTm
import Derived.OpenShut
namespace Go.Proofs.Ytnaakhnmbckpmaa.Data
open Go.ChangeShapes Go.WideShapes Go.ChangeAt Go.RowKit Go.Proofs.Ytnaakhnmbckpmaa.Lift
set_option linter.unusedVariables false
set_option linter.unusedSimpArgs false
theorem cells3 : Try.prog.cellsOf 3 = 1 := by kernel_rfl
theorem cells9 : Try.prog.cellsOf 9 = 1 := by kernel_rfl
theorem cells22 : Try.prog.cellsOf 22 = 1 := by kernel_rfl
theorem cells27 : Try.prog.cellsOf 27 = 1 := by kernel_rfl
theorem cells24 : Try.prog.cellsOf 24 = 2 := by kernel_rfl

theorem cells26 : Try.prog.cellsOf 26 = 6 := by kernel_rfl
/-- elements that lie one behind the other. -/
theorem openEx_rows {H : Type} {enc : TypeId × Value → H} {W : World} {sp : Nat → Bool} {held : Bool} {m : Nat}
    (IH : ∀ (cs : List Value) (x : DataW H × List MemPlace), DataW.trod enc Try.prog W 0 sp held m 26 cs = some x → Rows.uptoBulk x.1 ≤ 1048576 → ∃ e : Ex, e.Cs W cs ∧ e.size ≤ Rows.uptoBulk x.1) (b : Nat) :
    ∀ (elems : List (DataW H × List MemPlace)) (o : Nat), (∀ i, i < elems.length → (W.cells? 0 ⟨b, o + i * 6, none⟩ 6).bind (DataW.trod enc Try.prog W 0 sp held m 26) = elems[i]?) → Rows.uptoBulkAll (elems.map (·.1)) ≤ 1048576 →
      ∃ es : List Ex, es.length = elems.length ∧ ExRow W es b o ∧ ExSize es ≤ Rows.uptoBulkAll (elems.map (·.1))
  | [], o, _, _ => ⟨[], rfl, by rw [ExRow]; trivial, by simp [ExSize]⟩
  | y :: r, o, h, hb => by
    rw [List.map_cons, Rows.uptoBulkAll] at hb ⊢
    have h0 := h 0 (by simp)
    rw [Nat.zero_mul, Nat.add_zero, List.getElem?_cons_zero] at h0
    obtain ⟨cs', h1, h2⟩ := Option.bind_eq_some_iff.1 h0
    obtain ⟨e, he, hsz⟩ := IH cs' y h2 (by omega)
    obtain ⟨es, hl, hr, hs⟩ := openEx_rows IH b r (o + 6) (fun i hi => by
      have := h (i + 1) (by simpa using hi)
      rw [List.getElem?_cons_succ] at this
      rw [← this, show o + 6 + i * 6 = o + (i + 1) * 6 by omega]) (by omega)
    refine ⟨e :: es, by simp [hl], ?_, by rw [ExSize]; omega⟩
    obtain ⟨_, hlen, hc⟩ := World.cells?_some h1
    have h3 := ExCells.row (w := W) (b := b) (o := o) (ExCells.single he) (fun j u hu => by
      have hj : j < cs'.length := (List.getElem?_eq_some_iff.1 hu).1
      have := hc j (by omega)
      rw [← add_plain, this]
      exact hu)
    rw [ExRow] at h3 ⊢
    exact ⟨h3.1, hr⟩
set_option maxRecDepth 100000 in
theorem openExs_of {H : Type} {enc : TypeId × Value → H} {W : World} {sp : Nat → Bool} {held : Bool} {m : Nat}
    (IH : ∀ n, n < m → ∀ (cs : List Value) (x : DataW H × List MemPlace), DataW.trod enc Try.prog W 0 sp held n 26 cs = some x → Rows.uptoBulk x.1 ≤ 1048576 → ∃ e : Ex, e.Cs W cs ∧ e.size ≤ Rows.uptoBulk x.1)
    {cs : List Value} {x : DataW H × List MemPlace} (h : DataW.trod enc Try.prog W 0 sp held m 22 cs = some x) (hb : Rows.uptoBulk x.1 ≤ 1048576) :
    ∃ (A : Option Addr) (cap : Nat) (es : List Ex), cs = [.slice A es.length cap] ∧ ExHd A es.length cap ∧ Exs W A es ∧ ExSize es + 1 ≤ Rows.uptoBulk x.1 := by
  rcases DataW.trod_slice Try.underlying22 h with ⟨rfl, rfl⟩ | ⟨a, len, cap, elems, rest, n, rfl, rfl, rfl, _, h1, h2, h3, h4, _, _⟩
  · exact ⟨none, 0, [], rfl, ⟨Nat.le_refl _, by omega, by simp, fun _ => rfl⟩, .inl rfl, by simp [Rows.uptoBulk, ExSize]⟩
  · simp only [Rows.uptoBulk] at hb ⊢
    unfold maxLen at h2
    subst h3
    rw [cells26] at h4
    cases elems with
    | nil => exact ⟨some a, cap, [], rfl, ⟨Nat.zero_le _, by omega, by simp, fun h => by cases h⟩, .inl rfl, by simp [ExSize]⟩
    | cons y r =>
      have hp : a.spot = none := by
        have h0 := h4 0 (by simp)
        rw [List.getElem?_cons_zero] at h0
        obtain ⟨cs', g1, g2⟩ := Option.bind_eq_some_iff.1 h0
        obtain ⟨_, hlen, hc⟩ := World.cells?_some g1
        have := hc 0 (by omega)
        rw [List.getElem?_eq_getElem (by omega)] at this
        simpa [Addr.add] using World.cell?_spot this
      obtain ⟨b, o, spot⟩ := a
      simp only at hp
      subst hp
      obtain ⟨es, hl, hr, hs⟩ := openEx_rows (IH n (Nat.lt_succ_self n)) b (y :: r) o (fun i hi => by rw [← add_plain]; exact h4 i hi) (by omega)
      have hle := ExSize_len es
      refine ⟨some ⟨b, o, none⟩, cap, es, by rw [hl], ⟨by omega, by omega, by omega, fun h => by cases h⟩, .inr ⟨b, o, rfl, hr⟩, by omega⟩
set_option maxRecDepth 100000 in
theorem openEx_cs {H : Type} {enc : TypeId × Value → H} {W : World} {sp : Nat → Bool} {held : Bool} (fuel : Nat) : ∀ (cs : List Value) (x : DataW H × List MemPlace),
    DataW.trod enc Try.prog W 0 sp held fuel 26 cs = some x → Rows.uptoBulk x.1 ≤ 1048576 → ∃ e : Ex, e.Cs W cs ∧ e.size ≤ Rows.uptoBulk x.1 := by
  induction fuel using Nat.strongRecOn with
  | _ fuel ih =>
  intro cs x h hb
  obtain ⟨xs, n, rfl, rfl, hl, hlen, hf⟩ := DataW.trod_struct Try.underlying26 h
  rw [cells26] at hl
  match cs, hl, xs, hlen with
  | [c0, c1, c2, c3, c4, c5], _, [y0, y1, y2, y3, y4], _ =>
  have f0 : DataW.trod enc Try.prog W 0 sp held n 3 (([c0, c1, c2, c3, c4, c5].drop 0).take (Try.prog.cellsOf 3)) = some y0 := hf 0 _ rfl
  have f1 : DataW.trod enc Try.prog W 0 sp held n 9 (([c0, c1, c2, c3, c4, c5].drop 1).take (Try.prog.cellsOf 9)) = some y1 := hf 1 _ rfl
  have f2 : DataW.trod enc Try.prog W 0 sp held n 3 (([c0, c1, c2, c3, c4, c5].drop 2).take (Try.prog.cellsOf 3)) = some y2 := hf 2 _ rfl
  have f3 : DataW.trod enc Try.prog W 0 sp held n 22 (([c0, c1, c2, c3, c4, c5].drop 3).take (Try.prog.cellsOf 22)) = some y3 := hf 3 _ rfl
  have f4 : DataW.trod enc Try.prog W 0 sp held n 24 (([c0, c1, c2, c3, c4, c5].drop 4).take (Try.prog.cellsOf 24)) = some y4 := hf 4 _ rfl
  obtain ⟨k, e0, rfl, _⟩ := DataW.trod_int Try.underlying3 f0
  obtain ⟨s, e1, rfl, _⟩ := DataW.trod_string Try.underlying9 f1
  obtain ⟨n', e2, rfl, _⟩ := DataW.trod_int Try.underlying3 f2
  obtain ⟨zs, n4, rfl, rfl, hl4, hlen4, hf4⟩ := DataW.trod_struct Try.underlying24 f4
  match zs, hlen4 with
  | [z0, z1], _ =>
  have g0 : DataW.trod enc Try.prog W 0 sp held n4 3 (((([c0, c1, c2, c3, c4, c5].drop 4).take (Try.prog.cellsOf 24)).drop 0).take (Try.prog.cellsOf 3)) = some z0 := hf4 0 _ rfl
  have g1 : DataW.trod enc Try.prog W 0 sp held n4 3 (((([c0, c1, c2, c3, c4, c5].drop 4).take (Try.prog.cellsOf 24)).drop 1).take (Try.prog.cellsOf 3)) = some z1 := hf4 1 _ rfl
  obtain ⟨l, e40, rfl, _⟩ := DataW.trod_int Try.underlying3 g0
  obtain ⟨c, e41, rfl, _⟩ := DataW.trod_int Try.underlying3 g1
  simp only [List.map_cons, List.map_nil, Rows.uptoBulk, Rows.uptoBulkAll] at hb ⊢
  obtain ⟨A, cap, es, e3, hh, hr, hs⟩ := openExs_of (fun n hn => ih n (by omega)) f3 (by omega)
  rw [cells3] at e0 e2 e40 e41
  rw [cells9] at e1
  rw [cells22] at e3
  rw [cells24] at e40 e41
  simp at e0 e1 e2 e3 e40 e41
  subst e0 e1 e2 e3 e40 e41
  exact ⟨.mk k s n' es l c, ⟨A, cap, rfl, hh, hr⟩, by rw [Ex.size_mk]; omega⟩
set_option maxRecDepth 100000 in
theorem openEx_arg {H : Type} {enc : TypeId × Value → H} {W : World} {r : Reach} {b0 : Nat} {v : Value} {d : DataW H} {ps : List MemPlace} (hval : Value.okWide Try.prog W r b0 26 v) (h : DataW.Trod enc Try.prog W 0 (fun _ => true) true 26 v d ps)
    (hb : Rows.uptoBulk d ≤ 1048576) : ∃ e : Ex, e.Val W v ∧ e.size ≤ Rows.uptoBulk d := by
  obtain ⟨cs, rfl, _⟩ := okWide_struct Try.underlying26 hval
  obtain ⟨fuel, hf⟩ := h
  obtain ⟨e, he, hs⟩ := openEx_cs fuel _ _ hf hb
  exact ⟨e, by simpa [Value.cells] using he.val, hs⟩
set_option maxRecDepth 100000 in
theorem openEx_sl {H : Type} {enc : TypeId × Value → H} {W : World} {r : Reach} {b0 : Nat} {v : Value} {d : DataW H} {ps : List MemPlace} (hval : Value.okWide Try.prog W r b0 22 v) (h : DataW.Trod enc Try.prog W 0 (fun _ => true) true 22 v d ps)
    (hb : Rows.uptoBulk d ≤ 1048576) : ∃ es : List Ex, Ex.Sl W v es ∧ ExSize es + 1 ≤ Rows.uptoBulk d := by
  obtain ⟨a0, len0, cap0, rfl⟩ := okWide_slice Try.underlying22 hval
  obtain ⟨fuel, hf⟩ := h
  obtain ⟨A, cap, es, e3, hh, hr, hs⟩ := openExs_of (fun n _ => openEx_cs n) hf hb
  simp [Value.cells] at e3
  obtain ⟨rfl, rfl, rfl⟩ := e3
  exact ⟨es, ⟨_, _, rfl, hh, hr⟩, hs⟩

theorem cells29 : Try.prog.cellsOf 29 = 4 := by kernel_rfl
/-- elements that lie one behind the other. -/
theorem openTm_rows {H : Type} {enc : TypeId × Value → H} {W : World} {sp : Nat → Bool} {held : Bool} {m : Nat}
    (IH : ∀ (cs : List Value) (x : DataW H × List MemPlace), DataW.trod enc Try.prog W 0 sp held m 29 cs = some x → Rows.uptoBulk x.1 ≤ 1048576 → ∃ e : Tm, e.Cs W cs ∧ e.size ≤ Rows.uptoBulk x.1) (b : Nat) :
    ∀ (elems : List (DataW H × List MemPlace)) (o : Nat), (∀ i, i < elems.length → (W.cells? 0 ⟨b, o + i * 4, none⟩ 4).bind (DataW.trod enc Try.prog W 0 sp held m 29) = elems[i]?) → Rows.uptoBulkAll (elems.map (·.1)) ≤ 1048576 →
      ∃ es : List Tm, es.length = elems.length ∧ TmRow W es b o ∧ TmSize es ≤ Rows.uptoBulkAll (elems.map (·.1))
  | [], o, _, _ => ⟨[], rfl, by rw [TmRow]; trivial, by simp [TmSize]⟩
  | y :: r, o, h, hb => by
    rw [List.map_cons, Rows.uptoBulkAll] at hb ⊢
    have h0 := h 0 (by simp)
    rw [Nat.zero_mul, Nat.add_zero, List.getElem?_cons_zero] at h0
    obtain ⟨cs', h1, h2⟩ := Option.bind_eq_some_iff.1 h0
    obtain ⟨e, he, hsz⟩ := IH cs' y h2 (by omega)
    obtain ⟨es, hl, hr, hs⟩ := openTm_rows IH b r (o + 4) (fun i hi => by
      have := h (i + 1) (by simpa using hi)
      rw [List.getElem?_cons_succ] at this
      rw [← this, show o + 4 + i * 4 = o + (i + 1) * 4 by omega]) (by omega)
    refine ⟨e :: es, by simp [hl], ?_, by rw [TmSize]; omega⟩
    obtain ⟨_, hlen, hc⟩ := World.cells?_some h1
    have h3 := TmCells.row (w := W) (b := b) (o := o) (TmCells.single he) (fun j u hu => by
      have hj : j < cs'.length := (List.getElem?_eq_some_iff.1 hu).1
      have := hc j (by omega)
      rw [← add_plain, this]
      exact hu)
    rw [TmRow] at h3 ⊢
    exact ⟨h3.1, hr⟩
set_option maxRecDepth 100000 in
theorem openTms_of {H : Type} {enc : TypeId × Value → H} {W : World} {sp : Nat → Bool} {held : Bool} {m : Nat}
    (IH : ∀ n, n < m → ∀ (cs : List Value) (x : DataW H × List MemPlace), DataW.trod enc Try.prog W 0 sp held n 29 cs = some x → Rows.uptoBulk x.1 ≤ 1048576 → ∃ e : Tm, e.Cs W cs ∧ e.size ≤ Rows.uptoBulk x.1)
    {cs : List Value} {x : DataW H × List MemPlace} (h : DataW.trod enc Try.prog W 0 sp held m 27 cs = some x) (hb : Rows.uptoBulk x.1 ≤ 1048576) :
    ∃ (A : Option Addr) (cap : Nat) (es : List Tm), cs = [.slice A es.length cap] ∧ TmHd A es.length cap ∧ Tms W A es ∧ TmSize es + 1 ≤ Rows.uptoBulk x.1 := by
  rcases DataW.trod_slice Try.underlying27 h with ⟨rfl, rfl⟩ | ⟨a, len, cap, elems, rest, n, rfl, rfl, rfl, _, h1, h2, h3, h4, _, _⟩
  · exact ⟨none, 0, [], rfl, ⟨Nat.le_refl _, by omega, by simp, fun _ => rfl⟩, .inl rfl, by simp [Rows.uptoBulk, TmSize]⟩
  · simp only [Rows.uptoBulk] at hb ⊢
    unfold maxLen at h2
    subst h3
    rw [cells29] at h4
    cases elems with
    | nil => exact ⟨some a, cap, [], rfl, ⟨Nat.zero_le _, by omega, by simp, fun h => by cases h⟩, .inl rfl, by simp [TmSize]⟩
    | cons y r =>
      have hp : a.spot = none := by
        have h0 := h4 0 (by simp)
        rw [List.getElem?_cons_zero] at h0
        obtain ⟨cs', g1, g2⟩ := Option.bind_eq_some_iff.1 h0
        obtain ⟨_, hlen, hc⟩ := World.cells?_some g1
        have := hc 0 (by omega)
        rw [List.getElem?_eq_getElem (by omega)] at this
        simpa [Addr.add] using World.cell?_spot this
      obtain ⟨b, o, spot⟩ := a
      simp only at hp
      subst hp
      obtain ⟨es, hl, hr, hs⟩ := openTm_rows (IH n (Nat.lt_succ_self n)) b (y :: r) o (fun i hi => by rw [← add_plain]; exact h4 i hi) (by omega)
      have hle := TmSize_len es
      refine ⟨some ⟨b, o, none⟩, cap, es, by rw [hl], ⟨by omega, by omega, by omega, fun h => by cases h⟩, .inr ⟨b, o, rfl, hr⟩, by omega⟩
set_option maxRecDepth 100000 in
theorem openTm_cs {H : Type} {enc : TypeId × Value → H} {W : World} {sp : Nat → Bool} {held : Bool} (fuel : Nat) : ∀ (cs : List Value) (x : DataW H × List MemPlace),
    DataW.trod enc Try.prog W 0 sp held fuel 29 cs = some x → Rows.uptoBulk x.1 ≤ 1048576 → ∃ e : Tm, e.Cs W cs ∧ e.size ≤ Rows.uptoBulk x.1 := by
  induction fuel using Nat.strongRecOn with
  | _ fuel ih =>
  intro cs x h hb
  obtain ⟨xs, n, rfl, rfl, hl, hlen, hf⟩ := DataW.trod_struct Try.underlying29 h
  rw [cells29] at hl
  match cs, hl, xs, hlen with
  | [c0, c1, c2, c3], _, [y0, y1, y2, y3], _ =>
  have f0 : DataW.trod enc Try.prog W 0 sp held n 3 (([c0, c1, c2, c3].drop 0).take (Try.prog.cellsOf 3)) = some y0 := hf 0 _ rfl
  have f1 : DataW.trod enc Try.prog W 0 sp held n 9 (([c0, c1, c2, c3].drop 1).take (Try.prog.cellsOf 9)) = some y1 := hf 1 _ rfl
  have f2 : DataW.trod enc Try.prog W 0 sp held n 3 (([c0, c1, c2, c3].drop 2).take (Try.prog.cellsOf 3)) = some y2 := hf 2 _ rfl
  have f3 : DataW.trod enc Try.prog W 0 sp held n 27 (([c0, c1, c2, c3].drop 3).take (Try.prog.cellsOf 27)) = some y3 := hf 3 _ rfl
  skip
  obtain ⟨k, e0, rfl, _⟩ := DataW.trod_int Try.underlying3 f0
  obtain ⟨s, e1, rfl, _⟩ := DataW.trod_string Try.underlying9 f1
  obtain ⟨n', e2, rfl, _⟩ := DataW.trod_int Try.underlying3 f2
  skip
  skip
  simp only [List.map_cons, List.map_nil, Rows.uptoBulk, Rows.uptoBulkAll] at hb ⊢
  obtain ⟨A, cap, es, e3, hh, hr, hs⟩ := openTms_of (fun n hn => ih n (by omega)) f3 (by omega)
  rw [cells3] at e0 e2
  rw [cells9] at e1
  rw [cells27] at e3
  skip
  simp at e0 e1 e2 e3 
  subst e0 e1 e2 e3 
  exact ⟨.mk k s n' es, ⟨A, cap, rfl, hh, hr⟩, by rw [Tm.size_mk]; omega⟩
set_option maxRecDepth 100000 in
theorem openTm_arg {H : Type} {enc : TypeId × Value → H} {W : World} {r : Reach} {b0 : Nat} {v : Value} {d : DataW H} {ps : List MemPlace} (hval : Value.okWide Try.prog W r b0 29 v) (h : DataW.Trod enc Try.prog W 0 (fun _ => true) true 29 v d ps)
    (hb : Rows.uptoBulk d ≤ 1048576) : ∃ e : Tm, e.Val W v ∧ e.size ≤ Rows.uptoBulk d := by
  obtain ⟨cs, rfl, _⟩ := okWide_struct Try.underlying29 hval
  obtain ⟨fuel, hf⟩ := h
  obtain ⟨e, he, hs⟩ := openTm_cs fuel _ _ hf hb
  exact ⟨e, by simpa [Value.cells] using he.val, hs⟩
set_option maxRecDepth 100000 in
theorem openTm_sl {H : Type} {enc : TypeId × Value → H} {W : World} {r : Reach} {b0 : Nat} {v : Value} {d : DataW H} {ps : List MemPlace} (hval : Value.okWide Try.prog W r b0 27 v) (h : DataW.Trod enc Try.prog W 0 (fun _ => true) true 27 v d ps)
    (hb : Rows.uptoBulk d ≤ 1048576) : ∃ es : List Tm, Tm.Sl W v es ∧ TmSize es + 1 ≤ Rows.uptoBulk d := by
  obtain ⟨a0, len0, cap0, rfl⟩ := okWide_slice Try.underlying27 hval
  obtain ⟨fuel, hf⟩ := h
  obtain ⟨A, cap, es, e3, hh, hr, hs⟩ := openTms_of (fun n _ => openTm_cs n) hf hb
  simp [Value.cells] at e3
  obtain ⟨rfl, rfl, rfl⟩ := e3
  exact ⟨es, ⟨_, _, rfl, hh, hr⟩, hs⟩

end Go.Proofs.Ytnaakhnmbckpmaa.Data
