/- Rows of rules, of strings and of terms that came in, with the sizes of their names. -/
import Derived.Test.YtnaakhnmbckpmaaLift
import Derived.OpenShut
import Derived.Test.YtnaakhnmbckpmaaOpen
import Derived.Test.YtnaakhnmbckpmaaCt
namespace Go.Proofs.Ytnaakhnmbckpmaa.Lift
open Go.ChangeShapes Go.WideShapes Go.ChangeAt Go.RowKit
set_option linter.unusedVariables false
set_option linter.unusedSimpArgs false
theorem add_plain' (b o j : Nat) : (⟨b, o, none⟩ : Addr).add j = ⟨b, o + j, none⟩ := by unfold Addr.add; split <;> simp_all
/-- so many elements, one behind the other, each reads as R says. -/
def RowsIn {α : Type} (R : List Value → α → Prop) (w : World) (k : Nat) (A : Option Addr) (l : List α) : Prop :=
  ∀ i (h : i < l.length), ∃ b o cs, A = some ⟨b, o, none⟩ ∧ b < w.heap.size ∧ R cs l[i] ∧ cs.length = k ∧ ∀ j u, cs[j]? = some u → w.cell? ⟨b, o + i * k + j, none⟩ = some u
theorem RowsIn.below {α : Type} {R : List Value → α → Prop} {w w' : World} {k B : Nat} {A : Option Addr} {l : List α} (h : RowsIn R w k A l) (hb : Below B w w') (hB : w.heap.size ≤ B) : RowsIn R w' k A l := by
  intro i hi
  obtain ⟨b, o, cs, e, hl, hr, hk, hc⟩ := h i hi
  exact ⟨b, o, cs, e, Nat.lt_of_lt_of_le hl hb.size, hr, hk, fun j u hu => (hb.cell (p := ⟨b, o + i * k + j, none⟩) (by simp only; omega)).trans (hc j u hu)⟩
set_option maxRecDepth 100000 in
theorem open_rows {H : Type} {enc : TypeId × Value → H} {P : Program} {W : World} {α : Type} {R : List Value → α → Prop} {sz : α → Nat} {t e k : Nat} (ht : P.underlying t = some (.slice e)) (hk : P.cellsOf e = k) (hk0 : 0 < k)
    (IH : ∀ n cs (x : DataW H × List MemPlace), DataW.trod enc P W 0 (fun _ => true) true n e cs = some x → Rows.uptoBulk x.1 ≤ 1048576 → ∃ a, R cs a ∧ sz a + 1 ≤ Rows.uptoBulk x.1)
    {r : Reach} {b0 : Nat} {v : Value} {d : DataW H} {ps : List MemPlace} (hval : Value.okWide P W r b0 t v) (h : DataW.Trod enc P W 0 (fun _ => true) true t v d ps) (hb : Rows.uptoBulk d ≤ 1048576) :
    ∃ (A : Option Addr) (cap : Nat) (l : List α), v = .slice A l.length cap ∧ l.length ≤ cap ∧ cap ≤ 9223372036854775807 ∧ (A = none → cap = 0) ∧ RowsIn R W k A l ∧ (l.map sz).sum + l.length + 1 ≤ Rows.uptoBulk d := by
  obtain ⟨a0, len0, cap0, rfl⟩ := okWide_slice ht hval
  obtain ⟨fuel, hf⟩ := h
  have hall : ∀ (n b : Nat) (elems : List (DataW H × List MemPlace)) (o : Nat), (∀ i, i < elems.length → (W.cells? 0 ⟨b, o + i * k, none⟩ k).bind (DataW.trod enc P W 0 (fun _ => true) true n e) = elems[i]?) → Rows.uptoBulkAll (elems.map (·.1)) ≤ 1048576 →
      ∃ l : List α, l.length = elems.length ∧ (l.map sz).sum + l.length ≤ Rows.uptoBulkAll (elems.map (·.1)) ∧ RowsIn R W k (some ⟨b, o, none⟩) l := by
    intro n b elems
    induction elems with
    | nil => intro o _ _; exact ⟨[], rfl, by simp, fun i hi => by simp at hi⟩
    | cons y rr ih =>
      intro o h hb
      rw [List.map_cons, Rows.uptoBulkAll] at hb ⊢
      have h0 := h 0 (by simp)
      rw [Nat.zero_mul, Nat.add_zero, List.getElem?_cons_zero] at h0
      obtain ⟨cs', h1, h2⟩ := Option.bind_eq_some_iff.1 h0
      obtain ⟨a, ha, hs⟩ := IH n cs' y h2 (by omega)
      obtain ⟨l, hl, hsum, hr⟩ := ih (o + k) (fun i hi => by
        have := h (i + 1) (by simpa using hi)
        rw [List.getElem?_cons_succ] at this
        rw [← this, show o + k + i * k = o + (i + 1) * k by rw [Nat.add_mul]; omega]) (by omega)
      obtain ⟨_, hlen, hc⟩ := World.cells?_some h1
      refine ⟨a :: l, by simp [hl], by simp only [List.map_cons, List.sum_cons, List.length_cons]; omega, fun i hi => ?_⟩
      cases i with
      | zero =>
        have hc0 := hc 0 hk0
        rw [List.getElem?_eq_getElem (by omega), add_plain'] at hc0
        refine ⟨b, o, cs', rfl, World.block_lt_of_cell? W _ hc0, ha, hlen, fun j u hu => ?_⟩
        have hj : j < cs'.length := (List.getElem?_eq_some_iff.1 hu).1
        have := hc j (by omega)
        rw [add_plain', hu] at this
        rw [Nat.zero_mul]
        exact this
      | succ i =>
        obtain ⟨b', o', cs, e', hbl, hR, hk', hcc⟩ := hr i (by simpa using hi)
        have e2 := Option.some.inj e'
        have e3 : b = b' ∧ o + k = o' := by
          injection e2 with a1 a2
          exact ⟨a1, a2⟩
        obtain ⟨rfl, rfl⟩ := e3
        refine ⟨b, o, cs, rfl, hbl, by simpa using hR, hk', fun j u hu => ?_⟩
        rw [show o + (i + 1) * k + j = o + k + i * k + j by rw [Nat.add_mul]; omega]
        exact hcc j u hu
  obtain ⟨x, hx⟩ : ∃ x : DataW H × List MemPlace, x = (d, ps) := ⟨_, rfl⟩
  rw [← hx] at hf
  obtain rfl : d = x.1 := by rw [hx]
  clear hx
  rcases DataW.trod_slice ht hf with ⟨h1, rfl⟩ | ⟨a, len, cap, elems, rest, n, rfl, h0, rfl, _, h1, h2, h3, h4, _, _⟩
  · simp [Value.cells] at h1
    obtain ⟨rfl, rfl, rfl⟩ := h1
    exact ⟨none, 0, [], rfl, Nat.le_refl _, by omega, fun _ => rfl, fun i hi => by simp at hi, by simp [Rows.uptoBulk]⟩
  · simp [Value.cells] at h0
    obtain ⟨rfl, rfl, rfl⟩ := h0
    simp only [Rows.uptoBulk] at hb ⊢
    unfold maxLen at h2
    subst h3
    rw [hk] at h4
    cases elems with
    | nil => exact ⟨some a, cap0, [], rfl, Nat.zero_le _, by omega, (fun h => by cases h), fun i hi => by simp at hi, by simp⟩
    | cons y rr =>
      have hp : a.spot = none := by
        have h0 := h4 0 (by simp)
        rw [List.getElem?_cons_zero] at h0
        obtain ⟨cs', g1, g2⟩ := Option.bind_eq_some_iff.1 h0
        obtain ⟨_, hlen, hc⟩ := World.cells?_some g1
        have := hc 0 (by omega)
        rw [List.getElem?_eq_getElem (by omega)] at this
        simpa [Addr.add] using World.cell?_spot this
      obtain ⟨b, o, spot⟩ := a
      simp only at hp
      subst hp
      obtain ⟨l, hl, hsum, hr⟩ := hall n b (y :: rr) o (fun i hi => by rw [← add_plain']; exact h4 i hi) (by omega)
      exact ⟨some ⟨b, o, none⟩, cap0, l, by rw [hl], by omega, by omega, (fun h => by cases h), hr, by omega⟩
end Go.Proofs.Ytnaakhnmbckpmaa.Lift
namespace Go.Proofs.Ytnaakhnmbckpmaa.Data
open Go.ChangeShapes Go.WideShapes Go.ChangeAt Go.RowKit Go.Proofs.Ytnaakhnmbckpmaa.Lift
set_option linter.unusedVariables false
set_option linter.unusedSimpArgs false
/-- rows of one cell an element, as a list of values. -/
theorem rows_src {α : Type} {R : List Value → α → Prop} {Q : Value → α → Prop} (hR : ∀ cs a, R cs a → ∃ v, cs = [v] ∧ Q v a) {w : World} {A : Option Addr} {l : List α} (h : Lift.RowsIn R w 1 A l) :
    ∃ xs : List Value, Src w 1 A l.length xs ∧ ∀ i (hi : i < l.length), ∃ v, xs[i]? = some v ∧ Q v l[i] := by
  have h1 : ∀ i : Fin l.length, ∃ v, Q v l[i] ∧ ∃ b o, A = some ⟨b, o, none⟩ ∧ w.cell? ⟨b, o + i, none⟩ = some v := fun i => by
    obtain ⟨b, o, cs, e, hl, hr, hk, hc⟩ := h i i.2
    obtain ⟨v, rfl, hq⟩ := hR _ _ hr
    refine ⟨v, hq, b, o, e, ?_⟩
    have := hc 0 v rfl
    rwa [Nat.mul_one, Nat.add_zero] at this
  let f : Fin l.length → Value := fun i => Classical.choose (h1 i)
  have hf : ∀ i, Q (f i) l[i] ∧ ∃ b o, A = some ⟨b, o, none⟩ ∧ w.cell? ⟨b, o + i, none⟩ = some (f i) := fun i => Classical.choose_spec (h1 i)
  refine ⟨List.ofFn f, ⟨by simp, ?_⟩, fun i hi => ⟨f ⟨i, hi⟩, by simp [hi], (hf ⟨i, hi⟩).1⟩⟩
  rcases Nat.eq_zero_or_pos l.length with h0 | h0
  · exact .inl h0
  · obtain ⟨-, b, o, e, -⟩ := hf ⟨0, h0⟩
    refine .inr ⟨b, o, e, fun j u hu => ?_⟩
    have hj : j < l.length := by have := (List.getElem?_eq_some_iff.1 hu).1; simpa using this
    obtain ⟨-, b', o', e', hc⟩ := hf ⟨j, hj⟩
    rw [e] at e'
    injection e' with e'
    injection e' with e1 e2
    subst e1 e2
    have : u = f ⟨j, hj⟩ := by simpa [hj] using hu.symm
    rw [this]
    exact hc
theorem RCells.of_all {w : World} : ∀ {ls : List (List Ex)} {xs : List Value}, xs.length = ls.length → (∀ i (hi : i < ls.length), ∃ v, xs[i]? = some v ∧ Ex.Sl w v ls[i]) → RCells w ls xs
  | [], xs, hl, h => by rw [RCells]; exact List.eq_nil_of_length_eq_zero (by simpa using hl)
  | l :: r, [], hl, h => by simp at hl
  | l :: r, x :: xs, hl, h => by
    rw [RCells]
    obtain ⟨v, h1, h2⟩ := h 0 (by simp)
    simp at h1 h2
    subst h1
    exact ⟨x, xs, rfl, h2, RCells.of_all (by simpa using hl) fun i hi => h (i + 1) (Nat.succ_lt_succ hi)⟩
def ExsR (W : World) (cs : List Value) (l : List Ex) : Prop := ∃ v, cs = [v] ∧ Ex.Sl W v l
theorem sum_mem (f : List Ex → Nat) : ∀ (ls : List (List Ex)), ∀ a ∈ ls, f a ≤ (ls.map f).sum
  | [], a, h => by simp at h
  | x :: r, a, h => by
    rcases List.mem_cons.1 h with rfl | h
    · simp
    · have := sum_mem f r a h; simp only [List.map_cons, List.sum_cons]; omega
set_option maxRecDepth 100000 in
theorem openRS {H : Type} {enc : TypeId × Value → H} {W : World} {r : Reach} {b0 : Nat} {v : Value} {d : DataW H} {ps : List MemPlace} (hval : Value.okWide Try.prog W r b0 68 v) (h : DataW.Trod enc Try.prog W 0 (fun _ => true) true 68 v d ps)
    (hb : Rows.uptoBulk d ≤ 1048576) : ∃ ls : List (List Ex), RS W v ls ∧ ∀ l ∈ ls, ExSize l ≤ 1048576 := by
  obtain ⟨A, cap, ls, rfl, h1, h2, h3, h4, h5⟩ := open_rows (R := ExsR W) (sz := ExSize) (k := 1) Try.underlying68 cells22 (by omega) (fun n cs x hx hb => by
    obtain ⟨A, cap, es, rfl, hh, hr, hs⟩ := openExs_of (fun n _ => openEx_cs n) hx hb
    exact ⟨es, ⟨_, rfl, A, cap, rfl, hh, hr⟩, hs⟩) hval h hb
  obtain ⟨xs, h6, h7⟩ := rows_src (Q := fun v l => Ex.Sl W v l) (fun cs a h => h) h4
  refine ⟨ls, ⟨A, cap, xs, rfl, h1, h2, by omega, h3, h6, RCells.of_all (by have := h6.1; omega) h7⟩, fun l hl => ?_⟩
  have := sum_mem ExSize ls l hl
  omega
def StR (cs : List Value) (s : ByteArray) : Prop := ∃ v, cs = [v] ∧ v = .string s
set_option maxRecDepth 100000 in
theorem openStrs {H : Type} {enc : TypeId × Value → H} {W : World} {r : Reach} {b0 : Nat} {v : Value} {d : DataW H} {ps : List MemPlace} (hval : Value.okWide Try.prog W r b0 51 v) (h : DataW.Trod enc Try.prog W 0 (fun _ => true) true 51 v d ps)
    (hb : Rows.uptoBulk d ≤ 1048576) : ∃ ls : List ByteArray, Strs.StrSl W v ls := by
  obtain ⟨A, cap, ls, rfl, h1, h2, h3, h4, h5⟩ := open_rows (R := StR) (sz := fun s : ByteArray => s.size) (k := 1) Try.underlying51 cells9 (by omega) (fun n cs x hx hb => by
    obtain ⟨s, e, rfl, _⟩ := DataW.trod_string Try.underlying9 hx
    refine ⟨s, ⟨_, e, rfl⟩, ?_⟩
    simp only [Rows.uptoBulk, Array.length_toList]
    have : s.data.size = s.size := rfl
    omega) hval h hb
  obtain ⟨xs, h6, h7⟩ := rows_src (Q := fun v s => v = .string s) (fun cs a h => h) h4
  refine ⟨ls, A, cap, rfl, h1, h2, by omega, h3, ?_⟩
  have hx : xs = ls.map Value.string := by
    apply List.ext_getElem?
    intro i
    by_cases hi : i < ls.length
    · obtain ⟨v, g1, g2⟩ := h7 i hi
      rw [g1, g2]
      simp [hi]
    · rw [List.getElem?_eq_none (by have := h6.1; omega), List.getElem?_eq_none (by simp; omega)]
  rw [← hx]
  exact h6
end Go.Proofs.Ytnaakhnmbckpmaa.Data
namespace Go.Proofs.Ytnaakhnmbckpmaa.Data
open Go.ChangeShapes Go.WideShapes Go.ChangeAt Go.RowKit Go.Proofs.Ytnaakhnmbckpmaa.Lift
set_option linter.unusedVariables false
set_option linter.unusedSimpArgs false
mutual
def exNm : Ex → Prop
  | .mk k s n ys l c => s.size ≤ maxLen ∧ exNms ys
def exNms : List Ex → Prop
  | [] => True
  | e :: r => exNm e ∧ exNms r
end
mutual
def tmNm : Tm → Prop
  | .mk k s n ys => s.size ≤ maxLen ∧ tmNms ys
def tmNms : List Tm → Prop
  | [] => True
  | e :: r => tmNm e ∧ tmNms r
end
mutual
theorem exNm_flat : ∀ e : Ex, exNm e → ∀ x ∈ e.flat, x.s.size ≤ maxLen
  | .mk k s n ys l c, h, x, hx => by
    rw [exNm] at h
    rw [Ex.flat] at hx
    rcases List.mem_cons.1 hx with rfl | hx
    · exact h.1
    · exact exNms_flat ys h.2 x hx
theorem exNms_flat : ∀ es : List Ex, exNms es → ∀ x ∈ ExFlats es, x.s.size ≤ maxLen
  | [], _, x, hx => by rw [ExFlats] at hx; cases hx
  | e :: r, h, x, hx => by
    rw [exNms] at h
    rw [ExFlats, List.mem_append] at hx
    rcases hx with hx | hx
    · exact exNm_flat e h.1 x hx
    · exact exNms_flat r h.2 x hx
end
mutual
theorem tmNm_flat : ∀ e : Tm, tmNm e → ∀ x ∈ e.flat, x.s.size ≤ maxLen
  | .mk k s n ys, h, x, hx => by
    rw [tmNm] at h
    rw [Tm.flat] at hx
    rcases List.mem_cons.1 hx with rfl | hx
    · exact h.1
    · exact tmNms_flat ys h.2 x hx
theorem tmNms_flat : ∀ es : List Tm, tmNms es → ∀ x ∈ TmFlats es, x.s.size ≤ maxLen
  | [], _, x, hx => by rw [TmFlats] at hx; cases hx
  | e :: r, h, x, hx => by
    rw [tmNms] at h
    rw [TmFlats, List.mem_append] at hx
    rcases hx with hx | hx
    · exact tmNm_flat e h.1 x hx
    · exact tmNms_flat r h.2 x hx
end
/-- elements that lie one behind the other. -/
theorem openExN_rows {H : Type} {enc : TypeId × Value → H} {W : World} {sp : Nat → Bool} {held : Bool} {m : Nat}
    (IH : ∀ (cs : List Value) (x : DataW H × List MemPlace), DataW.trod enc Try.prog W 0 sp held m 26 cs = some x → Rows.uptoBulk x.1 ≤ 1048576 → ∃ e : Ex, e.Cs W cs ∧ e.size ≤ Rows.uptoBulk x.1 ∧ exNm e) (b : Nat) :
    ∀ (elems : List (DataW H × List MemPlace)) (o : Nat), (∀ i, i < elems.length → (W.cells? 0 ⟨b, o + i * 6, none⟩ 6).bind (DataW.trod enc Try.prog W 0 sp held m 26) = elems[i]?) → Rows.uptoBulkAll (elems.map (·.1)) ≤ 1048576 →
      ∃ es : List Ex, es.length = elems.length ∧ ExRow W es b o ∧ ExSize es ≤ Rows.uptoBulkAll (elems.map (·.1)) ∧ exNms es
  | [], o, _, _ => ⟨[], rfl, by rw [ExRow]; trivial, by simp [ExSize], by rw [exNms]; trivial⟩
  | y :: r, o, h, hb => by
    rw [List.map_cons, Rows.uptoBulkAll] at hb ⊢
    have h0 := h 0 (by simp)
    rw [Nat.zero_mul, Nat.add_zero, List.getElem?_cons_zero] at h0
    obtain ⟨cs', h1, h2⟩ := Option.bind_eq_some_iff.1 h0
    obtain ⟨e, he, hsz, hnm⟩ := IH cs' y h2 (by omega)
    obtain ⟨es, hl, hr, hs, hns⟩ := openExN_rows IH b r (o + 6) (fun i hi => by
      have := h (i + 1) (by simpa using hi)
      rw [List.getElem?_cons_succ] at this
      rw [← this, show o + 6 + i * 6 = o + (i + 1) * 6 by omega]) (by omega)
    refine ⟨e :: es, by simp [hl], ?_, by rw [ExSize]; omega, by rw [exNms]; exact ⟨hnm, hns⟩⟩
    obtain ⟨_, hlen, hc⟩ := World.cells?_some h1
    have h3 := ExCells.row (w := W) (b := b) (o := o) (ExCells.single he) (fun j u hu => by
      have hj : j < cs'.length := (List.getElem?_eq_some_iff.1 hu).1
      have := hc j (by omega)
      rw [← add_plain, this]
      exact hu)
    rw [ExRow] at h3 ⊢
    exact ⟨h3.1, hr⟩
set_option maxRecDepth 100000 in
theorem openExNs_of {H : Type} {enc : TypeId × Value → H} {W : World} {sp : Nat → Bool} {held : Bool} {m : Nat}
    (IH : ∀ n, n < m → ∀ (cs : List Value) (x : DataW H × List MemPlace), DataW.trod enc Try.prog W 0 sp held n 26 cs = some x → Rows.uptoBulk x.1 ≤ 1048576 → ∃ e : Ex, e.Cs W cs ∧ e.size ≤ Rows.uptoBulk x.1 ∧ exNm e)
    {cs : List Value} {x : DataW H × List MemPlace} (h : DataW.trod enc Try.prog W 0 sp held m 22 cs = some x) (hb : Rows.uptoBulk x.1 ≤ 1048576) :
    ∃ (A : Option Addr) (cap : Nat) (es : List Ex), cs = [.slice A es.length cap] ∧ ExHd A es.length cap ∧ Exs W A es ∧ ExSize es + 1 ≤ Rows.uptoBulk x.1 ∧ exNms es := by
  rcases DataW.trod_slice Try.underlying22 h with ⟨rfl, rfl⟩ | ⟨a, len, cap, elems, rest, n, rfl, rfl, rfl, _, h1, h2, h3, h4, _, _⟩
  · exact ⟨none, 0, [], rfl, ⟨Nat.le_refl _, by omega, by simp, fun _ => rfl⟩, .inl rfl, by simp [Rows.uptoBulk, ExSize], by rw [exNms]; trivial⟩
  · simp only [Rows.uptoBulk] at hb ⊢
    unfold maxLen at h2
    subst h3
    rw [cells26] at h4
    cases elems with
    | nil => exact ⟨some a, cap, [], rfl, ⟨Nat.zero_le _, by omega, by simp, fun h => by cases h⟩, .inl rfl, by simp [ExSize], by rw [exNms]; trivial⟩
    | cons y r =>
      have hp : a.spot = none := by
        have h0 := h4 0 (by simp)
        rw [List.getElem?_cons_zero] at h0
        obtain ⟨cs', g1, g2⟩ := Option.bind_eq_some_iff.1 h0
        obtain ⟨_, hlen, hc⟩ := World.cells?_some g1
        have := hc 0 (by omega)
        rw [List.getElem?_eq_getElem (by omega)] at this
        simpa [Addr.add] using World.cell?_spot this
      obtain ⟨b, o, spot⟩ := a
      simp only at hp
      subst hp
      obtain ⟨es, hl, hr, hs, hns⟩ := openExN_rows (IH n (Nat.lt_succ_self n)) b (y :: r) o (fun i hi => by rw [← add_plain]; exact h4 i hi) (by omega)
      have hle := ExSize_len es
      refine ⟨some ⟨b, o, none⟩, cap, es, by rw [hl], ⟨by omega, by omega, by omega, fun h => by cases h⟩, .inr ⟨b, o, rfl, hr⟩, by omega, hns⟩
set_option maxRecDepth 100000 in
theorem openExN_cs {H : Type} {enc : TypeId × Value → H} {W : World} {sp : Nat → Bool} {held : Bool} (fuel : Nat) : ∀ (cs : List Value) (x : DataW H × List MemPlace),
    DataW.trod enc Try.prog W 0 sp held fuel 26 cs = some x → Rows.uptoBulk x.1 ≤ 1048576 → ∃ e : Ex, e.Cs W cs ∧ e.size ≤ Rows.uptoBulk x.1 ∧ exNm e := by
  induction fuel using Nat.strongRecOn with
  | _ fuel ih =>
  intro cs x h hb
  obtain ⟨xs, n, rfl, rfl, hl, hlen, hf⟩ := DataW.trod_struct Try.underlying26 h
  rw [cells26] at hl
  match cs, hl, xs, hlen with
  | [c0, c1, c2, c3, c4, c5], _, [y0, y1, y2, y3, y4], _ =>
  have f0 : DataW.trod enc Try.prog W 0 sp held n 3 (([c0, c1, c2, c3, c4, c5].drop 0).take (Try.prog.cellsOf 3)) = some y0 := hf 0 _ rfl
  have f1 : DataW.trod enc Try.prog W 0 sp held n 9 (([c0, c1, c2, c3, c4, c5].drop 1).take (Try.prog.cellsOf 9)) = some y1 := hf 1 _ rfl
  have f2 : DataW.trod enc Try.prog W 0 sp held n 3 (([c0, c1, c2, c3, c4, c5].drop 2).take (Try.prog.cellsOf 3)) = some y2 := hf 2 _ rfl
  have f3 : DataW.trod enc Try.prog W 0 sp held n 22 (([c0, c1, c2, c3, c4, c5].drop 3).take (Try.prog.cellsOf 22)) = some y3 := hf 3 _ rfl
  have f4 : DataW.trod enc Try.prog W 0 sp held n 24 (([c0, c1, c2, c3, c4, c5].drop 4).take (Try.prog.cellsOf 24)) = some y4 := hf 4 _ rfl
  obtain ⟨k, e0, rfl, _⟩ := DataW.trod_int Try.underlying3 f0
  obtain ⟨s, e1, rfl, hsm⟩ := DataW.trod_string Try.underlying9 f1
  obtain ⟨n', e2, rfl, _⟩ := DataW.trod_int Try.underlying3 f2
  obtain ⟨zs, n4, rfl, rfl, hl4, hlen4, hf4⟩ := DataW.trod_struct Try.underlying24 f4
  match zs, hlen4 with
  | [z0, z1], _ =>
  have g0 : DataW.trod enc Try.prog W 0 sp held n4 3 (((([c0, c1, c2, c3, c4, c5].drop 4).take (Try.prog.cellsOf 24)).drop 0).take (Try.prog.cellsOf 3)) = some z0 := hf4 0 _ rfl
  have g1 : DataW.trod enc Try.prog W 0 sp held n4 3 (((([c0, c1, c2, c3, c4, c5].drop 4).take (Try.prog.cellsOf 24)).drop 1).take (Try.prog.cellsOf 3)) = some z1 := hf4 1 _ rfl
  obtain ⟨l, e40, rfl, _⟩ := DataW.trod_int Try.underlying3 g0
  obtain ⟨c, e41, rfl, _⟩ := DataW.trod_int Try.underlying3 g1
  simp only [List.map_cons, List.map_nil, Rows.uptoBulk, Rows.uptoBulkAll] at hb ⊢
  obtain ⟨A, cap, es, e3, hh, hr, hs, hns⟩ := openExNs_of (fun n hn => ih n (by omega)) f3 (by omega)
  rw [cells3] at e0 e2 e40 e41
  rw [cells9] at e1
  rw [cells22] at e3
  rw [cells24] at e40 e41
  simp at e0 e1 e2 e3 e40 e41
  subst e0 e1 e2 e3 e40 e41
  exact ⟨.mk k s n' es l c, ⟨A, cap, rfl, hh, hr⟩, by rw [Ex.size_mk]; omega, by rw [exNm]; exact ⟨hsm, hns⟩⟩
set_option maxRecDepth 100000 in
theorem openExN_sl {H : Type} {enc : TypeId × Value → H} {W : World} {r : Reach} {b0 : Nat} {v : Value} {d : DataW H} {ps : List MemPlace} (hval : Value.okWide Try.prog W r b0 22 v) (h : DataW.Trod enc Try.prog W 0 (fun _ => true) true 22 v d ps)
    (hb : Rows.uptoBulk d ≤ 1048576) : ∃ es : List Ex, Ex.Sl W v es ∧ ExSize es + 1 ≤ Rows.uptoBulk d ∧ exNms es := by
  obtain ⟨a0, len0, cap0, rfl⟩ := okWide_slice Try.underlying22 hval
  obtain ⟨fuel, hf⟩ := h
  obtain ⟨A, cap, es, e3, hh, hr, hs, hns⟩ := openExNs_of (fun n _ => openExN_cs n) hf hb
  simp [Value.cells] at e3
  obtain ⟨rfl, rfl, rfl⟩ := e3
  exact ⟨es, ⟨_, _, rfl, hh, hr⟩, hs, hns⟩

/-- elements that lie one behind the other. -/
theorem openTmN_rows {H : Type} {enc : TypeId × Value → H} {W : World} {sp : Nat → Bool} {held : Bool} {m : Nat}
    (IH : ∀ (cs : List Value) (x : DataW H × List MemPlace), DataW.trod enc Try.prog W 0 sp held m 29 cs = some x → Rows.uptoBulk x.1 ≤ 1048576 → ∃ e : Tm, e.Cs W cs ∧ e.size ≤ Rows.uptoBulk x.1 ∧ tmNm e) (b : Nat) :
    ∀ (elems : List (DataW H × List MemPlace)) (o : Nat), (∀ i, i < elems.length → (W.cells? 0 ⟨b, o + i * 4, none⟩ 4).bind (DataW.trod enc Try.prog W 0 sp held m 29) = elems[i]?) → Rows.uptoBulkAll (elems.map (·.1)) ≤ 1048576 →
      ∃ es : List Tm, es.length = elems.length ∧ TmRow W es b o ∧ TmSize es ≤ Rows.uptoBulkAll (elems.map (·.1)) ∧ tmNms es
  | [], o, _, _ => ⟨[], rfl, by rw [TmRow]; trivial, by simp [TmSize], by rw [tmNms]; trivial⟩
  | y :: r, o, h, hb => by
    rw [List.map_cons, Rows.uptoBulkAll] at hb ⊢
    have h0 := h 0 (by simp)
    rw [Nat.zero_mul, Nat.add_zero, List.getElem?_cons_zero] at h0
    obtain ⟨cs', h1, h2⟩ := Option.bind_eq_some_iff.1 h0
    obtain ⟨e, he, hsz, hnm⟩ := IH cs' y h2 (by omega)
    obtain ⟨es, hl, hr, hs, hns⟩ := openTmN_rows IH b r (o + 4) (fun i hi => by
      have := h (i + 1) (by simpa using hi)
      rw [List.getElem?_cons_succ] at this
      rw [← this, show o + 4 + i * 4 = o + (i + 1) * 4 by omega]) (by omega)
    refine ⟨e :: es, by simp [hl], ?_, by rw [TmSize]; omega, by rw [tmNms]; exact ⟨hnm, hns⟩⟩
    obtain ⟨_, hlen, hc⟩ := World.cells?_some h1
    have h3 := TmCells.row (w := W) (b := b) (o := o) (TmCells.single he) (fun j u hu => by
      have hj : j < cs'.length := (List.getElem?_eq_some_iff.1 hu).1
      have := hc j (by omega)
      rw [← add_plain, this]
      exact hu)
    rw [TmRow] at h3 ⊢
    exact ⟨h3.1, hr⟩
set_option maxRecDepth 100000 in
theorem openTmNs_of {H : Type} {enc : TypeId × Value → H} {W : World} {sp : Nat → Bool} {held : Bool} {m : Nat}
    (IH : ∀ n, n < m → ∀ (cs : List Value) (x : DataW H × List MemPlace), DataW.trod enc Try.prog W 0 sp held n 29 cs = some x → Rows.uptoBulk x.1 ≤ 1048576 → ∃ e : Tm, e.Cs W cs ∧ e.size ≤ Rows.uptoBulk x.1 ∧ tmNm e)
    {cs : List Value} {x : DataW H × List MemPlace} (h : DataW.trod enc Try.prog W 0 sp held m 27 cs = some x) (hb : Rows.uptoBulk x.1 ≤ 1048576) :
    ∃ (A : Option Addr) (cap : Nat) (es : List Tm), cs = [.slice A es.length cap] ∧ TmHd A es.length cap ∧ Tms W A es ∧ TmSize es + 1 ≤ Rows.uptoBulk x.1 ∧ tmNms es := by
  rcases DataW.trod_slice Try.underlying27 h with ⟨rfl, rfl⟩ | ⟨a, len, cap, elems, rest, n, rfl, rfl, rfl, _, h1, h2, h3, h4, _, _⟩
  · exact ⟨none, 0, [], rfl, ⟨Nat.le_refl _, by omega, by simp, fun _ => rfl⟩, .inl rfl, by simp [Rows.uptoBulk, TmSize], by rw [tmNms]; trivial⟩
  · simp only [Rows.uptoBulk] at hb ⊢
    unfold maxLen at h2
    subst h3
    rw [cells29] at h4
    cases elems with
    | nil => exact ⟨some a, cap, [], rfl, ⟨Nat.zero_le _, by omega, by simp, fun h => by cases h⟩, .inl rfl, by simp [TmSize], by rw [tmNms]; trivial⟩
    | cons y r =>
      have hp : a.spot = none := by
        have h0 := h4 0 (by simp)
        rw [List.getElem?_cons_zero] at h0
        obtain ⟨cs', g1, g2⟩ := Option.bind_eq_some_iff.1 h0
        obtain ⟨_, hlen, hc⟩ := World.cells?_some g1
        have := hc 0 (by omega)
        rw [List.getElem?_eq_getElem (by omega)] at this
        simpa [Addr.add] using World.cell?_spot this
      obtain ⟨b, o, spot⟩ := a
      simp only at hp
      subst hp
      obtain ⟨es, hl, hr, hs, hns⟩ := openTmN_rows (IH n (Nat.lt_succ_self n)) b (y :: r) o (fun i hi => by rw [← add_plain]; exact h4 i hi) (by omega)
      have hle := TmSize_len es
      refine ⟨some ⟨b, o, none⟩, cap, es, by rw [hl], ⟨by omega, by omega, by omega, fun h => by cases h⟩, .inr ⟨b, o, rfl, hr⟩, by omega, hns⟩
set_option maxRecDepth 100000 in
theorem openTmN_cs {H : Type} {enc : TypeId × Value → H} {W : World} {sp : Nat → Bool} {held : Bool} (fuel : Nat) : ∀ (cs : List Value) (x : DataW H × List MemPlace),
    DataW.trod enc Try.prog W 0 sp held fuel 29 cs = some x → Rows.uptoBulk x.1 ≤ 1048576 → ∃ e : Tm, e.Cs W cs ∧ e.size ≤ Rows.uptoBulk x.1 ∧ tmNm e := by
  induction fuel using Nat.strongRecOn with
  | _ fuel ih =>
  intro cs x h hb
  obtain ⟨xs, n, rfl, rfl, hl, hlen, hf⟩ := DataW.trod_struct Try.underlying29 h
  rw [cells29] at hl
  match cs, hl, xs, hlen with
  | [c0, c1, c2, c3], _, [y0, y1, y2, y3], _ =>
  have f0 : DataW.trod enc Try.prog W 0 sp held n 3 (([c0, c1, c2, c3].drop 0).take (Try.prog.cellsOf 3)) = some y0 := hf 0 _ rfl
  have f1 : DataW.trod enc Try.prog W 0 sp held n 9 (([c0, c1, c2, c3].drop 1).take (Try.prog.cellsOf 9)) = some y1 := hf 1 _ rfl
  have f2 : DataW.trod enc Try.prog W 0 sp held n 3 (([c0, c1, c2, c3].drop 2).take (Try.prog.cellsOf 3)) = some y2 := hf 2 _ rfl
  have f3 : DataW.trod enc Try.prog W 0 sp held n 27 (([c0, c1, c2, c3].drop 3).take (Try.prog.cellsOf 27)) = some y3 := hf 3 _ rfl
  skip
  obtain ⟨k, e0, rfl, _⟩ := DataW.trod_int Try.underlying3 f0
  obtain ⟨s, e1, rfl, hsm⟩ := DataW.trod_string Try.underlying9 f1
  obtain ⟨n', e2, rfl, _⟩ := DataW.trod_int Try.underlying3 f2
  skip
  skip
  simp only [List.map_cons, List.map_nil, Rows.uptoBulk, Rows.uptoBulkAll] at hb ⊢
  obtain ⟨A, cap, es, e3, hh, hr, hs, hns⟩ := openTmNs_of (fun n hn => ih n (by omega)) f3 (by omega)
  rw [cells3] at e0 e2
  rw [cells9] at e1
  rw [cells27] at e3
  skip
  simp at e0 e1 e2 e3 
  subst e0 e1 e2 e3 
  exact ⟨.mk k s n' es, ⟨A, cap, rfl, hh, hr⟩, by rw [Tm.size_mk]; omega, by rw [tmNm]; exact ⟨hsm, hns⟩⟩
set_option maxRecDepth 100000 in
theorem openTmN_sl {H : Type} {enc : TypeId × Value → H} {W : World} {r : Reach} {b0 : Nat} {v : Value} {d : DataW H} {ps : List MemPlace} (hval : Value.okWide Try.prog W r b0 27 v) (h : DataW.Trod enc Try.prog W 0 (fun _ => true) true 27 v d ps)
    (hb : Rows.uptoBulk d ≤ 1048576) : ∃ es : List Tm, Tm.Sl W v es ∧ TmSize es + 1 ≤ Rows.uptoBulk d ∧ tmNms es := by
  obtain ⟨a0, len0, cap0, rfl⟩ := okWide_slice Try.underlying27 hval
  obtain ⟨fuel, hf⟩ := h
  obtain ⟨A, cap, es, e3, hh, hr, hs, hns⟩ := openTmNs_of (fun n _ => openTmN_cs n) hf hb
  simp [Value.cells] at e3
  obtain ⟨rfl, rfl, rfl⟩ := e3
  exact ⟨es, ⟨_, _, rfl, hh, hr⟩, hs, hns⟩


set_option maxRecDepth 100000 in
theorem openRSN {H : Type} {enc : TypeId × Value → H} {W : World} {r : Reach} {b0 : Nat} {v : Value} {d : DataW H} {ps : List MemPlace} (hval : Value.okWide Try.prog W r b0 68 v) (h : DataW.Trod enc Try.prog W 0 (fun _ => true) true 68 v d ps)
    (hb : Rows.uptoBulk d ≤ 1048576) : ∃ ls : List (List Ex), RS W v ls ∧ (∀ l ∈ ls, ExSize l ≤ 1048576) ∧ ∀ l ∈ ls, exNms l := by
  obtain ⟨A, cap, ls, rfl, h1, h2, h3, h4, h5⟩ := open_rows (R := fun cs l => ExsR W cs l ∧ exNms l) (sz := ExSize) (k := 1) Try.underlying68 cells22 (by omega) (fun n cs x hx hb => by
    obtain ⟨A, cap, es, rfl, hh, hr, hs, hns⟩ := openExNs_of (fun n _ => openExN_cs n) hx hb
    exact ⟨es, ⟨⟨_, rfl, A, cap, rfl, hh, hr⟩, hns⟩, hs⟩) hval h hb
  obtain ⟨xs, h6, h7⟩ := rows_src (Q := fun v l => Ex.Sl W v l) (fun cs a h => h.1) h4
  refine ⟨ls, ⟨A, cap, xs, rfl, h1, h2, by omega, h3, h6, RCells.of_all (by have := h6.1; omega) h7⟩, fun l hl => ?_, fun l hl => ?_⟩
  · have := sum_mem ExSize ls l hl
    omega
  · obtain ⟨i, hi, rfl⟩ := List.getElem_of_mem hl
    obtain ⟨b, o, cs, e, hl, hr, hk, hc⟩ := h4 i hi
    exact hr.2
end Go.Proofs.Ytnaakhnmbckpmaa.Data
