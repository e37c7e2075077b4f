/- A slice of structs that came in: its elements, one by one. -/
import Derived.Test.YtnaakhnmbckpmaaLift
import Derived.OpenShut
namespace Go.Proofs.Ytnaakhnmbckpmaa.Lift
open Go.ChangeShapes Go.WideShapes Go.ChangeAt Go.RowKit
set_option linter.unusedVariables false
set_option linter.unusedSimpArgs false
theorem add_plain' (b o j : Nat) : (⟨b, o, none⟩ : Addr).add j = ⟨b, o + j, none⟩ := by unfold Addr.add; split <;> simp_all
/-- so many elements, one behind the other, each reads as R says. -/
def RowsIn {α : Type} (R : List Value → α → Prop) (w : World) (k : Nat) (A : Option Addr) (l : List α) : Prop :=
  ∀ i (h : i < l.length), ∃ b o cs, A = some ⟨b, o, none⟩ ∧ b < w.heap.size ∧ R cs l[i] ∧ cs.length = k ∧ ∀ j u, cs[j]? = some u → w.cell? ⟨b, o + i * k + j, none⟩ = some u
theorem RowsIn.below {α : Type} {R : List Value → α → Prop} {w w' : World} {k B : Nat} {A : Option Addr} {l : List α} (h : RowsIn R w k A l) (hb : Below B w w') (hB : w.heap.size ≤ B) : RowsIn R w' k A l := by
  intro i hi
  obtain ⟨b, o, cs, e, hl, hr, hk, hc⟩ := h i hi
  exact ⟨b, o, cs, e, Nat.lt_of_lt_of_le hl hb.size, hr, hk, fun j u hu => (hb.cell (p := ⟨b, o + i * k + j, none⟩) (by simp only; omega)).trans (hc j u hu)⟩
set_option maxRecDepth 100000 in
theorem open_rows {H : Type} {enc : TypeId × Value → H} {P : Program} {W : World} {α : Type} {R : List Value → α → Prop} {sz : α → Nat} {t e k : Nat} (ht : P.underlying t = some (.slice e)) (hk : P.cellsOf e = k) (hk0 : 0 < k)
    (IH : ∀ n cs (x : DataW H × List MemPlace), DataW.trod enc P W 0 (fun _ => true) true n e cs = some x → Rows.uptoBulk x.1 ≤ 1048576 → ∃ a, R cs a ∧ sz a + 1 ≤ Rows.uptoBulk x.1)
    {r : Reach} {b0 : Nat} {v : Value} {d : DataW H} {ps : List MemPlace} (hval : Value.okWide P W r b0 t v) (h : DataW.Trod enc P W 0 (fun _ => true) true t v d ps) (hb : Rows.uptoBulk d ≤ 1048576) :
    ∃ (A : Option Addr) (cap : Nat) (l : List α), v = .slice A l.length cap ∧ l.length ≤ cap ∧ cap ≤ 9223372036854775807 ∧ (A = none → cap = 0) ∧ RowsIn R W k A l ∧ (l.map sz).sum + l.length + 1 ≤ Rows.uptoBulk d := by
  obtain ⟨a0, len0, cap0, rfl⟩ := okWide_slice ht hval
  obtain ⟨fuel, hf⟩ := h
  have hall : ∀ (n b : Nat) (elems : List (DataW H × List MemPlace)) (o : Nat), (∀ i, i < elems.length → (W.cells? 0 ⟨b, o + i * k, none⟩ k).bind (DataW.trod enc P W 0 (fun _ => true) true n e) = elems[i]?) → Rows.uptoBulkAll (elems.map (·.1)) ≤ 1048576 →
      ∃ l : List α, l.length = elems.length ∧ (l.map sz).sum + l.length ≤ Rows.uptoBulkAll (elems.map (·.1)) ∧ RowsIn R W k (some ⟨b, o, none⟩) l := by
    intro n b elems
    induction elems with
    | nil => intro o _ _; exact ⟨[], rfl, by simp, fun i hi => by simp at hi⟩
    | cons y rr ih =>
      intro o h hb
      rw [List.map_cons, Rows.uptoBulkAll] at hb ⊢
      have h0 := h 0 (by simp)
      rw [Nat.zero_mul, Nat.add_zero, List.getElem?_cons_zero] at h0
      obtain ⟨cs', h1, h2⟩ := Option.bind_eq_some_iff.1 h0
      obtain ⟨a, ha, hs⟩ := IH n cs' y h2 (by omega)
      obtain ⟨l, hl, hsum, hr⟩ := ih (o + k) (fun i hi => by
        have := h (i + 1) (by simpa using hi)
        rw [List.getElem?_cons_succ] at this
        rw [← this, show o + k + i * k = o + (i + 1) * k by rw [Nat.add_mul]; omega]) (by omega)
      obtain ⟨_, hlen, hc⟩ := World.cells?_some h1
      refine ⟨a :: l, by simp [hl], by simp only [List.map_cons, List.sum_cons, List.length_cons]; omega, fun i hi => ?_⟩
      cases i with
      | zero =>
        have hc0 := hc 0 hk0
        rw [List.getElem?_eq_getElem (by omega), add_plain'] at hc0
        refine ⟨b, o, cs', rfl, World.block_lt_of_cell? W _ hc0, ha, hlen, fun j u hu => ?_⟩
        have hj : j < cs'.length := (List.getElem?_eq_some_iff.1 hu).1
        have := hc j (by omega)
        rw [add_plain', hu] at this
        rw [Nat.zero_mul]
        exact this
      | succ i =>
        obtain ⟨b', o', cs, e', hbl, hR, hk', hcc⟩ := hr i (by simpa using hi)
        have e2 := Option.some.inj e'
        have e3 : b = b' ∧ o + k = o' := by
          injection e2 with a1 a2
          exact ⟨a1, a2⟩
        obtain ⟨rfl, rfl⟩ := e3
        refine ⟨b, o, cs, rfl, hbl, by simpa using hR, hk', fun j u hu => ?_⟩
        rw [show o + (i + 1) * k + j = o + k + i * k + j by rw [Nat.add_mul]; omega]
        exact hcc j u hu
  obtain ⟨x, hx⟩ : ∃ x : DataW H × List MemPlace, x = (d, ps) := ⟨_, rfl⟩
  rw [← hx] at hf
  obtain rfl : d = x.1 := by rw [hx]
  clear hx
  rcases DataW.trod_slice ht hf with ⟨h1, rfl⟩ | ⟨a, len, cap, elems, rest, n, rfl, h0, rfl, _, h1, h2, h3, h4, _, _⟩
  · simp [Value.cells] at h1
    obtain ⟨rfl, rfl, rfl⟩ := h1
    exact ⟨none, 0, [], rfl, Nat.le_refl _, by omega, fun _ => rfl, fun i hi => by simp at hi, by simp [Rows.uptoBulk]⟩
  · simp [Value.cells] at h0
    obtain ⟨rfl, rfl, rfl⟩ := h0
    simp only [Rows.uptoBulk] at hb ⊢
    unfold maxLen at h2
    subst h3
    rw [hk] at h4
    cases elems with
    | nil => exact ⟨some a, cap0, [], rfl, Nat.zero_le _, by omega, (fun h => by cases h), fun i hi => by simp at hi, by simp⟩
    | cons y rr =>
      have hp : a.spot = none := by
        have h0 := h4 0 (by simp)
        rw [List.getElem?_cons_zero] at h0
        obtain ⟨cs', g1, g2⟩ := Option.bind_eq_some_iff.1 h0
        obtain ⟨_, hlen, hc⟩ := World.cells?_some g1
        have := hc 0 (by omega)
        rw [List.getElem?_eq_getElem (by omega)] at this
        simpa [Addr.add] using World.cell?_spot this
      obtain ⟨b, o, spot⟩ := a
      simp only at hp
      subst hp
      obtain ⟨l, hl, hsum, hr⟩ := hall n b (y :: rr) o (fun i hi => by rw [← add_plain']; exact h4 i hi) (by omega)
      exact ⟨some ⟨b, o, none⟩, cap0, l, by rw [hl], by omega, by omega, (fun h => by cases h), hr, by omega⟩
end Go.Proofs.Ytnaakhnmbckpmaa.Lift
