/- Rows of rules, and of strings, that came in. -/
import Derived.Test.YtnaakhnmbckpmaaOpen
import Derived.Test.YtnaakhnmbckpmaaRowsIn
import Derived.Test.YtnaakhnmbckpmaaCt
namespace Go.Proofs.Ytnaakhnmbckpmaa.Data
open Go.ChangeShapes Go.WideShapes Go.ChangeAt Go.RowKit Go.Proofs.Ytnaakhnmbckpmaa.Lift
set_option linter.unusedVariables false
set_option linter.unusedSimpArgs false
/-- rows of one cell an element, as a list of values. -/
theorem rows_src {α : Type} {R : List Value → α → Prop} {Q : Value → α → Prop} (hR : ∀ cs a, R cs a → ∃ v, cs = [v] ∧ Q v a) {w : World} {A : Option Addr} {l : List α} (h : Lift.RowsIn R w 1 A l) :
    ∃ xs : List Value, Src w 1 A l.length xs ∧ ∀ i (hi : i < l.length), ∃ v, xs[i]? = some v ∧ Q v l[i] := by
  have h1 : ∀ i : Fin l.length, ∃ v, Q v l[i] ∧ ∃ b o, A = some ⟨b, o, none⟩ ∧ w.cell? ⟨b, o + i, none⟩ = some v := fun i => by
    obtain ⟨b, o, cs, e, hl, hr, hk, hc⟩ := h i i.2
    obtain ⟨v, rfl, hq⟩ := hR _ _ hr
    refine ⟨v, hq, b, o, e, ?_⟩
    have := hc 0 v rfl
    rwa [Nat.mul_one, Nat.add_zero] at this
  let f : Fin l.length → Value := fun i => Classical.choose (h1 i)
  have hf : ∀ i, Q (f i) l[i] ∧ ∃ b o, A = some ⟨b, o, none⟩ ∧ w.cell? ⟨b, o + i, none⟩ = some (f i) := fun i => Classical.choose_spec (h1 i)
  refine ⟨List.ofFn f, ⟨by simp, ?_⟩, fun i hi => ⟨f ⟨i, hi⟩, by simp [hi], (hf ⟨i, hi⟩).1⟩⟩
  rcases Nat.eq_zero_or_pos l.length with h0 | h0
  · exact .inl h0
  · obtain ⟨-, b, o, e, -⟩ := hf ⟨0, h0⟩
    refine .inr ⟨b, o, e, fun j u hu => ?_⟩
    have hj : j < l.length := by have := (List.getElem?_eq_some_iff.1 hu).1; simpa using this
    obtain ⟨-, b', o', e', hc⟩ := hf ⟨j, hj⟩
    rw [e] at e'
    injection e' with e'
    injection e' with e1 e2
    subst e1 e2
    have : u = f ⟨j, hj⟩ := by simpa [hj] using hu.symm
    rw [this]
    exact hc
theorem RCells.of_all {w : World} : ∀ {ls : List (List Ex)} {xs : List Value}, xs.length = ls.length → (∀ i (hi : i < ls.length), ∃ v, xs[i]? = some v ∧ Ex.Sl w v ls[i]) → RCells w ls xs
  | [], xs, hl, h => by rw [RCells]; exact List.eq_nil_of_length_eq_zero (by simpa using hl)
  | l :: r, [], hl, h => by simp at hl
  | l :: r, x :: xs, hl, h => by
    rw [RCells]
    obtain ⟨v, h1, h2⟩ := h 0 (by simp)
    simp at h1 h2
    subst h1
    exact ⟨x, xs, rfl, h2, RCells.of_all (by simpa using hl) fun i hi => h (i + 1) (Nat.succ_lt_succ hi)⟩
def ExsR (W : World) (cs : List Value) (l : List Ex) : Prop := ∃ v, cs = [v] ∧ Ex.Sl W v l
theorem sum_mem (f : List Ex → Nat) : ∀ (ls : List (List Ex)), ∀ a ∈ ls, f a ≤ (ls.map f).sum
  | [], a, h => by simp at h
  | x :: r, a, h => by
    rcases List.mem_cons.1 h with rfl | h
    · simp
    · have := sum_mem f r a h; simp only [List.map_cons, List.sum_cons]; omega
set_option maxRecDepth 100000 in
theorem openRS {H : Type} {enc : TypeId × Value → H} {W : World} {r : Reach} {b0 : Nat} {v : Value} {d : DataW H} {ps : List MemPlace} (hval : Value.okWide Try.prog W r b0 68 v) (h : DataW.Trod enc Try.prog W 0 (fun _ => true) true 68 v d ps)
    (hb : Rows.uptoBulk d ≤ 1048576) : ∃ ls : List (List Ex), RS W v ls ∧ ∀ l ∈ ls, ExSize l ≤ 1048576 := by
  obtain ⟨A, cap, ls, rfl, h1, h2, h3, h4, h5⟩ := open_rows (R := ExsR W) (sz := ExSize) (k := 1) Try.underlying68 cells22 (by omega) (fun n cs x hx hb => by
    obtain ⟨A, cap, es, rfl, hh, hr, hs⟩ := openExs_of (fun n _ => openEx_cs n) hx hb
    exact ⟨es, ⟨_, rfl, A, cap, rfl, hh, hr⟩, hs⟩) hval h hb
  obtain ⟨xs, h6, h7⟩ := rows_src (Q := fun v l => Ex.Sl W v l) (fun cs a h => h) h4
  refine ⟨ls, ⟨A, cap, xs, rfl, h1, h2, by omega, h3, h6, RCells.of_all (by have := h6.1; omega) h7⟩, fun l hl => ?_⟩
  have := sum_mem ExSize ls l hl
  omega
def StR (cs : List Value) (s : ByteArray) : Prop := ∃ v, cs = [v] ∧ v = .string s
set_option maxRecDepth 100000 in
theorem openStrs {H : Type} {enc : TypeId × Value → H} {W : World} {r : Reach} {b0 : Nat} {v : Value} {d : DataW H} {ps : List MemPlace} (hval : Value.okWide Try.prog W r b0 51 v) (h : DataW.Trod enc Try.prog W 0 (fun _ => true) true 51 v d ps)
    (hb : Rows.uptoBulk d ≤ 1048576) : ∃ ls : List ByteArray, Strs.StrSl W v ls := by
  obtain ⟨A, cap, ls, rfl, h1, h2, h3, h4, h5⟩ := open_rows (R := StR) (sz := fun s : ByteArray => s.size) (k := 1) Try.underlying51 cells9 (by omega) (fun n cs x hx hb => by
    obtain ⟨s, e, rfl, _⟩ := DataW.trod_string Try.underlying9 hx
    refine ⟨s, ⟨_, e, rfl⟩, ?_⟩
    simp only [Rows.uptoBulk, Array.length_toList]
    have : s.data.size = s.size := rfl
    omega) hval h hb
  obtain ⟨xs, h6, h7⟩ := rows_src (Q := fun v s => v = .string s) (fun cs a h => h) h4
  refine ⟨ls, A, cap, rfl, h1, h2, by omega, h3, ?_⟩
  have hx : xs = ls.map Value.string := by
    apply List.ext_getElem?
    intro i
    by_cases hi : i < ls.length
    · obtain ⟨v, g1, g2⟩ := h7 i hi
      rw [g1, g2]
      simp [hi]
    · rw [List.getElem?_eq_none (by have := h6.1; omega), List.getElem?_eq_none (by simp; omega)]
  rw [← hx]
  exact h6
end Go.Proofs.Ytnaakhnmbckpmaa.Data
