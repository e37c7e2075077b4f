/- A slice of integers that came in: its cells. -/
import Derived.Test.YtnaakhnmbckpmaaLift
namespace Go.Proofs.Ytnaakhnmbckpmaa.Lift
open Go.ChangeShapes Go.WideShapes Go.ChangeAt Go.RowKit
set_option linter.unusedVariables false
set_option linter.unusedSimpArgs false

/-- the cells of a slice of numbers that came in. -/
def IntsAt (w : World) (a : Option Addr) (zs : List Int) : Prop := ∀ k, k < zs.length → ∃ b o, a = some ⟨b, o, none⟩ ∧ b < w.heap.size ∧ w.cell? ⟨b, o + k, none⟩ = some (.int .i64 (zs.getD k 0))
theorem IntsAt.below {w w' : World} {a : Option Addr} {zs : List Int} {B : Nat} (h : IntsAt w a zs) (hb : Below B w w') (hB : w.heap.size ≤ B) : IntsAt w' a zs := by
  intro k hk
  obtain ⟨b, o, e, hl, hc⟩ := h k hk
  exact ⟨b, o, e, Nat.lt_of_lt_of_le hl hb.size, (hb.cell (p := ⟨b, o + k, none⟩) (by simp only; omega)).trans hc⟩

theorem ints_arg {H : Type} {enc : TypeId × Value → H} {P : Program} {W : World} {t e b0 : Nat} {r : Reach} {v : Value} {d : DataW H} {ps : List MemPlace} (ht : P.underlying t = some (.slice e)) (he : P.underlying e = some (.int .i64)) (hc : P.cellsOf e = 1)
    (hval : Value.okWide P W r b0 t v) (h : DataW.Trod enc P W 0 (fun _ => true) true t v d ps) :
    ∃ (a : Option Addr) (cap : Nat) (zs : List Int), v = .slice a zs.length cap ∧ IntsAt W a zs ∧ zs.length ≤ 9223372036854775807 ∧ (∀ n ∈ zs, (Lit.int .i64 n).wf = true) := by
  obtain ⟨a0, len0, cap0, rfl⟩ := okWide_slice ht hval
  obtain ⟨fuel, hf⟩ := h
  rcases open_ints ht he hc hf with ⟨h1, -⟩ | ⟨a, len, cap, zs, h1, h2, h3, h4, h5, h6, h7, h8⟩
  · simp [Value.cells] at h1
    obtain ⟨rfl, rfl, rfl⟩ := h1
    exact ⟨none, 0, [], rfl, fun k hk => by simp at hk, by simp, fun n hn => by simp at hn⟩
  · simp [Value.cells] at h1
    obtain ⟨rfl, rfl, rfl⟩ := h1
    simp only [if_true] at h5
    unfold maxLen at h4
    have hl : (zs.take len0).length = len0 := by rw [List.length_take]; omega
    have hg : ∀ k, k < len0 → (zs.take len0).getD k 0 = zs.getD k 0 := by
      intro k hk
      simp [List.getD, List.getElem?_take, hk]
    rcases Nat.eq_zero_or_pos zs.length with h0 | h0
    · have : zs = [] := List.eq_nil_of_length_eq_zero h0
      subst this
      simp at h5
      subst h5
      obtain rfl : len0 = 0 := by omega
      exact ⟨some a, 0, [], rfl, fun k hk => by simp at hk, by simp, fun n hn => by simp at hn⟩
    · obtain ⟨b, o, rfl, hcell⟩ := ints_at h7 h0
      refine ⟨some ⟨b, o, none⟩, cap0, zs.take len0, by rw [hl], fun k hk => ⟨b, o, rfl, ?_, ?_⟩, by omega, fun n hn => h8 n (List.mem_of_mem_take hn)⟩
      · exact World.block_lt_of_cell? W _ (hcell 0 h0)
      · rw [hl] at hk
        rw [hg k hk]
        exact hcell k (by omega)
end Go.Proofs.Ytnaakhnmbckpmaa.Lift
