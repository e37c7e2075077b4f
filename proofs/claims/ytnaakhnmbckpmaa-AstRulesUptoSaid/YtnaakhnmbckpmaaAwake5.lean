/- Contract: chapter 5's example. -/
import Derived.Test.YtnaakhnmbckpmaaFree
import Derived.Test.YtnaakhnmbckpmaaSize
namespace Go.Proofs.Ytnaakhnmbckpmaa.Strs
open Go.ChangeShapes Go.WideShapes Go.ChangeAt Go.RowKit Go.Proofs.Ytnaakhnmbckpmaa.Lift Go.Proofs.Ytnaakhnmbckpmaa.Data
set_option linter.unusedVariables false
set_option linter.unusedSimpArgs false
def awE : Ex := .mk 7 ⟨#[120]⟩ 0 [.mk 1 ⟨#[121]⟩ 0 [] 0 0, .mk 1 ⟨#[120]⟩ 0 [] 0 0] 0 0
theorem awE_free : freeS awE [] [] = [⟨#[121]⟩] := by
  have h : ¬ (⟨#[120]⟩ : ByteArray).toList = (⟨#[121]⟩ : ByteArray).toList := by decide +kernel
  simp [awE, freeS, freeSs, bndS, memS, withS, h]
theorem awE_size : awE.size = 3 := by simp [awE, Ex.size, ExSize]
theorem awE_val (W : World) (g : Nat) (h : W.heap[g]? = some (.cells #[.int .i64 1, .string ⟨#[121]⟩, .int .i64 0, .slice none 0 0, .int .i64 0, .int .i64 0, .int .i64 1, .string ⟨#[120]⟩, .int .i64 0, .slice none 0 0, .int .i64 0, .int .i64 0] 26 (0, 0))) :
    awE.Val W (.agg #[.int .i64 7, .string ⟨#[120]⟩, .int .i64 0, .slice (some ⟨g, 0, none⟩) 2 2, .int .i64 0, .int .i64 0]) := by
  refine ⟨some ⟨g, 0, none⟩, 2, rfl, ⟨by simp, by omega, by simp, fun h => by cases h⟩, .inr ⟨g, 0, rfl, ?_⟩⟩
  have hd : ExHd none ([] : List Ex).length 0 := ⟨by simp, by omega, by simp, fun _ => rfl⟩
  refine ExCells.row (xs := [.int .i64 1, .string ⟨#[121]⟩, .int .i64 0, .slice none 0 0, .int .i64 0, .int .i64 0] ++ ([.int .i64 1, .string ⟨#[120]⟩, .int .i64 0, .slice none 0 0, .int .i64 0, .int .i64 0] ++ [])) ?_ ?_
  · rw [ExCells]
    refine ⟨_, _, rfl, ⟨none, 0, rfl, hd, .inl rfl⟩, ?_⟩
    rw [ExCells]
    refine ⟨_, _, rfl, ⟨none, 0, rfl, hd, .inl rfl⟩, by rw [ExCells]⟩
  · intro j u hu
    have hj : j < 12 := by have := (List.getElem?_eq_some_iff.1 hu).1; simpa using this
    simp only [World.cell?, h, Nat.zero_add]
    match j, hj, hu with
    | 0, _, hu => simpa using hu
    | 1, _, hu => simpa using hu
    | 2, _, hu => simpa using hu
    | 3, _, hu => simpa using hu
    | 4, _, hu => simpa using hu
    | 5, _, hu => simpa using hu
    | 6, _, hu => simpa using hu
    | 7, _, hu => simpa using hu
    | 8, _, hu => simpa using hu
    | 9, _, hu => simpa using hu
    | 10, _, hu => simpa using hu
    | 11, _, hu => simpa using hu
set_option maxRecDepth 100000 in
set_option maxHeartbeats 1000000 in
theorem awake5_any (w : World) : Calls Try.prog 20 #[] w (fun e w' => e = .returned (.bool true) ∧ Below w.heap.size w w') := by
  go_enter Try.func20, Try.ntmps20
  go_wp2_with fail
  obtain ⟨W, hW⟩ : ∃ W, W = ((((w.alloc (.cells #[.int .i64 1, .string ⟨#[120]⟩, .int .i64 0, .slice none 0 0, .int .i64 0, .int .i64 0] 26)).alloc (.cells #[.int .i64 1, .string ⟨#[121]⟩, .int .i64 0, .slice none 0 0, .int .i64 0, .int .i64 0] 26)).alloc (.cells #[.int .i64 1, .string ⟨#[121]⟩, .int .i64 0, .slice none 0 0, .int .i64 0, .int .i64 0, .int .i64 1, .string ⟨#[120]⟩, .int .i64 0, .slice none 0 0, .int .i64 0, .int .i64 0] 26)).alloc (.cells #[.int .i64 7, .string ⟨#[120]⟩, .int .i64 0, .slice (some ⟨w.heap.size + 2, 0, none⟩) 2 2, .int .i64 0, .int .i64 0] 26)) := ⟨_, rfl⟩
  have hWs : W.heap.size = w.heap.size + 4 := by rw [hW]; simp
  have hbW : Below w.heap.size w W := by rw [hW]; exact ((((Below.refl _ _).alloc (Nat.le_refl _) _).alloc (by simp) _).alloc (by simp; omega) _).alloc (by simp; omega) _
  have hg : W.heap[w.heap.size + 2]? = some (.cells #[.int .i64 1, .string ⟨#[121]⟩, .int .i64 0, .slice none 0 0, .int .i64 0, .int .i64 0, .int .i64 1, .string ⟨#[120]⟩, .int .i64 0, .slice none 0 0, .int .i64 0, .int .i64 0] 26 (0, 0)) := by
    rw [hW, Below.heap_alloc _ _ _ (by simp)]
    have h := heap_alloc_new ((w.alloc (.cells #[.int .i64 1, .string ⟨#[120]⟩, .int .i64 0, .slice none 0 0, .int .i64 0, .int .i64 0] 26)).alloc (.cells #[.int .i64 1, .string ⟨#[121]⟩, .int .i64 0, .slice none 0 0, .int .i64 0, .int .i64 0] 26)) (.cells #[.int .i64 1, .string ⟨#[121]⟩, .int .i64 0, .slice none 0 0, .int .i64 0, .int .i64 0, .int .i64 1, .string ⟨#[120]⟩, .int .i64 0, .slice none 0 0, .int .i64 0, .int .i64 0] 26)
    rw [World.size_alloc, World.size_alloc] at h
    exact h
  have hg3 : W.heap[w.heap.size + 3]? = some (.cells #[.int .i64 7, .string ⟨#[120]⟩, .int .i64 0, .slice (some ⟨w.heap.size + 2, 0, none⟩) 2 2, .int .i64 0, .int .i64 0] 26 (0, 0)) := by
    rw [hW]
    have h := heap_alloc_new (((w.alloc (.cells #[.int .i64 1, .string ⟨#[120]⟩, .int .i64 0, .slice none 0 0, .int .i64 0, .int .i64 0] 26)).alloc (.cells #[.int .i64 1, .string ⟨#[121]⟩, .int .i64 0, .slice none 0 0, .int .i64 0, .int .i64 0] 26)).alloc (.cells #[.int .i64 1, .string ⟨#[121]⟩, .int .i64 0, .slice none 0 0, .int .i64 0, .int .i64 0, .int .i64 1, .string ⟨#[120]⟩, .int .i64 0, .slice none 0 0, .int .i64 0, .int .i64 0] 26)) (.cells #[.int .i64 7, .string ⟨#[120]⟩, .int .i64 0, .slice (some ⟨w.heap.size + 2, 0, none⟩) 2 2, .int .i64 0, .int .i64 0] 26)
    rw [World.size_alloc, World.size_alloc, World.size_alloc] at h
    exact h
  rw [← hW]
  clear hW
  have hv := awE_val W _ hg
  refine (Free_any W awE W _ hv (Below.refl _ _) (by rw [awE_size]; omega)).mono ?_
  rw [awE_free]
  rintro e w1 ⟨v1, rfl, ho1, hb1⟩
  have hx1 := (hb1.block _ (by omega)).trans hg3
  have hT := Lib.hid (texts_any (w1.alloc (.cells #[.string ⟨#[121]⟩] 9)) [⟨#[121]⟩] v1 (.slice (some ⟨w1.heap.size, 0, none⟩) 1 1) ((StrSl.of_own ho1 (by simp)).below ((Below.refl _ _).alloc (Nat.le_refl _) _) (Nat.le_refl _)) (StrSl.of_own (own_new w1 9 1 1 #[.string ⟨#[121]⟩] rfl (by omega)) (by simp)))
  go_wp2_with fail
  refine hT.out.mono ?_
  rintro e w2 ⟨rfl, hb2⟩
  have hb2' := Below.call1 hb2
  have hx2 := (hb2'.block _ (Array.getElem?_eq_some_iff.1 hx1).1).trans hx1
  have hbW2 := hb1.thenCall hb1.size hb2'
  have hz2 : w.heap.size + 3 < w2.heap.size := (Array.getElem?_eq_some_iff.1 hx2).1
  have c0 : w2.cell? ⟨w.heap.size + 3, 0, none⟩ = some (.int .i64 7) := by simp [World.cell?, hx2]
  have c1 : w2.cell? ⟨w.heap.size + 3, 1, none⟩ = some (.string ⟨#[120]⟩) := by simp [World.cell?, hx2]
  have c2 : w2.cell? ⟨w.heap.size + 3, 2, none⟩ = some (.int .i64 0) := by simp [World.cell?, hx2]
  have c3 : w2.cell? ⟨w.heap.size + 3, 3, none⟩ = some (.slice (some ⟨w.heap.size + 2, 0, none⟩) 2 2) := by simp [World.cell?, hx2]
  have c4 : w2.cell? ⟨w.heap.size + 3, 4, none⟩ = some (.int .i64 0) := by simp [World.cell?, hx2]
  have c5 : w2.cell? ⟨w.heap.size + 3, 5, none⟩ = some (.int .i64 0) := by simp [World.cell?, hx2]
  have hS := Lib.hid (size_any _ W awE w2 _ (Nat.le_refl _) (by rw [awE_size]; omega) hv hbW2)
  rw [awE_size] at hS
  go_wp2_with (go_at_call 27; refine hS.out.mono ?_; rintro e w3 ⟨rfl, hb3⟩)
  go_ret
  exact ⟨rfl, hbW.thenCall hbW.size (hbW2.thenCall hbW2.size hb3)⟩
end Go.Proofs.Ytnaakhnmbckpmaa.Strs
