/- Contract: whimbrellaw15.awake. -/
import Derived.Test.YtnaakhnmbckpmaaSameB
import Derived.Test.YtnaakhnmbckpmaaRefA
namespace Go.Proofs.Ytnaakhnmbckpmaa.Pats
open Go.ChangeShapes Go.WideShapes Go.ChangeAt Go.RowKit Go.Proofs.Ytnaakhnmbckpmaa.Lift Go.Proofs.Ytnaakhnmbckpmaa.Data Go.Proofs.Ytnaakhnmbckpmaa.Refs
set_option linter.unusedVariables false
set_option linter.unusedSimpArgs false
def awX : Ex := .mk 4 ⟨#[]⟩ 0 [.mk 2 ⟨#[83]⟩ 0 [] 0 0, .mk 1 ⟨#[120]⟩ 0 [] 0 0] 0 0
def awT : Tm := .mk 1 ⟨#[83]⟩ 0 [.mk 1 ⟨#[90]⟩ 0 []]
theorem awM : matchS awX awT = some [(⟨#[120]⟩, .mk 1 ⟨#[90]⟩ 0 [])] := by
  simp [awX, awT, matchS, allS, Ex.k, Ex.s, Tm.k, Tm.s, Tm.ys]
theorem awX_size : awX.size = 3 := by simp [awX, Ex.size, ExSize]
theorem exCs_leaf (w : World) (k : Int) (s : ByteArray) (n l c : Int) : (Ex.mk k s n [] l c).Cs w [.int .i64 k, .string s, .int .i64 n, .slice none 0 0, .int .i64 l, .int .i64 c] :=
  ⟨none, 0, rfl, ⟨Nat.le_refl _, by omega, by simp, fun _ => rfl⟩, .inl rfl⟩
theorem tmCs_leaf (w : World) (k : Int) (s : ByteArray) (n : Int) : (Tm.mk k s n []).Cs w [.int .i64 k, .string s, .int .i64 n, .slice none 0 0] :=
  ⟨none, 0, rfl, ⟨Nat.le_refl _, by omega, by simp, fun _ => rfl⟩, .inl rfl⟩
theorem awX_val (w : World) (o2 o3 : Obj) : awX.Val (((w.alloc (.cells #[.int .i64 2, .string ⟨#[83]⟩, .int .i64 0, .slice none 0 0, .int .i64 0, .int .i64 0, .int .i64 1, .string ⟨#[120]⟩, .int .i64 0, .slice none 0 0, .int .i64 0, .int .i64 0] 26)).alloc o2).alloc o3) (.agg #[.int .i64 4, .string ⟨#[]⟩, .int .i64 0, .slice (some ⟨w.heap.size, 0, none⟩) 2 2, .int .i64 0, .int .i64 0]) := by
  have h : Ex.Sl (w.alloc (.cells #[.int .i64 2, .string ⟨#[83]⟩, .int .i64 0, .slice none 0 0, .int .i64 0, .int .i64 0, .int .i64 1, .string ⟨#[120]⟩, .int .i64 0, .slice none 0 0, .int .i64 0, .int .i64 0] 26)) (.slice (some ⟨w.heap.size, 0, none⟩) 2 2) [.mk 2 ⟨#[83]⟩ 0 [] 0 0, .mk 1 ⟨#[120]⟩ 0 [] 0 0] := by
    refine Ex.Sl.of_own (own_new w 26 6 2 _ rfl (by omega)) ?_ (by simp)
    rw [ExCells]
    exact ⟨_, _, rfl, exCs_leaf _ _ _ _ _ _, ExCells.single (exCs_leaf _ _ _ _ _ _)⟩
  obtain ⟨A, cap, e, hh, hr⟩ := (h.alloc o2).alloc o3
  injection e with e1 e2 e3
  subst e1 e3
  exact ⟨_, _, rfl, hh, hr⟩
theorem awT_val (w : World) (o1 o2 : Obj) : awT.Val (((w.alloc o1).alloc o2).alloc (.cells #[.int .i64 1, .string ⟨#[90]⟩, .int .i64 0, .slice none 0 0] 29)) (.agg #[.int .i64 1, .string ⟨#[83]⟩, .int .i64 0, .slice (some ⟨w.heap.size + 1 + 1, 0, none⟩) 1 1]) := by
  have h : Tm.Sl (((w.alloc o1).alloc o2).alloc (.cells #[.int .i64 1, .string ⟨#[90]⟩, .int .i64 0, .slice none 0 0] 29)) (.slice (some ⟨((w.alloc o1).alloc o2).heap.size, 0, none⟩) 1 1) [.mk 1 ⟨#[90]⟩ 0 []] := by
    refine Tm.Sl.of_own (own_new ((w.alloc o1).alloc o2) 29 4 1 _ rfl (by omega)) ?_ (by simp)
    exact TmCells.single (tmCs_leaf _ _ _ _)
  rw [World.size_alloc, World.size_alloc] at h
  obtain ⟨A, cap, e, hh, hr⟩ := h
  injection e with e1 e2 e3
  subst e1 e3
  exact ⟨_, _, rfl, hh, hr⟩
set_option maxRecDepth 100000 in
set_option maxHeartbeats 4000000 in
theorem awake15_any (w : World) : Calls Try.prog 10 #[] w (fun e w' => e = .returned (.bool true) ∧ Below w.heap.size w w') := by
  have hX := awX_val w (.cells #[.int .i64 4, .string ⟨#[]⟩, .int .i64 0, .slice (some ⟨w.heap.size, 0, none⟩) 2 2, .int .i64 0, .int .i64 0] 26) (.cells #[.int .i64 1, .string ⟨#[90]⟩, .int .i64 0, .slice none 0 0] 29)
  have hT := awT_val w (.cells #[.int .i64 2, .string ⟨#[83]⟩, .int .i64 0, .slice none 0 0, .int .i64 0, .int .i64 0, .int .i64 1, .string ⟨#[120]⟩, .int .i64 0, .slice none 0 0, .int .i64 0, .int .i64 0] 26) (.cells #[.int .i64 4, .string ⟨#[]⟩, .int .i64 0, .slice (some ⟨w.heap.size, 0, none⟩) 2 2, .int .i64 0, .int .i64 0] 26)
  obtain ⟨W, hW⟩ : ∃ W, W = (((w.alloc (.cells #[.int .i64 2, .string ⟨#[83]⟩, .int .i64 0, .slice none 0 0, .int .i64 0, .int .i64 0, .int .i64 1, .string ⟨#[120]⟩, .int .i64 0, .slice none 0 0, .int .i64 0, .int .i64 0] 26)).alloc (.cells #[.int .i64 4, .string ⟨#[]⟩, .int .i64 0, .slice (some ⟨w.heap.size, 0, none⟩) 2 2, .int .i64 0, .int .i64 0] 26)).alloc (.cells #[.int .i64 1, .string ⟨#[90]⟩, .int .i64 0, .slice none 0 0] 29)) := ⟨_, rfl⟩
  have hbW : Below w.heap.size w W := by rw [hW]; exact (below2 w _ _).alloc (by simp; omega) _
  have hWs : w.heap.size + 1 < W.heap.size := by rw [hW]; simp
  rw [← hW] at hX hT
  have HC := Lib.hid ((both_any W awX.size).1 W awX awT W _ _ (Nat.le_refl _) (by rw [awX_size]; omega) hX hT (Below.refl _ _) (Below.refl _ _))
  have HW := Lib.hid hW
  clear hW hX hT
  go_enter Try.func10, Try.ntmps10
  go_wp2_with fail
  rw [← HW.out]
  refine HC.out.mono ?_
  rw [awM]
  rintro e w1 ⟨A, n, cap, b, xs, rfl, hown, hb, rfl, rfl, hcells⟩
  obtain ⟨g, A1, cap1, rfl, c0, c1, c2, c3, c4, hv'⟩ := bdRow hown hcells rfl 0 (by simp)
  simp only [List.getElem_cons_zero, Nat.zero_mul, Nat.zero_add, Tm.k, Tm.s, Tm.n, Tm.ys] at c0 c1 c2 c3 c4
  have hbl : g < w1.heap.size := World.block_lt_of_cell? _ _ c0
  rw [List.length_singleton] at *
  go_wp2_with fail
  go_ret
  exact ⟨rfl, hbW.trans (hb.mono hbW.size)⟩
end Go.Proofs.Ytnaakhnmbckpmaa.Pats
