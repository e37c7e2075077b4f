/- Contract: pats.Term. -/
import Derived.Test.YtnaakhnmbckpmaaTermsW
namespace Go.Proofs.Ytnaakhnmbckpmaa.Pats
open Go.ChangeShapes Go.WideShapes Go.ChangeAt Go.RowKit Go.Proofs.Ytnaakhnmbckpmaa.Lift Go.Proofs.Ytnaakhnmbckpmaa.Data Go.Proofs.Ytnaakhnmbckpmaa.Refs
set_option linter.unusedVariables false
set_option linter.unusedSimpArgs false
theorem exCells_one {w : World} {e : Ex} {c : List Value} (h : e.Cs w c) : ExCells w [e] c := by
  rw [ExCells]
  exact ⟨c, [], by simp, h, by rw [ExCells]⟩
def TermRes (p : Ex) (w : World) (e : Ending) (w' : World) : Prop := ∃ v, e = .returned v ∧ (termS p 0).1.Val w' v ∧ Below w.heap.size w w'
set_option maxRecDepth 100000 in
set_option maxHeartbeats 4000000 in
theorem term_any (we : World) (p : Ex) (w : World) (v : Value) (hx : p.size ≤ 1048576) (hv : p.Val we v) (h0 : Below we.heap.size we w) : Calls Try.prog 30 #[v] w (TermRes p w) := by
  have hS : ExSize [p] = p.size := by simp [ExSize]
  have hT : termsS [p] 0 = ([(termS p 0).1], (termS p 0).2) := by simp [termsS]
  have HI := fun W u => Lib.hid (fun hv hb => terms_any (p.size + 1) W [p] 0 W u (by omega) (by omega) hv hb)
  generalize hq : termS p 0 = q at *
  obtain ⟨t, nx⟩ := q
  have HQ := Lib.hid hq
  clear hq
  cases p with
  | mk k s n ys l c =>
  cases t with
  | mk k2 s2 n2 ys2 =>
  obtain ⟨A, cap, rfl, hd, hs⟩ := hv
  have hcs := fun o1 o2 o3 => (show (Ex.mk k s n ys l c).Cs we [.int .i64 k, .string s, .int .i64 n, .slice A ys.length cap, .int .i64 l, .int .i64 c] from ⟨A, cap, rfl, hd, hs⟩).below (((h0.alloc h0.size o1).alloc (((h0.alloc h0.size o1)).size) o2).alloc ((h0.alloc h0.size o1).alloc (((h0.alloc h0.size o1)).size) o2).size o3) (Nat.le_refl _)
  have hsl := fun o1 o2 => Ex.Sl.of_own (own_new3 w o1 o2 26 6 1 #[.int .i64 k, .string s, .int .i64 n, .slice A ys.length cap, .int .i64 l, .int .i64 c] rfl (by omega)) (exCells_one (hcs o1 o2 _)) (by simp)
  have HI2 := fun o1 o2 => Lib.hid ((HI _ _).out (hsl o1 o2) (Below.refl _ _))
  clear HI hsl hcs
  go_enter Try.func30, Try.ntmps30
  go_wp2_with fail
  refine ((HI2 _ _).out).mono ?_
  rintro e w1 ⟨A1, cap1, xs1, rfl, hown1, hcells1, hb1⟩
  rw [hT] at hcells1
  simp only [List.length_cons, List.length_nil] at hown1 hcells1
  have hms := tms_part (ts := [.mk k2 s2 n2 ys2]) rfl hown1 hcells1
  obtain ⟨b, o, rfl, hat⟩ := hms.get 0 (by simp)
  simp only [Nat.zero_mul, Nat.add_zero, List.getElem_cons_zero] at hat
  obtain ⟨A', cap', c0, c1, c2, c3, hv'⟩ := Tm.At.open_ hat
  have d0 := sub_part_of _ _ _ _ _ c0
  have d1 := sub_part_of _ _ _ _ _ c1
  have d2 := sub_part_of _ _ _ _ _ c2
  have d3 := sub_part_of _ _ _ _ _ c3
  have hz := hb1.size
  simp only [World.size_alloc] at hz
  have hf0 : w1.heap[w.heap.size + 1]? = some (.cells #[.int .i64 0, .string ⟨#[]⟩, .int .i64 0, .slice none 0 0] 29 (0, 0)) := by
    rw [hb1.block _ (by simp)]
    rw [heap_alloc_old _ _ (by simp)]
    have := heap_alloc_new (w.alloc (.cells #[.int .i64 k, .string s, .int .i64 n, .slice A ys.length cap, .int .i64 l, .int .i64 c] 26)) (.cells #[.int .i64 0, .string ⟨#[]⟩, .int .i64 0, .slice none 0 0] 29)
    rw [World.size_alloc] at this
    exact this
  obtain ⟨q0, q1, q2, q3, z0, z1, z2, z3⟩ := row4f hf0
  have hbl : w.heap.size + 1 < b := by
    have h1 := c0
    rw [part_cell] at h1
    split at h1
    · rename_i hfr
      have := (frm_iff.1 hfr).1
      simp only [World.size_alloc] at this
      omega
    · cases h1
  have hne1 : ¬ w.heap.size + 1 = b := by omega
  have hne2 : ¬ b = w.heap.size + 1 := by omega
  have hbw : Below w.heap.size w w1 := (((Below.refl _ _).alloc (Nat.le_refl _) _).alloc (by simp) _).alloc (by simp; omega) _ |>.trans (hb1.mono (by simp; omega))
  clear c0 c1 c2 c3 hown1 hcells1 hms hat
  go_wp2_with fail
  refine bodyPost_ret (v := .agg #[.int .i64 k2, .string s2, .int .i64 n2, .slice A' ys2.length cap']) (by simp [results, Try.results30, go_sem, q0, q1, q2, q3]) rfl ⟨_, rfl, ?_, ?_⟩
  · rw [HQ.out]
    refine hv'.sub (Sub.trans (sub_part fun b' hb' hs' => ⟨hs', ?_⟩) (sub_part_of _ (frm (((w.alloc (.cells #[.int .i64 k, .string s, .int .i64 n, .slice A ys.length cap, .int .i64 l, .int .i64 c] 26)).alloc (.cells #[.int .i64 0, .string ⟨#[]⟩, .int .i64 0, .slice none 0 0] 29)).alloc (.cells #[.int .i64 k, .string s, .int .i64 n, .slice A ys.length cap, .int .i64 l, .int .i64 c] 26)).heap.size none)))
    have := (frm_iff.1 hs').1
    simp only [World.size_alloc] at this
    iterate 4 rw [Below.heap_setCell _ _ _ _ (by simp only; omega)]
  · iterate 4 refine Below.setCell ?_ (by simp only; omega) _
    exact hbw
end Go.Proofs.Ytnaakhnmbckpmaa.Pats
