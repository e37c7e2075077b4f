/- Contract: whimbrelref03.Compare of a term and itself. -/
import Derived.Test.YtnaakhnmbckpmaaRefM
import Derived.Laws.Cover1
namespace Go.Proofs.Ytnaakhnmbckpmaa.Pats
open Go.ChangeShapes Go.WideShapes Go.ChangeAt Go.RowKit Go.Proofs.Ytnaakhnmbckpmaa.Lift Go.Proofs.Ytnaakhnmbckpmaa.Data Go.Proofs.Ytnaakhnmbckpmaa.Refs
set_option linter.unusedVariables false
set_option linter.unusedSimpArgs false
theorem bytesLess_self : ∀ (l : List UInt8), Op.bytesLess l l = false
  | [] => by simp [Op.bytesLess]
  | a :: r => by simp [Op.bytesLess, bytesLess_self r]
theorem heap2' (w : World) (o : Obj) (cur : Array Value) (t : TypeId) : ((w.alloc (.cells cur t)).alloc o).heap[w.heap.size]? = some (.cells cur t (0, 0)) := by
  rw [heap_alloc_old _ o (by simp)]
  exact heap_alloc_new w _
theorem orderSelf_any (w : World) (a : Int) : Calls Try.prog 60 #[.int .i64 a, .int .i64 a] w (fun e w' => e = .returned (.int .i64 0) ∧ w' = w) := by
  have h : ¬ a < a := by omega
  go_enter Try.func60, Try.ntmps60
  go_wp2_with fail
  go_ret
  exact ⟨rfl, rfl⟩
def CmpRel (W2 : World) (len : Nat) (i : Value) (wr : World) : Prop := ∃ (j : Nat), i = .int .i64 j ∧ j ≤ len ∧ Below W2.heap.size W2 wr
set_option maxRecDepth 100000 in
set_option maxHeartbeats 4000000 in
theorem cmpSelf_any (N : Nat) (w0 : World) : ∀ (t : Tm) (w : World) (v u : Value), t.size ≤ N → t.Val w0 v → t.Val w0 u → Below w0.heap.size w0 w →
    Calls Try.prog 34 #[v, u] w (fun e w' => e = .returned (.int .i64 0) ∧ Below w.heap.size w w') := by
  induction N with
  | zero => intro t w v u h; cases t; rw [Tm.size] at h; omega
  | succ N ih =>
  intro t w v u hN hv hu hb0
  cases t with
  | mk k s n ys =>
  obtain ⟨A, cap, rfl, hd, hs⟩ := hv
  obtain ⟨A', capb, rfl, he, hs2⟩ := hu
  rw [Tm.size_mk] at hN
  have hb2 := below2 w (.cells #[.int .i64 k, .string s, .int .i64 n, .slice A ys.length cap] 29) (.cells #[.int .i64 k, .string s, .int .i64 n, .slice A' ys.length capb] 29)
  have hO := fun W a => Lib.hid (orderSelf_any W a)
  obtain ⟨hd1, hd2, hd3, hd4⟩ := hd
  have hless := bytesLess_self s.toList
  go_enter Try.func34, Try.ntmps34
  go_wp2_with (go_at_call 60; refine (hO _ _).out.mono ?_; rintro e w1 ⟨rfl, rfl⟩)
  obtain ⟨W2, hW2⟩ : ∃ W2, W2 = ((w.alloc (.cells #[.int .i64 k, .string s, .int .i64 n, .slice A ys.length cap] 29)).alloc (.cells #[.int .i64 k, .string s, .int .i64 n, .slice A' ys.length capb] 29)) := ⟨_, rfl⟩
  have hbx1 := heap2' w (.cells #[.int .i64 k, .string s, .int .i64 n, .slice A' ys.length capb] 29) #[.int .i64 k, .string s, .int .i64 n, .slice A ys.length cap] 29
  have hbx2 := heap2 w (.cells #[.int .i64 k, .string s, .int .i64 n, .slice A ys.length cap] 29) #[.int .i64 k, .string s, .int .i64 n, .slice A' ys.length capb] 29
  have hz5 : W2.heap.size = w.heap.size + 2 := by rw [hW2]; simp
  rw [← hW2] at hb2 hbx1 hbx2 ⊢
  have hbW2 := hb0.trans (hb2.mono hb0.size)
  clear hW2
  go_loopw [49] (fun i wr => CmpRel W2 ys.length i wr) (fun i _ => ys.length - (intOf i).toNat)
  case atStart => exact ⟨0, rfl, Nat.zero_le _, Below.refl _ _⟩
  case round =>
    obtain ⟨j, rfl, hj, hb⟩ := hrel
    have hb01 := hbW2.trans (hb.mono hbW2.size)
    have g1 := (row4 ((hb.block _ (by omega)).trans hbx1)).2.2.2
    have g2 := (row4 ((hb.block _ (by omega)).trans hbx2)).2.2.2
    have hz6 := hb.size
    have hzw : w.heap.size < wr.heap.size := by omega
    have hzw2 : w.heap.size + 1 < wr.heap.size := by omega
    by_cases hlt : j < ys.length
    · obtain ⟨b, o, rfl, hat⟩ := hs.get j hlt
      obtain ⟨b', o', rfl, hat2⟩ := hs2.get j hlt
      have hz := TmSize_get hlt
      generalize ys[j] = y at *
      have HI := fun v u => Lib.hid (fun hv hu => ih y wr.drew v u (by omega) hv hu hb01.drew)
      cases y with
      | mk k' s' n' ys' =>
      obtain ⟨A1, cap1, c0, c1, c2, c3, hv'⟩ := Tm.At.both hat hb01 (Nat.le_refl _)
      obtain ⟨A2, cap2, d0, d1, d2, d3, hu'⟩ := Tm.At.both hat2 hb01 (Nat.le_refl _)
      have hbl : b < wr.heap.size := World.block_lt_of_cell? _ _ c0
      have hbl2 : b' < wr.heap.size := World.block_lt_of_cell? _ _ d0
      have HC := Lib.hid ((HI _ _).out hv' hu')
      clear HI hat hat2 hs hs2 ih hbx1 hbx2 hO
      go_wp2_with fail
      go_region_held3 (fun w' => w'.cell? ⟨b, o + j * 4, none⟩ = some (.int .i64 k') ∧ w'.cell? ⟨b, o + j * 4 + 1, none⟩ = some (.string s') ∧ w'.cell? ⟨b, o + j * 4 + 2, none⟩ = some (.int .i64 n') ∧ w'.cell? ⟨b, o + j * 4 + 3, none⟩ = some (.slice A1 ys'.length cap1) ∧ w'.cell? ⟨b', o' + j * 4, none⟩ = some (.int .i64 k') ∧ w'.cell? ⟨b', o' + j * 4 + 1, none⟩ = some (.string s') ∧ w'.cell? ⟨b', o' + j * 4 + 2, none⟩ = some (.int .i64 n') ∧ w'.cell? ⟨b', o' + j * 4 + 3, none⟩ = some (.slice A2 ys'.length cap2) ∧ w'.cell? ⟨w.heap.size, 3, none⟩ = some (.slice (some ⟨b, o, none⟩) ys.length cap) ∧ w'.cell? ⟨w.heap.size + 1, 3, none⟩ = some (.slice (some ⟨b', o', none⟩) ys.length capb))
        (first | go_keep | exact ⟨c0, c1, c2, c3, d0, d1, d2, d3, g1, g2⟩ | exact ⟨k0, k1, k2, k3, k4, k5, k6, k7, k8, k9⟩)
        ((go_at_call 34; refine HC.out.mono ?_; rintro e w3 ⟨rfl, hb6⟩; have hbW : Below wr.heap.size wr w3 := ((Below.refl _ _).drew).trans hb6; have k0 := (hbW.cell (p := ⟨b, o + j * 4, none⟩) hbl).trans c0; have k1 := (hbW.cell (p := ⟨b, o + j * 4 + 1, none⟩) hbl).trans c1; have k2 := (hbW.cell (p := ⟨b, o + j * 4 + 2, none⟩) hbl).trans c2; have k3 := (hbW.cell (p := ⟨b, o + j * 4 + 3, none⟩) hbl).trans c3; have k4 := (hbW.cell (p := ⟨b', o' + j * 4, none⟩) hbl2).trans d0; have k5 := (hbW.cell (p := ⟨b', o' + j * 4 + 1, none⟩) hbl2).trans d1; have k6 := (hbW.cell (p := ⟨b', o' + j * 4 + 2, none⟩) hbl2).trans d2; have k7 := (hbW.cell (p := ⟨b', o' + j * 4 + 3, none⟩) hbl2).trans d3; have k8 := (hbW.cell (p := ⟨w.heap.size, 3, none⟩) hzw).trans g1; have k9 := (hbW.cell (p := ⟨w.heap.size + 1, 3, none⟩) hzw2).trans g2))
      go_wp2_with fail
      exact ⟨⟨j + 1, by go_num, by omega, hb.thenCall hb.size hbW⟩, by simp [intOf]; omega⟩
    · go_wp2_with fail
      go_ret
      exact ⟨rfl, hb2.trans (hb.mono hb2.size)⟩
end Go.Proofs.Ytnaakhnmbckpmaa.Pats
