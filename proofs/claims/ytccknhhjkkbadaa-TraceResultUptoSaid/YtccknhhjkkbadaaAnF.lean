/- Answers: how they lie in memory; the contract: whether answers are few (whatever it says). -/
import Derived.Test.YtccknhhjkkbadaaTmF
import Derived.Test.YtccknhhjkkbadaaRowsIn
import Derived.Test.YtccknhhjkkbadaaWhere
import Derived.Deep.RegionHeld3
namespace Go.Proofs.Ytccknhhjkkbadaa.Tmr
open Go.ChangeShapes Go.WideShapes Go.ChangeAt Go.RowKit Go.Proofs.Ytccknhhjkkbadaa.Lift Go.Proofs.Ytccknhhjkkbadaa.Data
set_option linter.unusedVariables false
set_option linter.unusedSimpArgs false
/-- an answer: what variables are, and its value. -/
structure An where
  binds : List Tm
  k : Int
  s : ByteArray
  n : Int
  ys : List Tm
def An.v (a : An) : Tm := .mk a.k a.s a.n a.ys
def An.size (a : An) : Nat := TmSize a.binds + a.v.size
def AnR (W : World) (cs : List Value) (a : An) : Prop := ∃ A cap A' cap', cs = [.slice A a.binds.length cap, .int .i64 a.k, .string a.s, .int .i64 a.n, .slice A' a.ys.length cap'] ∧ TmHd A a.binds.length cap ∧ Tms W A a.binds ∧ TmHd A' a.ys.length cap' ∧ Tms W A' a.ys
theorem TmSize_snoc : ∀ (a : List Tm) (b : Tm), TmSize (a ++ [b]) = TmSize a + b.size
  | [], b => by simp [TmSize]
  | x :: r, b => by rw [List.cons_append, TmSize, TmSize, TmSize_snoc r b]; omega
theorem cells5A {w : World} {g : Nat} {v0 v1 v2 v3 v4 : Value} {t : TypeId} (h : w.heap[g]? = some (.cells #[v0, v1, v2, v3, v4] t (0, 0))) :
    w.cell? ⟨g, 0, none⟩ = some v0 ∧ w.cell? ⟨g, 1, none⟩ = some v1 ∧ w.cell? ⟨g, 2, none⟩ = some v2 ∧ w.cell? ⟨g, 3, none⟩ = some v3 ∧ w.cell? ⟨g, 4, none⟩ = some v4 := by
  refine ⟨?_, ?_, ?_, ?_, ?_⟩ <;> simp [World.cell?, h]
/-- the cells of a slice of answers, one by one. -/
theorem an_cells {W w : World} {A : Option Addr} {an : List An} (h : Lift.RowsIn (AnR W) W 5 A an) (hb : Below W.heap.size W w) {j : Nat} (hj : j < an.length) :
    ∃ b o A1 c1 A2 c2, A = some ⟨b, o, none⟩ ∧ b < W.heap.size ∧ w.cell? ⟨b, o + j * 5, none⟩ = some (.slice A1 an[j].binds.length c1) ∧ w.cell? ⟨b, o + j * 5 + 1, none⟩ = some (.int .i64 an[j].k) ∧ w.cell? ⟨b, o + j * 5 + 2, none⟩ = some (.string an[j].s) ∧
      w.cell? ⟨b, o + j * 5 + 3, none⟩ = some (.int .i64 an[j].n) ∧ w.cell? ⟨b, o + j * 5 + 4, none⟩ = some (.slice A2 an[j].ys.length c2) ∧ TmHd A1 an[j].binds.length c1 ∧ Tms W A1 an[j].binds ∧ TmHd A2 an[j].ys.length c2 ∧ Tms W A2 an[j].ys := by
  obtain ⟨b, o, cs, e, hl, ⟨A1, c1, A2, c2, rfl, h1, h2, h3, h4⟩, -, hc⟩ := h j hj
  have hh := fun i u hu => (hb.cell (p := ⟨b, o + j * 5 + i, none⟩) hl).trans (hc i u hu)
  exact ⟨b, o, A1, c1, A2, c2, e, hl, hh 0 _ rfl, hh 1 _ rfl, hh 2 _ rfl, hh 3 _ rfl, hh 4 _ rfl, h1, h2, h3, h4⟩
theorem below1T (w : World) (o : Obj) : Below w.heap.size w (w.alloc o) := (Below.refl _ _).alloc (Nat.le_refl _) o
theorem src_v (w : World) (k : Int) (s : ByteArray) (n : Int) (v : Value) : Lift.Src (w.alloc (.cells #[.int .i64 k, .string s, .int .i64 n, v] 71)) 4 (some ⟨w.heap.size, 0, none⟩) 1 [.int .i64 k, .string s, .int .i64 n, v] := Lift.Src.of_own (own_new w 71 4 1 #[.int .i64 k, .string s, .int .i64 n, v] rfl (by omega))
theorem src_vd (w : World) (k : Int) (s : ByteArray) (n : Int) (v : Value) : Lift.Src (w.alloc (.cells #[.int .i64 k, .string s, .int .i64 n, v] 71)).drew 4 (some ⟨w.heap.size, 0, none⟩) 1 [.int .i64 k, .string s, .int .i64 n, v] := src_v w k s n v
set_option maxRecDepth 100000 in
set_option maxHeartbeats 4000000 in
theorem few30_any (w0 : World) (A : Option Addr) (cap : Nat) (an : List An) (w : World) (hR : Lift.RowsIn (AnR w0) w0 5 A an) (hm : ∀ a ∈ an, a.size ≤ 1048575) (hl : an.length ≤ 1048576) (h0 : Below w0.heap.size w0 w) :
    Calls Try.prog 40 #[.slice A an.length cap] w fun r w' => ∃ b, r = .returned (.bool b) ∧ Below w.heap.size w w' := by
  obtain ⟨i0, hi0, hz0, hz1, hz2⟩ := info_parts info71
  go_enter Try.func40, Try.ntmps40
  go_wp2_with fail
  go_loopw [7] (fun i wr => ∃ j : Nat, i = .int .i64 j ∧ j ≤ an.length ∧ Below w.heap.size w wr) (fun i _ => an.length - (intOf i).toNat)
  case atStart => exact ⟨0, rfl, Nat.zero_le _, Below.refl _ _⟩
  case round =>
    obtain ⟨j, rfl, hj, hb⟩ := hrel
    by_cases hlt : j < an.length
    · have hb0 := h0.trans (hb.mono h0.size)
      obtain ⟨b, o, A1, c1, A2, c2, rfl, hbl, x0, x1, x2, x3, x4, h1, h2, h3, h4⟩ := an_cells hR hb0 hlt
      have hsz := hm an[j] (List.getElem_mem hlt)
      unfold An.size An.v at hsz
      generalize an[j] = a at *
      obtain ⟨bs, k, s, n, ys⟩ := a
      dsimp only at *
      clear hm hR
      go_wp2_with fail
      obtain ⟨V, hV⟩ : ∃ V, V = wr.alloc (.cells #[.slice A1 bs.length c1, .int .i64 k, .string s, .int .i64 n, .slice A2 ys.length c2] 73) := ⟨_, rfl⟩
      have hbV : Below wr.heap.size wr V := by rw [hV]; exact below1T _ _
      have hnV : V.heap[wr.heap.size]? = some (.cells #[.slice A1 bs.length c1, .int .i64 k, .string s, .int .i64 n, .slice A2 ys.length c2] 73 (0, 0)) := by rw [hV]; exact heap_alloc_new wr _
      rw [← hV]
      clear hV x0 x1 x2 x3 x4
      have hbw := hb.thenCall hb.size hbV
      have h0V := hb0.trans (hbV.mono hb0.size)
      have MS : Hid (∀ y, Below V.heap.size V y → (fun w' : World => w'.cell? ⟨wr.heap.size, 0, none⟩ = some (.slice A1 bs.length c1) ∧ w'.cell? ⟨wr.heap.size, 1, none⟩ = some (.int .i64 k) ∧ w'.cell? ⟨wr.heap.size, 2, none⟩ = some (.string s) ∧ w'.cell? ⟨wr.heap.size, 3, none⟩ = some (.int .i64 n) ∧ w'.cell? ⟨wr.heap.size, 4, none⟩ = some (.slice A2 ys.length c2)) y) := Lib.hid (fun y hy =>
        cells5A ((hy.block _ (Array.getElem?_eq_some_iff.1 hnV).1).trans hnV))
      obtain ⟨xs, hsrc, hcs⟩ := h2.cells
      have HSR := fun y (hy : Below V.heap.size V y) => Lib.hid (hsrc.below (h0V.trans (hy.mono h0V.size)) (Nat.le_refl _))
      have hcap1 := h1.2.2.2
      have hone1 := hcs.one
      have hg1 : 0 + bs.length ≤ maxLen := by have := h1.2.2.1; unfold maxLen; omega
      have hg2 : (0 + bs.length) * 56 ≤ 140737488355328 := by have := h1.2.2.1; omega
      have hg3 : bs.length + 1 ≤ maxLen := by have := h1.2.2.1; unfold maxLen; omega
      have hg4 : (bs.length + 1) * 56 ≤ 140737488355328 := by have := h1.2.2.1; omega
      have hone2 : ∀ u ∈ [Value.int .i64 k, .string s, .int .i64 n, .slice A2 ys.length c2], u.oneCell' = true := by simp [Value.oneCell']
      have HF := fun (y : World) (v : Value) (hy : Below V.heap.size V y) (ho : y.ownsRow V.heap.size 71 4 v (bs.length + 1) (xs ++ [.int .i64 k, .string s, .int .i64 n, .slice A2 ys.length c2])) => Lib.hid (by
        have hy0 := h0V.trans (hy.mono h0V.size)
        have hc2 : TmCells y (bs ++ [Tm.mk k s n ys]) (xs ++ [.int .i64 k, .string s, .int .i64 n, .slice A2 ys.length c2]) := (hcs.below hy0 (Nat.le_refl _)).append (TmCells.single ⟨A2, c2, rfl, h3, h4.below hy0 (Nat.le_refl _)⟩)
        have hsl : Tm.Sl y v (bs ++ [Tm.mk k s n ys]) := Tm.Sl.of_own (by simpa using ho) hc2 (by have := h1.2.2.1; have := TmSize_len bs; simp; omega)
        exact fewTm_any y _ y v hsl (by rw [TmSize_snoc]; omega) (Below.refl _ _))
      have hB0 : Below V.heap.size V V.drew := (Below.refl _ _).drew
      have hBA : ∀ o, Below V.heap.size V (V.alloc o).drew := fun o => ((Below.refl _ _).alloc (Nat.le_refl _) o).drew
      have HBW := Lib.hid hbw
      clear hcs hsrc h2 h4 hnV hb0 h0V h0 hbw
      generalize fewTm (bs ++ [Tm.mk k s n ys]) = fb at *
      cases fb
      all_goals
        go_wp2_with fail
        go_region_held3 (fun w' => w'.cell? ⟨wr.heap.size, 0, none⟩ = some (.slice A1 bs.length c1) ∧ w'.cell? ⟨wr.heap.size, 1, none⟩ = some (.int .i64 k) ∧ w'.cell? ⟨wr.heap.size, 2, none⟩ = some (.string s) ∧ w'.cell? ⟨wr.heap.size, 3, none⟩ = some (.int .i64 n) ∧ w'.cell? ⟨wr.heap.size, 4, none⟩ = some (.slice A2 ys.length c2))
          (first | exact MS.out _ hB3 | exact MS.out _ hB2 | exact MS.out _ (hB1.alloc hB1.size _) | exact MS.out _ hB1 | exact MS.out _ (hBA _) | exact MS.out _ (hB0.alloc hB0.size _) | exact MS.out _ hB0)
          (first
           | (refine step_append_where (by rfl) (.const (.slice none 0 0)) (.tmp 12) 69 rfl V.heap.size 71 i0 _ 4 56 Try.underlying69 hi0 hz0 hz1 hz2 rfl (by decide) (.slice none 0 0) 0 [] rfl (World.ownsRow_nil _ _ _ _) A1 bs.length c1 xs rfl (HSR _ hB0).out hcap1 hone1 hg1 hg2 hB0.size ?_; intro v1 y1 hO1 hG1 hf1; have r1 : y1.ownsRow V.heap.size 71 4 v1 bs.length xs := (by simpa using hO1); have hB1 := hB0.trans (below_grown (World.ownsRow_nil V.drew V.heap.size 71 4) hG1 hB0.size))
           | (refine step_append_where (by rfl) (.const (.slice none 0 0)) (.tmp 12) 69 rfl V.heap.size 71 i0 _ 4 56 Try.underlying69 hi0 hz0 hz1 hz2 rfl (by decide) (.slice none 0 0) 0 [] rfl (World.ownsRow_nil _ _ _ _) A1 bs.length c1 xs rfl (HSR _ (hBA _)).out hcap1 hone1 hg1 hg2 (hBA _).size ?_; intro v1 y1 hO1 hG1 hf1; have r1 : y1.ownsRow V.heap.size 71 4 v1 bs.length xs := (by simpa using hO1); have q1 := below_grown (base := (V.alloc (.cells #[.int .i64 k, .string s, .int .i64 n, .slice A2 ys.length c2] 71)).drew.heap.size) (World.ownsRow_nil _ _ 71 4) hG1 (Nat.le_refl _); have hB1 := (hBA (.cells #[.int .i64 k, .string s, .int .i64 n, .slice A2 ys.length c2] 71)).thenCall (hBA _).size q1)
           | (refine step_append_where (by rfl) (.tmp 13) (.tmp 16) 69 rfl V.heap.size 71 i0 _ 4 56 Try.underlying69 hi0 hz0 hz1 hz2 rfl (by decide) v1 bs.length xs rfl (own_below r1 (below1T _ _) (Nat.le_refl _)) (some ⟨y1.heap.size, 0, none⟩) 1 1 [.int .i64 k, .string s, .int .i64 n, .slice A2 ys.length c2] rfl (src_v y1 k s n _) (fun h => nomatch h) hone2 hg3 hg4 (hB1.alloc hB1.size _).size ?_; intro v2 y2 hO2 hG2 hf2; have hB2 := (hB1.alloc hB1.size (.cells #[.int .i64 k, .string s, .int .i64 n, .slice A2 ys.length c2] 71)).trans (below_grown (own_below r1 (below1T _ _) (Nat.le_refl _)) hG2 (hB1.alloc hB1.size _).size))
           | (refine step_append_where (by rfl) (.tmp 13) (.tmp 16) 69 rfl V.heap.size 71 i0 _ 4 56 Try.underlying69 hi0 hz0 hz1 hz2 rfl (by decide) v1 bs.length xs rfl r1 (some ⟨V.heap.size, 0, none⟩) 1 1 [.int .i64 k, .string s, .int .i64 n, .slice A2 ys.length c2] rfl ((src_vd V k s n _).below q1 (Nat.le_refl _)) (fun h => nomatch h) hone2 hg3 hg4 hB1.size ?_; intro v2 y2 hO2 hG2 hf2; have hB2 := hB1.trans (below_grown r1 hG2 hB1.size))
           | (go_at_call 85; ((with_reducible refine (HF _ _ hB2 hO2).out.mono ?_); rintro _ y3 ⟨rfl, q3⟩; have hB3 := hB2.thenCall hB2.size q3)))
        all_goals
          have hbn := HBW.out.thenCall HBW.out.size hB3
          go_wp2_with fail
          first
          | (go_ret; exact ⟨_, rfl, hbn⟩)
          | exact ⟨⟨j + 1, by go_num, by omega, hbn⟩, by simp [intOf]; omega⟩
    · go_wp2_with fail
      go_ret
      exact ⟨_, rfl, hb⟩
end Go.Proofs.Ytccknhhjkkbadaa.Tmr
