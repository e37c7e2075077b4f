/- Contract: whimbrellaw15.same. -/
import Derived.Test.YtnaakhnmbckpmaaCmp
namespace Go.Proofs.Ytnaakhnmbckpmaa.Pats
open Go.ChangeShapes Go.WideShapes Go.ChangeAt Go.RowKit Go.Proofs.Ytnaakhnmbckpmaa.Lift Go.Proofs.Ytnaakhnmbckpmaa.Data Go.Proofs.Ytnaakhnmbckpmaa.Refs
set_option linter.unusedVariables false
set_option linter.unusedSimpArgs false
theorem BdCells.get {w : World} : ∀ {es : List Bd} {xs : List Value}, BdCells w es xs → ∀ (j : Nat) (h : j < es.length), ∃ c, xs[j * 5]? = some (.string (es[j]).1) ∧ (es[j]).2.Cs w c ∧ ∀ i, i < 4 → xs[j * 5 + (i + 1)]? = c[i]?
  | [], _, _, _, h => by simp at h
  | e :: r, xs, hc, 0, h => by
    rw [BdCells] at hc
    obtain ⟨c, rest, rfl, h1, h2⟩ := hc
    refine ⟨c, by simp, h1, fun i hi => ?_⟩
    rw [Nat.zero_mul, Nat.zero_add, List.getElem?_cons_succ, List.getElem?_append_left (by rw [h1.len]; exact hi)]
  | e :: r, xs, hc, j + 1, h => by
    rw [BdCells] at hc
    obtain ⟨c, rest, rfl, h1, h2⟩ := hc
    obtain ⟨c', g1, g2, g3⟩ := BdCells.get h2 j (by simpa using h)
    have hl := h1.len
    have hx : ∀ k, (Value.string e.1 :: (c ++ rest))[(j + 1) * 5 + k]? = rest[j * 5 + k]? := by
      intro k
      rw [show (j + 1) * 5 + k = (j * 5 + k + 4) + 1 by omega, List.getElem?_cons_succ, List.getElem?_append_right (by omega)]
      congr 1
      omega
    refine ⟨c', ?_, g2, fun i hi => ?_⟩
    · have := hx 0
      simp only [Nat.add_zero] at this
      rw [this]
      simpa using g1
    · rw [hx]
      exact g3 i hi
/-- an entry of an owned row of what is bound. -/
theorem bdRow {w0 w : World} {B E n cap : Nat} {A : Option Addr} {l : List Bd} {xs : List Value} (h : w.ownsRow B E 5 (.slice A n cap) n xs) (hc : BdCells w0 l xs) (hn : n = l.length) (j : Nat) (hj : j < l.length) :
    ∃ g A1 cap1, A = some ⟨g, 0, none⟩ ∧ w.cell? ⟨g, j * 5, none⟩ = some (.string (l[j]).1) ∧ w.cell? ⟨g, j * 5 + 1, none⟩ = some (.int .i64 (l[j]).2.k) ∧ w.cell? ⟨g, j * 5 + 2, none⟩ = some (.string (l[j]).2.s) ∧
      w.cell? ⟨g, j * 5 + 3, none⟩ = some (.int .i64 (l[j]).2.n) ∧ w.cell? ⟨g, j * 5 + 4, none⟩ = some (.slice A1 (l[j]).2.ys.length cap1) ∧
      (l[j]).2.Val w0 (.agg #[.int .i64 (l[j]).2.k, .string (l[j]).2.s, .int .i64 (l[j]).2.n, .slice A1 (l[j]).2.ys.length cap1]) := by
  obtain ⟨c, h1, h2, h3⟩ := hc.get j hj
  have hs := Src.of_own h
  rcases hs.2 with h0 | ⟨g, o, rfl, hcell⟩
  · omega
  rcases h.2 with ⟨h0, h00⟩ | ⟨g', cap', cur, h0, _⟩
  · cases h0
  injection h0 with h0
  injection h0 with h0
  injection h0 with h01 h02
  subst h01 h02
  generalize l[j] = y at *
  obtain ⟨nm, t⟩ := y
  cases t with
  | mk k s n ys =>
  have h2c := h2
  rw [Tm.Cs] at h2
  obtain ⟨A1, cap1, rfl, hh, hr⟩ := h2
  refine ⟨g, A1, cap1, rfl, ?_, ?_, ?_, ?_, ?_, h2c.val⟩
  · have := hcell _ _ h1; rwa [Nat.zero_add] at this
  · have := hcell _ _ ((h3 0 (by omega)).trans rfl); rwa [Nat.zero_add] at this
  · have := hcell _ _ ((h3 1 (by omega)).trans rfl); rwa [Nat.zero_add] at this
  · have := hcell _ _ ((h3 2 (by omega)).trans rfl); rwa [Nat.zero_add] at this
  · have := hcell _ _ ((h3 3 (by omega)).trans rfl); rwa [Nat.zero_add] at this
def SameRel (W2 : World) (len : Nat) (i : Value) (wr : World) : Prop := ∃ (j : Nat), i = .int .i64 j ∧ j ≤ len ∧ Below W2.heap.size W2 wr
set_option maxRecDepth 100000 in
set_option maxHeartbeats 4000000 in
theorem sameBd_any (w0 : World) (l : List Bd) (w : World) (Ba Bb n m capa capb : Nat) (A A' : Option Addr) (xs xs2 : List Value) (ha : w.ownsRow Ba 64 5 (.slice A n capa) n xs) (hca : BdCells w0 l xs) (hn : n = l.length)
    (hb : w.ownsRow Bb 86 5 (.slice A' m capb) m xs2) (hcb : BdCells w0 l xs2) (hm : m = l.length) (hl : l.length ≤ 1048576) (hb0 : Below w0.heap.size w0 w) :
    Calls Try.prog 17 #[.slice A n capa, .slice A' m capb] w (fun e w' => e = .returned (.bool true) ∧ Below w.heap.size w w') := by
  subst hn hm
  go_enter Try.func17, Try.ntmps17
  go_wp2_with fail
  go_loopw [13] (fun i wr => SameRel w l.length i wr) (fun i _ => l.length - (intOf i).toNat)
  case atStart => exact ⟨0, rfl, Nat.zero_le _, Below.refl _ _⟩
  case round =>
    obtain ⟨j, rfl, hj, hbr⟩ := hrel
    have hb01 := hb0.trans (hbr.mono hb0.size)
    by_cases hlt : j < l.length
    · obtain ⟨g, A1, cap1, rfl, c0, c1, c2, c3, c4, hv'⟩ := bdRow (own_below ha hbr (Nat.le_refl _)) hca rfl j hlt
      obtain ⟨g', A2, cap2, rfl, d0, d1, d2, d3, d4, hu'⟩ := bdRow (own_below hb hbr (Nat.le_refl _)) hcb rfl j hlt
      generalize l[j] = y at *
      obtain ⟨nm, t⟩ := y
      cases t with
      | mk k' s' n' ys' =>
      dsimp only [Tm.k, Tm.s, Tm.n, Tm.ys] at *
      have hbl : g < wr.heap.size := World.block_lt_of_cell? _ _ c0
      have hbl2 : g' < wr.heap.size := World.block_lt_of_cell? _ _ d0
      have HC := Lib.hid (cmpSelf_any (Tm.mk k' s' n' ys').size w0 (Tm.mk k' s' n' ys') wr.drew _ _ (Nat.le_refl _) hv' hu' hb01.drew)
      clear ha hb hca hcb
      go_wp2_with fail
      go_region_held3 (fun w' => w'.cell? ⟨g, j * 5, none⟩ = some (.string nm) ∧ w'.cell? ⟨g, j * 5 + 1, none⟩ = some (.int .i64 k') ∧ w'.cell? ⟨g, j * 5 + 2, none⟩ = some (.string s') ∧ w'.cell? ⟨g, j * 5 + 3, none⟩ = some (.int .i64 n') ∧ w'.cell? ⟨g, j * 5 + 4, none⟩ = some (.slice A1 ys'.length cap1) ∧ w'.cell? ⟨g', j * 5, none⟩ = some (.string nm) ∧ w'.cell? ⟨g', j * 5 + 1, none⟩ = some (.int .i64 k') ∧ w'.cell? ⟨g', j * 5 + 2, none⟩ = some (.string s') ∧ w'.cell? ⟨g', j * 5 + 3, none⟩ = some (.int .i64 n') ∧ w'.cell? ⟨g', j * 5 + 4, none⟩ = some (.slice A2 ys'.length cap2))
        (first | go_keep | exact ⟨c0, c1, c2, c3, c4, d0, d1, d2, d3, d4⟩ | exact ⟨k0, k1, k2, k3, k4, k5, k6, k7, k8, k9⟩)
        ((go_at_call 34; refine HC.out.mono ?_; rintro e w3 ⟨rfl, hb6⟩; have hbW : Below wr.heap.size wr w3 := ((Below.refl _ _).drew).trans hb6; have k0 := (hbW.cell (p := ⟨g, j * 5, none⟩) hbl).trans c0; have k1 := (hbW.cell (p := ⟨g, j * 5 + 1, none⟩) hbl).trans c1; have k2 := (hbW.cell (p := ⟨g, j * 5 + 2, none⟩) hbl).trans c2; have k3 := (hbW.cell (p := ⟨g, j * 5 + 3, none⟩) hbl).trans c3; have k4 := (hbW.cell (p := ⟨g, j * 5 + 4, none⟩) hbl).trans c4; have k5 := (hbW.cell (p := ⟨g', j * 5, none⟩) hbl2).trans d0; have k6 := (hbW.cell (p := ⟨g', j * 5 + 1, none⟩) hbl2).trans d1; have k7 := (hbW.cell (p := ⟨g', j * 5 + 2, none⟩) hbl2).trans d2; have k8 := (hbW.cell (p := ⟨g', j * 5 + 3, none⟩) hbl2).trans d3; have k9 := (hbW.cell (p := ⟨g', j * 5 + 4, none⟩) hbl2).trans d4; skip))
      go_wp2_with fail
      exact ⟨⟨j + 1, by go_num, by omega, hbr.thenCall hbr.size hbW⟩, by simp [intOf]; omega⟩
    · go_wp2_with fail
      go_ret
      exact ⟨rfl, hbr⟩
end Go.Proofs.Ytnaakhnmbckpmaa.Pats
