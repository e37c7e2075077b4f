/- Slices of ints; the law's deeds as they came in. -/
import Derived.Test.YthjcanjhpdpibaaWhere
import Derived.Test.YthjcanjhpdpibaaRowsIn
import Derived.Lib.Hide
import Derived.Deep.RegionLawGrows
namespace Go.Proofs.Ythjcanjhpdpibaa.Sl
open Go.ChangeShapes Go.WideShapes Go.ChangeAt Go.RowKit Go.Proofs.Ythjcanjhpdpibaa.Lift
set_option linter.unusedVariables false
set_option linter.unusedSimpArgs false
/-- a list of numbers, as a slice's header tells. -/
def InSl (w : World) (A : Option Addr) (cap : Nat) (l : List Int) : Prop := IntsAt w A l ∧ l.length ≤ cap ∧ cap ≤ 9223372036854775807 ∧ l.length ≤ 4194304 ∧ (A = none → cap = 0)
theorem InSl.below {w w' : World} {B cap : Nat} {A : Option Addr} {l : List Int} (h : InSl w A cap l) (hb : Below B w w') (hB : w.heap.size ≤ B) : InSl w' A cap l := ⟨h.1.below hb hB, h.2⟩
theorem ints_src {w : World} {A : Option Addr} {l : List Int} (h : IntsAt w A l) : Src w 1 A l.length (l.map (Value.int .i64)) := by
  refine ⟨by simp, ?_⟩
  rcases Nat.eq_zero_or_pos l.length with h0 | h0
  · exact .inl h0
  · obtain ⟨b, o, e, _, _⟩ := h 0 h0
    refine .inr ⟨b, o, e, fun j u hu => ?_⟩
    have hj := (List.getElem?_eq_some_iff.1 hu).1
    rw [List.length_map] at hj
    obtain ⟨b', o', e', _, hc⟩ := h j hj
    rw [e] at e'
    injection e' with e'
    injection e' with e1 e2
    subst e1 e2
    rw [List.getElem?_map, List.getElem?_eq_getElem hj] at hu
    injection hu with hu
    rw [hc, ← hu]
    simp [List.getD, List.getElem?_eq_getElem hj]
/-- a row of integers of one's own. -/
def OwnR (w : World) (B : Nat) (A : Option Addr) (cap : Nat) (l : List Int) : Prop := w.ownsRow B 3 1 (.slice A l.length cap) l.length (l.map (Value.int .i64))
theorem OwnR.ints {w : World} {B cap : Nat} {A : Option Addr} {l : List Int} (h : OwnR w B A cap l) : IntsAt w A l := fun j hj => by
  rcases h.2 with ⟨_, h0⟩ | ⟨g, cap2, cur, hv, h2, h3, h4, h5, h6, h7⟩
  · omega
  · injection hv with e1 e2 e3
    subst e1 e3
    refine ⟨g, 0, rfl, (Array.getElem?_eq_some_iff.1 h3).1, ?_⟩
    have := World.ownsRow.cellAt h j (by omega)
    rw [Nat.zero_add, this, List.getElem?_map, List.getElem?_eq_getElem hj]
    simp [List.getD, List.getElem?_eq_getElem hj]
theorem OwnR.insl {w : World} {B cap : Nat} {A : Option Addr} {l : List Int} (h : OwnR w B A cap l) (hm : l.length ≤ 4194304) : InSl w A cap l := by
  obtain ⟨A', cap', e, e1, e2⟩ := own_form h
  injection e with e3 e4 e5
  subst e3 e5
  exact ⟨h.ints, e1, e2, hm, own_cap h⟩
theorem info3' : (Try.prog.info? 3).map (fun i => (i.zero, i.size, i.bytes)) = some (some (.int .i64 0), 1, 8) := by kernel_rfl
theorem ints_one (l : List Int) : ∀ u ∈ l.map (Value.int .i64), u.oneCell' = true := fun u hu => by
  obtain ⟨z, _, rfl⟩ := List.mem_map.1 hu
  rfl
theorem holds_of {w : World} {A : Option Addr} {l : List Int} (h : IntsAt w A l) : ∀ b, A = some b → ∀ j u, (l.map (Value.int .i64))[j]? = some u → w.cell? (b.add j) = some u := by
  intro b hb j u hu
  have hs := ints_src h
  have hj := (List.getElem?_eq_some_iff.1 hu).1
  rw [List.length_map] at hj
  obtain ⟨b', o', e, _, hc⟩ := h j hj
  rw [hb] at e
  injection e with e
  subst e
  rw [hb] at hs
  exact hs.cells j u hu
theorem srcD (w : World) (n : Int) : Src (w.alloc (.cells #[.int .i64 n] 3)).drew 1 (some ⟨w.heap.size, 0, none⟩) 1 [.int .i64 n] := Src.of_own (own_new w 3 1 1 #[.int .i64 n] rfl (by omega))
theorem cells3 : Try.prog.cellsOf 3 = 1 := by kernel_rfl
theorem cells41 : Try.prog.cellsOf 41 = 2 := by kernel_rfl
theorem bulk_lits {H : Type} (k : IntKind) : ∀ zs : List Int, zs.length ≤ Rows.uptoBulkAll (H := H) (lits k zs)
  | [] => by simp
  | z :: r => by
    have := bulk_lits (H := H) k r
    have e : Rows.uptoBulkAll (H := H) (lits k (z :: r)) = Rows.uptoBulk (H := H) (.lit (.int k z)) + Rows.uptoBulkAll (lits k r) := rfl
    have : 1 ≤ Rows.uptoBulk (H := H) (.lit (.int k z)) := by simp [Rows.uptoBulk]
    simp only [List.length_cons]
    omega
set_option maxRecDepth 100000 in
theorem openB_arg {H : Type} {enc : TypeId × Value → H} {W : World} {r : Reach} {b0 : Nat} {v : Value} {d : DataW H} {ps : List MemPlace} (hval : Value.okWide Try.prog W r b0 22 v) (h : DataW.Trod enc Try.prog W 0 (fun _ => true) true 22 v d ps) (hb : Rows.uptoBulk d ≤ 1048576) :
    ∃ (A : Option Addr) (cap : Nat) (l : List Int), v = .slice A l.length cap ∧ InSl W A cap l := by
  obtain ⟨a0, len0, cap0, rfl⟩ := okWide_slice Try.underlying22 hval
  obtain ⟨fuel, hf⟩ := h
  obtain ⟨x, hx⟩ : ∃ x : DataW H × List MemPlace, x = (d, ps) := ⟨_, rfl⟩
  rw [← hx] at hf
  obtain rfl : d = x.1 := by rw [hx]
  clear hx
  rcases open_ints Try.underlying22 Try.underlying3 cells3 hf with ⟨h1, rfl⟩ | ⟨a, len, cap, zs, h1, h2, h3, h4, h5, rfl, h7, h8⟩
  · simp [Value.cells] at h1
    obtain ⟨rfl, rfl, rfl⟩ := h1
    exact ⟨none, 0, [], rfl, fun k hk => by simp at hk, Nat.le_refl _, by omega, by simp, fun _ => rfl⟩
  · simp [Value.cells] at h1
    obtain ⟨rfl, rfl, rfl⟩ := h1
    simp only [if_true] at h5
    unfold maxLen at h4
    have h9 := bulk_lits (H := H) .i64 (zs.take len0)
    simp only [Rows.uptoBulk] at hb
    have hl : (zs.take len0).length = len0 := by rw [List.length_take]; omega
    rw [hl] at h9
    have hg : ∀ k, k < len0 → (zs.take len0).getD k 0 = zs.getD k 0 := by
      intro k hk
      simp [List.getD, List.getElem?_take, hk]
    refine ⟨some a, cap0, zs.take len0, by rw [hl], fun k hk => ?_, by omega, by omega, by omega, (fun h => by cases h)⟩
    have h0 : 0 < zs.length := by omega
    obtain ⟨b, o, rfl, hcell⟩ := ints_at h7 h0
    refine ⟨b, o, rfl, World.block_lt_of_cell? W _ (hcell 0 h0), ?_⟩
    rw [hl] at hk
    rw [hg k hk]
    exact hcell k (by omega)
/-- a deed: what it is, and with which number. -/
def DeedR (cs : List Value) (d : Int × Int) : Prop := cs = [.int .i64 d.1, .int .i64 d.2]
set_option maxRecDepth 100000 in
theorem openDeed_cs {H : Type} {enc : TypeId × Value → H} {W : World} (n : Nat) (cs : List Value) (x : DataW H × List MemPlace) (h : DataW.trod enc Try.prog W 0 (fun _ => true) true n 41 cs = some x) :
    ∃ d : Int × Int, DeedR cs d ∧ 0 + 1 ≤ Rows.uptoBulk x.1 := by
  obtain ⟨xs, n', rfl, rfl, hl, hlen, hf⟩ := DataW.trod_struct Try.underlying41 h
  rw [cells41] at hl
  match cs, hl, xs, hlen with
  | [c0, c1], _, [y0, y1], _ =>
  have f0 : DataW.trod enc Try.prog W 0 _ true n' 3 (([c0, c1].drop 0).take (Try.prog.cellsOf 3)) = some y0 := hf 0 _ rfl
  have f1 : DataW.trod enc Try.prog W 0 _ true n' 3 (([c0, c1].drop 1).take (Try.prog.cellsOf 3)) = some y1 := hf 1 _ rfl
  obtain ⟨a, e0, rfl, w0⟩ := DataW.trod_int Try.underlying3 f0
  obtain ⟨b, e1, rfl, w1⟩ := DataW.trod_int Try.underlying3 f1
  rw [cells3] at e0 e1
  simp at e0 e1
  subst e0 e1
  exact ⟨(a, b), rfl, by simp only [Rows.uptoBulk]; omega⟩
set_option maxRecDepth 100000 in
theorem openDeed_sl {H : Type} {enc : TypeId × Value → H} {W : World} {r : Reach} {b0 : Nat} {v : Value} {d : DataW H} {ps : List MemPlace} (hval : Value.okWide Try.prog W r b0 39 v) (h : DataW.Trod enc Try.prog W 0 (fun _ => true) true 39 v d ps) (hb : Rows.uptoBulk d ≤ 1048576) :
    ∃ (A : Option Addr) (cap : Nat) (l : List (Int × Int)), v = .slice A l.length cap ∧ Lift.RowsIn DeedR W 2 A l ∧ l.length ≤ 1048576 := by
  obtain ⟨A, cap, l, rfl, h1, h2, h3, h4, h5⟩ := open_rows (sz := fun _ => 0) Try.underlying39 cells41 (by omega) (fun n cs x hx _ => openDeed_cs n cs x hx) hval h hb
  exact ⟨A, cap, l, rfl, h4, by omega⟩
end Go.Proofs.Ythjcanjhpdpibaa.Sl
