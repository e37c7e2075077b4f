/- Deeds that came in: their numbers are numbers of 64 bits. -/
import Derived.Test.YtccknhhjkkbadaaOpenN
namespace Go.Proofs.Ytccknhhjkkbadaa.Gr
open Go.ChangeShapes Go.WideShapes Go.ChangeAt Go.RowKit Go.Proofs.Ytccknhhjkkbadaa.Lift Go.Proofs.Ytccknhhjkkbadaa.Arn Go.Proofs.Ytccknhhjkkbadaa.ArnN
set_option linter.unusedVariables false
set_option linter.unusedSimpArgs false
def W64 (n : Int) : Prop := (Lit.int .i64 n).wf = true
def W64s (n : Int) (l : List Int) : Prop := W64 n ∧ ∀ a ∈ l, W64 a
set_option maxRecDepth 100000 in
theorem openInts2_cs {H : Type} {enc : TypeId × Value → H} {W : World} (n : Nat) (cs : List Value) (x : DataW H × List MemPlace) (h : DataW.trod enc Try.prog W 0 (fun _ => true) true n 41 cs = some x) (hb : Rows.uptoBulk x.1 ≤ 1048576) :
    ∃ (A : Option Addr) (cap : Nat) (l : List Int), cs = [.slice A l.length cap] ∧ IntsAt W A l ∧ l.length ≤ 1048576 ∧ (A = none → cap = 0) ∧ l.length + 1 ≤ Rows.uptoBulk x.1 ∧ ∀ a ∈ l, W64 a := by
  rcases open_ints Try.underlying41 Try.underlying3 cells3 h with ⟨rfl, rfl⟩ | ⟨a, len, cap, zs, rfl, h2, h3, h4, h5, rfl, h7, h8⟩
  · exact ⟨none, 0, [], rfl, fun k hk => by simp at hk, by simp, fun _ => rfl, by simp [Rows.uptoBulk], fun a h => by simp at h⟩
  · simp only [if_true] at h5
    have h9 := bulk_lits (H := H) .i64 (zs.take len)
    simp only [Rows.uptoBulk] at hb ⊢
    have hl : (zs.take len).length = len := by rw [List.length_take]; omega
    rw [hl] at h9
    have hg : ∀ k, k < len → (zs.take len).getD k 0 = zs.getD k 0 := by
      intro k hk
      simp [List.getD, List.getElem?_take, hk]
    refine ⟨some a, cap, zs.take len, by rw [hl], fun k hk => ?_, by omega, (fun h => by cases h), by omega, fun n hn => h8 n (List.mem_of_mem_take hn)⟩
    have h0 : 0 < zs.length := by omega
    obtain ⟨b, o, rfl, hcell⟩ := ints_at h7 h0
    refine ⟨b, o, rfl, World.block_lt_of_cell? W _ (hcell 0 h0), ?_⟩
    rw [hl] at hk
    rw [hg k hk]
    exact hcell k (by omega)
set_option maxRecDepth 100000 in
theorem openNd2_cs {H : Type} {enc : TypeId × Value → H} {W : World} (n : Nat) (cs : List Value) (x : DataW H × List MemPlace) (h : DataW.trod enc Try.prog W 0 (fun _ => true) true n 43 cs = some x) (hb : Rows.uptoBulk x.1 ≤ 1048576) :
    ∃ (p : Nd) (l : List Int), cs = [.int .i64 p.k, .int .i64 p.n, .slice p.A p.len p.cap] ∧ Args W p l ∧ l.length + 1 ≤ Rows.uptoBulk x.1 ∧ W64s p.n l := by
  obtain ⟨xs, n', rfl, rfl, hl, hlen, hf⟩ := DataW.trod_struct Try.underlying43 h
  rw [cells43] at hl
  match cs, hl, xs, hlen with
  | [c0, c1, c2], _, [y0, y1, y2], _ =>
  have f0 : DataW.trod enc Try.prog W 0 _ true n' 3 (([c0, c1, c2].drop 0).take (Try.prog.cellsOf 3)) = some y0 := hf 0 _ rfl
  have f1 : DataW.trod enc Try.prog W 0 _ true n' 3 (([c0, c1, c2].drop 1).take (Try.prog.cellsOf 3)) = some y1 := hf 1 _ rfl
  have f2 : DataW.trod enc Try.prog W 0 _ true n' 41 (([c0, c1, c2].drop 2).take (Try.prog.cellsOf 41)) = some y2 := hf 2 _ rfl
  simp only [List.map_cons, List.map_nil, Rows.uptoBulk, Rows.uptoBulkAll] at hb ⊢
  obtain ⟨a, e0, rfl, w0⟩ := DataW.trod_int Try.underlying3 f0
  obtain ⟨b, e1, rfl, w1⟩ := DataW.trod_int Try.underlying3 f1
  obtain ⟨A, cap, l, e2, h1, h2, h3, h4, h5⟩ := openInts2_cs _ _ _ f2 (by omega)
  rw [cells3] at e0 e1
  rw [cells41] at e2
  simp at e0 e1 e2
  subst e0 e1 e2
  exact ⟨⟨a, b, A, l.length, cap⟩, l, rfl, ⟨rfl, h1, h2, h3⟩, by omega, w1, h5⟩
set_option maxRecDepth 100000 in
theorem openDd2_cs {H : Type} {enc : TypeId × Value → H} {W : World} (n : Nat) (cs : List Value) (x : DataW H × List MemPlace) (h : DataW.trod enc Try.prog W 0 (fun _ => true) true n 46 cs = some x) (hb : Rows.uptoBulk x.1 ≤ 1048576) :
    ∃ d : Dd, (DdR W cs d ∧ W64s d.x.n d.l) ∧ 0 + 1 ≤ Rows.uptoBulk x.1 := by
  obtain ⟨xs, n', rfl, rfl, hl, hlen, hf⟩ := DataW.trod_struct Try.underlying46 h
  rw [cells46] at hl
  match cs, hl, xs, hlen with
  | [c0, c1, c2, c3, c4], _, [y0, y1, y2], _ =>
  have f0 : DataW.trod enc Try.prog W 0 _ true n' 3 (([c0, c1, c2, c3, c4].drop 0).take (Try.prog.cellsOf 3)) = some y0 := hf 0 _ rfl
  have f1 : DataW.trod enc Try.prog W 0 _ true n' 3 (([c0, c1, c2, c3, c4].drop 1).take (Try.prog.cellsOf 3)) = some y1 := hf 1 _ rfl
  have f2 : DataW.trod enc Try.prog W 0 _ true n' 43 (([c0, c1, c2, c3, c4].drop 2).take (Try.prog.cellsOf 43)) = some y2 := hf 2 _ rfl
  simp only [List.map_cons, List.map_nil, Rows.uptoBulk, Rows.uptoBulkAll] at hb ⊢
  obtain ⟨a, e0, rfl, w0⟩ := DataW.trod_int Try.underlying3 f0
  obtain ⟨b, e1, rfl, w1⟩ := DataW.trod_int Try.underlying3 f1
  obtain ⟨p, l, e2, h1, h2, h3⟩ := openNd2_cs _ _ _ f2 (by omega)
  rw [cells3] at e0 e1
  rw [cells43] at e2
  simp at e0 e1 e2
  obtain ⟨e2, e3, e4⟩ := e2
  subst e0 e1 e2 e3 e4
  exact ⟨⟨a, b, p, l⟩, ⟨⟨rfl, w1, h1⟩, h3⟩, by omega⟩
set_option maxRecDepth 100000 in
theorem openDd2_sl {H : Type} {enc : TypeId × Value → H} {W : World} {r : Reach} {b0 : Nat} {v : Value} {d : DataW H} {ps : List MemPlace} (hval : Value.okWide Try.prog W r b0 40 v) (h : DataW.Trod enc Try.prog W 0 (fun _ => true) true 40 v d ps) (hb : Rows.uptoBulk d ≤ 1048576) :
    ∃ (A : Option Addr) (cap : Nat) (l : List Dd), v = .slice A l.length cap ∧ Lift.RowsIn (DdR W) W 5 A l ∧ l.length ≤ 1048576 ∧ ∀ d ∈ l, W64s d.x.n d.l := by
  obtain ⟨A, cap, l, rfl, h1, h2, h3, h4, h5⟩ := open_rows (R := fun cs d => DdR W cs d ∧ W64s d.x.n d.l) (sz := fun _ => 0) Try.underlying40 cells46 (by omega) (fun n cs x hx hb => openDd2_cs n cs x hx hb) hval h hb
  refine ⟨A, cap, l, rfl, fun i hi => ?_, by omega, fun d hd => ?_⟩
  · obtain ⟨b, o, cs, a1, a2, a3, a4⟩ := h4 i hi
    exact ⟨b, o, cs, a1, a2, a3.1, a4⟩
  · obtain ⟨i, hi, rfl⟩ := List.getElem_of_mem hd
    obtain ⟨b, o, cs, a1, a2, a3, a4⟩ := h4 i hi
    exact a3.2
end Go.Proofs.Ytccknhhjkkbadaa.Gr
