/- Nodes and deeds over nodes that came in. -/
import Derived.Test.YtccknhhjkkbadaaMp
import Derived.OpenShut
namespace Go.Proofs.Ytccknhhjkkbadaa.Gr
open Go.ChangeShapes Go.WideShapes Go.ChangeAt Go.RowKit Go.Proofs.Ytccknhhjkkbadaa.Lift Go.Proofs.Ytccknhhjkkbadaa.Arn Go.Proofs.Ytccknhhjkkbadaa.ArnN
set_option linter.unusedVariables false
set_option linter.unusedSimpArgs false
theorem cells3 : Try.prog.cellsOf 3 = 1 := by kernel_rfl
theorem cells41 : Try.prog.cellsOf 41 = 1 := by kernel_rfl
theorem cells43 : Try.prog.cellsOf 43 = 3 := by kernel_rfl
theorem cells46 : Try.prog.cellsOf 46 = 5 := by kernel_rfl
theorem bulk_lits {H : Type} (k : IntKind) : ∀ zs : List Int, zs.length ≤ Rows.uptoBulkAll (H := H) (lits k zs)
  | [] => by simp
  | z :: r => by
    have := bulk_lits (H := H) k r
    have e : Rows.uptoBulkAll (H := H) (lits k (z :: r)) = Rows.uptoBulk (H := H) (.lit (.int k z)) + Rows.uptoBulkAll (lits k r) := rfl
    have : 1 ≤ Rows.uptoBulk (H := H) (.lit (.int k z)) := by simp [Rows.uptoBulk]
    simp only [List.length_cons]
    omega
set_option maxRecDepth 100000 in
theorem openInts_cs {H : Type} {enc : TypeId × Value → H} {W : World} (n : Nat) (cs : List Value) (x : DataW H × List MemPlace) (h : DataW.trod enc Try.prog W 0 (fun _ => true) true n 41 cs = some x) (hb : Rows.uptoBulk x.1 ≤ 1048576) :
    ∃ (A : Option Addr) (cap : Nat) (l : List Int), cs = [.slice A l.length cap] ∧ IntsAt W A l ∧ l.length ≤ 1048576 ∧ (A = none → cap = 0) ∧ l.length + 1 ≤ Rows.uptoBulk x.1 := by
  rcases open_ints Try.underlying41 Try.underlying3 cells3 h with ⟨rfl, rfl⟩ | ⟨a, len, cap, zs, rfl, h2, h3, h4, h5, rfl, h7, h8⟩
  · exact ⟨none, 0, [], rfl, fun k hk => by simp at hk, by simp, fun _ => rfl, by simp [Rows.uptoBulk]⟩
  · simp only [if_true] at h5
    have h9 := bulk_lits (H := H) .i64 (zs.take len)
    simp only [Rows.uptoBulk] at hb ⊢
    have hl : (zs.take len).length = len := by rw [List.length_take]; omega
    rw [hl] at h9
    have hg : ∀ k, k < len → (zs.take len).getD k 0 = zs.getD k 0 := by
      intro k hk
      simp [List.getD, List.getElem?_take, hk]
    refine ⟨some a, cap, zs.take len, by rw [hl], fun k hk => ?_, by omega, (fun h => by cases h), by omega⟩
    have h0 : 0 < zs.length := by omega
    obtain ⟨b, o, rfl, hcell⟩ := ints_at h7 h0
    refine ⟨b, o, rfl, World.block_lt_of_cell? W _ (hcell 0 h0), ?_⟩
    rw [hl] at hk
    rw [hg k hk]
    exact hcell k (by omega)
set_option maxRecDepth 100000 in
theorem openNd_cs {H : Type} {enc : TypeId × Value → H} {W : World} (n : Nat) (cs : List Value) (x : DataW H × List MemPlace) (h : DataW.trod enc Try.prog W 0 (fun _ => true) true n 43 cs = some x) (hb : Rows.uptoBulk x.1 ≤ 1048576) :
    ∃ (p : Nd) (l : List Int), cs = [.int .i64 p.k, .int .i64 p.n, .slice p.A p.len p.cap] ∧ Args W p l ∧ l.length + 1 ≤ Rows.uptoBulk x.1 := by
  obtain ⟨xs, n', rfl, rfl, hl, hlen, hf⟩ := DataW.trod_struct Try.underlying43 h
  rw [cells43] at hl
  match cs, hl, xs, hlen with
  | [c0, c1, c2], _, [y0, y1, y2], _ =>
  have f0 : DataW.trod enc Try.prog W 0 _ true n' 3 (([c0, c1, c2].drop 0).take (Try.prog.cellsOf 3)) = some y0 := hf 0 _ rfl
  have f1 : DataW.trod enc Try.prog W 0 _ true n' 3 (([c0, c1, c2].drop 1).take (Try.prog.cellsOf 3)) = some y1 := hf 1 _ rfl
  have f2 : DataW.trod enc Try.prog W 0 _ true n' 41 (([c0, c1, c2].drop 2).take (Try.prog.cellsOf 41)) = some y2 := hf 2 _ rfl
  simp only [List.map_cons, List.map_nil, Rows.uptoBulk, Rows.uptoBulkAll] at hb ⊢
  obtain ⟨a, e0, rfl, w0⟩ := DataW.trod_int Try.underlying3 f0
  obtain ⟨b, e1, rfl, w1⟩ := DataW.trod_int Try.underlying3 f1
  obtain ⟨A, cap, l, e2, h1, h2, h3, h4⟩ := openInts_cs _ _ _ f2 (by omega)
  rw [cells3] at e0 e1
  rw [cells41] at e2
  simp at e0 e1 e2
  subst e0 e1 e2
  exact ⟨⟨a, b, A, l.length, cap⟩, l, rfl, ⟨rfl, h1, h2, h3⟩, by omega⟩
set_option maxRecDepth 100000 in
theorem openNd_arg {H : Type} {enc : TypeId × Value → H} {W : World} {r : Reach} {b0 : Nat} {v : Value} {d : DataW H} {ps : List MemPlace} (hval : Value.okWide Try.prog W r b0 43 v) (h : DataW.Trod enc Try.prog W 0 (fun _ => true) true 43 v d ps) (hb : Rows.uptoBulk d ≤ 1048576) :
    ∃ (p : Nd) (l : List Int), v = ArnN.enc p ∧ Args W p l := by
  obtain ⟨cs, rfl, hsz⟩ := okWide_struct Try.underlying43 hval
  obtain ⟨fuel, hf⟩ := h
  obtain ⟨p, l, e, h1, h2⟩ := openNd_cs fuel _ _ hf hb
  refine ⟨p, l, ?_, h1⟩
  obtain ⟨q⟩ := cs
  simp [Value.cells] at e
  rw [e]
set_option maxRecDepth 100000 in
theorem openDd_cs {H : Type} {enc : TypeId × Value → H} {W : World} (n : Nat) (cs : List Value) (x : DataW H × List MemPlace) (h : DataW.trod enc Try.prog W 0 (fun _ => true) true n 46 cs = some x) (hb : Rows.uptoBulk x.1 ≤ 1048576) :
    ∃ d : Dd, DdR W cs d ∧ 0 + 1 ≤ Rows.uptoBulk x.1 := by
  obtain ⟨xs, n', rfl, rfl, hl, hlen, hf⟩ := DataW.trod_struct Try.underlying46 h
  rw [cells46] at hl
  match cs, hl, xs, hlen with
  | [c0, c1, c2, c3, c4], _, [y0, y1, y2], _ =>
  have f0 : DataW.trod enc Try.prog W 0 _ true n' 3 (([c0, c1, c2, c3, c4].drop 0).take (Try.prog.cellsOf 3)) = some y0 := hf 0 _ rfl
  have f1 : DataW.trod enc Try.prog W 0 _ true n' 3 (([c0, c1, c2, c3, c4].drop 1).take (Try.prog.cellsOf 3)) = some y1 := hf 1 _ rfl
  have f2 : DataW.trod enc Try.prog W 0 _ true n' 43 (([c0, c1, c2, c3, c4].drop 2).take (Try.prog.cellsOf 43)) = some y2 := hf 2 _ rfl
  simp only [List.map_cons, List.map_nil, Rows.uptoBulk, Rows.uptoBulkAll] at hb ⊢
  obtain ⟨a, e0, rfl, w0⟩ := DataW.trod_int Try.underlying3 f0
  obtain ⟨b, e1, rfl, w1⟩ := DataW.trod_int Try.underlying3 f1
  obtain ⟨p, l, e2, h1, h2⟩ := openNd_cs _ _ _ f2 (by omega)
  rw [cells3] at e0 e1
  rw [cells43] at e2
  simp at e0 e1 e2
  obtain ⟨e2, e3, e4⟩ := e2
  subst e0 e1 e2 e3 e4
  exact ⟨⟨a, b, p, l⟩, ⟨rfl, w1, h1⟩, by omega⟩
set_option maxRecDepth 100000 in
theorem openDd_sl {H : Type} {enc : TypeId × Value → H} {W : World} {r : Reach} {b0 : Nat} {v : Value} {d : DataW H} {ps : List MemPlace} (hval : Value.okWide Try.prog W r b0 40 v) (h : DataW.Trod enc Try.prog W 0 (fun _ => true) true 40 v d ps) (hb : Rows.uptoBulk d ≤ 1048576) :
    ∃ (A : Option Addr) (cap : Nat) (l : List Dd), v = .slice A l.length cap ∧ Lift.RowsIn (DdR W) W 5 A l ∧ l.length ≤ 1048576 := by
  obtain ⟨A, cap, l, rfl, h1, h2, h3, h4, h5⟩ := open_rows (sz := fun _ => 0) Try.underlying40 cells46 (by omega) (fun n cs x hx hb => openDd_cs n cs x hx hb) hval h hb
  exact ⟨A, cap, l, rfl, h4, by omega⟩
end Go.Proofs.Ytccknhhjkkbadaa.Gr
