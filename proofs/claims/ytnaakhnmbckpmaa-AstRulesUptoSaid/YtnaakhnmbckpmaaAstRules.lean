/- AstRules is true of any two rules whose bulk is at most 1048576. -/
import Derived.Test.YtnaakhnmbckpmaaRulesW
import Derived.Test.YtnaakhnmbckpmaaOpen
namespace Go.Proofs.Ytnaakhnmbckpmaa.astRules
open Go.ChangeShapes Go.WideShapes Go.ChangeAt Go.RowKit Go.Proofs.Ytnaakhnmbckpmaa.Lift Go.Proofs.Ytnaakhnmbckpmaa.Data Go.Proofs.Ytnaakhnmbckpmaa.Same
set_option linter.unusedVariables false
set_option linter.unusedSimpArgs false
theorem cells45 : Try.prog.cellsOf 45 = 11 := by kernel_rfl
set_option maxRecDepth 100000 in
set_option maxHeartbeats 1000000 in
theorem openRu_cs {H : Type} {enc : TypeId × Value → H} {W : World} {sp : Nat → Bool} {held : Bool} (fuel : Nat) (cs : List Value) (x : DataW H × List MemPlace)
    (h : DataW.trod enc Try.prog W 0 sp held fuel 45 cs = some x) (hb : Rows.uptoBulk x.1 ≤ 1048576) :
    ∃ r : Ru, r.Val W (.agg cs.toArray) ∧ r.body.size + ExSize r.pats + ExSize r.guard + 2 ≤ Rows.uptoBulk x.1 := by
  obtain ⟨xs, n, rfl, rfl, hl, hlen, hf⟩ := DataW.trod_struct Try.underlying45 h
  rw [cells45] at hl
  match cs, hl, xs, hlen with
  | [c0, c1, c2, c3, c4, c5, c6, c7, c8, c9, c10], _, [y0, y1, y2, y3, y4], _ =>
  have f0 : DataW.trod enc Try.prog W 0 sp held n 9 (([c0, c1, c2, c3, c4, c5, c6, c7, c8, c9, c10].drop 0).take (Try.prog.cellsOf 9)) = some y0 := hf 0 _ rfl
  have f1 : DataW.trod enc Try.prog W 0 sp held n 22 (([c0, c1, c2, c3, c4, c5, c6, c7, c8, c9, c10].drop 1).take (Try.prog.cellsOf 22)) = some y1 := hf 1 _ rfl
  have f2 : DataW.trod enc Try.prog W 0 sp held n 22 (([c0, c1, c2, c3, c4, c5, c6, c7, c8, c9, c10].drop 2).take (Try.prog.cellsOf 22)) = some y2 := hf 2 _ rfl
  have f3 : DataW.trod enc Try.prog W 0 sp held n 26 (([c0, c1, c2, c3, c4, c5, c6, c7, c8, c9, c10].drop 3).take (Try.prog.cellsOf 26)) = some y3 := hf 3 _ rfl
  have f4 : DataW.trod enc Try.prog W 0 sp held n 24 (([c0, c1, c2, c3, c4, c5, c6, c7, c8, c9, c10].drop 9).take (Try.prog.cellsOf 24)) = some y4 := hf 4 _ rfl
  obtain ⟨s, e0, rfl, _⟩ := DataW.trod_string Try.underlying9 f0
  obtain ⟨zs, n4, rfl, rfl, hl4, hlen4, hf4⟩ := DataW.trod_struct Try.underlying24 f4
  match zs, hlen4 with
  | [z0, z1], _ =>
  have g0 : DataW.trod enc Try.prog W 0 sp held n4 3 (((([c0, c1, c2, c3, c4, c5, c6, c7, c8, c9, c10].drop 9).take (Try.prog.cellsOf 24)).drop 0).take (Try.prog.cellsOf 3)) = some z0 := hf4 0 _ rfl
  have g1 : DataW.trod enc Try.prog W 0 sp held n4 3 (((([c0, c1, c2, c3, c4, c5, c6, c7, c8, c9, c10].drop 9).take (Try.prog.cellsOf 24)).drop 1).take (Try.prog.cellsOf 3)) = some z1 := hf4 1 _ rfl
  obtain ⟨l, e40, rfl, _⟩ := DataW.trod_int Try.underlying3 g0
  obtain ⟨c, e41, rfl, _⟩ := DataW.trod_int Try.underlying3 g1
  simp only [List.map_cons, List.map_nil, Rows.uptoBulk, Rows.uptoBulkAll] at hb ⊢
  obtain ⟨A, cap, ps, e1, hh1, hr1, hs1⟩ := openExs_of (fun n _ => openEx_cs n) f1 (by omega)
  obtain ⟨G, capG, gs, e2, hh2, hr2, hs2⟩ := openExs_of (fun n _ => openEx_cs n) f2 (by omega)
  obtain ⟨b, hb3, hs3⟩ := openEx_cs _ _ _ f3 (by omega)
  cases b with
  | mk k s' n' ys l' c' =>
  obtain ⟨Y, capY, e3, hh3, hr3⟩ := hb3
  rw [cells9] at e0
  rw [cells22] at e1 e2
  rw [cells26] at e3
  rw [cells3, cells24] at e40 e41
  simp at e0 e1 e2 e3 e40 e41
  obtain ⟨e30, e31, e32, e33, e34, e35⟩ := e3
  subst e0 e1 e2 e40 e41 e30 e31 e32 e33 e34 e35
  exact ⟨⟨s, ps, gs, .mk k s' n' ys l' c', l, c⟩, ⟨A, cap, G, capG, k, n', l', c', s', ys, Y, capY, rfl, rfl, hh1, hr1, hh2, hr2, hh3, hr3⟩, by dsimp only; omega⟩
set_option maxRecDepth 100000 in
theorem openRu_arg {H : Type} {enc : TypeId × Value → H} {W : World} {r : Reach} {b0 : Nat} {v : Value} {d : DataW H} {ps : List MemPlace} (hval : Value.okWide Try.prog W r b0 45 v) (h : DataW.Trod enc Try.prog W 0 (fun _ => true) true 45 v d ps)
    (hb : Rows.uptoBulk d ≤ 1048576) : ∃ e : Ru, e.Val W v ∧ e.body.size + ExSize e.pats + ExSize e.guard + 2 ≤ Rows.uptoBulk d := by
  obtain ⟨cs, rfl, _⟩ := okWide_struct Try.underlying45 hval
  obtain ⟨fuel, hf⟩ := h
  obtain ⟨e, he, hs⟩ := openRu_cs fuel _ _ hf hb
  exact ⟨e, by simpa [Value.cells] using he, hs⟩
set_option maxRecDepth 100000 in
theorem contract (H : Type) (enc : TypeId × Value → H) (W : World) (base : Nat) (args : Array Value) (ds gs : List (DataW H)) (before : List MemPlace)
    (hval : ∀ (j : Nat) t v, Try.f4.params[j]? = some t → args[j]? = some v → Value.okWide Try.prog W .any base t v)
    (hW : DataW.Whole enc Try.prog Try.f4.params.toList Rows.astRulesSpec.vars false W args.toList ds gs before)
    (hk : Rows.uptoSmall H (ds ++ gs) = true) :
    Calls Try.prog 4 args W fun e W' => ∃ v, e = .returned v ∧ Rows.astRulesSpec.post enc Try.prog Try.f4 false true false false W args v W' := by
  have hW' := hW
  obtain ⟨p, q, hA0, hV, rfl, hfz, hnd⟩ := hW
  have hA : DataW.TrodAll enc Try.prog W 0 (fun _ => true) true Try.f4.params.toList args.toList ds p := hA0
  rw [Try.params4] at hA hval
  obtain ⟨v0, vs0, d0, ds0, p0, q0, hargs, rfl, rfl, h0, r0⟩ := trodAll_cons hA
  obtain ⟨v1, vs1, d1, ds1, p1, q1, rfl, rfl, rfl, h1, r1⟩ := trodAll_cons r0
  obtain ⟨rfl, rfl, rfl⟩ := trodAll_nil r1
  obtain rfl : args = #[v0, v1] := by cases args; simp_all
  obtain ⟨rfl, -⟩ := trodVars_none (show DataW.TrodVars enc Try.prog W _ [] gs q from hV)
  have hbulk : Rows.uptoBulkAll [d0, d1] ≤ 1048576 := by have h := of_decide_eq_true hk; simpa only [List.append_nil] using h
  clear hk
  obtain ⟨e0, he0, hs0⟩ := openRu_arg (hval 0 45 v0 rfl rfl) h0 (by simp only [Rows.uptoBulkAll] at hbulk; omega)
  obtain ⟨e1, he1, hs1⟩ := openRu_arg (hval 1 45 v1 rfl rfl) h1 (by simp only [Rows.uptoBulkAll] at hbulk; omega)
  simp only [Rows.uptoBulkAll] at hbulk
  refine (walk W e0 e1 v0 v1 he0 he1 (by omega)).mono fun e W1 ⟨he, hb⟩ => ?_
  exact ⟨_, he, law_post laidOut hW' rfl (by kernel_rfl) 4 Try.underlying4 rfl (fun _ => rfl) hb⟩

set_option maxRecDepth 100000 in
theorem lifted (os : Os) (started : os.Started) (H : Type) (enc : TypeId × Value → H) (F : Stop.Interp) :
    ReturnsInHanded {} Try.checked os 4 .any ((Rows.OpenSpec.upto Rows.astRulesSpec).pre6 enc Try.prog Try.f4 Rows.astRulesUptoRow.domain false) (((Rows.OpenSpec.upto Rows.astRulesSpec).at F).post enc Try.prog Try.f4 false true false false) := by
  refine returnsInHanded_of_cond (C := Try.checked) (s := Rows.OpenSpec.upto Rows.astRulesSpec) (k := Rows.uptoSmall) rfl own started (by kernel_rfl) Try.func4
    (OpenSpec.witness (enc := enc) (C := Try.checked) (s := Rows.OpenSpec.upto Rows.astRulesSpec) (k := Rows.uptoSmall) rfl false ⟨#[], #[.agg #[.string ⟨#[]⟩, .slice none 0 0, .slice none 0 0, .int .i64 0, .string ⟨#[]⟩, .int .i64 0, .slice none 0 0, .int .i64 0, .int .i64 0, .int .i64 0, .int .i64 0], .agg #[.string ⟨#[]⟩, .slice none 0 0, .slice none 0 0, .int .i64 0, .string ⟨#[]⟩, .int .i64 0, .slice none 0 0, .int .i64 0, .int .i64 0, .int .i64 0, .int .i64 0]], []⟩ 8 (by kernel_rfl) (by kernel_rfl) (by kernel_rfl)
      (x := ([.agg [.lit (.string []), .nil, .nil, .agg [.lit (.int .i64 0), .lit (.string []), .lit (.int .i64 0), .nil, .agg [.lit (.int .i64 0), .lit (.int .i64 0)]], .agg [.lit (.int .i64 0), .lit (.int .i64 0)]], .agg [.lit (.string []), .nil, .nil, .agg [.lit (.int .i64 0), .lit (.string []), .lit (.int .i64 0), .nil, .agg [.lit (.int .i64 0), .lit (.int .i64 0)]], .agg [.lit (.int .i64 0), .lit (.int .i64 0)]]], [], [])) (by kernel_rfl) rfl (by kernel_rfl)) ?_
  intro W base args ds gs before hval hW _ hk _
  exact contract H enc W base args ds gs before hval hW hk
theorem over : Rows.astRulesUptoRow.holds Try.pinned (Rows.OpenSpec.upto Rows.astRulesSpec) :=
  OpenClaim.holds_of_cond 4 Try.f4 rfl rfl rfl rfl rfl rfl rfl ⟨rfl, rfl, rfl, rfl, rfl⟩ rfl rfl rfl rfl rfl (by kernel_rfl) Try.func4 (by kernel_rfl)
    (of_decide_eq_true (by kernel_rfl)) (by unfold Func.isWrapper; first | (rw [if_pos (by decide +kernel)]; kernel_rfl) | (rw [if_neg (by decide +kernel)]; exact ⟨rfl, rfl⟩))
    (fun os started H enc _ F => lifted os started H enc F)
/-- THE STATEMENT -/
theorem proved : Rows.AstRulesUptoSaid :=
  over
#print axioms proved
end Go.Proofs.Ytnaakhnmbckpmaa.astRules
