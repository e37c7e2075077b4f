/- Picks that came in; chapter 25's example. -/
import Derived.Test.YtccknhhjkkbadaaShow
import Derived.Test.YtccknhhjkkbadaaRowsIn
import Derived.OpenShut
namespace Go.Proofs.Ytccknhhjkkbadaa.Fg
open Go.ChangeShapes Go.WideShapes Go.ChangeAt Go.RowKit Go.Proofs.Ytccknhhjkkbadaa.Lift Go.Proofs.Ytccknhhjkkbadaa.Dig
set_option linter.unusedVariables false
set_option linter.unusedSimpArgs false
theorem cells3 : Try.prog.cellsOf 3 = 1 := by kernel_rfl
theorem cells95 : Try.prog.cellsOf 95 = 2 := by kernel_rfl
theorem i64_of_wf {n : Int} (h : (Lit.int .i64 n).wf = true) : I64 n := by
  have := h
  simp [Lit.wf, IntKind.min, IntKind.max, IntKind.bits, IntKind.signed] at this
  unfold I64
  omega
set_option maxRecDepth 100000 in
theorem openPk_cs {H : Type} {enc : TypeId × Value → H} {W : World} {sp : Nat → Bool} {held : Bool} (n : Nat) (cs : List Value) (x : DataW H × List MemPlace) (h : DataW.trod enc Try.prog W 0 sp held n 95 cs = some x) :
    ∃ p : Pk, (cs = [.int .i64 p.1, .int .i64 p.2] ∧ I64 p.1 ∧ I64 p.2) ∧ 0 + 1 ≤ Rows.uptoBulk x.1 := by
  obtain ⟨xs, n', rfl, rfl, hl, hlen, hf⟩ := DataW.trod_struct Try.underlying95 h
  rw [cells95] at hl
  match cs, hl, xs, hlen with
  | [c0, c1], _, [y0, y1], _ =>
  have f0 : DataW.trod enc Try.prog W 0 sp held n' 3 (([c0, c1].drop 0).take (Try.prog.cellsOf 3)) = some y0 := hf 0 _ rfl
  have f1 : DataW.trod enc Try.prog W 0 sp held n' 3 (([c0, c1].drop 1).take (Try.prog.cellsOf 3)) = some y1 := hf 1 _ rfl
  obtain ⟨a, e0, rfl, w0⟩ := DataW.trod_int Try.underlying3 f0
  obtain ⟨b, e1, rfl, w1⟩ := DataW.trod_int Try.underlying3 f1
  rw [cells3] at e0 e1
  simp at e0 e1
  subst e0 e1
  exact ⟨(a, b), ⟨rfl, i64_of_wf w0, i64_of_wf w1⟩, by simp only [Rows.uptoBulk]; omega⟩
set_option maxRecDepth 100000 in
theorem openPk_arg {H : Type} {enc : TypeId × Value → H} {W : World} {r : Reach} {b0 : Nat} {v : Value} {d : DataW H} {ps : List MemPlace} (hval : Value.okWide Try.prog W r b0 95 v) (h : DataW.Trod enc Try.prog W 0 (fun _ => true) true 95 v d ps) :
    ∃ p : Pk, v = .agg #[.int .i64 p.1, .int .i64 p.2] ∧ I64 p.1 ∧ I64 p.2 := by
  obtain ⟨cs, rfl, hsz⟩ := okWide_struct Try.underlying95 hval
  obtain ⟨fuel, hf⟩ := h
  obtain ⟨p, ⟨e, h1, h2⟩, _⟩ := openPk_cs fuel _ _ hf
  refine ⟨p, ?_, h1, h2⟩
  obtain ⟨l⟩ := cs
  simp [Value.cells] at e
  rw [e]
set_option maxRecDepth 100000 in
theorem openPk_sl {H : Type} {enc : TypeId × Value → H} {W : World} {r : Reach} {b0 : Nat} {v : Value} {d : DataW H} {ps : List MemPlace} (hval : Value.okWide Try.prog W r b0 80 v) (h : DataW.Trod enc Try.prog W 0 (fun _ => true) true 80 v d ps) (hb : Rows.uptoBulk d ≤ 1048576) :
    ∃ l : List Pk, PkSl W v l ∧ PkWf l ∧ l.length + 1 ≤ Rows.uptoBulk d := by
  obtain ⟨A, cap, l, rfl, h1, h2, h3, h4, h5⟩ := open_rows (sz := fun _ => 0) Try.underlying80 cells95 (by omega) (fun n cs x hx _ => openPk_cs n cs x hx) hval h hb
  have h6 : l.length + 1 ≤ Rows.uptoBulk d := by omega
  refine ⟨l, ⟨A, cap, rfl, h1, h2, by omega, h3, by rw [pkCells_len], ?_⟩, ?_, h6⟩
  · rcases Nat.eq_zero_or_pos l.length with h0 | h0
    · exact .inl h0
    · obtain ⟨b, o, cs, rfl, _⟩ := h4 0 h0
      refine .inr ⟨b, o, rfl, fun j u hu => ?_⟩
      have hj : j < l.length * 2 := by have := (List.getElem?_eq_some_iff.1 hu).1; rwa [pkCells_len] at this
      obtain ⟨b', o', cs, e, _, ⟨rfl, _⟩, _, hc⟩ := h4 (j / 2) (by omega)
      have e2 := Option.some.inj e
      have e3 : b = b' ∧ o = o' := by
        injection e2 with a1 a2
        exact ⟨a1, a2⟩
      obtain ⟨rfl, rfl⟩ := e3
      have hg := pkCells_get l (j / 2) (by omega)
      have := hc (j % 2) u (by
        rcases Nat.mod_two_eq_zero_or_one j with h | h
        · rw [h]
          have e4 : j / 2 * 2 = j := by omega
          rw [e4] at hg
          rw [hg.1] at hu
          simpa using hu
        · rw [h]
          have e4 : j / 2 * 2 + 1 = j := by omega
          rw [e4] at hg
          rw [hg.2] at hu
          simpa using hu)
      rwa [Nat.add_assoc, show j / 2 * 2 + j % 2 = j by omega] at this
  · intro x hx
    obtain ⟨i, hi, rfl⟩ := List.getElem_of_mem hx
    obtain ⟨_, _, _, _, _, ⟨_, h⟩, _⟩ := h4 i hi
    exact h
theorem aw_of : ofF [(3, 1), (2, 0)] = [(2, 0), (3, 1)] := by decide
theorem aw_show : showF [(2, 0), (3, 1)] = [50, 58, 48, 32, 51, 58, 49] := by
  have e0 : digS 0 = [48] := by unfold digS; rw [if_neg (by omega)]; show (revd 0).reverse = _; rw [revd_small (by omega)]; rfl
  have e1 : digS 1 = [49] := by unfold digS; rw [if_neg (by omega)]; show (revd 1).reverse = _; rw [revd_small (by omega)]; rfl
  have e2 : digS 2 = [50] := by unfold digS; rw [if_neg (by omega)]; show (revd 2).reverse = _; rw [revd_small (by omega)]; rfl
  have e3 : digS 3 = [51] := by unfold digS; rw [if_neg (by omega)]; show (revd 3).reverse = _; rw [revd_small (by omega)]; rfl
  unfold showF
  simp only [List.map_cons, List.map_nil]
  rw [e0, e1, e2, e3]
  decide
set_option maxRecDepth 100000 in
theorem awake25_any (w : World) : Calls Try.prog 55 #[] w (fun e w' => e = .returned (.bool true) ∧ Below w.heap.size w w') := by
  have hS : PkSl (w.alloc (.cells #[.int .i64 3, .int .i64 1, .int .i64 2, .int .i64 0] 95)) (.slice (some ⟨w.heap.size, 0, none⟩) 2 2) [(3, 1), (2, 0)] :=
    PkOwn.sl (B := w.heap.size) (own_new w 95 2 2 _ rfl (by omega)) (by simp)
  obtain ⟨W, hW⟩ : ∃ W, W = w.alloc (.cells #[.int .i64 3, .int .i64 1, .int .i64 2, .int .i64 0] 95) := ⟨_, rfl⟩
  have hb : Below w.heap.size w W := by rw [hW]; exact below1 _ _
  rw [← hW] at hS
  have HO := Lib.hid (of_any W _ W _ hS (Below.refl _ _) (by simp))
  rw [aw_of] at HO
  have HW := Lib.hid hW
  clear hW hS
  go_enter Try.func55, Try.ntmps55
  go_wp2_with fail
  rw [← HW.out]
  refine HO.out.mono ?_
  rintro _ w1 ⟨v1, rfl, hs1, hb1⟩
  have HSh := Lib.hid (show_any w1 _ w1 _ hs1 (fun x hx => by
    simp only [List.mem_cons, List.not_mem_nil, or_false] at hx
    rcases hx with rfl | rfl <;> (unfold I64; simp)) (Below.refl _ _))
  rw [aw_show] at HSh
  clear hs1 HO
  go_wp2_with fail
  refine HSh.out.mono ?_
  rintro _ w2 ⟨rfl, hb2⟩
  go_wp2_with fail
  go_ret
  exact ⟨rfl, (hb.thenCall hb.size hb1).thenCall (Nat.le_trans hb.size hb1.size) hb2⟩
end Go.Proofs.Ytccknhhjkkbadaa.Fg
