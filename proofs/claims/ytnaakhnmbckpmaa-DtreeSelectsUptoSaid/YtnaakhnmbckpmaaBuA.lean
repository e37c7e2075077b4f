/- Contracts: the builder's demands and key. -/
import Derived.Test.YtnaakhnmbckpmaaCt
namespace Go.Proofs.Ytnaakhnmbckpmaa.Pats
open Go.ChangeShapes Go.WideShapes Go.ChangeAt Go.RowKit Go.Proofs.Ytnaakhnmbckpmaa.Lift Go.Proofs.Ytnaakhnmbckpmaa.Data Go.Proofs.Ytnaakhnmbckpmaa.Refs Go.Proofs.Ytnaakhnmbckpmaa.Strs
set_option linter.unusedVariables false
set_option linter.unusedSimpArgs false
/-- whether a rule demands, at a place. -/
def demAt (rules : List (List Ex)) (i : Nat) (path : List Int) : Bool := match atS (rules.getD i []) path with | none => false | some e => demB e
/-- the key of a pattern, and how many arguments it has. -/
def keyE (makers : List ByteArray) (e : Ex) : Int × Bool × Nat := if e.k = 3 then (e.n, true, 0) else (idxS makers (headS e).1.s, false, (headS e).2.length)
theorem keyE_int {makers : List ByteArray} {se : ByteArray} {ne le ce : Int} {yse : List Ex} : keyE makers (.mk 3 se ne yse le ce) = (ne, true, 0) := by simp [keyE, Ex.k, Ex.n]
theorem keyE_con {makers : List ByteArray} {ke : Int} {se : ByteArray} {ne le ce : Int} {yse : List Ex} (h : ¬ ke = 3) : keyE makers (.mk ke se ne yse le ce) = (idxS makers (headS (.mk ke se ne yse le ce)).1.s, false, (headS (.mk ke se ne yse le ce)).2.length) := by simp [keyE, Ex.k, h]
theorem cell2of {w : World} {g : Nat} {t : TypeId} {v0 v1 : Value} (h : w.heap[g]? = some (.cells #[v0, v1] t (0, 0))) : w.cell? ⟨g, 0, none⟩ = some v0 ∧ w.cell? ⟨g, 1, none⟩ = some v1 := by
  refine ⟨?_, ?_⟩ <;> simp [World.cell?, h]
theorem cell1of {w : World} {g : Nat} {t : TypeId} {v0 : Value} (h : w.heap[g]? = some (.cells #[v0] t (0, 0))) : w.cell? ⟨g, 0, none⟩ = some v0 := by simp [World.cell?, h]
set_option maxRecDepth 100000 in
set_option maxHeartbeats 2000000 in
theorem dem_any (w0 w : World) (mv rv pv : Value) (rules : List (List Ex)) (i : Nat) (path : List Int) (hR : RS w0 rv rules) (hi : i < rules.length) (hp : IS w0 pv path) (h0 : Data.Sub w0 w) :
    Calls Try.prog 79 #[.agg #[mv, rv], .int .i64 i, pv] w fun r w' => r = .returned (.bool (demAt rules i path)) ∧ Below w.heap.size w w' := by
  obtain ⟨A, cap, xs, rfl, h1, h2, h3, h4, h5, h6⟩ := hR
  obtain ⟨b, o, rv', rfl, hbl, hc, hsl⟩ := RS_get h5 h6 i hi
  have hc' := h0 _ _ _ hc
  have hbw := World.block_lt_of_cell? _ _ hc'
  simp only at hbw
  have hHA := Lib.hid (fun W hb => at_any path w0 rules[i] W rv' pv hsl hp hb)
  have hDA : demAt rules i path = match atS rules[i] path with | none => false | some e => demB e := by simp [demAt, List.getD, List.getElem?_eq_getElem hi]
  generalize rules[i] = l at *
  obtain ⟨Al, capl, rfl, -⟩ := hsl
  obtain ⟨Ap, capp, rfl, -⟩ := hp
  have HA := fun o => Lib.hid (hHA.out (w.alloc o) (h0.alloc o))
  have hb1 := fun o => (Below.refl w.heap.size w).alloc (Nat.le_refl _) o
  clear hHA h5 h6 hc h0
  cases hat : atS l path with
  | none =>
    rw [hat] at HA hDA
    have HD := Lib.hid hDA
    clear hDA
    go_enter Try.func79, Try.ntmps79
    go_wp2_with fail
    refine ((HA _).out).mono ?_
    rintro _ w1 ⟨v1, b1, rfl, hb2, rfl, rfl⟩
    unfold exZero
    go_wp2_with fail
    go_ret
    exact ⟨ret_bool HD.out.symm, (Below.call1 hb2).alloc (Below.call1 hb2).size _⟩
  | some e =>
    rw [hat] at HA hDA
    have HD := Lib.hid hDA
    clear hDA
    go_enter Try.func79, Try.ntmps79
    go_wp2_with fail
    refine ((HA _).out).mono ?_
    rintro _ w1 ⟨v1, b1, rfl, hb2, rfl, w2, hv2, -, -⟩
    have HDE := fun W => Lib.hid (demands_any w2 e W v1 hv2)
    cases e with
    | mk ke se ne yse le ce =>
    obtain ⟨A9, cap9, rfl, -⟩ := hv2
    go_wp2_with fail
    refine ((HDE _).out).mono ?_
    rintro _ w3 ⟨rfl, hb3⟩
    go_wp2_with fail
    go_ret
    exact ⟨ret_bool HD.out.symm, (Below.call1 hb2).thenCall (Below.call1 hb2).size (Below.call1 hb3)⟩
def KeyRes (makers : List ByteArray) (e : Ex) (w : World) (r : Ending) (w' : World) : Prop :=
  r = .returned (.tuple #[.agg #[.int .i64 (keyE makers e).1, .bool (keyE makers e).2.1, .int .i64 0, .int .i64 0, .slice none 0 0, .slice none 0 0], .int .i64 ((keyE makers e).2.2 : Nat)]) ∧ Below w.heap.size w w'
set_option maxRecDepth 100000 in
set_option maxHeartbeats 2000000 in
theorem key_any (w0 w : World) (mv rv pv : Value) (makers : List ByteArray) (rules : List (List Ex)) (i : Nat) (path : List Int) (e : Ex) (hM : StrSl w0 mv makers) (hR : RS w0 rv rules) (hi : i < rules.length) (hp : IS w0 pv path) (h0 : Data.Sub w0 w) (he : atS (rules.getD i []) path = some e) :
    Calls Try.prog 88 #[.agg #[mv, rv], .int .i64 i, pv] w (KeyRes makers e w) := by
  obtain ⟨A, cap, xs, rfl, h1, h2, h3, h4, h5, h6⟩ := hR
  obtain ⟨b, o, rv', rfl, hbl, hc, hsl⟩ := RS_get h5 h6 i hi
  have hc' := h0 _ _ _ hc
  have hbw := World.block_lt_of_cell? _ _ hc'
  simp only at hbw
  have hHA := Lib.hid (fun W hb => at_any path w0 rules[i] W rv' pv hsl hp hb)
  have hge : rules.getD i [] = rules[i] := by simp [List.getD, List.getElem?_eq_getElem hi]
  rw [hge] at he
  generalize rules[i] = l at *
  obtain ⟨Al, capl, rfl, -⟩ := hsl
  obtain ⟨Ap, capp, rfl, -⟩ := hp
  rw [he] at hHA
  have HA := fun o o' => Lib.hid (hHA.out ((w.alloc o).alloc o') ((h0.alloc o).alloc o'))
  have HX := fun W h => Lib.hid (fun s => index_any W mv makers s (Data.StrSl.sub hM (h0.then (w' := W) h)))
  obtain ⟨Am, cm, rfl, -⟩ := hM
  clear hHA h5 h6 hc h0 he hge
  have HHd := Lib.hid (fun w2 W v hv h => head_sub w2 e W v hv h)
  cases e with
  | mk ke se ne yse le ce =>
  have hBX := heap2 w (.cells #[.slice Am makers.length cm, .slice (some ⟨b, o, none⟩) rules.length cap] 98) #[.int .i64 0, .bool false, .int .i64 0, .int .i64 0, .slice none 0 0, .slice none 0 0] 101
  have hBY := heap2' w (.cells #[.int .i64 0, .bool false, .int .i64 0, .int .i64 0, .slice none 0 0, .slice none 0 0] 101) #[.slice Am makers.length cm, .slice (some ⟨b, o, none⟩) rules.length cap] 98
  have hbb := fun o o' => below2 w o o'
  by_cases hk : ke = 3
  · subst hk
    have HK := Lib.hid (keyE_int (makers := makers) (se := se) (ne := ne) (le := le) (ce := ce) (yse := yse))
    clear HX HHd
    go_enter Try.func88, Try.ntmps88
    go_wp2_with fail
    refine ((HA _ _).out).mono ?_
    rintro _ w1 ⟨v1, b1, rfl, hb2, rfl, w2, hv2, -, -⟩
    obtain ⟨A9, cap9, rfl, -⟩ := hv2
    have hf1 := (hb2.block _ (by simp)).trans hBX
    obtain ⟨q0, q1, q2, q3, q4, q5, z0, z1, z2, z3, z4, z5⟩ := row6 hf1
    have hbw1 : Below w.heap.size w w1 := Below.call2 hb2
    have hz := hb2.size
    simp only [World.size_alloc] at hz
    have hl1 : w.heap.size + 1 < w1.heap.size := by omega
    go_wp2_with fail
    refine bodyPost_ret (v := .tuple #[.agg #[.int .i64 ne, .bool true, .int .i64 0, .int .i64 0, .slice none 0 0, .slice none 0 0], .int .i64 0]) (by simp [results, Try.results88, go_sem, q0, q1, q2, q3, q4, q5, hl1]) rfl ⟨by rw [HK.out]; rfl, ?_⟩
    refine Below.alloc ?_ (by simp [World.setCell]; omega) _
    iterate 6 refine Below.setCell ?_ (by simp only; omega) _
    exact hbw1
  · have HK := Lib.hid (keyE_con (makers := makers) (se := se) (ne := ne) (le := le) (ce := ce) (yse := yse) hk)
    have hkb : (ke == 3) = false := by simp [hk]
    clear hk
    go_enter Try.func88, Try.ntmps88
    go_wp2_with fail
    refine ((HA _ _).out).mono ?_
    rintro _ w1 ⟨v1, b1, rfl, hb2, rfl, w2, hv2, hs2, -⟩
    have HHd2 := fun o => Lib.hid (HHd.out w2 (w1.alloc o) _ hv2 (hs2.alloc o))
    generalize headS (.mk ke se ne yse le ce) = hq at *
    obtain ⟨⟨k2, s2, n2, ys2, l2, c2⟩, args⟩ := hq
    simp only at HHd2 HK
    obtain ⟨A9, cap9, rfl, -⟩ := hv2
    have hbw1 : Below w.heap.size w w1 := Below.call2 hb2
    have hf1 := (hb2.block _ (by simp)).trans hBX
    have hg1 := (hb2.block _ (by simp; omega)).trans hBY
    have hz := hb2.size
    simp only [World.size_alloc] at hz
    clear HHd HA
    go_wp2_with fail
    refine ((HHd2 _).out).mono ?_
    rintro _ w3 ⟨v3, A3, cap3, xs3, rfl, hv3, hown3, hcells3, hb3⟩
    obtain ⟨A5, cap5, rfl, -⟩ := hv3
    have hb13 := Below.call1 hb3
    have hf3 := (hb13.block _ (by omega)).trans hf1
    have hg3 := (hb13.block _ (by omega)).trans hg1
    obtain ⟨q0, q1, q2, q3, q4, q5, z0, z1, z2, z3, z4, z5⟩ := row6 hf3
    obtain ⟨m0, m1⟩ := cell2of hg3
    have hbw3 := hbw1.thenCall hbw1.size hb13
    have hz3 := hb13.size
    have hl1 : w.heap.size + 1 < w3.heap.size := by omega
    have hl0 : w.heap.size < w3.heap.size := by omega
    have HX2 := fun o => HX (w3.alloc o) (hbw3.alloc hbw3.size o)
    clear HX HHd2
    go_wp2_with (go_at_call 86; refine ((HX2 _).out _).mono ?_; rintro _ w4 ⟨rfl, rfl⟩)
    refine bodyPost_ret (v := .tuple #[.agg #[.int .i64 (idxS makers s2), .bool false, .int .i64 0, .int .i64 0, .slice none 0 0, .slice none 0 0], .int .i64 args.length]) (by simp [results, Try.results88, go_sem, q0, q1, q2, q3, q4, q5, hl1]) rfl ⟨by rw [HK.out]; rfl, ?_⟩
    refine Below.alloc ?_ (by simp [World.setCell]; omega) _
    iterate 6 refine Below.setCell ?_ (by simp only; omega) _
    exact hbw3
end Go.Proofs.Ytnaakhnmbckpmaa.Pats
