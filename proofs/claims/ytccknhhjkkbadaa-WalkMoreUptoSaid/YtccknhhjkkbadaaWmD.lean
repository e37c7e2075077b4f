/- Contracts: the statement's own follow and through on a map of nodes. -/
import Derived.Test.YtccknhhjkkbadaaWmL
import Derived.Test.YtccknhhjkkbadaaMadeR
import Derived.Test.YtccknhhjkkbadaaOpenR
import Derived.Test.YtccknhhjkkbadaaRefP
namespace Go.Proofs.Ytccknhhjkkbadaa.Wm
open Go.ChangeShapes Go.WideShapes Go.ChangeAt Go.RowKit Go.Proofs.Ytccknhhjkkbadaa.Lift Go.Proofs.Ytccknhhjkkbadaa.Arn Go.Proofs.Ytccknhhjkkbadaa.ArnN Go.Proofs.Ytccknhhjkkbadaa.Gr Go.Maps
set_option linter.unusedVariables false
set_option linter.unusedSimpArgs false
/-- a map has a graph's nodes. -/
def MapOk (w : World) (g : Gph) (N m : Nat) : Prop :=
  ∃ (D : DataW Unit) (n : Nat), w.ownsMap Try.prog 3 rC m n D ∧ Maps.size D = N ∧ ∀ i, W64 i → Maps.has D (.int .i64 i) = g.has i ∧ ∃ y, D.atKey (.int .i64 i) (codeN nd0) = codeN y ∧ y.k = g.k i ∧ y.n = g.n i ∧ Args w y (g.a i)
/-- a graph's block has its nodes. -/
def GrOk (w : World) (g : Gph) (N gg : Nat) : Prop :=
  ∃ F ga xs us low most, Gr w F gg ga xs us low most ∧ us.count true = N ∧ ∀ i, W64 i → hasB us i = g.has i ∧ (getX xs us i).k = g.k i ∧ (getX xs us i).n = g.n i ∧ Args w (getX xs us i) (g.a i)
/-- its numbers are numbers. -/
def Gok (g : Gph) (N : Nat) : Prop := N ≤ 65536 ∧ ∀ i, W64 i → W64 (g.n i) ∧ (∀ a ∈ g.a i, W64 a) ∧ (g.a i).length ≤ 1048576
theorem Args.below' {w w' : World} {x : Nd} {l : List Int} (h : Args w x l) (hb : Below w.heap.size w w') : Args w' x l := h.below hb
theorem MapOk.below {w w' : World} {g : Gph} {N m : Nat} (h : MapOk w g N m) (hb : Below w.heap.size w w') : MapOk w' g N m := by
  obtain ⟨D, n, h1, h2, h3⟩ := h
  refine ⟨D, n, own_mapC_keep h1 (hb.block _ h1.lt), h2, fun i hi => ⟨(h3 i hi).1, ?_⟩⟩
  obtain ⟨y, a1, a2, a3, a4⟩ := (h3 i hi).2
  exact ⟨y, a1, a2, a3, a4.below hb⟩
theorem GrOk.below {w w' : World} {g : Gph} {N gg : Nat} (h : GrOk w g N gg) (hb : Below w.heap.size w w') : GrOk w' g N gg := by
  obtain ⟨F, ga, xs, us, low, most, h1, h2, h3⟩ := h
  exact ⟨F, ga, xs, us, low, most, h1.below hb, h2, fun i hi => ⟨(h3 i hi).1, (h3 i hi).2.1, (h3 i hi).2.2.1, (h3 i hi).2.2.2.below hb⟩⟩
/-- what 'm[i]' gives. -/
theorem MapOk.look {w : World} {g : Gph} {N m : Nat} (h : MapOk w g N m) {i : Int} (hi : W64 i) : ∃ A cap, (Instr.lookup 48 (.map (some m)) (.int .i64 i) false).run Try.prog w = .ok (.agg #[.int .i64 (g.k i), .int .i64 (g.n i), .slice A (g.a i).length cap]) w ∧ Args w ⟨g.k i, g.n i, A, (g.a i).length, cap⟩ (g.a i) := by
  obtain ⟨D, n, h1, h2, h3⟩ := h
  obtain ⟨-, y, a1, a2, a3, a4⟩ := h3 i hi
  obtain ⟨v, ps, hrun, hv⟩ := h1.lookup law3 Try.underlying48 (Try.zeroValue43 _) (rC_enc nd0) (keyOf_int_mk Try.underlying3 hi)
  obtain ⟨y2, rfl, hy2⟩ := rC_inv hv
  rw [a1] at hy2
  obtain ⟨b1, b2, b3⟩ := a4.code hy2
  obtain ⟨k, n', A, l, c⟩ := y2
  have e : l = (g.a i).length := b1.1
  subst e
  dsimp only at b2 b3
  have e1 := b2.trans a2
  have e2 := b3.trans a3
  subst e1 e2
  exact ⟨A, c, hrun, b1⟩
theorem fol_end {g : Gph} {i : Int} (h : ¬ (g.k i = 5 ∧ (g.a i).length = 1)) : ∀ m, fol g m i = i
  | 0 => rfl
  | m + 1 => by rw [fol, if_neg h]
theorem fol_step {g : Gph} {i : Int} (h : g.k i = 5) (h2 : (g.a i).length = 1) (m : Nat) : fol g (m + 1) i = fol g m ((g.a i).getD 0 0) := by rw [fol, if_pos ⟨h, h2⟩]
theorem arg64 {g : Gph} {N : Nat} (h : Gok g N) {i : Int} (hi : W64 i) {k : Nat} (hk : k < (g.a i).length) : W64 ((g.a i).getD k 0) := by
  rw [List.getD_eq_getElem?_getD, List.getElem?_eq_getElem hk]
  exact (h.2 i hi).2.1 _ (List.getElem_mem hk)
theorem fol64 {g : Gph} {N : Nat} (h : Gok g N) : ∀ (m : Nat) {i : Int}, W64 i → W64 (fol g m i)
  | 0, _, hi => hi
  | m + 1, i, hi => by
    rw [fol]
    by_cases e : g.k i = 5 ∧ (g.a i).length = 1
    · rw [if_pos e]; exact fol64 h m (arg64 h hi (by omega))
    · rw [if_neg e]; exact hi
set_option maxRecDepth 100000 in
set_option maxHeartbeats 1000000 in
theorem lfollow_any {w0 : World} {g : Gph} {N m : Nat} (hM : MapOk w0 g N m) (hk : Gok g N) (i : Int) (hi : W64 i) (w : World) (h0 : Below w0.heap.size w0 w) :
    Calls Try.prog 123 #[.map (some m), .int .i64 i] w fun e w' => e = .returned (.int .i64 (fol g N i)) ∧ Below w.heap.size w w' := by
  have hNb := hk.1
  have HK := Lib.hid hk
  have HM : Hid (∀ y, Below w0.heap.size w0 y → MapOk y g N m) := Lib.hid (fun y hy => hM.below hy)
  obtain ⟨D, n, hown, hsz, -⟩ := HM.out w h0
  have hsz := Lib.hid hsz
  clear hM hk
  go_enter Try.func123, Try.ntmps123
  go_wp2_with (at_len; refine wpList_len_own _ rfl _ 48 rfl 3 43 Try.underlying48 rC m n D rfl hown ?_; rw [hsz.out])
  clear hown hsz
  go_loopw [1, 8] (fun q c wr => ∃ (j : Nat) (i' : Int), c = .int .i64 j ∧ q = .int .i64 i' ∧ j ≤ N ∧ Hid (W64 i') ∧ Hid (fol g (N - j) i' = fol g N i) ∧ Below w.heap.size w wr) (fun _ c _ => N + 1 - (intOf c).toNat)
  case atStart => exact ⟨0, i, rfl, rfl, Nat.zero_le _, Lib.hid hi, Lib.hid rfl, Below.refl _ _⟩
  case round =>
    obtain ⟨j, i', rfl, rfl, hj, hi', hf, hb⟩ := hrel
    by_cases hlt : j < N
    · obtain ⟨A, cap, hrun, hA⟩ := (HM.out wr (h0.trans (hb.mono h0.size))).look hi'.out
      have hf2 := hf.out
      rw [show N - j = (N - (j + 1)) + 1 by omega] at hf2
      by_cases h5 : g.k i' = 5
      · by_cases hl : (g.a i').length = 1
        · rw [fol_step h5 hl] at hf2
          have hw2 := Lib.hid (arg64 HK.out hi'.out (k := 0) (by omega))
          obtain ⟨b, o, e1, e2, e3⟩ := hA.2.1 0 (by omega)
          dsimp only at e1
          subst e1
          have HF := Lib.hid hf2
          rw [h5, hl] at hrun
          have e4 := fun O => (World.cell?_alloc_lt wr O ⟨b, o, none⟩ e2).trans e3
          generalize (g.a i').getD 0 0 = z at *
          clear hf hf2 h5 hl hi' hA e3
          have hb2 := fun o => hb.alloc hb.size o
          go_wp2_with fail
          exact ⟨⟨j + 1, z, by go_num, rfl, by omega, hw2, HF, hb2 _⟩, by simp [intOf]; omega⟩
        · rw [fol_end (fun e => hl e.2)] at hf2
          have q1 : ((g.a i').length == 1) = false := by simpa using hl
          have q1 : ((g.a i').length != 1) = true := by simpa using hl
          have q3 : (((g.a i').length : Int) == 1) = false := by simp; omega
          have q4 : (((g.a i').length : Int) != 1) = true := by simp; omega
          have HF := Lib.hid hf2
          rw [h5] at hrun
          clear hf hf2 h5 hl hi' hA
          have hb2 := fun o => hb.alloc hb.size o
          generalize (g.a i').length = L at *
          go_wp2_with fail
          go_ret
          exact ⟨by rw [HF.out]; rfl, hb2 _⟩
      · rw [fol_end (fun e => h5 e.1)] at hf2
        have q1 : (g.k i' == 5) = false := by simpa using h5
        have q2 : (g.k i' != 5) = true := by simpa using h5
        have HF := Lib.hid hf2
        clear hf hf2 h5 hi' hA
        have hb2 := fun o => hb.alloc hb.size o
        generalize (g.a i').length = L at *
        generalize g.k i' = K at *
        go_wp2_with fail
        go_ret
        exact ⟨by rw [HF.out]; rfl, hb2 _⟩
    · obtain rfl : j = N := by omega
      have hf2 := hf.out
      rw [Nat.sub_self, fol] at hf2
      have HF := Lib.hid hf2
      clear hf hf2
      go_wp2_with fail
      go_ret
      exact ⟨by rw [HF.out]; rfl, hb⟩
end Go.Proofs.Ytccknhhjkkbadaa.Wm
