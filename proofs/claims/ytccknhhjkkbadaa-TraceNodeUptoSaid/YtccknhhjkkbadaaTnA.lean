/- Contracts: chapter 41's awake, trace.numbered, trace.Node's add. -/
import Derived.Test.YtccknhhjkkbadaaShow
import Derived.Test.YtccknhhjkkbadaaStage
import Derived.Test.YtccknhhjkkbadaaOpenR
namespace Go.Proofs.Ytccknhhjkkbadaa.Tn
open Go.ChangeShapes Go.WideShapes Go.ChangeAt Go.RowKit Go.Proofs.Ytccknhhjkkbadaa.Lift Go.Proofs.Ytccknhhjkkbadaa.Arn Go.Proofs.Ytccknhhjkkbadaa.ArnN Go.Proofs.Ytccknhhjkkbadaa.Gr Go.Proofs.Ytccknhhjkkbadaa.Dig
set_option linter.unusedVariables false
set_option linter.unusedSimpArgs false
theorem status6_any (w : World) : Calls Try.prog 42 #[.int .i64 6] w fun e w' => e = .returned (.string ⟨#[102, 117, 101, 108]⟩) ∧ Below w.heap.size w w' := by
  have hal := fun o => (Below.refl w.heap.size w).alloc (Nat.le_refl _) o
  go_enter Try.func42, Try.ntmps42
  go_wp2_with fail
  go_ret
  exact ⟨rfl, hal _⟩
theorem event0_any (w : World) : Calls Try.prog 84 #[.int .i64 0] w fun e w' => e = .returned (.string ⟨#[105, 100, 108, 101]⟩) ∧ Below w.heap.size w w' := by
  have hal := fun o => (Below.refl w.heap.size w).alloc (Nat.le_refl _) o
  go_enter Try.func84, Try.ntmps84
  go_wp2_with fail
  go_ret
  exact ⟨rfl, hal _⟩
theorem awake_any (w : World) : Calls Try.prog 39 #[] w fun e w' => e = .returned (.bool true) ∧ Below w.heap.size w w' := by
  have H1 := Lib.hid (status6_any w)
  have H2 := fun y => Lib.hid (event0_any y)
  go_enter Try.func39, Try.ntmps39
  go_wp2_with fail
  refine H1.out.mono ?_
  rintro _ w1 ⟨rfl, q1⟩
  go_wp2_with fail
  refine (H2 _).out.mono ?_
  rintro _ w2 ⟨rfl, q2⟩
  go_wp2_with fail
  go_ret
  exact ⟨rfl, q1.thenCall q1.size q2⟩
/-- whether a kind's number counts. -/
def numB (k : Int) : Bool := !(k == 4 || k == 5 || k == 7 || k == 9)
theorem numbered_any (k : Int) (w : World) : Calls Try.prog 93 #[.int .i64 k] w fun e w' => e = .returned (.bool (numB k)) ∧ w = w' := by
  by_cases h4 : k = 4
  · subst h4
    go_enter Try.func93, Try.ntmps93
    go_wp2_with fail
    go_ret
    exact ⟨rfl, rfl⟩
  by_cases h5 : k = 5
  · subst h5
    go_enter Try.func93, Try.ntmps93
    go_wp2_with fail
    go_ret
    exact ⟨rfl, rfl⟩
  by_cases h7 : k = 7
  · subst h7
    go_enter Try.func93, Try.ntmps93
    go_wp2_with fail
    go_ret
    exact ⟨rfl, rfl⟩
  by_cases h9 : k = 9
  · subst h9
    go_enter Try.func93, Try.ntmps93
    go_wp2_with fail
    go_ret
    exact ⟨rfl, rfl⟩
  have e : numB k = true := by simp [numB, h4, h5, h7, h9]
  rw [e]
  have f4 : (k != 4) = true := by simpa using h4
  have f5 : (k != 5) = true := by simpa using h5
  have f7 : (k != 7) = true := by simpa using h7
  have f9 : (k != 9) = true := by simpa using h9
  go_enter Try.func93, Try.ntmps93
  go_wp2_with fail
  go_ret
  exact ⟨rfl, rfl⟩
theorem info9' : (Try.prog.info? 9).map (fun i => (i.zero, i.size, i.bytes)) = some (some (.string ⟨#[]⟩), 1, 16) := by kernel_rfl
theorem frozOf2 {w : World} {b : Nat} {cs : Array Value} {t : TypeId} (h : w.heap[b]? = some (.cells cs t (0, 0))) : w.frozen? ⟨b, 0, none⟩ = false := by simp [World.frozen?, h]
theorem cellOf2 {w : World} {b : Nat} {v : Value} {t : TypeId} (h : w.heap[b]? = some (.cells #[v] t (0, 0))) : w.cell? ⟨b, 0, none⟩ = some v := by simp [World.cell?, h]
/-- a list of words in a box. -/
def WordsAt (w : World) (B Lb : Nat) (k : Nat) (xs : List Value) : Prop := ∃ Av cv, w.heap[Lb]? = some (.cells #[.slice Av k cv] 61 (0, 0)) ∧ w.ownsRow B 9 1 (.slice Av k cv) k xs
set_option maxRecDepth 100000 in
set_option maxHeartbeats 2000000 in
theorem add_any (n : Int) (w : World) (B Lb k : Nat) (xs : List Value) (hn0 : -9223372036854775808 ≤ n) (hn1 : n ≤ 9223372036854775807) (hw : WordsAt w B Lb k xs) (hk : k ≤ 2000000) (hBL : B ≤ Lb) :
    Calls Try.prog 92 #[.int .i64 n, .pointer (some ⟨Lb, 0, none⟩)] w fun e w' => (∃ v, e = .returned v) ∧ WordsAt w' B Lb (k + 1) (xs ++ [.string ⟨(digS n).toArray⟩]) ∧ Below B w w' ∧ w.heap.size ≤ w'.heap.size := by
  obtain ⟨Av, cv, hL, hO⟩ := hw
  obtain ⟨i0, hi, hz0, hz1, hz2⟩ := info_parts info9'
  have hLl := (Array.getElem?_eq_some_iff.1 hL).1
  have hBw : B ≤ w.heap.size := by omega
  have hNe : ∀ (_ : True), some Lb ≠ (Value.slice Av k cv).ownBlock := fun _ e => by
    obtain ⟨cur, hc⟩ := row_type hO e.symm
    rw [hL] at hc
    injection hc with hc
    injection hc with _ hc
    exact absurd hc (by decide)
  have hNe := hNe trivial
  have D := fun y => Lib.hid (digits_any n y hn0 hn1)
  have HL := Lib.hid hL
  have HO := Lib.hid hO
  have c0 := cellOf2 hL
  have hg1 : k + 1 ≤ maxLen := by unfold maxLen; omega
  have hg2 : (k + 1) * 16 ≤ 140737488355328 := by omega
  have hB0 : Below w.heap.size w w.drew := (Below.refl _ _).drew
  have MS : Hid (∀ y, Below w.heap.size w y → (fun y : World => y.cell? ⟨Lb, 0, none⟩ = some (.slice Av k cv)) y) := Lib.hid (fun y hy => cellOf2 ((hy.block _ hLl).trans hL))
  have FX : ∀ y A2 c2, y.heap[Lb]? = some (.cells #[.slice Av k cv] 61 (0, 0)) → y.ownsRow B 9 1 (.slice A2 (k + 1) c2) (k + 1) (xs ++ [.string ⟨(digS n).toArray⟩]) → Below B w y → Hid ((∃ v, Ending.returned (.tuple #[]) = Ending.returned v) ∧ WordsAt (y.setCell ⟨Lb, 0, none⟩ (.slice A2 (k + 1) c2)) B Lb (k + 1) (xs ++ [.string ⟨(digS n).toArray⟩]) ∧ Below B w (y.setCell ⟨Lb, 0, none⟩ (.slice A2 (k + 1) c2)) ∧ w.heap.size ≤ (y.setCell ⟨Lb, 0, none⟩ (.slice A2 (k + 1) c2)).heap.size) := fun y A2 c2 h1 h2 h3 => Lib.hid ⟨⟨_, rfl⟩, ⟨A2, c2, heap_set (o := 0) _ h1, own_set_type h2 (a := ⟨Lb, 0, none⟩) h1 (by decide) _⟩, h3.setCell hBL _, by simpa [World.setCell] using h3.size⟩
  clear hL hO
  go_enter Try.func92, Try.ntmps92
  go_wp2_with fail
  have hS0 : (fun y : World => y.cell? ⟨Lb, 0, none⟩ = some (.slice Av k cv)) w.drew := MS.out _ hB0
  refine Stage.region_G (st := fun s => s == 5) (S := (fun y : World => y.cell? ⟨Lb, 0, none⟩ = some (.slice Av k cv))) (by kernel_rfl) ?_
  (refine Stage.anyG_take (i := 0) (oi := ?_) (v := ?_) ?_ (by kernel_rfl) (by kernel_rfl) (by kernel_rfl) (by kernel_rfl) ?_ ?_ hS0 ?_; rotate_left 2; (simp only [List.getElem?_toArray, List.getElem?_cons_succ, List.getElem?_cons_zero]; rfl); (exact fun _ _ _ h => h); (refine Or.inl ⟨by rfl, ?_⟩; intro w hSw; (try dsimp only at hSw); go_simp; try with_reducible rfl); try simp only [Act.put, List.setIfInBounds_toArray, List.set_cons_zero, List.set_cons_succ])
  (refine Stage.anyG_takeY (i := 1) (oi := ?_) (v := ?_) ?_ (by kernel_rfl) (by kernel_rfl) (by kernel_rfl) (by kernel_rfl) ?_ ?_ hS0 ?_; rotate_left 2; (simp only [List.getElem?_toArray, List.getElem?_cons_succ, List.getElem?_cons_zero]; rfl); (exact fun _ _ _ h => h); (refine Or.inl ⟨by rfl, ?_⟩; intro w hSw; (try dsimp only at hSw); go_simp; try with_reducible rfl); try simp only [Act.put, List.setIfInBounds_toArray, List.set_cons_zero, List.set_cons_succ])
  refine Stage.anyG_ready (rs := [2]) (by kernel_rfl) (by simp) ?_
  refine Stage.AllG.cons (o := ?o1_0) ?ho1_0 (fun K hK => ?h1_0) ?r1_0
  case ho1_0 => (simp only [List.getElem?_toArray, List.getElem?_cons_succ, List.getElem?_cons_zero]; rfl)
  case h1_0 =>
    go_simp
    go_at_call 90
    refine (D w.drew).out.mono ?_
    rintro _ y1 ⟨rfl, q1⟩
    have hB1 : Below w.heap.size w y1 := hB0.thenCall hB0.size q1
    try go_wp2_with fail
    refine hK.out _ _ (fun _ => MS.out _ hB1) ?_
    clear hK K
    try simp only [Act.put, List.setIfInBounds_toArray, List.set_cons_zero, List.set_cons_succ]
    refine Stage.anyG_ready (rs := [3]) (by kernel_rfl) (by simp) ?_
    refine Stage.AllG.cons (o := ?o2_0) ?ho2_0 (fun K hK => ?h2_0) ?r2_0
    case ho2_0 => (simp only [List.getElem?_toArray, List.getElem?_cons_succ, List.getElem?_cons_zero]; rfl)
    case h2_0 =>
      go_simp
      have hB2 := hB1.alloc hB1.size (.cells #[.string ⟨(digS n).toArray⟩] 9)
      refine hK.out _ _ (fun _ => MS.out _ hB2) ?_
      clear hK K
      try simp only [Act.put, List.setIfInBounds_toArray, List.set_cons_zero, List.set_cons_succ]
      refine Stage.anyG_ready (rs := [4]) (by kernel_rfl) (by simp) ?_
      refine Stage.AllG.cons (o := ?o3_0) ?ho3_0 (fun K hK => ?h3_0) ?r3_0
      case ho3_0 => (simp only [List.getElem?_toArray, List.getElem?_cons_succ, List.getElem?_cons_zero]; rfl)
      case h3_0 =>
        refine step_append_where (by rfl) (.tmp 3) (.tmp 6) 61 rfl B 9 i0 _ 1 16 Try.underlying61 hi hz0 hz1 hz2 rfl Nat.one_pos (.slice Av k cv) k xs rfl (own_below HO.out hB2 (Nat.le_refl _)) (some ⟨y1.heap.size, 0, none⟩) 1 1 [.string ⟨(digS n).toArray⟩] rfl (Lift.Src.of_own (own_new y1 9 1 1 #[.string ⟨(digS n).toArray⟩] rfl (by omega))) (fun h => nomatch h) (by simp [Value.oneCell']) hg1 hg2 (Nat.le_trans hBw hB2.size) ?_
        intro v2 y2 hO2 hG2 hf2
        obtain ⟨A2, c2, rfl, -, -⟩ := own_form hO2
        have K2 := (hG2.block Lb (Nat.lt_of_lt_of_le hLl hB2.size) hNe).trans ((hB2.block _ hLl).trans HL.out)
        have z0 := frozOf2 K2
        have z1 := cellOf2 K2
        have FIN := FX y2 A2 c2 K2 hO2 ((hB2.mono hBw).trans (below_grown (own_below HO.out hB2 (Nat.le_refl _)) hG2 (Nat.le_trans hBw hB2.size)))
        refine hK.out _ _ (fun _ => z1) ?_
        clear hK K
        try simp only [Act.put, List.setIfInBounds_toArray, List.set_cons_zero, List.set_cons_succ]
        refine Stage.anyG_ready (rs := [5]) (by kernel_rfl) (by simp) ?_
        refine Stage.AllG.cons (o := ?o4_0) ?ho4_0 (fun K hK => ?h4_0) ?r4_0
        case ho4_0 => (simp only [List.getElem?_toArray, List.getElem?_cons_succ, List.getElem?_cons_zero]; rfl)
        case h4_0 =>
          go_simp
          refine hK.out _ _ (fun hl => Bool.noConfusion ((show Stage.late _ _ = true by kernel_rfl).symm.trans hl)) ?_
          clear hK K
          try simp only [Act.put, List.setIfInBounds_toArray, List.set_cons_zero, List.set_cons_succ]
          refine Stage.anyG_done (by kernel_rfl) ?_ _
          go_wp2_with fail
          go_end0
          exact FIN.out
        case r4_0 =>
          exact Stage.AllG.nil
      case r3_0 =>
        exact Stage.AllG.nil
    case r2_0 =>
      exact Stage.AllG.nil
  case r1_0 =>
    exact Stage.AllG.nil
end Go.Proofs.Ytccknhhjkkbadaa.Tn
