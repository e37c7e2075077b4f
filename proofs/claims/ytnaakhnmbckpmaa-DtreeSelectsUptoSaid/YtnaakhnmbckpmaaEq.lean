/- Contracts: slices.EqualFunc at expressions; ast.Same; ast.SameRule. -/
import Derived.Test.YtnaakhnmbckpmaaSame
namespace Go.Proofs.Ytnaakhnmbckpmaa.Same
open Go.ChangeShapes Go.WideShapes Go.ChangeAt Go.RowKit Go.Proofs.Ytnaakhnmbckpmaa.Lift Go.Proofs.Ytnaakhnmbckpmaa.Data
set_option linter.unusedVariables false
set_option linter.unusedSimpArgs false
def eqAll {α : Type} (eqB : α → α → Bool) : List α → List α → Bool
  | [], [] => true
  | a :: r, b :: q => eqB a b && eqAll eqB r q
  | _, _ => false
theorem eqAll_take {α : Type} {eqB : α → α → Bool} : ∀ {ys zs : List α} {j : Nat} (h : j < ys.length) (h2 : j < zs.length), eqAll eqB (ys.take (j + 1)) (zs.take (j + 1)) = (eqAll eqB (ys.take j) (zs.take j) && eqB ys[j] zs[j])
  | [], _, _, h, _ => by simp at h
  | _ :: _, [], _, _, h => by simp at h
  | a :: r, b :: q, 0, _, _ => by simp [eqAll]
  | a :: r, b :: q, j + 1, h, h2 => by
    simp only [List.take_succ_cons, eqAll, List.getElem_cons_succ]
    rw [eqAll_take (by simpa using h) (by simpa using h2), Bool.and_assoc]
theorem eqAll_false {α : Type} {eqB : α → α → Bool} : ∀ {ys zs : List α} {j : Nat} (h : j < ys.length) (h2 : j < zs.length), eqB ys[j] zs[j] = false → eqAll eqB ys zs = false
  | [], _, _, h, _, _ => by simp at h
  | _ :: _, [], _, _, h, _ => by simp at h
  | a :: r, b :: q, 0, _, _, h => by simp at h; simp [eqAll, h]
  | a :: r, b :: q, j + 1, h, h2, h3 => by
    simp only [eqAll, Bool.and_eq_false_iff]
    exact .inr (eqAll_false (by simpa using h) (by simpa using h2) (by simpa using h3))
theorem eqAll_len {α : Type} {eqB : α → α → Bool} : ∀ {ys zs : List α}, ¬ ys.length = zs.length → eqAll eqB ys zs = false
  | [], [], h => by simp at h
  | [], _ :: _, _ => rfl
  | _ :: _, [], _ => rfl
  | a :: r, b :: q, h => by
    simp only [eqAll, Bool.and_eq_false_iff]
    exact .inr (eqAll_len (by simpa using h))
theorem sameExs_eqAll {p : Bool} : ∀ {ys zs : List Ex}, sameExs p ys zs = eqAll (sameEx p) ys zs
  | [], [] => by simp [sameExs, eqAll]
  | [], _ :: _ => by simp [sameExs, eqAll]
  | _ :: _, [] => by simp [sameExs, eqAll]
  | a :: r, b :: q => by simp only [sameExs, eqAll]; rw [sameExs_eqAll]
set_option maxHeartbeats 1000000 in
theorem equalSame_any (eqB : Ex → Ex → Bool) (w0 : World) (ys zs : List Ex) (v u : Value) (hv : Ex.Sl w0 v ys) (hu : Ex.Sl w0 u zs)
    (hcall : ∀ (i : Nat) (h1 : i < ys.length) (h2 : i < zs.length) (w : World) (a b : Value), (ys[i]).Val w0 a → (zs[i]).Val w0 b → Below w0.heap.size w0 w →
      Calls Try.prog 53 #[a, b] w fun r w' => r = .returned (.bool (eqB ys[i] zs[i])) ∧ Below w.heap.size w w')
    (w : World) (h0 : Below w0.heap.size w0 w) :
    Calls Try.prog 52 #[v, u, .func (.func 53) #[] #[]] w fun r w' => r = .returned (.bool (eqAll eqB ys zs)) ∧ Below w.heap.size w w' := by
  obtain ⟨A, cap, rfl, ⟨hd1, hd2, hd3, hd4⟩, hs⟩ := hv
  obtain ⟨A2, cap2, rfl, ⟨he1, he2, he3, he4⟩, hs2⟩ := hu
  by_cases hL : ys.length = zs.length
  · rw [← hL]
    have hd5 : zs.length ≤ ys.length := by omega
    have he5 : ys.length ≤ zs.length := by omega
    have HL := Lib.hid hL
    clear hL
    have HCA := Lib.hid hcall
    clear hcall
    go_enter Try.func52, Try.ntmps52
    go_wp2_with fail
    go_loopw [17] (fun i wr => ∃ j : Nat, i = .int .i64 j ∧ j ≤ ys.length ∧ eqAll eqB (ys.take j) (zs.take j) = true ∧ Below w.heap.size w wr) (fun i _ => ys.length - (intOf i).toNat)
    case atStart => exact ⟨0, rfl, Nat.zero_le _, by simp [eqAll], Below.refl _ _⟩
    case round =>
      obtain ⟨j, rfl, hj, hsj, hb⟩ := hrel
      have HSJ := Lib.hid hsj
      clear hsj
      by_cases hlt : j < ys.length
      · have hlt2 : j < zs.length := by omega
        obtain ⟨b, o, rfl, hat⟩ := hs.get j hlt
        obtain ⟨b', o', rfl, hat2⟩ := hs2.get j hlt2
        have hb0 := h0.trans (hb.mono h0.size)
        have HT := Lib.hid (eqAll_take (eqB := eqB) hlt hlt2)
        have HF := Lib.hid (eqAll_false (eqB := eqB) hlt hlt2)
        have HI := Lib.hid (HCA.out j hlt hlt2)
        clear HCA
        generalize ys[j] = y at *
        generalize zs[j] = z at *
        cases y with
        | mk k' s' n' ys' l' c' =>
        cases z with
        | mk k'' s'' n'' ys'' l'' c'' =>
        obtain ⟨A', cap', c0, c1, c2, c3, c4, c5, hv'⟩ := Ex.At.both hat hb0 (Nat.le_refl _)
        obtain ⟨A'', cap'', d0, d1, d2, d3, d4, d5, hu'⟩ := Ex.At.both hat2 hb0 (Nat.le_refl _)
        clear hat hat2 hs hs2
        have hbl1 : b < wr.heap.size := World.block_lt_of_cell? _ _ c0
        have hbl2 : b' < wr.heap.size := World.block_lt_of_cell? _ _ d0
        have HC := Lib.hid (fun o o' => HI.out ((wr.alloc o).alloc o') _ _ hv' hu' ((hb0.alloc hb0.size o).alloc (by simp; exact Nat.le_succ_of_le hb0.size) o'))
        clear HI
        cases hsm : eqB (.mk k' s' n' ys' l' c') (.mk k'' s'' n'' ys'' l'' c'')
        · rw [hsm] at HC
          have HFF := Lib.hid (HF.out hsm)
          clear hsm
          go_wp2_with (go_at_call 53; refine (HC.out _ _).mono ?_; rintro e w1 ⟨rfl, hb1⟩)
          go_ret
          exact ⟨by rw [HFF.out]; rfl, hb.thenCall hb.size (Below.call2 hb1)⟩
        · rw [hsm] at HC
          have HTT := Lib.hid (by rw [HT.out, HSJ.out, hsm]; rfl : eqAll eqB (ys.take (j + 1)) (zs.take (j + 1)) = true)
          clear hsm
          go_wp2_with (go_at_call 53; refine (HC.out _ _).mono ?_; rintro e w1 ⟨rfl, hb1⟩)
          exact ⟨⟨j + 1, by go_num, by omega, HTT.out, hb.thenCall hb.size (Below.call2 hb1)⟩, by simp [intOf]; omega⟩
      · have hfin : eqAll eqB ys zs = true := by
          have h := HSJ.out
          rw [List.take_of_length_le (by omega), List.take_of_length_le (by omega)] at h
          exact h
        have HFin := Lib.hid hfin
        clear hfin
        go_wp2_with fail
        go_ret
        exact ⟨by rw [HFin.out]; rfl, hb⟩
  · have hf := Lib.hid (eqAll_len (eqB := eqB) hL)
    have h4 : ¬ ((ys.length : Int) = zs.length) := by omega
    clear hL hcall
    go_enter Try.func52, Try.ntmps52
    go_wp2_with fail
    go_ret
    exact ⟨by rw [hf.out]; rfl, Below.refl _ _⟩

set_option maxHeartbeats 1000000 in
theorem equalOne_any (eqB : Ex → Ex → Bool) (w0 : World) (ys zs : List Ex) (v u : Value) (hv : Ex.Sl w0 v ys) (hu : Ex.Sl w0 u zs)
    (hcall : ∀ (i : Nat) (h1 : i < ys.length) (h2 : i < zs.length) (w : World) (a b : Value), (ys[i]).Val w0 a → (zs[i]).Val w0 b → Below w0.heap.size w0 w →
      Calls Try.prog 54 #[a, b] w fun r w' => r = .returned (.bool (eqB ys[i] zs[i])) ∧ Below w.heap.size w w')
    (w : World) (h0 : Below w0.heap.size w0 w) :
    Calls Try.prog 52 #[v, u, .func (.func 54) #[] #[]] w fun r w' => r = .returned (.bool (eqAll eqB ys zs)) ∧ Below w.heap.size w w' := by
  obtain ⟨A, cap, rfl, ⟨hd1, hd2, hd3, hd4⟩, hs⟩ := hv
  obtain ⟨A2, cap2, rfl, ⟨he1, he2, he3, he4⟩, hs2⟩ := hu
  by_cases hL : ys.length = zs.length
  · rw [← hL]
    have hd5 : zs.length ≤ ys.length := by omega
    have he5 : ys.length ≤ zs.length := by omega
    have HL := Lib.hid hL
    clear hL
    have HCA := Lib.hid hcall
    clear hcall
    go_enter Try.func52, Try.ntmps52
    go_wp2_with fail
    go_loopw [17] (fun i wr => ∃ j : Nat, i = .int .i64 j ∧ j ≤ ys.length ∧ eqAll eqB (ys.take j) (zs.take j) = true ∧ Below w.heap.size w wr) (fun i _ => ys.length - (intOf i).toNat)
    case atStart => exact ⟨0, rfl, Nat.zero_le _, by simp [eqAll], Below.refl _ _⟩
    case round =>
      obtain ⟨j, rfl, hj, hsj, hb⟩ := hrel
      have HSJ := Lib.hid hsj
      clear hsj
      by_cases hlt : j < ys.length
      · have hlt2 : j < zs.length := by omega
        obtain ⟨b, o, rfl, hat⟩ := hs.get j hlt
        obtain ⟨b', o', rfl, hat2⟩ := hs2.get j hlt2
        have hb0 := h0.trans (hb.mono h0.size)
        have HT := Lib.hid (eqAll_take (eqB := eqB) hlt hlt2)
        have HF := Lib.hid (eqAll_false (eqB := eqB) hlt hlt2)
        have HI := Lib.hid (HCA.out j hlt hlt2)
        clear HCA
        generalize ys[j] = y at *
        generalize zs[j] = z at *
        cases y with
        | mk k' s' n' ys' l' c' =>
        cases z with
        | mk k'' s'' n'' ys'' l'' c'' =>
        obtain ⟨A', cap', c0, c1, c2, c3, c4, c5, hv'⟩ := Ex.At.both hat hb0 (Nat.le_refl _)
        obtain ⟨A'', cap'', d0, d1, d2, d3, d4, d5, hu'⟩ := Ex.At.both hat2 hb0 (Nat.le_refl _)
        clear hat hat2 hs hs2
        have hbl1 : b < wr.heap.size := World.block_lt_of_cell? _ _ c0
        have hbl2 : b' < wr.heap.size := World.block_lt_of_cell? _ _ d0
        have HC := Lib.hid (fun o o' => HI.out ((wr.alloc o).alloc o') _ _ hv' hu' ((hb0.alloc hb0.size o).alloc (by simp; exact Nat.le_succ_of_le hb0.size) o'))
        clear HI
        cases hsm : eqB (.mk k' s' n' ys' l' c') (.mk k'' s'' n'' ys'' l'' c'')
        · rw [hsm] at HC
          have HFF := Lib.hid (HF.out hsm)
          clear hsm
          go_wp2_with (go_at_call 54; refine (HC.out _ _).mono ?_; rintro e w1 ⟨rfl, hb1⟩)
          go_ret
          exact ⟨by rw [HFF.out]; rfl, hb.thenCall hb.size (Below.call2 hb1)⟩
        · rw [hsm] at HC
          have HTT := Lib.hid (by rw [HT.out, HSJ.out, hsm]; rfl : eqAll eqB (ys.take (j + 1)) (zs.take (j + 1)) = true)
          clear hsm
          go_wp2_with (go_at_call 54; refine (HC.out _ _).mono ?_; rintro e w1 ⟨rfl, hb1⟩)
          exact ⟨⟨j + 1, by go_num, by omega, HTT.out, hb.thenCall hb.size (Below.call2 hb1)⟩, by simp [intOf]; omega⟩
      · have hfin : eqAll eqB ys zs = true := by
          have h := HSJ.out
          rw [List.take_of_length_le (by omega), List.take_of_length_le (by omega)] at h
          exact h
        have HFin := Lib.hid hfin
        clear hfin
        go_wp2_with fail
        go_ret
        exact ⟨by rw [HFin.out]; rfl, hb⟩
  · have hf := Lib.hid (eqAll_len (eqB := eqB) hL)
    have h4 : ¬ ((ys.length : Int) = zs.length) := by omega
    clear hL hcall
    go_enter Try.func52, Try.ntmps52
    go_wp2_with fail
    go_ret
    exact ⟨by rw [hf.out]; rfl, Below.refl _ _⟩

end Go.Proofs.Ytnaakhnmbckpmaa.Same
