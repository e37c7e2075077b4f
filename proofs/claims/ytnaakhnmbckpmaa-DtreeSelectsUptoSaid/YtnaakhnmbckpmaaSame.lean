/- Contracts: whether two expressions are the same. -/
import Derived.Test.YtnaakhnmbckpmaaFew
namespace Go.Proofs.Ytnaakhnmbckpmaa.Same
open Go.ChangeShapes Go.WideShapes Go.ChangeAt Go.RowKit Go.Proofs.Ytnaakhnmbckpmaa.Lift Go.Proofs.Ytnaakhnmbckpmaa.Data
set_option linter.unusedVariables false
set_option linter.unusedSimpArgs false
mutual
def sameEx (p : Bool) : Ex → Ex → Bool
  | .mk k s n ys l c, .mk k2 s2 n2 zs l2 c2 => decide (k = k2) && (decide (s.toList = s2.toList) && (decide (n = n2) && (decide (ys.length = zs.length) && ((!p || decide (l = l2 ∧ c = c2)) && sameExs p ys zs))))
def sameExs (p : Bool) : List Ex → List Ex → Bool
  | [], [] => true
  | a :: r, b :: q => sameEx p a b && sameExs p r q
  | _, _ => false
end
theorem sameExs_take {p : Bool} : ∀ {ys zs : List Ex} {j : Nat} (h : j < ys.length) (h2 : j < zs.length), sameExs p (ys.take (j + 1)) (zs.take (j + 1)) = (sameExs p (ys.take j) (zs.take j) && sameEx p ys[j] zs[j])
  | [], _, _, h, _ => by simp at h
  | _ :: _, [], _, _, h => by simp at h
  | a :: r, b :: q, 0, _, _ => by simp [sameExs]
  | a :: r, b :: q, j + 1, h, h2 => by
    simp only [List.take_succ_cons, sameExs, List.getElem_cons_succ]
    rw [sameExs_take (by simpa using h) (by simpa using h2), Bool.and_assoc]
theorem sameExs_false {p : Bool} : ∀ {ys zs : List Ex} {j : Nat} (h : j < ys.length) (h2 : j < zs.length), sameEx p ys[j] zs[j] = false → sameExs p ys zs = false
  | [], _, _, h, _, _ => by simp at h
  | _ :: _, [], _, _, h, _ => by simp at h
  | a :: r, b :: q, 0, _, _, h => by simp at h; simp [sameExs, h]
  | a :: r, b :: q, j + 1, h, h2, h3 => by
    simp only [sameExs, Bool.and_eq_false_iff]
    exact .inr (sameExs_false (by simpa using h) (by simpa using h2) (by simpa using h3))
def SameRel (p : Bool) (ys zs : List Ex) (w : World) (A : Option Addr) (cap : Nat) (A2 : Option Addr) (cap2 : Nat) (i : Value) (wr : World) : Prop :=
  ∃ j : Nat, i = .int .i64 j ∧ j ≤ ys.length ∧ sameExs p (ys.take j) (zs.take j) = true ∧ Below w.heap.size w wr ∧ w.heap.size + 2 ≤ wr.heap.size ∧
    wr.cell? ⟨w.heap.size, 3, none⟩ = some (.slice A ys.length cap) ∧ wr.cell? ⟨w.heap.size + 1, 3, none⟩ = some (.slice A2 ys.length cap2)
set_option maxRecDepth 100000 in
set_option maxHeartbeats 4000000 in
theorem same_any (N : Nat) (w0 : World) : ∀ (e f : Ex) (p : Bool) (w : World) (v u : Value), e.size ≤ N → e.Val w0 v → f.Val w0 u → Below w0.heap.size w0 w →
    Calls Try.prog 21 #[v, u, .bool p] w fun r w' => r = .returned (.bool (sameEx p e f)) ∧ Below w.heap.size w w' := by
  induction N with
  | zero => intro e f p w v u h; cases e; rw [Ex.size] at h; omega
  | succ N ih =>
    intro e f p w v u hN hv hu h0
    cases e with
    | mk k s n ys l c =>
    cases f with
    | mk k2 s2 n2 zs l2 c2 =>
    obtain ⟨A, cap, rfl, ⟨hd1, hd2, hd3, hd4⟩, hs⟩ := hv
    obtain ⟨A2, cap2, rfl, ⟨he1, he2, he3, he4⟩, hs2⟩ := hu
    rw [Ex.size_mk] at hN
    by_cases t1 : k = k2 ∧ s.toList = s2.toList ∧ n = n2 ∧ ys.length = zs.length ∧ (p = false ∨ (l = l2 ∧ c = c2))
    · obtain ⟨rfl, t2, rfl, t4, t5⟩ := t1
      have hsame : sameEx p (.mk k s n ys l c) (.mk k s2 n zs l2 c2) = sameExs p ys zs := by
        rw [sameEx]
        rcases t5 with rfl | ⟨rfl, rfl⟩ <;> simp [t2, t4]
      have HS := Lib.hid hsame
      have HL := Lib.hid t4
      clear hsame
      rw [← t4]
      have hd5 : zs.length ≤ ys.length := by omega
      have he5 : ys.length ≤ zs.length := by omega
      clear t4
      have t6 : p = false ∨ (p = true ∧ l = l2 ∧ c = c2) := by
        rcases t5 with h | ⟨h1, h2⟩
        · exact .inl h
        · cases p
          · exact .inl rfl
          · exact .inr ⟨rfl, h1, h2⟩
      clear t5
      rcases t6 with rfl | ⟨rfl, rfl, rfl⟩
      · go_enter Try.func21, Try.ntmps21
        go_wp2_with fail
        go_loopw [49] (fun i wr => SameRel false ys zs w A cap A2 cap2 i wr) (fun i _ => ys.length - (intOf i).toNat)
        case atStart => exact ⟨0, rfl, Nat.zero_le _, by simp [sameExs], ((Below.refl _ _).alloc (Nat.le_refl _) _).alloc (by simp) _, by simp, by simp [go_sem], by simp [go_sem]⟩
        case round =>
          obtain ⟨j, rfl, hj, hsj, hb, hsz, b1, b2⟩ := hrel
          have HSJ := Lib.hid hsj
          clear hsj
          by_cases hlt : j < ys.length
          · have hlt2 : j < zs.length := by omega
            obtain ⟨b, o, rfl, hat⟩ := hs.get j hlt
            obtain ⟨b', o', rfl, hat2⟩ := hs2.get j hlt2
            have hz := ExSize_get hlt
            have hb0 := h0.trans (hb.mono h0.size)
            have HT := Lib.hid (sameExs_take (p := false) hlt hlt2)
            have HF := Lib.hid (sameExs_false (p := false) hlt hlt2)
            generalize ys[j] = y at *
            generalize zs[j] = z at *
            have HI := fun v u => Lib.hid (fun hv hu => ih y z false wr.drew v u (by omega) hv hu hb0.drew)
            cases y with
            | mk k' s' n' ys' l' c' =>
            cases z with
            | mk k'' s'' n'' ys'' l'' c'' =>
            obtain ⟨A', cap', c0, c1, c2, c3, c4, c5, hv'⟩ := Ex.At.both hat hb0 (Nat.le_refl _)
            obtain ⟨A'', cap'', d0, d1, d2, d3, d4, d5, hu'⟩ := Ex.At.both hat2 hb0 (Nat.le_refl _)
            clear hat hat2 hs hs2
            have hb1' : w.heap.size < wr.heap.size := by omega
            have hb2' : w.heap.size + 1 < wr.heap.size := by omega
            go_wp2_with fail
            go_still_tail 11, (by kernel_rfl)
            change wpList _ _ _ _ _ wr.drew
            have HC := Lib.hid ((HI _ _).out hv' hu')
            clear HI
            cases hsm : sameEx false (.mk k' s' n' ys' l' c') (.mk k'' s'' n'' ys'' l'' c'')
            · rw [hsm] at HC
              have HFF := Lib.hid (HF.out hsm)
              clear hsm
              go_wp2_with (go_at_call 21; refine HC.out.mono ?_; rintro e w1 ⟨rfl, hb1⟩)
              go_ret
              have hb2 : Below w.heap.size w w1 := hb.trans (((Below.refl _ _).drew.trans hb1).mono hb.size)
              exact ⟨by rw [HS.out, HFF.out]; rfl, hb2⟩
            · rw [hsm] at HC
              have HTT := Lib.hid (by rw [HT.out, HSJ.out, hsm]; rfl : sameExs false (ys.take (j + 1)) (zs.take (j + 1)) = true)
              clear hsm
              go_wp2_with (go_at_call 21; refine HC.out.mono ?_; rintro e w1 ⟨rfl, hb1⟩)
              have hb2 : Below wr.heap.size wr w1 := (Below.refl _ _).drew.trans hb1
              have e1 := (hb2.cell (p := ⟨w.heap.size, 3, none⟩) hb1').trans b1
              have e2 := (hb2.cell (p := ⟨w.heap.size + 1, 3, none⟩) hb2').trans b2
              exact ⟨⟨j + 1, by go_num, by omega, HTT.out, hb.trans (hb2.mono hb.size), by have := hb2.size; omega, e1, e2⟩, by simp [intOf]; omega⟩
          · have hfin : sameExs false ys zs = true := by
              have h := HSJ.out
              rw [List.take_of_length_le (by omega), List.take_of_length_le (by omega)] at h
              exact h
            have HFin := Lib.hid hfin
            clear hfin
            go_wp2_with fail
            go_ret
            exact ⟨by rw [HS.out, HFin.out]; rfl, hb⟩
      · go_enter Try.func21, Try.ntmps21
        go_wp2_with fail
        go_loopw [49] (fun i wr => SameRel true ys zs w A cap A2 cap2 i wr) (fun i _ => ys.length - (intOf i).toNat)
        case atStart => exact ⟨0, rfl, Nat.zero_le _, by simp [sameExs], ((Below.refl _ _).alloc (Nat.le_refl _) _).alloc (by simp) _, by simp, by simp [go_sem], by simp [go_sem]⟩
        case round =>
          obtain ⟨j, rfl, hj, hsj, hb, hsz, b1, b2⟩ := hrel
          have HSJ := Lib.hid hsj
          clear hsj
          by_cases hlt : j < ys.length
          · have hlt2 : j < zs.length := by omega
            obtain ⟨b, o, rfl, hat⟩ := hs.get j hlt
            obtain ⟨b', o', rfl, hat2⟩ := hs2.get j hlt2
            have hz := ExSize_get hlt
            have hb0 := h0.trans (hb.mono h0.size)
            have HT := Lib.hid (sameExs_take (p := true) hlt hlt2)
            have HF := Lib.hid (sameExs_false (p := true) hlt hlt2)
            generalize ys[j] = y at *
            generalize zs[j] = z at *
            have HI := fun v u => Lib.hid (fun hv hu => ih y z true wr.drew v u (by omega) hv hu hb0.drew)
            cases y with
            | mk k' s' n' ys' l' c' =>
            cases z with
            | mk k'' s'' n'' ys'' l'' c'' =>
            obtain ⟨A', cap', c0, c1, c2, c3, c4, c5, hv'⟩ := Ex.At.both hat hb0 (Nat.le_refl _)
            obtain ⟨A'', cap'', d0, d1, d2, d3, d4, d5, hu'⟩ := Ex.At.both hat2 hb0 (Nat.le_refl _)
            clear hat hat2 hs hs2
            have hb1' : w.heap.size < wr.heap.size := by omega
            have hb2' : w.heap.size + 1 < wr.heap.size := by omega
            go_wp2_with fail
            go_still_tail 11, (by kernel_rfl)
            change wpList _ _ _ _ _ wr.drew
            have HC := Lib.hid ((HI _ _).out hv' hu')
            clear HI
            cases hsm : sameEx true (.mk k' s' n' ys' l' c') (.mk k'' s'' n'' ys'' l'' c'')
            · rw [hsm] at HC
              have HFF := Lib.hid (HF.out hsm)
              clear hsm
              go_wp2_with (go_at_call 21; refine HC.out.mono ?_; rintro e w1 ⟨rfl, hb1⟩)
              go_ret
              have hb2 : Below w.heap.size w w1 := hb.trans (((Below.refl _ _).drew.trans hb1).mono hb.size)
              exact ⟨by rw [HS.out, HFF.out]; rfl, hb2⟩
            · rw [hsm] at HC
              have HTT := Lib.hid (by rw [HT.out, HSJ.out, hsm]; rfl : sameExs true (ys.take (j + 1)) (zs.take (j + 1)) = true)
              clear hsm
              go_wp2_with (go_at_call 21; refine HC.out.mono ?_; rintro e w1 ⟨rfl, hb1⟩)
              have hb2 : Below wr.heap.size wr w1 := (Below.refl _ _).drew.trans hb1
              have e1 := (hb2.cell (p := ⟨w.heap.size, 3, none⟩) hb1').trans b1
              have e2 := (hb2.cell (p := ⟨w.heap.size + 1, 3, none⟩) hb2').trans b2
              exact ⟨⟨j + 1, by go_num, by omega, HTT.out, hb.trans (hb2.mono hb.size), by have := hb2.size; omega, e1, e2⟩, by simp [intOf]; omega⟩
          · have hfin : sameExs true ys zs = true := by
              have h := HSJ.out
              rw [List.take_of_length_le (by omega), List.take_of_length_le (by omega)] at h
              exact h
            have HFin := Lib.hid hfin
            clear hfin
            go_wp2_with fail
            go_ret
            exact ⟨by rw [HS.out, HFin.out]; rfl, hb⟩
    · by_cases a1 : k = k2
      · by_cases a2 : s.toList = s2.toList
        · by_cases a3 : n = n2
          · by_cases a4 : ys.length = zs.length
            · have a5 : p = true ∧ ¬ (l = l2 ∧ c = c2) := by
                cases p
                · exact absurd ⟨a1, a2, a3, a4, .inl rfl⟩ t1
                · exact ⟨rfl, fun h => t1 ⟨a1, a2, a3, a4, .inr h⟩⟩
              obtain ⟨rfl, a6⟩ := a5
              clear t1
              have HS : Hid (sameEx true (.mk k s n ys l c) (.mk k2 s2 n2 zs l2 c2) = false) := Lib.hid (by rw [sameEx]; simp [a6])
              have hd7 : ys.length ≤ zs.length := by omega
              have he7 : zs.length ≤ ys.length := by omega
              subst a1 a3
              rw [← a4]
              have HL := Lib.hid a4
              clear a4
              by_cases a7 : l = l2
              · have a8 : ¬ c = c2 := fun h => a6 ⟨a7, h⟩
                subst a7
                clear a6
                go_enter Try.func21, Try.ntmps21
                go_wp2_with fail
                go_ret
                exact ⟨by rw [HS.out]; rfl, ((Below.refl _ _).alloc (Nat.le_refl _) _).alloc (by simp) _⟩
              · clear a6
                go_enter Try.func21, Try.ntmps21
                go_wp2_with fail
                go_ret
                exact ⟨by rw [HS.out]; rfl, ((Below.refl _ _).alloc (Nat.le_refl _) _).alloc (by simp) _⟩
            · clear t1
              have HS : Hid (sameEx p (.mk k s n ys l c) (.mk k2 s2 n2 zs l2 c2) = false) := Lib.hid (by rw [sameEx]; simp [a4])
              have a4b : ¬ ((ys.length : Int) = zs.length) := by omega
              subst a1 a3
              go_enter Try.func21, Try.ntmps21
              go_wp2_with fail
              go_ret
              exact ⟨by rw [HS.out]; rfl, ((Below.refl _ _).alloc (Nat.le_refl _) _).alloc (by simp) _⟩
          · clear t1
            have HS : Hid (sameEx p (.mk k s n ys l c) (.mk k2 s2 n2 zs l2 c2) = false) := Lib.hid (by rw [sameEx]; simp [a3])
            subst a1
            go_enter Try.func21, Try.ntmps21
            go_wp2_with fail
            go_ret
            exact ⟨by rw [HS.out]; rfl, ((Below.refl _ _).alloc (Nat.le_refl _) _).alloc (by simp) _⟩
        · clear t1
          have HS : Hid (sameEx p (.mk k s n ys l c) (.mk k2 s2 n2 zs l2 c2) = false) := Lib.hid (by rw [sameEx]; simp [a2])
          subst a1
          go_enter Try.func21, Try.ntmps21
          go_wp2_with fail
          go_ret
          exact ⟨by rw [HS.out]; rfl, ((Below.refl _ _).alloc (Nat.le_refl _) _).alloc (by simp) _⟩
      · clear t1
        have HS : Hid (sameEx p (.mk k s n ys l c) (.mk k2 s2 n2 zs l2 c2) = false) := Lib.hid (by rw [sameEx]; simp [a1])
        go_enter Try.func21, Try.ntmps21
        go_wp2_with fail
        go_ret
        exact ⟨by rw [HS.out]; rfl, ((Below.refl _ _).alloc (Nat.le_refl _) _).alloc (by simp) _⟩
end Go.Proofs.Ytnaakhnmbckpmaa.Same
