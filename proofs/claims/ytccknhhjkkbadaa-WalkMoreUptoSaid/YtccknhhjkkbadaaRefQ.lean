/- Contracts: the law's picks and Few, the reference's SamePicks. -/
import Derived.Test.YtccknhhjkkbadaaRefP
namespace Go.Proofs.Ytccknhhjkkbadaa.Fg
open Go.ChangeShapes Go.WideShapes Go.ChangeAt Go.RowKit Go.Proofs.Ytccknhhjkkbadaa.Lift
set_option linter.unusedVariables false
set_option linter.unusedSimpArgs false
theorem fewPk_any (w : World) (A : Option Addr) (n cap : Nat) : Calls Try.prog 56 #[.slice A n cap] w fun r w' => r = .returned (.bool (decide (n ≤ 40))) ∧ w = w' := by
  by_cases h : n ≤ 40
  · have h1 : ((n : Int) ≤ 40) := by omega
    rw [show decide (n ≤ 40) = true by simpa using h]
    go_enter Try.func56, Try.ntmps56
    go_wp2_with fail
    go_ret
    exact ⟨rfl, rfl⟩
  · have h1 : ¬ ((n : Int) ≤ 40) := by omega
    rw [show decide (n ≤ 40) = false by simpa using h]
    go_enter Try.func56, Try.ntmps56
    go_wp2_with fail
    go_ret
    exact ⟨ret_bool (by simp; try omega), rfl⟩
/-- the picks, by the reference. -/
def picksR (l : List Pk) : List Pk := l.foldl (fun f p => withR f p.1 p.2) []
theorem picksR_take {l : List Pk} {k : Nat} (h : k < l.length) : picksR (l.take (k + 1)) = withR (picksR (l.take k)) l[k].1 l[k].2 := by
  rw [picksR, List.take_succ_eq_append_getElem h, List.foldl_append]
  rfl
theorem picksR_len (l : List Pk) : (picksR l).length ≤ l.length := by
  have : ∀ (l acc : List Pk), (l.foldl (fun f p => withR f p.1 p.2) acc).length ≤ acc.length + l.length := by
    intro l
    induction l with
    | nil => intro acc; simp
    | cons p r ih =>
      intro acc
      rw [List.foldl_cons]
      have h1 := ih (withR acc p.1 p.2)
      have h2 := withR_len acc p.1 p.2
      simp only [List.length_cons]
      omega
  simpa [picksR] using this l []
set_option maxRecDepth 100000 in
set_option maxHeartbeats 1000000 in
theorem refPicks_any (w0 : World) (l : List Pk) (w : World) (v : Value) (hv : PkSl w0 v l) (h0 : Below w0.heap.size w0 w) (hm : l.length + 2 ≤ 4194304) : Calls Try.prog 57 #[v] w (NewPk (picksR l) w) := by
  obtain ⟨A, cap, rfl, a1, a2, a3, a4, a5⟩ := hv
  go_enter Try.func57, Try.ntmps57
  go_wp2_with fail
  go_loopw [3, 8] (fun t i wr => ∃ (k : Nat), i = .int .i64 k ∧ k ≤ l.length ∧ PkSl wr t (picksR (l.take k)) ∧ Below w.heap.size w wr) (fun _ i _ => l.length - (intOf i).toNat)
  case atStart => exact ⟨0, rfl, Nat.zero_le _, PkSl.nil _, Below.refl _ _⟩
  case round =>
    obtain ⟨k, rfl, hk, hs, hb⟩ := hrel
    by_cases hlt : k < l.length
    · obtain ⟨b, o, rfl, hbl, c1, c2⟩ := pk_cell a5 k hlt
      have hb0 := h0.trans (hb.mono h0.size)
      have x1 := (hb0.cell (p := ⟨b, o + k * 2, none⟩) hbl).trans c1
      have x2 := (hb0.cell (p := ⟨b, o + k * 2 + 1, none⟩) hbl).trans c2
      have hlen := picksR_len (l.take k)
      have hlen2 : (l.take k).length ≤ k := List.length_take_le _ _
      have HT := Lib.hid (picksR_take hlt)
      generalize l[k] = y at *
      have HWi := fun o' => Lib.hid (refWith_any wr (picksR (l.take k)) y.1 y.2 (wr.alloc o') _ hs (below1 wr o') (by omega))
      clear a5 c1 c2 hb0 h0
      go_wp2_with (go_at_call 62; refine (HWi _).out.mono ?_; rintro e w1 ⟨v1, rfl, hs1, hb1⟩; have hb1c := Below.call1 hb1)
      exact ⟨⟨k + 1, by go_num, by omega, by rw [HT.out]; exact hs1, hb.thenCall hb.size hb1c⟩, by simp [intOf]; omega⟩
    · rw [List.take_of_length_le (by omega)] at hs
      go_wp2_with fail
      go_ret
      exact ⟨_, rfl, hs, hb⟩
set_option maxRecDepth 100000 in
set_option maxHeartbeats 1000000 in
theorem samePicks_any (w0 : World) (l m : List Pk) (w : World) (v u : Value) (hv : PkSl w0 v l) (hu : PkSl w0 u m) (h0 : Below w0.heap.size w0 w) :
    Calls Try.prog 60 #[v, u] w fun r w' => r = .returned (.bool (decide (l = m))) ∧ Below w.heap.size w w' := by
  obtain ⟨A, cap, rfl, a1, a2, a3, a4, a5⟩ := hv
  obtain ⟨A2, cap2, rfl, b1, b2, b3, b4, b5⟩ := hu
  by_cases hl : l.length = m.length
  · rw [← hl]
    have HL := Lib.hid hl
    have hl1 : l.length ≤ m.length := by omega
    have hl2 : m.length ≤ l.length := by omega
    clear hl
    go_enter Try.func60, Try.ntmps60
    go_wp2_with fail
    go_loopw [13] (fun i wr => ∃ k : Nat, i = .int .i64 k ∧ k ≤ l.length ∧ Hid (l.take k = m.take k) ∧ Below w.heap.size w wr) (fun i _ => l.length - (intOf i).toNat)
    case atStart => exact ⟨0, rfl, Nat.zero_le _, by show l.take 0 = m.take 0; simp, Below.refl _ _⟩
    case round =>
      obtain ⟨k, rfl, hk, hT, hb⟩ := hrel
      by_cases hlt : k < l.length
      · have hlt2 : k < m.length := by omega
        obtain ⟨b, o, rfl, hbl, c1, c2⟩ := pk_cell a5 k hlt
        obtain ⟨b', o', rfl, hbl', d1, d2⟩ := pk_cell b5 k hlt2
        have hb0 := h0.trans (hb.mono h0.size)
        have x1 := (hb0.cell (p := ⟨b, o + k * 2, none⟩) hbl).trans c1
        have x2 := (hb0.cell (p := ⟨b, o + k * 2 + 1, none⟩) hbl).trans c2
        have y1 := (hb0.cell (p := ⟨b', o' + k * 2, none⟩) hbl').trans d1
        have y2 := (hb0.cell (p := ⟨b', o' + k * 2 + 1, none⟩) hbl').trans d2
        clear c1 c2 d1 d2 a5 b5 h0 hb0
        by_cases he : l[k] = m[k]
        · have HN := Lib.hid (take_next hlt hlt2 hT.out he)
          have q1 : (l[k].1 == m[k].1) = true := by rw [he]; simp
          have q2 : (l[k].2 == m[k].2) = true := by rw [he]; simp
          clear he
          generalize l[k] = x at *
          generalize m[k] = y at *
          go_wp2_with fail
          go_quiet (fail)
          go_wp2_with fail
          refine ⟨⟨k + 1, by go_num, by omega, HN.out, ?_⟩, by simp [intOf]; omega⟩
          repeat (first | exact hb | apply below_drewN)
        · have HN : Hid (decide (l = m) = false) := Lib.hid (by rw [decide_eq_false_iff_not]; intro e; subst e; exact he rfl)
          have q1 : (l[k].1 == m[k].1) = false ∨ ((l[k].1 == m[k].1) = true ∧ (l[k].2 == m[k].2) = false) := by
            by_cases h1 : l[k].1 = m[k].1
            · exact .inr ⟨by simp [h1], by rw [beq_eq_false_iff_ne]; intro h2; exact he (Prod.ext h1 h2)⟩
            · exact .inl (by simp [h1])
          clear he
          generalize l[k] = x at *
          generalize m[k] = y at *
          obtain ⟨xa, xb⟩ := x
          obtain ⟨ya, yb⟩ := y
          dsimp only at *
          rcases q1 with q1 | ⟨q1, q2⟩
          all_goals
            go_wp2_with fail
            go_quiet (fail)
            go_wp2_with fail
            go_ret
            refine ⟨by rw [HN.out]; rfl, ?_⟩
            repeat (first | exact hb | apply below_drewN)
      · have HN : Hid (decide (l = m) = true) := Lib.hid (by
          rw [decide_eq_true_iff]
          have h := hT.out
          rwa [List.take_of_length_le (by omega), List.take_of_length_le (by omega)] at h)
        go_wp2_with fail
        go_ret
        exact ⟨by rw [HN.out]; rfl, hb⟩
  · rw [show decide (l = m) = false from by rw [decide_eq_false_iff_not]; intro e; exact hl (by rw [e])]
    have h4 : ((l.length : Int) == m.length) = false := by rw [beq_eq_false_iff_ne]; omega
    have h5 : ((l.length : Int) != m.length) = true := by rw [bne_iff_ne]; omega
    go_enter Try.func60, Try.ntmps60
    go_wp2_with fail
    go_ret
    exact ⟨rfl, Below.refl _ _⟩
end Go.Proofs.Ytccknhhjkkbadaa.Fg
