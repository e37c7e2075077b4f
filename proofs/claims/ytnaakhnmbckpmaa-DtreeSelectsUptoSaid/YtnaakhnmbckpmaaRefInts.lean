/- Contract: whimbrelref01.Ints tells whether two lists of numbers are alike. -/
import Derived.Test.YtnaakhnmbckpmaaInts
import Derived.Deep.QuietTactic
import Derived.BigQuiet
namespace Go.Proofs.Ytnaakhnmbckpmaa.RefInts
open Go.ChangeShapes Go.WideShapes Go.ChangeAt Go.RowKit Go.Proofs.Ytnaakhnmbckpmaa.Lift
set_option linter.unusedVariables false
set_option linter.unusedSimpArgs false
theorem below_drewN {B : Nat} {a w : World} (h : Below B a w) (n : Nat) : Below B a (w.drewN n) := ⟨h.os, h.tape, h.output, h.size, h.block⟩
theorem take_next (xs ys : List Int) (k : Nat) (hx : k < xs.length) (hy : k < ys.length) (h : xs.take k = ys.take k) (e : xs.getD k 0 = ys.getD k 0) : xs.take (k + 1) = ys.take (k + 1) := by
  rw [List.take_succ_eq_append_getElem hx, List.take_succ_eq_append_getElem hy, h]
  simp [List.getD, List.getElem?_eq_getElem hx, List.getElem?_eq_getElem hy] at e
  rw [e]
theorem ints_nil (w : World) (a b : Option Addr) (c d : Nat) :
    Calls Try.prog 36 #[.slice a 0 c, .slice b 0 d] w fun e w' => e = .returned (.bool true) ∧ Below w.heap.size w w' := by
  go_enter Try.func36, Try.ntmps36
  go_wp2_with fail
  refine wp_loop_once ?_
  go_wp2_with fail
  go_ret
  exact ⟨rfl, Below.refl _ _⟩
theorem ints_ne (w : World) (a b : Option Addr) (c d : Nat) (xs ys : List Int) (hne : xs.length ≠ ys.length) :
    Calls Try.prog 36 #[.slice a xs.length c, .slice b ys.length d] w fun e w' => e = .returned (.bool false) ∧ Below w.heap.size w w' := by
  have h : ((xs.length : Int) != ys.length) = true := by rw [bne_iff_ne]; omega
  have h2 : ((xs.length : Int) == ys.length) = false := by rw [beq_eq_false_iff_ne]; omega
  go_enter Try.func36, Try.ntmps36
  go_wp2_with fail
  go_ret
  exact ⟨rfl, Below.refl _ _⟩
theorem ints_any (w : World) (a b : Option Addr) (c d : Nat) (xs ys : List Int) (ha : IntsAt w a xs) (hb : IntsAt w b ys) (hl : xs.length = ys.length) (hm : xs.length ≤ 1000000) :
    Calls Try.prog 36 #[.slice a xs.length c, .slice b ys.length d] w fun e w' => e = .returned (.bool (xs == ys)) ∧ Below w.heap.size w w' := by
  rcases Nat.eq_zero_or_pos xs.length with h0 | h0
  · rw [List.eq_nil_of_length_eq_zero h0, List.eq_nil_of_length_eq_zero (by omega : ys.length = 0)]
    exact ints_nil w a b c d
  obtain ⟨ba, oa, rfl, hla, _⟩ := ha 0 h0
  obtain ⟨bb, ob, rfl, hlb, _⟩ := hb 0 (by omega)
  rw [← hl]
  have HL := Lib.hid hl
  clear hl
  go_enter Try.func36, Try.ntmps36
  go_wp2_with fail
  go_loopw [13] (fun i wr => ∃ k : Nat, i = .int .i64 k ∧ k ≤ xs.length ∧ xs.take k = ys.take k ∧ ∃ n, wr = w.drewN n) (fun i _ => xs.length - (intOf i).toNat)
  case atStart => exact ⟨0, rfl, Nat.zero_le _, by simp, 0, rfl⟩
  case round =>
    obtain ⟨k, rfl, hk, htk, n, rfl⟩ := hrel
    have HT := Lib.hid htk
    clear htk
    by_cases hlt : k < xs.length
    · obtain ⟨_, _, e, _, hca⟩ := ha k hlt
      injection e with e
      injection e with e1 e2
      subst e1 e2
      obtain ⟨_, _, e, _, hcb⟩ := hb k (by rw [← HL.out]; exact hlt)
      injection e with e
      injection e with e1 e2
      subst e1 e2
      clear ha hb
      by_cases hxy : xs.getD k 0 = ys.getD k 0
      · have hx2 : (xs.getD k 0 != ys.getD k 0) = false := by rw [hxy]; simp
        have HN := Lib.hid (take_next xs ys k hlt (by rw [← HL.out]; exact hlt) HT.out hxy)
        clear hxy
        generalize xs.getD k 0 = x at *
        generalize ys.getD k 0 = y at *
        go_wp2_with fail
        go_quiet (fail)
        go_wp2_with fail
        exact ⟨⟨k + 1, by go_num, by omega, HN.out, _, rfl⟩, by simp [intOf]; omega⟩
      · have hx2 : (xs.getD k 0 != ys.getD k 0) = true := by rw [bne_iff_ne]; exact hxy
        have hne : (xs == ys) = false := by
          rw [beq_eq_false_iff_ne]
          rintro rfl
          exact hxy rfl
        have HNE := Lib.hid hne
        clear hne hxy
        generalize xs.getD k 0 = x at *
        generalize ys.getD k 0 = y at *
        go_wp2_with fail
        go_quiet (fail)
        go_wp2_with fail
        go_ret
        exact ⟨by rw [HNE.out]; rfl, by repeat (first | exact Below.refl _ _ | apply below_drewN)⟩
    · have he : (xs == ys) = true := by
        have h := HT.out
        rw [List.take_of_length_le (by omega), List.take_of_length_le (by rw [← HL.out]; omega)] at h
        rw [h]; simp
      have HE := Lib.hid he
      clear he
      go_wp2_with fail
      go_ret
      exact ⟨by rw [HE.out]; rfl, by repeat (first | exact Below.refl _ _ | apply below_drewN)⟩
end Go.Proofs.Ytnaakhnmbckpmaa.RefInts
