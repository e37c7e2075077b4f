/- The law StackBack returns true at every input, and its argument reads afterwards as before. -/
import Derived.Test.YthjcanjhpdpibaaStackB
import Derived.OpenShut
import Derived.Lib.Hide
namespace Go.Proofs.Ythjcanjhpdpibaa.stackBack
open Go.ChangeShapes Go.WideShapes Go.ChangeAt Go.RowKit Go.Proofs.Ythjcanjhpdpibaa.Lift Go.Proofs.Ythjcanjhpdpibaa.Stk
set_option linter.unusedVariables false
set_option linter.unusedSimpArgs false
theorem walk (w : World) (a : Option Addr) (cap : Nat) (zs : List Int) (h : IntsAt w a zs) (hm : zs.length ≤ 9223372036854775807) :
    Calls Try.prog 3 #[.slice a zs.length cap] w fun e w' => e = .returned (.bool true) ∧ Below w.heap.size w w' := by
  by_cases hl : 60 < zs.length
  · go_enter Try.func3, Try.ntmps3
    go_wp2_with (go_at_call 9; refine (awake_any _).mono ?_; rintro e w' ⟨rfl, hb⟩)
    go_ret
    exact ⟨rfl, hb⟩
  · go_enter Try.func3, Try.ntmps3
    go_wp2_with fail
    refine (awake_any _).mono ?_
    rintro e w1 ⟨rfl, hb1⟩
    go_wp2_with fail
    refine (of_any w1 a cap zs (h.below hb1 (Nat.le_refl _)) (by omega)).mono ?_
    rintro e w2 ⟨sb, rfl, hs2, hb2⟩
    go_wp2_with fail
    have hb12 := hb1.trans (hb2.mono hb1.size)
    go_loopw [4] (fun i wr => ∃ k : Nat, i = .int .i64 ((k : Int) - 1) ∧ k ≤ zs.length ∧ Stk wr w1.heap.size sb (zs.take k).reverse ∧ Below w1.heap.size w1 wr) (fun i _ => (intOf i + 1).toNat)
    case atStart => exact ⟨zs.length, rfl, Nat.le_refl _, by rw [List.take_length]; exact hs2, hb2⟩
    case round =>
      obtain ⟨k, hi, hk, hs, hb⟩ := hrel
      rcases Nat.eq_zero_or_pos k with h0 | h0
      · subst h0
        subst hi
        have hpop := pop_stk_nil _ _ _ hs
        have hbb := hb1.trans (hb.mono hb1.size)
        go_wp2_with (go_at_call 11; refine hpop.mono ?_; rintro e w' ⟨rfl, rfl⟩)
        go_ret
        exact ⟨rfl, hbb⟩
      · obtain ⟨j, rfl⟩ : ∃ j, k = j + 1 := ⟨k - 1, by omega⟩
        have hi' : u4 = .int .i64 (j : Int) := by rw [hi]; congr 1; omega
        clear hi
        subst hi'
        rw [take_rev zs j (by omega)] at hs
        have hpop := pop_stk _ _ _ _ _ hs (by simp; omega)
        obtain ⟨b, o, rfl, hbl, hc⟩ := h j (by omega)
        have hc' : w1.cell? ⟨b, o + j, none⟩ = some (.int .i64 (zs.getD j 0)) := (hb1.cell (p := ⟨b, o + j, none⟩) hbl).trans hc
        have hbl1 : b < w1.heap.size := Nat.lt_of_lt_of_le hbl hb1.size
        clear hs h hc hs2
        generalize hz : zs.getD j 0 = z at *
        have hz' := Lib.hid hz
        clear hz
        go_wp2_with (first | (go_at_call 11; refine hpop.mono ?_; rintro e w' ⟨rfl, hs', hb'⟩; have hc'' := ((hb.trans hb').cell (p := ⟨b, o + j, none⟩) hbl1).trans hc'; have hlen := len_stk _ _ _ _ hs') | (go_at_call 12; refine hlen.mono ?_; rintro e w'' ⟨rfl, rfl⟩))
        exact ⟨⟨j, rfl, by omega, hs', hb.trans hb'⟩, by simp [intOf]⟩

theorem contract (H : Type) (enc : TypeId × Value → H) (W : World) (base : Nat) (args : Array Value) (ds gs : List (DataW H)) (before : List MemPlace)
    (hval : ∀ (j : Nat) t v, Try.f3.params[j]? = some t → args[j]? = some v → Value.okWide Try.prog W .any base t v)
    (hW : DataW.Whole enc Try.prog Try.f3.params.toList Rows.stackBackSpec.vars false W args.toList ds gs before) :
    Calls Try.prog 3 args W fun e W' => ∃ v, e = .returned v ∧ Rows.stackBackSpec.post enc Try.prog Try.f3 false true false false W args v W' := by
  have hW' := hW
  obtain ⟨p, q, hA0, hV, rfl, hfz, hnd⟩ := hW
  have hA : DataW.TrodAll enc Try.prog W 0 (fun _ => true) true Try.f3.params.toList args.toList ds p := hA0
  rw [Try.params3] at hA hval
  obtain ⟨v0, vs0, d0, ds0, p0, q0, hargs, rfl, rfl, h0, r0⟩ := trodAll_cons hA
  obtain ⟨rfl, rfl, rfl⟩ := trodAll_nil r0
  obtain rfl : args = #[v0] := by cases args; simp_all
  obtain ⟨a, cap, zs, rfl, hz, hm, hwf⟩ := ints_arg Try.underlying22 Try.underlying3 (by kernel_rfl) (hval 0 22 v0 rfl rfl) h0
  refine (walk W a cap zs hz hm).mono fun e W1 ⟨he, hb⟩ => ?_
  exact ⟨_, he, law_post laidOut hW' rfl (by kernel_rfl) 4 Try.underlying4 rfl (fun _ => rfl) hb⟩

set_option maxRecDepth 100000 in
theorem lifted (os : Os) (started : os.Started) (H : Type) (enc : TypeId × Value → H) :
    ReturnsInHanded {} Try.checked os 3 .any (Rows.stackBackSpec.pre6 enc Try.prog Try.f3 Rows.stackBackRow.domain false) (Rows.stackBackSpec.post enc Try.prog Try.f3 false true false false) := by
  refine returnsInHanded_of_change (C := Try.checked) own started (by kernel_rfl) Try.func3
    (ChangeSpec.witness6 (enc := enc) (C := Try.checked) false ⟨#[], #[.slice none 0 0], []⟩ 8 (by kernel_rfl) (by kernel_rfl) (by kernel_rfl) (by kernel_rfl)) ?_
  intro W base args ds gs before hval hW _ _
  exact contract H enc W base args ds gs before hval hW
theorem over : Rows.stackBackRow.holds Try.pinned (OpenSpec.ofChange Rows.stackBackSpec) :=
  OpenClaim.holds_of_wide 3 Try.f3 rfl rfl rfl rfl rfl rfl rfl ⟨rfl, rfl, rfl, rfl, rfl⟩ rfl rfl rfl rfl rfl (by kernel_rfl) Try.func3 (by kernel_rfl)
    (of_decide_eq_true (by kernel_rfl)) (by unfold Func.isWrapper; first | (rw [if_pos (by decide +kernel)]; kernel_rfl) | (rw [if_neg (by decide +kernel)]; exact ⟨rfl, rfl⟩))
    (fun os started H enc _ => lifted os started H enc)
/-- THE STATEMENT -/
theorem proved : Rows.StackBackSaid :=
  over
#print axioms proved
end Go.Proofs.Ythjcanjhpdpibaa.stackBack
