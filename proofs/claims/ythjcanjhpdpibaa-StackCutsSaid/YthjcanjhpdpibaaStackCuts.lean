/- The law StackCuts returns true at every input, and its arguments read afterwards as before. -/
import Derived.Test.YthjcanjhpdpibaaStackB
import Derived.Test.YthjcanjhpdpibaaRefInts
namespace Go.Proofs.Ythjcanjhpdpibaa.stackCuts
open Go.ChangeShapes Go.WideShapes Go.ChangeAt Go.RowKit Go.Proofs.Ythjcanjhpdpibaa.Lift Go.Proofs.Ythjcanjhpdpibaa.Stk Go.Proofs.Ythjcanjhpdpibaa.RefInts
set_option linter.unusedVariables false
set_option linter.unusedSimpArgs false
theorem long (w : World) (a : Option Addr) (cap : Nat) (zs : List Int) (n : Int) (h : IntsAt w a zs) (hm : zs.length ≤ 9223372036854775807) (hl : 40 < zs.length) :
    Calls Try.prog 7 #[.slice a zs.length cap, .int .i64 n] w fun e w' => e = .returned (.bool true) ∧ Below w.heap.size w w' := by
  go_enter Try.func7, Try.ntmps7
  go_wp2_with (go_at_call 9; refine (Stk.awake_any _).mono ?_; rintro e w' ⟨rfl, hb⟩)
  go_ret
  exact ⟨rfl, hb⟩
set_option maxHeartbeats 1000000 in
theorem mid (w : World) (a : Option Addr) (cap : Nat) (zs : List Int) (n : Int) (h : IntsAt w a zs) (hl : zs.length ≤ 40) (L : Nat) (hL : leftN n zs.length = L)
    (hn : (n < 0 ∧ L = 0) ∨ (0 ≤ n ∧ n ≤ zs.length ∧ (L : Int) = n) ∨ (zs.length < n ∧ L = zs.length)) :
    Calls Try.prog 7 #[.slice a zs.length cap, .int .i64 n] w fun e w' => e = .returned (.bool true) ∧ Below w.heap.size w w' := by
  have hL2 : L ≤ zs.length := by omega
  rcases hn with ⟨h1, rfl⟩ | ⟨h1, h2, rfl⟩ | ⟨h1, rfl⟩
  all_goals
    go_enter Try.func7, Try.ntmps7
    go_wp2_with fail
    refine (Stk.awake_any _).mono ?_
    rintro e w1 ⟨rfl, hb1⟩
    go_wp2_with fail
    refine (of_any w1 a cap zs (h.below hb1 (Nat.le_refl _)) (by omega)).mono ?_
    rintro e w2 ⟨sb, rfl, hs2, hb2⟩
    go_wp2_with fail
    refine (cut_any w2 _ _ _ _ hs2 (by simp; omega)).mono ?_
    rintro e w3 ⟨rfl, hs3, hb3⟩
    rw [List.length_reverse, hL]
    rw [List.length_reverse, hL, List.drop_reverse] at hs3
    rw [show zs.length - (zs.length - _) = _ from Nat.sub_sub_self hL2] at hs3
    have hlen := len_stk _ _ _ _ hs3
    rw [List.length_reverse, List.length_take, Nat.min_eq_left hL2] at hlen
    clear hs2
    have HL := Lib.hid hL
    clear hL
    go_wp2_with (go_at_call 12; refine hlen.mono ?_; rintro e w' ⟨rfl, rfl⟩)
    all_goals
      go_loopw [8] (fun i wr => ∃ k : Nat, i = .int .i64 ((k : Int) - 1) ∧ k ≤ zs.length ∧ Stk wr w1.heap.size sb (zs.take k).reverse ∧ Below w1.heap.size w1 wr) (fun i _ => (intOf i + 1).toNat)
      case atStart => exact ⟨_, by first | rfl | (congr 1; omega), hL2, hs3, hb2.trans hb3⟩
      case round =>
        obtain ⟨k, hi, hk, hs, hb⟩ := hrel
        rcases Nat.eq_zero_or_pos k with h0 | h0
        · subst h0
          subst hi
          have hlen0 : Calls Try.prog 12 #[.pointer (some ⟨sb, 0, none⟩)] wr fun e w' => e = .returned (.int .i64 0) ∧ wr = w' := len_stk _ _ _ _ hs
          have hbb := hb1.trans (hb.mono hb1.size)
          clear hlen
          go_wp2_with (first | (go_at_call 12; refine hlen0.mono ?_; rintro e w' ⟨rfl, rfl⟩) | (go_at_call 19; refine (ints_nil _ _ _ _ _).mono ?_; rintro e w5 ⟨rfl, hb5⟩))
          go_ret
          exact ⟨rfl, hbb.trans (hb5.mono hbb.size)⟩
        · obtain ⟨j, rfl⟩ : ∃ j, k = j + 1 := ⟨k - 1, by omega⟩
          have hi' : u8 = .int .i64 (j : Int) := by rw [hi]; congr 1; omega
          clear hi
          subst hi'
          rw [take_rev zs j (by omega)] at hs
          have hpop := pop_stk _ _ _ _ _ hs (by simp; omega)
          obtain ⟨b, o, rfl, hbl, hc⟩ := h j (by omega)
          have hc' : w1.cell? ⟨b, o + j, none⟩ = some (.int .i64 (zs.getD j 0)) := (hb1.cell (p := ⟨b, o + j, none⟩) hbl).trans hc
          have hbl1 : b < w1.heap.size := Nat.lt_of_lt_of_le hbl hb1.size
          clear hs h hc hs3 hlen
          generalize hz : zs.getD j 0 = z at *
          have hz' := Lib.hid hz
          clear hz
          go_wp2_with (first | (go_at_call 11; refine hpop.mono ?_; rintro e w' ⟨rfl, hs', hb'⟩; have hc'' := ((hb.trans hb').cell (p := ⟨b, o + j, none⟩) hbl1).trans hc'))
          first
            | exact ⟨⟨j, rfl, by omega, hs', hb.trans hb'⟩, by simp [intOf]⟩
            | (go_roundw
               case rel => exact ⟨j, rfl, by omega, hs', hb.trans hb'⟩
               case measure => simp [intOf])
theorem walk (w : World) (a : Option Addr) (cap : Nat) (zs : List Int) (n : Int) (h : IntsAt w a zs) (hm : zs.length ≤ 9223372036854775807) :
    Calls Try.prog 7 #[.slice a zs.length cap, .int .i64 n] w fun e w' => e = .returned (.bool true) ∧ Below w.heap.size w w' := by
  by_cases hl : 40 < zs.length
  · exact long w a cap zs n h hm hl
  · exact mid w a cap zs n h (by omega) _ rfl (by unfold leftN; omega)
theorem contract (H : Type) (enc : TypeId × Value → H) (W : World) (base : Nat) (args : Array Value) (ds gs : List (DataW H)) (before : List MemPlace)
    (hval : ∀ (j : Nat) t v, Try.f7.params[j]? = some t → args[j]? = some v → Value.okWide Try.prog W .any base t v)
    (hW : DataW.Whole enc Try.prog Try.f7.params.toList Rows.stackCutsSpec.vars false W args.toList ds gs before) :
    Calls Try.prog 7 args W fun e W' => ∃ v, e = .returned v ∧ Rows.stackCutsSpec.post enc Try.prog Try.f7 false true false false W args v W' := by
  have hW' := hW
  obtain ⟨p, q, hA0, hV, rfl, hfz, hnd⟩ := hW
  have hA : DataW.TrodAll enc Try.prog W 0 (fun _ => true) true Try.f7.params.toList args.toList ds p := hA0
  rw [Try.params7] at hA hval
  obtain ⟨v0, vs0, d0, ds0, p0, q0, hargs, rfl, rfl, h0, r0⟩ := trodAll_cons hA
  obtain ⟨v1, vs1, d1, ds1, p1, q1, rfl, rfl, rfl, h1, r1⟩ := trodAll_cons r0
  obtain ⟨rfl, rfl, rfl⟩ := trodAll_nil r1
  obtain rfl : args = #[v0, v1] := by cases args; simp_all
  obtain ⟨a, cap, zs, rfl, hz, hm, hwf⟩ := ints_arg Try.underlying22 Try.underlying3 (by kernel_rfl) (hval 0 22 v0 rfl rfl) h0
  obtain ⟨n, rfl, -, -, wn⟩ := open_int Try.underlying3 (hval 1 3 v1 rfl rfl) h1
  refine (walk W a cap zs n hz hm).mono fun e W1 ⟨he, hb⟩ => ?_
  exact ⟨_, he, law_post laidOut hW' rfl (by kernel_rfl) 4 Try.underlying4 rfl (fun _ => rfl) hb⟩

set_option maxRecDepth 100000 in
theorem lifted (os : Os) (started : os.Started) (H : Type) (enc : TypeId × Value → H) :
    ReturnsInHanded {} Try.checked os 7 .any (Rows.stackCutsSpec.pre6 enc Try.prog Try.f7 Rows.stackCutsRow.domain false) (Rows.stackCutsSpec.post enc Try.prog Try.f7 false true false false) := by
  refine returnsInHanded_of_change (C := Try.checked) own started (by kernel_rfl) Try.func7
    (ChangeSpec.witness6 (enc := enc) (C := Try.checked) false ⟨#[], #[.slice none 0 0, .int .i64 0], []⟩ 8 (by kernel_rfl) (by kernel_rfl) (by kernel_rfl) (by kernel_rfl)) ?_
  intro W base args ds gs before hval hW _ _
  exact contract H enc W base args ds gs before hval hW
theorem over : Rows.stackCutsRow.holds Try.pinned (OpenSpec.ofChange Rows.stackCutsSpec) :=
  OpenClaim.holds_of_wide 7 Try.f7 rfl rfl rfl rfl rfl rfl rfl ⟨rfl, rfl, rfl, rfl, rfl⟩ rfl rfl rfl rfl rfl (by kernel_rfl) Try.func7 (by kernel_rfl)
    (of_decide_eq_true (by kernel_rfl)) (by unfold Func.isWrapper; first | (rw [if_pos (by decide +kernel)]; kernel_rfl) | (rw [if_neg (by decide +kernel)]; exact ⟨rfl, rfl⟩))
    (fun os started H enc _ => lifted os started H enc)
/-- THE STATEMENT -/
theorem proved : Rows.StackCutsSaid :=
  over
#print axioms proved
end Go.Proofs.Ythjcanjhpdpibaa.stackCuts
