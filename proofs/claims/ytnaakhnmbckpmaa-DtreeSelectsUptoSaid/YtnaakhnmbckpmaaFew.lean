/- Contracts: whether expressions, or terms, are few. -/
import Derived.Test.YtnaakhnmbckpmaaRefs
namespace Go.Proofs.Ytnaakhnmbckpmaa.Refs
open Go.ChangeShapes Go.WideShapes Go.ChangeAt Go.RowKit Go.Proofs.Ytnaakhnmbckpmaa.Lift Go.Proofs.Ytnaakhnmbckpmaa.Data
set_option linter.unusedVariables false
set_option linter.unusedSimpArgs false
def fewEx (es : List Ex) : Bool := decide (ExSize es ≤ 200) && decide (es.length ≤ 30)
theorem fewEx_any (w0 : World) (es : List Ex) (w : World) (v : Value) (hv : Ex.Sl w0 v es) (hm : ExSize es ≤ 1048576) (h0 : Below w0.heap.size w0 w) :
    Calls Try.prog 11 #[v] w fun r w' => r = .returned (.bool (fewEx es)) ∧ Below w.heap.size w w' := by
  obtain ⟨A, cap, rfl, ⟨hd1, hd2, hd3, hd4⟩, hs⟩ := hv
  go_enter Try.func11, Try.ntmps11
  go_wp2_with fail
  go_loopw [3, 8] (fun t i wr => ∃ j : Nat, i = .int .i64 j ∧ j ≤ es.length ∧ t = .int .i64 (ExSize (es.take j) : Nat) ∧ ExSize (es.take j) ≤ 200 ∧ Below w.heap.size w wr) (fun _ i _ => es.length - (intOf i).toNat)
  case atStart => exact ⟨0, rfl, Nat.zero_le _, rfl, by simp [ExSize], Below.refl _ _⟩
  case round =>
    obtain ⟨j, rfl, hj, rfl, h200, hb⟩ := hrel
    by_cases hlt : j < es.length
    · obtain ⟨b, o, rfl, hat⟩ := hs.get j hlt
      have hsz := ExSize_get hlt
      have hb0 := h0.trans (hb.mono h0.size)
      have HS := ExSize_take hlt
      have hle2 := ExSize_take_le (ys := es) (j := j + 1)
      generalize es[j] = y at *
      cases y with
      | mk k' s' n' ys' l' c' =>
      obtain ⟨A', cap', c0, c1, c2, c3, c4, c5, hv'⟩ := Ex.At.both hat hb0 (Nat.le_refl _)
      clear hat hs
      have HC := Lib.hid (fun o => flatEx_any _ w0 _ (wr.alloc o) _ (Nat.le_refl _) (by omega) hv' (hb0.alloc hb0.size o))
      have hfl := Ex.flat_len (Ex.mk k' s' n' ys' l' c')
      generalize (Ex.mk k' s' n' ys' l' c').flat = fs at *
      generalize (Ex.mk k' s' n' ys' l' c').size = m at *
      generalize hP : ExSize (es.take j) = p at *
      generalize hP2 : ExSize (es.take (j + 1)) = p2 at *
      have HP2 := Lib.hid hP2
      have HSS := Lib.hid HS
      have HFL := Lib.hid hfl
      have hfl1 : fs.length ≤ m := by omega
      have hfl2 : m ≤ fs.length := by omega
      clear hP hP2 HS hfl
      by_cases hgt : 200 < p + m
      · have hf : fewEx es = false := by
          have h1 := HSS.out
          simp only [fewEx, Bool.and_eq_false_iff, decide_eq_false_iff_not]
          omega
        have HFew := Lib.hid hf
        clear hf
        go_wp2_with (go_at_call 47; refine (HC.out _).mono ?_; rintro e w1 ⟨A1, cap1, xs1, rfl, hown1, hcells1, hb1⟩; have hbn := hb.thenCall hb.size (Below.call1 hb1); clear hown1 hcells1 hb1)
        go_ret
        refine ⟨?_, hbn⟩
        rw [HFew.out]
        rfl
      · go_wp2_with (go_at_call 47; refine (HC.out _).mono ?_; rintro e w1 ⟨A1, cap1, xs1, rfl, hown1, hcells1, hb1⟩; have hbn := hb.thenCall hb.size (Below.call1 hb1); clear hown1 hcells1 hb1)
        refine ⟨⟨j + 1, by go_num, by omega, ?_, by rw [HP2.out]; have := HSS.out; omega, hbn⟩, by simp [intOf]; omega⟩
        rw [HP2.out]
        have := HSS.out
        congr 1; omega
    · have hf : fewEx es = decide (es.length ≤ 30) := by
        have : es.take j = es := List.take_of_length_le (by omega)
        rw [this] at h200
        simp [fewEx, h200]
      have HF := Lib.hid hf
      clear hf
      by_cases h30 : es.length ≤ 30
      · go_wp2_with fail
        go_ret
        refine ⟨?_, hb⟩
        exact ret_bool (by rw [HF.out, decide_eq_decide]; omega)
      · go_wp2_with fail
        go_ret
        refine ⟨?_, hb⟩
        exact ret_bool (by rw [HF.out, decide_eq_decide]; omega)

def fewTm (es : List Tm) : Bool := decide (TmSize es ≤ 200) && decide (es.length ≤ 30)
theorem fewTm_any (w0 : World) (es : List Tm) (w : World) (v : Value) (hv : Tm.Sl w0 v es) (hm : TmSize es ≤ 1048576) (h0 : Below w0.heap.size w0 w) :
    Calls Try.prog 12 #[v] w fun r w' => r = .returned (.bool (fewTm es)) ∧ Below w.heap.size w w' := by
  obtain ⟨A, cap, rfl, ⟨hd1, hd2, hd3, hd4⟩, hs⟩ := hv
  go_enter Try.func12, Try.ntmps12
  go_wp2_with fail
  go_loopw [3, 8] (fun t i wr => ∃ j : Nat, i = .int .i64 j ∧ j ≤ es.length ∧ t = .int .i64 (TmSize (es.take j) : Nat) ∧ TmSize (es.take j) ≤ 200 ∧ Below w.heap.size w wr) (fun _ i _ => es.length - (intOf i).toNat)
  case atStart => exact ⟨0, rfl, Nat.zero_le _, rfl, by simp [TmSize], Below.refl _ _⟩
  case round =>
    obtain ⟨j, rfl, hj, rfl, h200, hb⟩ := hrel
    by_cases hlt : j < es.length
    · obtain ⟨b, o, rfl, hat⟩ := hs.get j hlt
      have hsz := TmSize_get hlt
      have hb0 := h0.trans (hb.mono h0.size)
      have HS := TmSize_take hlt
      have hle2 := TmSize_take_le (ys := es) (j := j + 1)
      generalize es[j] = y at *
      cases y with
      | mk k' s' n' ys'  =>
      obtain ⟨A', cap', c0, c1, c2, c3, hv'⟩ := Tm.At.both hat hb0 (Nat.le_refl _)
      clear hat hs
      have HC := Lib.hid (fun o => flatTm_any _ w0 _ (wr.alloc o) _ (Nat.le_refl _) (by omega) hv' (hb0.alloc hb0.size o))
      have hfl := Tm.flat_len (Tm.mk k' s' n' ys' )
      generalize (Tm.mk k' s' n' ys' ).flat = fs at *
      generalize (Tm.mk k' s' n' ys' ).size = m at *
      generalize hP : TmSize (es.take j) = p at *
      generalize hP2 : TmSize (es.take (j + 1)) = p2 at *
      have HP2 := Lib.hid hP2
      have HSS := Lib.hid HS
      have HFL := Lib.hid hfl
      have hfl1 : fs.length ≤ m := by omega
      have hfl2 : m ≤ fs.length := by omega
      clear hP hP2 HS hfl
      by_cases hgt : 200 < p + m
      · have hf : fewTm es = false := by
          have h1 := HSS.out
          simp only [fewTm, Bool.and_eq_false_iff, decide_eq_false_iff_not]
          omega
        have HFew := Lib.hid hf
        clear hf
        go_wp2_with (go_at_call 48; refine (HC.out _).mono ?_; rintro e w1 ⟨A1, cap1, xs1, rfl, hown1, hcells1, hb1⟩; have hbn := hb.thenCall hb.size (Below.call1 hb1); clear hown1 hcells1 hb1)
        go_ret
        refine ⟨?_, hbn⟩
        rw [HFew.out]
        rfl
      · go_wp2_with (go_at_call 48; refine (HC.out _).mono ?_; rintro e w1 ⟨A1, cap1, xs1, rfl, hown1, hcells1, hb1⟩; have hbn := hb.thenCall hb.size (Below.call1 hb1); clear hown1 hcells1 hb1)
        refine ⟨⟨j + 1, by go_num, by omega, ?_, by rw [HP2.out]; have := HSS.out; omega, hbn⟩, by simp [intOf]; omega⟩
        rw [HP2.out]
        have := HSS.out
        congr 1; omega
    · have hf : fewTm es = decide (es.length ≤ 30) := by
        have : es.take j = es := List.take_of_length_le (by omega)
        rw [this] at h200
        simp [fewTm, h200]
      have HF := Lib.hid hf
      clear hf
      by_cases h30 : es.length ≤ 30
      · go_wp2_with fail
        go_ret
        refine ⟨?_, hb⟩
        exact ret_bool (by rw [HF.out, decide_eq_decide]; omega)
      · go_wp2_with fail
        go_ret
        refine ⟨?_, hb⟩
        exact ret_bool (by rw [HF.out, decide_eq_decide]; omega)

end Go.Proofs.Ytnaakhnmbckpmaa.Refs
