/- Contracts: ast.Size, ast.Depth, ast.Free. -/
import Derived.Test.YtnaakhnmbckpmaaFree
namespace Go.Proofs.Ytnaakhnmbckpmaa.Strs
open Go.ChangeShapes Go.WideShapes Go.ChangeAt Go.RowKit Go.Proofs.Ytnaakhnmbckpmaa.Lift Go.Proofs.Ytnaakhnmbckpmaa.Data
set_option linter.unusedVariables false
set_option linter.unusedSimpArgs false
mutual
def depS : Ex → Nat
  | .mk k s n ys l c => depSs ys + 1
def depSs : List Ex → Nat
  | [] => 0
  | e :: r => max (depS e) (depSs r)
end
theorem depSs_take : ∀ {ys : List Ex} {j : Nat} (h : j < ys.length), depSs (ys.take (j + 1)) = max (depSs (ys.take j)) (depS ys[j])
  | [], _, h => by simp at h
  | e :: r, 0, _ => by simp [depSs]
  | e :: r, j + 1, h => by
    simp only [List.take_succ_cons, depSs, List.getElem_cons_succ]
    rw [depSs_take (by simpa using h)]
    omega
mutual
theorem depS_le : ∀ e : Ex, depS e ≤ e.size
  | .mk k s n ys l c => by rw [depS, Ex.size]; have := depSs_le ys; omega
theorem depSs_le : ∀ es : List Ex, depSs es ≤ ExSize es
  | [] => by simp [depSs]
  | e :: r => by rw [depSs, ExSize]; have := depS_le e; have := depSs_le r; omega
end
set_option maxRecDepth 100000 in
set_option maxHeartbeats 1000000 in
theorem size_any (N : Nat) (w0 : World) : ∀ (e : Ex) (w : World) (v : Value), e.size ≤ N → e.size ≤ 4194304 → e.Val w0 v → Below w0.heap.size w0 w →
    Calls Try.prog 27 #[v] w fun r w' => r = .returned (.int .i64 (e.size : Nat)) ∧ Below w.heap.size w w' := by
  induction N with
  | zero => intro e w v h; cases e; rw [Ex.size_mk] at h; omega
  | succ N ih =>
    intro e w v hN hm hv h0
    cases e with
    | mk k s n ys l c =>
    obtain ⟨A, cap, rfl, ⟨hd1, hd2, hd3, hd4⟩, hs⟩ := hv
    rw [Ex.size_mk] at hN hm ⊢
    go_enter Try.func27, Try.ntmps27
    go_wp2_with fail
    go_loopw [3, 9] (fun t i wr => ∃ j : Nat, i = .int .i64 j ∧ j ≤ ys.length ∧ t = .int .i64 ((1 + ExSize (ys.take j) : Nat) : Int) ∧ Below w.heap.size w wr) (fun _ i _ => ys.length - (intOf i).toNat)
    case atStart => exact ⟨0, rfl, Nat.zero_le _, by simp [ExSize], (Below.refl _ _).alloc (Nat.le_refl _) _⟩
    case round =>
      obtain ⟨j, rfl, hj, rfl, hb⟩ := hrel
      by_cases hlt : j < ys.length
      · obtain ⟨b, o, rfl, hat⟩ := hs.get j hlt
        have hsz := ExSize_get hlt
        have hb0 := h0.trans (hb.mono h0.size)
        have HS := ExSize_take hlt
        have hle2 := ExSize_take_le (ys := ys) (j := j + 1)
        generalize ys[j] = y at *
        have HI := fun o v hv => Lib.hid (ih y (wr.alloc o) v (by omega) (by omega) hv (hb0.alloc hb0.size o))
        cases y with
        | mk k2 s2 n2 ys2 l2 c2 =>
        obtain ⟨A3, cap3, d0, d1, d2, d3, d4, d5, hv2⟩ := Ex.At.both hat hb0 (Nat.le_refl _)
        have HI2 := fun o => HI o _ hv2
        clear HI hat hs
        generalize (Ex.mk k2 s2 n2 ys2 l2 c2).size = q at *
        generalize ExSize (ys.take j) = p at *
        generalize hP : ExSize (ys.take (j + 1)) = p2 at *
        have HP := Lib.hid hP
        have HSS := Lib.hid HS
        clear hP HS
        have hp2 : p + q ≤ 4194304 := by have := HSS.out; omega
        go_wp2_with (go_at_call 27; refine (HI2 _).out.mono ?_; rintro e w1 ⟨rfl, hb1⟩)
        refine ⟨⟨j + 1, by go_num, by omega, ?_, hb.thenCall hb.size (Below.call1 hb1)⟩, by simp [intOf]; omega⟩
        rw [HP.out, HSS.out]
        congr 1; omega
      · go_wp2_with fail
        go_ret
        rw [List.take_of_length_le (by omega)]
        exact ⟨ret_int (by simp; omega), hb⟩
set_option maxRecDepth 100000 in
set_option maxHeartbeats 1000000 in
theorem depth_any (N : Nat) (w0 : World) : ∀ (e : Ex) (w : World) (v : Value), e.size ≤ N → e.size ≤ 4194304 → e.Val w0 v → Below w0.heap.size w0 w →
    Calls Try.prog 28 #[v] w fun r w' => r = .returned (.int .i64 (depS e : Nat)) ∧ Below w.heap.size w w' := by
  induction N with
  | zero => intro e w v h; cases e; rw [Ex.size_mk] at h; omega
  | succ N ih =>
    intro e w v hN hm hv h0
    cases e with
    | mk k s n ys l c =>
    obtain ⟨A, cap, rfl, ⟨hd1, hd2, hd3, hd4⟩, hs⟩ := hv
    rw [Ex.size_mk] at hN hm
    rw [depS]
    have hdl := depSs_le ys
    go_enter Try.func28, Try.ntmps28
    go_wp2_with fail
    go_loopw [3, 9] (fun t i wr => ∃ j : Nat, i = .int .i64 j ∧ j ≤ ys.length ∧ t = .int .i64 ((depSs (ys.take j) : Nat) : Int) ∧ Below w.heap.size w wr) (fun _ i _ => ys.length - (intOf i).toNat)
    case atStart => exact ⟨0, rfl, Nat.zero_le _, by simp [depSs], (Below.refl _ _).alloc (Nat.le_refl _) _⟩
    case round =>
      obtain ⟨j, rfl, hj, rfl, hb⟩ := hrel
      by_cases hlt : j < ys.length
      · obtain ⟨b, o, rfl, hat⟩ := hs.get j hlt
        have hsz := ExSize_get hlt
        have hb0 := h0.trans (hb.mono h0.size)
        have HS := depSs_take hlt
        generalize ys[j] = y at *
        have HI := fun o v hv => Lib.hid (ih y (wr.alloc o) v (by omega) (by omega) hv (hb0.alloc hb0.size o))
        cases y with
        | mk k2 s2 n2 ys2 l2 c2 =>
        obtain ⟨A3, cap3, d0, d1, d2, d3, d4, d5, hv2⟩ := Ex.At.both hat hb0 (Nat.le_refl _)
        have HI2 := fun o => HI o _ hv2
        clear HI hat hs
        generalize depS (Ex.mk k2 s2 n2 ys2 l2 c2) = q at *
        generalize depSs (ys.take j) = p at *
        generalize hP : depSs (ys.take (j + 1)) = p2 at *
        have HP := Lib.hid hP
        have HSS := Lib.hid HS
        clear hP HS
        go_wp2_with (go_at_call 28; refine (HI2 _).out.mono ?_; rintro e w1 ⟨rfl, hb1⟩)
        refine ⟨⟨j + 1, by go_num, by omega, ?_, hb.thenCall hb.size (Below.call1 hb1)⟩, by simp [intOf]; omega⟩
        rw [HP.out, HSS.out]
        congr 1; omega
      · rw [List.take_of_length_le (by omega)]
        go_wp2_with fail
        go_ret
        exact ⟨ret_int (by simp), hb⟩
set_option maxRecDepth 100000 in
theorem Free_any (w0 : World) (e : Ex) (w : World) (v : Value) (hv : e.Val w0 v) (h0 : Below w0.heap.size w0 w) (hm : e.size ≤ 4194304) :
    Calls Try.prog 26 #[v] w fun r w' => ∃ v', r = .returned v' ∧ StrOwn w' w.heap.size v' (freeS e [] []) ∧ Below w.heap.size w w' := by
  have hv0 := hv
  cases e with
  | mk k s n ys l c =>
  obtain ⟨A, cap, rfl, hd, hs⟩ := hv
  have H := fun o => Lib.hid (free_all _ w0 _ (w.alloc o) _ (.slice none 0 0) (.slice none 0 0) [] [] w.heap.size (Nat.le_refl _) hv0 (h0.alloc h0.size o) h0.size (by simp) (World.ownsRow_nil _ _ _ _) (StrSl.nil _) (fun k h => by cases h) (by simpa using hm) (by simpa using hm))
  go_enter Try.func26, Try.ntmps26
  go_wp2_with (go_at_call 55; refine (H _).out.mono ?_; rintro e w1 ⟨v1, rfl, ho1, hg1, hf1⟩)
  go_ret
  have hbb : Below w.heap.size (w.alloc _) w1 := ⟨hg1.os, hg1.tape, hg1.output, hg1.size, fun k hk => hg1.block k (by simp; omega) (by simp [Value.ownBlock])⟩
  exact ⟨_, rfl, ho1, (below1 w _).trans hbb⟩
end Go.Proofs.Ytnaakhnmbckpmaa.Strs
