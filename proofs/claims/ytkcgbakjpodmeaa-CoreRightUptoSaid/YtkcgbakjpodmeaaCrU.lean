/- Contract: core.tree. -/
import Derived.Test.YtkcgbakjpodmeaaCrT
import Derived.Deep.DeepCutAuto
namespace Go.Proofs.Ytkcgbakjpodmeaa.Co
open Go.ChangeShapes Go.WideShapes Go.ChangeAt Go.RowKit Go.Proofs.Ytkcgbakjpodmeaa.Lift Go.Proofs.Ytkcgbakjpodmeaa.Data
set_option linter.unusedVariables false
set_option linter.unusedSimpArgs false
theorem any_br (nm : Nat) (fn : List Int) (ar : Int) (nb : Nat) : ∀ ys : List Ca, (!ys.any (fun c => !okOne nm (treeB nm fn ar nb c) c)) = brB nm fn ar nb ys
  | [] => by rw [brB]; rfl
  | c :: r => by
    rw [brB, ← any_br nm fn ar nb r, List.any_cons]
    unfold okOne
    cases c.is || (decide (0 ≤ c.con) && decide (c.con < (nm : Int))) <;> cases treeB nm fn ar nb c <;> simp
theorem any_or (fn : List Int) (ar : Int) : ∀ ys : List Ca, (!ys.any (fun c => !orOne fn ar c)) = orB fn ar ys
  | [] => by rw [orB]; rfl
  | c :: r => by
    rw [orB, ← any_or fn ar r, List.any_cons]
    unfold orOne
    cases (!c.is && (decide (0 ≤ c.con) && (decide (c.con < (fn.length : Int)) && (fn.getD c.con.toNat 0 == ar && bareB c)))) <;> simp
theorem CaSize_get' {es : List Ca} {i : Nat} (h : i < es.length) : (es[i]).size ≤ CaSize es := CaSize_get h
set_option maxRecDepth 100000 in
set_option maxHeartbeats 4000000 in
theorem tree_any (N : Nat) (fn : List Int) (ar : Int) (v0 u0 u2 u3 u4 u5 : Value) (Am Af AB : Option Addr) (nm cm cf nb cb : Nat) (hcm : nm ≤ cm) (hcm2 : cm ≤ 9223372036854775807) (hnm : nm ≤ 1048576) (hcf : fn.length ≤ cf) (hcf2 : cf ≤ 9223372036854775807) (hfm : fn.length ≤ 1048576) (hnb : nb ≤ cb) (hnb2 : cb ≤ 9223372036854775807) (hnb3 : nb ≤ 1048576) :
    ∀ (w0 : World) (t : Ca), t.size ≤ N → FnRows w0 Af fn → TreeSays w0 (.agg #[v0, .slice Am nm cm, .slice Af fn.length cf]) (.agg #[u0, .int .i64 ar, u2, u3, u4, u5, .slice AB nb cb]) t (treeB nm fn ar nb t) := by
  induction N with
  | zero => intro w0 t h; cases t; rw [Ca.size_mk] at h; omega
  | succ N ih =>
    intro w0 t hN hR z A cap hh hs h0
    cases t with
    | mk con is k r p ys =>
    rw [Ca.size_mk] at hN
    have hE : treeB nm fn ar nb (.mk con is k r p ys) = (if k = 0 then true
      else if k = 1 then decide (0 ≤ r) && decide (r < nb)
      else if k = 2 then decide (0 < p.n) && brB nm fn ar nb ys
      else if k = 3 then ys.length == 2 && orB fn ar ys
      else false) := by rw [treeB]
    generalize treeB nm fn ar nb (.mk con is k r p ys) = R at *
    obtain ⟨pA, pn, pc, pl1, pl2, pl3⟩ := p
    simp only [Ca.con, Ca.is, Ca.k, Ca.r, Ca.p, Ca.ys] at *
    obtain ⟨hd1, hd2, hd3, hd4⟩ := id hh
    have hRz := hR.below h0 (Nat.le_refl _)
    have hsz := hs.below h0 (Nat.le_refl _)
    go_enter Try.func29, Try.ntmps29
    go_upto_region 1 with fail
    have e1 := heap_alloc_new z (.cells #[v0, .slice Am nm cm, .slice Af fn.length cf] 26)
    have e2 := heap_alloc_new (z.alloc (.cells #[v0, .slice Am nm cm, .slice Af fn.length cf] 26)) (.cells #[u0, .int .i64 ar, u2, u3, u4, u5, .slice AB nb cb] 43)
    have e3 := heap_alloc_new ((z.alloc (.cells #[v0, .slice Am nm cm, .slice Af fn.length cf] 26)).alloc (.cells #[u0, .int .i64 ar, u2, u3, u4, u5, .slice AB nb cb] 43)) (.cells #[.int .i64 k, .int .i64 r, .slice pA pn pc, .slice A ys.length cap] 40)
    have e1 := (Below.heap_alloc _ (.cells #[.int .i64 k, .int .i64 r, .slice pA pn pc, .slice A ys.length cap] 40) z.heap.size (by simp; omega)).trans ((Below.heap_alloc _ (.cells #[u0, .int .i64 ar, u2, u3, u4, u5, .slice AB nb cb] 43) z.heap.size (by simp)).trans e1)
    rw [World.size_alloc] at e2
    have e2 := (Below.heap_alloc _ (.cells #[.int .i64 k, .int .i64 r, .slice pA pn pc, .slice A ys.length cap] 40) (z.heap.size + 1) (by simp)).trans e2
    rw [World.size_alloc, World.size_alloc] at e3
    have hbW : Below z.heap.size z (((z.alloc (.cells #[v0, .slice Am nm cm, .slice Af fn.length cf] 26)).alloc (.cells #[u0, .int .i64 ar, u2, u3, u4, u5, .slice AB nb cb] 43)).alloc (.cells #[.int .i64 k, .int .i64 r, .slice pA pn pc, .slice A ys.length cap] 40)) := ((below1C z _).alloc (by simp) _).alloc (by simp; omega) _
    generalize ((z.alloc (.cells #[v0, .slice Am nm cm, .slice Af fn.length cf] 26)).alloc (.cells #[u0, .int .i64 ar, u2, u3, u4, u5, .slice AB nb cb] 43)).alloc (.cells #[.int .i64 k, .int .i64 r, .slice pA pn pc, .slice A ys.length cap] 40) = W at *
    obtain ⟨t0, t1, t2, t3⟩ := cells4p e3
    have f6 := (cells7p e2).2.2.2.2.2.2
    have hRW := hRz.below hbW (Nat.le_refl _)
    have hsW := hsz.below hbW (Nat.le_refl _)
    by_cases hk0 : k = 0
    · subst hk0
      have HE : Hid (R = true) := Lib.hid (by rw [hE]; rfl)
      clear hE hR hRz hs hsz hsW hRW e1 e2 e3
      go_wp2_with fail
      go_ret
      exact ⟨by rw [HE.out]; try rfl, hbW⟩
    by_cases hk1 : k = 1
    · subst hk1
      have HE : Hid (R = (decide (0 ≤ r) && decide (r < nb))) := Lib.hid (by rw [hE]; rfl)
      have HW := fun y => Lib.hid (within_any r nb y)
      clear hE hR hRz hs hsz hsW hRW e1 e2 e3 hk0
      generalize (decide (0 ≤ r) && decide (r < (nb : Int))) = bb at *
      go_wp2_with (go_at_call 20; refine (HW _).out.mono ?_; rintro _ z1 ⟨rfl, rfl⟩)
      go_ret
      exact ⟨by rw [HE.out]; try rfl, hbW⟩
    by_cases hk2 : k = 2
    · subst hk2
      by_cases hp : 0 < pn
      · have HE : Hid (R = (!ys.any (fun c => !okOne nm (treeB nm fn ar nb c) c))) := Lib.hid (by rw [any_br, hE]; simp [hp])
        have HC := Lib.hid (containsCa31 (fun c => !okOne nm (treeB nm fn ar nb c) c) z.heap.size (z.heap.size + 1) W ys (.slice A ys.length cap) ⟨A, cap, rfl, hh, hsW⟩ (fun i hi y a ha hy => by
          have hsy := CaSize_get hi
          have hT := ih W ys[i] (by omega) hRW
          generalize ys[i] = c at *
          cases c with
          | mk con' is' k' r' p' ys' =>
          obtain ⟨A', cap', rfl, hh', hs'⟩ := ha
          exact bad1_any W y v0 (.slice Af fn.length cf) u0 u2 u3 u4 u5 Am AB nm cm nb cb z.heap.size (z.heap.size + 1) ar (.mk con' is' k' r' p' ys') _ A' cap' hnm hT hh' hs' ((hy.block _ (Array.getElem?_eq_some_iff.1 e1).1).trans e1) ((hy.block _ (Array.getElem?_eq_some_iff.1 e2).1).trans e2) hy))
        clear hE hR hRz hs hsz hsW hRW e1 e2 e3 hk0 hk1 ih
        generalize (ys.any (fun c => !okOne nm (treeB nm fn ar nb c) c)) = bb at *
        have hpi : (0 : Int) < (pn : Int) := by omega
        go_wp2_with (go_at_call 32; refine HC.out.mono ?_; rintro _ z1 ⟨rfl, q1⟩)
        go_ret
        exact ⟨by rw [HE.out]; try rfl, hbW.thenCall hbW.size q1⟩
      · obtain rfl : pn = 0 := by omega
        have HE : Hid (R = false) := Lib.hid (by rw [hE]; simp)
        clear hE hR hRz hs hsz hsW hRW e1 e2 e3 hk0 hk1 ih
        go_wp2_with fail
        go_ret
        exact ⟨by rw [HE.out]; try rfl, hbW⟩
    by_cases hk3 : k = 3
    · subst hk3
      by_cases hl2 : ys.length = 2
      · have HE : Hid (R = (!ys.any (fun c => !orOne fn ar c))) := Lib.hid (by rw [any_or, hE]; simp [hl2])
        have HC := Lib.hid (containsCa33 (fun c => !orOne fn ar c) z.heap.size (z.heap.size + 1) W ys (.slice A ys.length cap) ⟨A, cap, rfl, hh, hsW⟩ (fun i hi y a ha hy => by
          generalize ys[i] = c at *
          cases c with
          | mk con' is' k' r' p' ys' =>
          obtain ⟨A', cap', rfl, hh', hs'⟩ := ha
          exact bad2_any y v0 (.slice Am nm cm) u0 u2 u3 u4 u5 (.slice AB nb cb) Af cf z.heap.size (z.heap.size + 1) fn ar (.mk con' is' k' r' p' ys') A' cap' hcf hcf2 hfm (hRW.below hy (Nat.le_refl _)) hh' ((hy.block _ (Array.getElem?_eq_some_iff.1 e1).1).trans e1) ((hy.block _ (Array.getElem?_eq_some_iff.1 e2).1).trans e2)))
        clear hE hR hRz hs hsz hsW hRW e1 e2 e3 hk0 hk1 hk2 ih
        generalize (ys.any (fun c => !orOne fn ar c)) = bb at *
        generalize ys.length = L at *
        subst hl2
        go_wp2_with (go_at_call 32; refine HC.out.mono ?_; rintro _ z1 ⟨rfl, q1⟩)
        go_ret
        exact ⟨by rw [HE.out]; try rfl, hbW.thenCall hbW.size q1⟩
      · have HE : Hid (R = false) := Lib.hid (by rw [hE]; simp [hl2])
        have hlb : ((ys.length : Int) == 2) = false := by simp; omega
        clear hE hR hRz hs hsz hsW hRW e1 e2 e3 hk0 hk1 hk2 ih hl2
        go_wp2_with fail
        go_ret
        exact ⟨by rw [HE.out]; try rfl, hbW⟩
    have q0 : (k == 0) = false := by simpa using hk0
    have q1 : (k == 1) = false := by simpa using hk1
    have q2 : (k == 2) = false := by simpa using hk2
    have q3 : (k == 3) = false := by simpa using hk3
    have HE : Hid (R = false) := Lib.hid (by rw [hE, if_neg hk0, if_neg hk1, if_neg hk2, if_neg hk3])
    clear hE hR hRz hs hsz hsW hRW e1 e2 e3 hk0 hk1 hk2 hk3 ih
    go_wp2_with fail
    go_ret
    exact ⟨by rw [HE.out]; try rfl, hbW⟩
end Go.Proofs.Ytkcgbakjpodmeaa.Co
