/- Contracts: the reference's SameTree at the empty tree; the law's own tree. -/
import Derived.Test.YtkcgbakjpodmeaaCrU
import Derived.Deep.RegionHeld3
namespace Go.Proofs.Ytkcgbakjpodmeaa.Co
open Go.ChangeShapes Go.WideShapes Go.ChangeAt Go.RowKit Go.Proofs.Ytkcgbakjpodmeaa.Lift Go.Proofs.Ytkcgbakjpodmeaa.Data
set_option linter.unusedVariables false
set_option linter.unusedSimpArgs false
theorem rints_nil (w : World) (a b : Option Addr) (c d : Nat) :
    Calls Try.prog 34 #[.slice a 0 c, .slice b 0 d] w fun e w' => e = .returned (.bool true) ∧ w = w' := by
  go_enter Try.func34, Try.ntmps34
  go_wp2_with fail
  refine wp_loop_once ?_
  go_wp2_with fail
  go_ret
  exact ⟨rfl, rfl⟩
theorem rints_ne (w : World) (a b : Option Addr) (c d n : Nat) (hne : ¬ n = 0) :
    Calls Try.prog 34 #[.slice a n c, .slice b 0 d] w fun e w' => e = .returned (.bool false) ∧ w = w' := by
  have h : ((n : Int) != 0) = true := by simp; omega
  have h2 : ((n : Int) == 0) = false := by simp; omega
  clear hne
  go_enter Try.func34, Try.ntmps34
  go_wp2_with fail
  go_ret
  exact ⟨rfl, rfl⟩
set_option maxRecDepth 100000 in
set_option maxHeartbeats 1000000 in
theorem sameZero_any (z : World) (c : Ca) (A : Option Addr) (cap : Nat) (hh : CaHd A c.ys.length cap) :
    Calls Try.prog 30 #[.agg #[.int .i64 c.k, .int .i64 c.r, .slice c.p.A c.p.n c.p.c, .slice A c.ys.length cap], .agg #[.int .i64 0, .int .i64 0, .slice none 0 0, .slice none 0 0]] z fun e z' => e = .returned (.bool (bareB c)) ∧ Below z.heap.size z z' := by
  obtain ⟨hd1, hd2, hd3, hd4⟩ := hh
  have hB : bareB c = (c.k == 0 && (c.r == 0 && (c.p.n == 0 && c.ys.isEmpty))) := rfl
  generalize bareB c = bb at *
  obtain ⟨con, is, k, r, p, ys⟩ := c
  obtain ⟨pA, pn, pc, pl1, pl2, pl3⟩ := p
  simp only [Ca.con, Ca.is, Ca.k, Ca.r, Ca.p, Ca.ys] at *
  have hbl : ys.isEmpty = (ys.length == 0) := by cases ys <;> simp
  rw [hbl] at hB
  clear hbl
  generalize ys.length = L at *
  have hfin : Below z.heap.size z ((z.alloc (.cells #[.int .i64 k, .int .i64 r, .slice pA pn pc, .slice A L cap] 40)).alloc (.cells #[.int .i64 0, .int .i64 0, .slice none 0 0, .slice none 0 0] 40)) := (below1C z _).alloc (by simp) _
  have HN := fun y c d => Lib.hid (rints_nil y pA none c d)
  by_cases h1 : k = 0
  · by_cases h2 : r = 0
    · by_cases h3 : pn = 0
      · by_cases h4 : L = 0
        · subst h1 h2 h3 h4
          have HB : Hid (bb = true) := Lib.hid (by rw [hB]; rfl)
          clear hB
          go_enter Try.func30, Try.ntmps30
          go_wp2_with (go_at_call 34; refine (HN _ _ _).out.mono ?_; rintro _ z1 ⟨rfl, rfl⟩)
          refine wp_loop_once ?_
          go_wp2_with fail
          go_ret
          exact ⟨by rw [HB.out]; try rfl, hfin⟩
        · subst h1 h2 h3
          have HB : Hid (bb = false) := Lib.hid (by rw [hB]; simp [h4])
          have hl : ((L : Int) != 0) = true := by simp; omega
          have hl2 : ((L : Int) == 0) = false := by simp; omega
          clear hB h4
          go_enter Try.func30, Try.ntmps30
          go_wp2_with (go_at_call 34; refine (HN _ _ _).out.mono ?_; rintro _ z1 ⟨rfl, rfl⟩)
          go_ret
          exact ⟨by rw [HB.out]; try rfl, hfin⟩
      · subst h1 h2
        have HB : Hid (bb = false) := Lib.hid (by rw [hB]; simp [h3])
        have HNE := fun y c d => Lib.hid (rints_ne y pA none c d pn h3)
        clear hB h3
        go_enter Try.func30, Try.ntmps30
        go_wp2_with (go_at_call 34; refine (HNE _ _ _).out.mono ?_; rintro _ z1 ⟨rfl, rfl⟩)
        go_ret
        exact ⟨by rw [HB.out]; try rfl, hfin⟩
    · subst h1
      have HB : Hid (bb = false) := Lib.hid (by rw [hB]; simp [h2])
      have hr : (r == 0) = false := by simpa using h2
      have hr2 : (r != 0) = true := by simpa using h2
      clear hB h2
      go_enter Try.func30, Try.ntmps30
      go_wp2_with fail
      go_ret
      exact ⟨by rw [HB.out]; try rfl, hfin⟩
  · have HB : Hid (bb = false) := Lib.hid (by rw [hB]; simp [h1])
    have hk : (k == 0) = false := by simpa using h1
    have hk2 : (k != 0) = true := by simpa using h1
    clear hB h1
    go_enter Try.func30, Try.ntmps30
    go_wp2_with fail
    go_ret
    exact ⟨by rw [HB.out]; try rfl, hfin⟩
theorem all_take {α : Type} (f : α → Bool) {l : List α} {j : Nat} (h : j < l.length) : (l.take (j + 1)).all f = ((l.take j).all f && f l[j]) := by
  rw [List.take_succ_eq_append_getElem h, List.all_append]
  simp
theorem all_miss {α : Type} (f : α → Bool) {l : List α} {j : Nat} (h : j < l.length) (hf : f l[j] = false) : l.all f = false := by
  rw [List.all_eq_false]
  exact ⟨l[j], List.getElem_mem h, by simp [hf]⟩
theorem br_all (nm : Nat) (fn : List Int) (ar : Int) (nb : Nat) : ∀ ys : List Ca, brB nm fn ar nb ys = ys.all (fun c => okOne nm (treeB nm fn ar nb c) c)
  | [] => by rw [brB]; rfl
  | c :: r => by
    rw [brB, br_all nm fn ar nb r, List.all_cons]
    unfold okOne
    rw [Bool.and_assoc]
theorem or_all (fn : List Int) (ar : Int) : ∀ ys : List Ca, orB fn ar ys = ys.all (orOne fn ar)
  | [] => by rw [orB]; rfl
  | c :: r => by
    rw [orB, or_all fn ar r, List.all_cons]
    rfl
theorem okOne_mk (nm : Nat) (tb : Bool) (con : Int) (is : Bool) (k r : Int) (p : PHd) (ys : List Ca) : okOne nm tb (.mk con is k r p ys) = ((is || (decide (0 ≤ con) && decide (con < (nm : Int)))) && tb) := rfl
theorem orOne_mk (fn : List Int) (ar con : Int) (is : Bool) (k r : Int) (p : PHd) (ys : List Ca) : orOne fn ar (.mk con is k r p ys) = (!is && (decide (0 ≤ con) && (decide (con < (fn.length : Int)) && (fn.getD con.toNat 0 == ar && bareB (.mk con is k r p ys))))) := rfl
/-- the law's tree's word on a tree. -/
def TreeSaysR (w0 : World) (pv fv : Value) (t : Ca) (b : Bool) : Prop := ∀ (z : World) (A : Option Addr) (cap : Nat), CaHd A t.ys.length cap → Cas w0 A t.ys → Below w0.heap.size w0 z →
  Calls Try.prog 25 #[pv, fv, .agg #[.int .i64 t.k, .int .i64 t.r, .slice t.p.A t.p.n t.p.c, .slice A t.ys.length cap]] z fun e z' => e = .returned (.bool b) ∧ Below z.heap.size z z'
set_option maxRecDepth 100000 in
set_option maxHeartbeats 8000000 in
theorem rtree_any (N : Nat) (fn : List Int) (ar : Int) (v0 u0 u2 u3 u4 u5 : Value) (Am Af AB : Option Addr) (nm cm cf nb cb : Nat) (hcm : nm ≤ cm) (hcm2 : cm ≤ 9223372036854775807) (hnm : nm ≤ 1048576) (hcf : fn.length ≤ cf) (hcf2 : cf ≤ 9223372036854775807) (hfm : fn.length ≤ 1048576) (hnb : nb ≤ cb) (hnb2 : cb ≤ 9223372036854775807) (hnb3 : nb ≤ 1048576) :
    ∀ (w0 : World) (t : Ca), t.size ≤ N → FnRows w0 Af fn → TreeSaysR w0 (.agg #[v0, .slice Am nm cm, .slice Af fn.length cf]) (.agg #[u0, .int .i64 ar, u2, u3, u4, u5, .slice AB nb cb]) t (treeB nm fn ar nb t) := by
  induction N with
  | zero => intro w0 t h; cases t; rw [Ca.size_mk] at h; omega
  | succ N ih =>
    intro w0 t hN hR z A cap hh hs h0
    cases t with
    | mk con is k r p ys =>
    rw [Ca.size_mk] at hN
    have hE : treeB nm fn ar nb (.mk con is k r p ys) = (if k = 0 then true
      else if k = 1 then decide (0 ≤ r) && decide (r < nb)
      else if k = 2 then decide (0 < p.n) && brB nm fn ar nb ys
      else if k = 3 then ys.length == 2 && orB fn ar ys
      else false) := by rw [treeB]
    generalize treeB nm fn ar nb (.mk con is k r p ys) = R at *
    obtain ⟨pA, pn, pc, pl1, pl2, pl3⟩ := p
    simp only [Ca.con, Ca.is, Ca.k, Ca.r, Ca.p, Ca.ys] at *
    obtain ⟨hd1, hd2, hd3, hd4⟩ := id hh
    have hRz := hR.below h0 (Nat.le_refl _)
    have hsz := hs.below h0 (Nat.le_refl _)
    go_enter Try.func25, Try.ntmps25
    go_upto_region 1 with fail
    have e1 := heap_alloc_new z (.cells #[v0, .slice Am nm cm, .slice Af fn.length cf] 26)
    have e2 := heap_alloc_new (z.alloc (.cells #[v0, .slice Am nm cm, .slice Af fn.length cf] 26)) (.cells #[u0, .int .i64 ar, u2, u3, u4, u5, .slice AB nb cb] 43)
    have e3 := heap_alloc_new ((z.alloc (.cells #[v0, .slice Am nm cm, .slice Af fn.length cf] 26)).alloc (.cells #[u0, .int .i64 ar, u2, u3, u4, u5, .slice AB nb cb] 43)) (.cells #[.int .i64 k, .int .i64 r, .slice pA pn pc, .slice A ys.length cap] 40)
    have e1 := (Below.heap_alloc _ (.cells #[.int .i64 k, .int .i64 r, .slice pA pn pc, .slice A ys.length cap] 40) z.heap.size (by simp; omega)).trans ((Below.heap_alloc _ (.cells #[u0, .int .i64 ar, u2, u3, u4, u5, .slice AB nb cb] 43) z.heap.size (by simp)).trans e1)
    rw [World.size_alloc] at e2
    have e2 := (Below.heap_alloc _ (.cells #[.int .i64 k, .int .i64 r, .slice pA pn pc, .slice A ys.length cap] 40) (z.heap.size + 1) (by simp)).trans e2
    rw [World.size_alloc, World.size_alloc] at e3
    have hbW : Below z.heap.size z (((z.alloc (.cells #[v0, .slice Am nm cm, .slice Af fn.length cf] 26)).alloc (.cells #[u0, .int .i64 ar, u2, u3, u4, u5, .slice AB nb cb] 43)).alloc (.cells #[.int .i64 k, .int .i64 r, .slice pA pn pc, .slice A ys.length cap] 40)) := ((below1C z _).alloc (by simp) _).alloc (by simp; omega) _
    generalize ((z.alloc (.cells #[v0, .slice Am nm cm, .slice Af fn.length cf] 26)).alloc (.cells #[u0, .int .i64 ar, u2, u3, u4, u5, .slice AB nb cb] 43)).alloc (.cells #[.int .i64 k, .int .i64 r, .slice pA pn pc, .slice A ys.length cap] 40) = W at *
    obtain ⟨t0, t1, t2, t3⟩ := cells4p e3
    have f6 := (cells7p e2).2.2.2.2.2.2
    have hRW := hRz.below hbW (Nat.le_refl _)
    have hsW := hsz.below hbW (Nat.le_refl _)
    by_cases hk0 : k = 0
    · subst hk0
      have HE : Hid (R = true) := Lib.hid (by rw [hE]; rfl)
      clear hE hR hRz hs hsz hsW hRW e1 e2 e3
      go_wp2_with fail
      go_ret
      exact ⟨by rw [HE.out]; try rfl, hbW⟩
    by_cases hk1 : k = 1
    · subst hk1
      have HE : Hid (R = (decide (0 ≤ r) && decide (r < nb))) := Lib.hid (by rw [hE]; rfl)
      clear hE hR hRz hs hsz hsW hRW e1 e2 e3 hk0
      by_cases hr0 : 0 ≤ r
      · by_cases hr1 : r < nb
        · have HE : Hid (R = true) := Lib.hid (by rw [HE.out]; simp [hr0, hr1])
          go_wp2_with fail
          go_ret
          exact ⟨by rw [HE.out]; try rfl, hbW⟩
        · have HE : Hid (R = false) := Lib.hid (by rw [HE.out]; simp [hr1])
          go_wp2_with fail
          go_ret
          exact ⟨by rw [HE.out]; try rfl, hbW⟩
      · have HE : Hid (R = false) := Lib.hid (by rw [HE.out]; simp [hr0])
        go_wp2_with fail
        go_ret
        exact ⟨by rw [HE.out]; try rfl, hbW⟩
    by_cases hk2 : k = 2
    · subst hk2
      have HE : Hid (R = (decide (0 < pn) && ys.all (fun c => okOne nm (treeB nm fn ar nb c) c))) := Lib.hid (by rw [← br_all, hE]; rfl)
      have HIH := Lib.hid (fun i (hi : i < ys.length) => ih W ys[i] (by have := CaSize_get hi; omega) hRW)
      clear hE hR hRz hs hsz hRW hk0 hk1 ih
      go_wp2_with fail
      go_loopw [33] (fun i wr => ∃ j : Nat, i = .int .i64 j ∧ j ≤ ys.length ∧ Hid ((ys.take j).all (fun c => okOne nm (treeB nm fn ar nb c) c) = true) ∧ Below W.heap.size W wr) (fun i _ => ys.length - (intOf i).toNat)
      case atStart => exact ⟨0, rfl, Nat.zero_le _, Lib.hid (by simp), Below.refl _ _⟩
      case round =>
        obtain ⟨j, rfl, hj, hall, hb⟩ := hrel
        by_cases hlt : j < ys.length
        · obtain ⟨b, o, rfl, hat⟩ := hsW.get j hlt
          have HT := Lib.hid (all_take (fun c => okOne nm (treeB nm fn ar nb c) c) hlt)
          have HM := Lib.hid (all_miss (fun c => okOne nm (treeB nm fn ar nb c) c) hlt)
          have HI := Lib.hid (HIH.out j hlt)
          obtain ⟨OK, hOE⟩ : ∃ OK, OK = okOne nm (treeB nm fn ar nb ys[j]) ys[j] := ⟨_, rfl⟩
          rw [← hOE] at HT HM
          clear HIH
          generalize treeB nm fn ar nb ys[j] = tb at *
          generalize ys[j] = c at *
          cases c with
          | mk con' is' k' r' p' ys' =>
          obtain ⟨pA', pn', pc', pl1', pl2', pl3'⟩ := p'
          obtain ⟨A', cap', c0, c1, c2, c3, c4, c5, hv'⟩ := Ca.At.both hat hb (Nat.le_refl _)
          obtain ⟨A2, cap2, e4, hh2, hs2⟩ := hv'
          injection e4 with e4
          simp only [Array.mk.injEq, List.cons.injEq, Value.slice.injEq, true_and, and_true] at e4
          obtain ⟨rfl, rfl⟩ := e4
          have hC0 := fun o => HI.out (wr.alloc o) A' cap' hh2 hs2 (hb.alloc hb.size o)
          simp only [Ca.con, Ca.is, Ca.k, Ca.r, Ca.p, Ca.ys] at hC0
          rw [okOne_mk] at hOE
          have HC := fun o => Lib.hid (hC0 o)
          have b1 := (hb.block _ (Array.getElem?_eq_some_iff.1 e1).1).trans e1
          have b2 := (hb.block _ (Array.getElem?_eq_some_iff.1 e2).1).trans e2
          have hpl := (Array.getElem?_eq_some_iff.1 b1).1
          have hfl := (Array.getElem?_eq_some_iff.1 b2).1
          have HP0 := fun o => (World.cell?_alloc_lt wr o ⟨z.heap.size, 0, none⟩ hpl).trans (cells3p b1).1
          have HP1 := fun o => (World.cell?_alloc_lt wr o ⟨z.heap.size, 1, none⟩ hpl).trans (cells3p b1).2.1
          have HP2 := fun o => (World.cell?_alloc_lt wr o ⟨z.heap.size, 2, none⟩ hpl).trans (cells3p b1).2.2
          obtain ⟨g0, g1, g2, g3, g4, g5, g6⟩ := cells7p b2
          have HF0 := fun o => (World.cell?_alloc_lt wr o ⟨z.heap.size + 1, 0, none⟩ hfl).trans g0
          have HF1 := fun o => (World.cell?_alloc_lt wr o ⟨z.heap.size + 1, 1, none⟩ hfl).trans g1
          have HF2 := fun o => (World.cell?_alloc_lt wr o ⟨z.heap.size + 1, 2, none⟩ hfl).trans g2
          have HF3 := fun o => (World.cell?_alloc_lt wr o ⟨z.heap.size + 1, 3, none⟩ hfl).trans g3
          have HF4 := fun o => (World.cell?_alloc_lt wr o ⟨z.heap.size + 1, 4, none⟩ hfl).trans g4
          have HF5 := fun o => (World.cell?_alloc_lt wr o ⟨z.heap.size + 1, 5, none⟩ hfl).trans g5
          have HF6 := fun o => (World.cell?_alloc_lt wr o ⟨z.heap.size + 1, 6, none⟩ hfl).trans g6
          have hbx := hb.thenCall hb.size (below1C wr (.cells #[.int .i64 con', .bool is', .int .i64 k', .int .i64 r', .slice pA' pn' pc', .slice A' ys'.length cap'] 67))
          clear hat hsW HI hC0 b1 b2 g0 g1 g2 g3 g4 g5 g6 hh2 hs2
          have HW3 : (is' = false ∧ ¬ (0 ≤ con' ∧ con' < nm) ∧ OK = false) ∨ (is' = false ∧ 0 ≤ con' ∧ con' < nm ∧ OK = tb) ∨ (is' = true ∧ OK = tb) := by
            cases is' with
            | true => exact .inr (.inr ⟨rfl, by rw [hOE]; rfl⟩)
            | false =>
              by_cases h1 : 0 ≤ con'
              · by_cases h2 : con' < nm
                · exact .inr (.inl ⟨rfl, h1, h2, by rw [hOE, decide_eq_true h1, decide_eq_true h2]; rfl⟩)
                · exact .inl ⟨rfl, fun h => h2 h.2, by rw [hOE, decide_eq_false h2, Bool.and_false]; rfl⟩
              · exact .inl ⟨rfl, fun h => h1 h.1, by rw [hOE, decide_eq_false h1]; rfl⟩
          clear hOE
          rcases HW3 with ⟨rfl, hw, rfl⟩ | ⟨rfl, h1, h2, rfl⟩ | ⟨rfl, rfl⟩
          · have HE : Hid (R = false) := Lib.hid (by rw [HE.out, HM.out rfl, Bool.and_false])
            clear HM HT
            by_cases h1 : con' < 0
            · clear hw
              go_wp2_with fail
              go_ret
              exact ⟨by rw [HE.out]; try rfl, hbW.thenCall hbW.size hbx⟩
            · have h2 : (nm : Int) ≤ con' := by omega
              clear hw
              go_wp2_with fail
              go_ret
              exact ⟨by rw [HE.out]; try rfl, hbW.thenCall hbW.size hbx⟩
          · cases OK
            · have HE : Hid (R = false) := Lib.hid (by rw [HE.out, HM.out rfl, Bool.and_false])
              clear HM HT
              go_wp2_with (go_at_call 25; refine (HC _).out.mono ?_; rintro _ w2 ⟨rfl, q2⟩; have hbn := hb.thenCall hb.size (Below.call1 q2))
              go_ret
              exact ⟨by rw [HE.out]; try rfl, hbW.thenCall hbW.size hbn⟩
            · have HN : Hid ((ys.take (j + 1)).all (fun c => okOne nm (treeB nm fn ar nb c) c) = true) := Lib.hid (by rw [HT.out, hall.out]; rfl)
              clear HM HT
              go_wp2_with (go_at_call 25; refine (HC _).out.mono ?_; rintro _ w2 ⟨rfl, q2⟩; have hbn := hb.thenCall hb.size (Below.call1 q2))
              exact ⟨⟨j + 1, by go_num, by omega, HN, hbn⟩, by simp [intOf]; omega⟩
          · cases OK
            · have HE : Hid (R = false) := Lib.hid (by rw [HE.out, HM.out rfl, Bool.and_false])
              clear HM HT
              go_wp2_with (go_at_call 25; refine (HC _).out.mono ?_; rintro _ w2 ⟨rfl, q2⟩; have hbn := hb.thenCall hb.size (Below.call1 q2))
              go_ret
              exact ⟨by rw [HE.out]; try rfl, hbW.thenCall hbW.size hbn⟩
            · have HN : Hid ((ys.take (j + 1)).all (fun c => okOne nm (treeB nm fn ar nb c) c) = true) := Lib.hid (by rw [HT.out, hall.out]; rfl)
              clear HM HT
              go_wp2_with (go_at_call 25; refine (HC _).out.mono ?_; rintro _ w2 ⟨rfl, q2⟩; have hbn := hb.thenCall hb.size (Below.call1 q2))
              exact ⟨⟨j + 1, by go_num, by omega, HN, hbn⟩, by simp [intOf]; omega⟩
        · have HA : Hid (R = decide (0 < pn)) := Lib.hid (by
            have h := hall.out
            rw [List.take_of_length_le (by omega)] at h
            rw [HE.out, h, Bool.and_true])
          have t2w := (cells4p ((hb.block _ (Array.getElem?_eq_some_iff.1 e3).1).trans e3)).2.2.1
          clear HE hall hsW HIH
          by_cases hp : 0 < pn
          · have HA : Hid (R = true) := Lib.hid (by rw [HA.out]; simp [hp])
            have hpi : (0 : Int) < (pn : Int) := by omega
            go_wp2_with fail
            go_ret
            exact ⟨by rw [HA.out]; try rfl, hbW.thenCall hbW.size hb⟩
          · have HA : Hid (R = false) := Lib.hid (by rw [HA.out]; simp [hp])
            obtain rfl : pn = 0 := by omega
            go_wp2_with fail
            go_ret
            exact ⟨by rw [HA.out]; try rfl, hbW.thenCall hbW.size hb⟩
    by_cases hk3 : k = 3
    · subst hk3
      have HE : Hid (R = ((ys.length == 2) && ys.all (orOne fn ar))) := Lib.hid (by rw [← or_all, hE]; rfl)
      clear hE hR hRz hs hsz hk0 hk1 hk2 ih
      go_wp2_with fail
      go_loopw [71] (fun i wr => ∃ j : Nat, i = .int .i64 j ∧ j ≤ ys.length ∧ Hid ((ys.take j).all (orOne fn ar) = true) ∧ Below W.heap.size W wr) (fun i _ => ys.length - (intOf i).toNat)
      case atStart => exact ⟨0, rfl, Nat.zero_le _, Lib.hid (by simp), Below.refl _ _⟩
      case round =>
        obtain ⟨j, rfl, hj, hall, hb⟩ := hrel
        by_cases hlt : j < ys.length
        · obtain ⟨b, o, rfl, hat⟩ := hsW.get j hlt
          have HT := Lib.hid (all_take (orOne fn ar) hlt)
          have HM := Lib.hid (all_miss (orOne fn ar) hlt)
          obtain ⟨OK, hOE⟩ : ∃ OK, OK = orOne fn ar ys[j] := ⟨_, rfl⟩
          rw [← hOE] at HT HM
          generalize ys[j] = c at *
          cases c with
          | mk con' is' k' r' p' ys' =>
          obtain ⟨pA', pn', pc', pl1', pl2', pl3'⟩ := p'
          obtain ⟨A', cap', c0, c1, c2, c3, c4, c5, hv'⟩ := Ca.At.both hat hb (Nat.le_refl _)
          obtain ⟨A2, cap2, e4, hh2, hs2⟩ := hv'
          injection e4 with e4
          simp only [Array.mk.injEq, List.cons.injEq, Value.slice.injEq, true_and, and_true] at e4
          obtain ⟨rfl, rfl⟩ := e4
          have hSZ := fun y => sameZero_any y (.mk con' is' k' r' ⟨pA', pn', pc', pl1', pl2', pl3'⟩ ys') A' cap' hh2
          rw [orOne_mk] at hOE
          simp only [Ca.con, Ca.is, Ca.k, Ca.r, Ca.p, Ca.ys] at hSZ
          generalize bareB (.mk con' is' k' r' ⟨pA', pn', pc', pl1', pl2', pl3'⟩ ys') = bb at *
          have HSZ := fun y => Lib.hid (hSZ y)
          have b1 := (hb.block _ (Array.getElem?_eq_some_iff.1 e1).1).trans e1
          have b2 := (hb.block _ (Array.getElem?_eq_some_iff.1 e2).1).trans e2
          have hpl := (Array.getElem?_eq_some_iff.1 b1).1
          have hfl := (Array.getElem?_eq_some_iff.1 b2).1
          have hRw := hRW.below hb (Nat.le_refl _)
          clear hat hsW hSZ hh2 hs2
          go_upto_region 19 with fail
          obtain ⟨V, hV⟩ : ∃ V, V = wr.alloc (.cells #[.int .i64 con', .bool is', .int .i64 k', .int .i64 r', .slice pA' pn' pc', .slice A' ys'.length cap'] 67) := ⟨_, rfl⟩
          have hbV : Below wr.heap.size wr V := by rw [hV]; exact below1C _ _
          have hbx := hb.thenCall hb.size hbV
          have hnV : V.heap[wr.heap.size]? = some (.cells #[.int .i64 con', .bool is', .int .i64 k', .int .i64 r', .slice pA' pn' pc', .slice A' ys'.length cap'] 67 (0, 0)) := by rw [hV]; exact heap_alloc_new wr _
          rw [← hV]
          clear hV c0 c1 c2 c3 c4 c5
          obtain ⟨d0, d1, d2, d3, d4, d5⟩ := cells6p hnV
          have hp2 := (cells3p ((hbV.block _ hpl).trans b1)).2.2
          have hf1 := (cells7p ((hbV.block _ hfl).trans b2)).2.1
          have hRV := hRw.below hbV (Nat.le_refl _)
          have HW5 : (is' = true ∧ OK = false) ∨ (is' = false ∧ con' < 0 ∧ OK = false) ∨ (is' = false ∧ (fn.length : Int) ≤ con' ∧ 0 ≤ con' ∧ OK = false) ∨ (∃ q : Nat, ∃ hq : q < fn.length, is' = false ∧ con' = q ∧ ¬ fn[q] = ar ∧ OK = false) ∨ (∃ q : Nat, ∃ hq : q < fn.length, is' = false ∧ con' = q ∧ fn[q] = ar ∧ OK = bb) := by
            cases is' with
            | true => exact .inl ⟨rfl, by rw [hOE]; rfl⟩
            | false =>
              by_cases h1 : con' < 0
              · exact .inr (.inl ⟨rfl, h1, by rw [hOE, decide_eq_false (show ¬ 0 ≤ con' by omega)]; rfl⟩)
              · obtain ⟨q, rfl⟩ : ∃ q : Nat, con' = q := ⟨con'.toNat, by omega⟩
                by_cases h2 : q < fn.length
                · have hg : fn.getD (q : Int).toNat 0 = fn[q] := by simp [List.getD, List.getElem?_eq_getElem h2]
                  rw [hg] at hOE
                  by_cases ha : fn[q] = ar
                  · exact .inr (.inr (.inr (.inr ⟨q, h2, rfl, rfl, ha, by rw [hOE]; simp [ha, h2]⟩)))
                  · exact .inr (.inr (.inr (.inl ⟨q, h2, rfl, rfl, ha, by rw [hOE]; simp [ha]⟩)))
                · exact .inr (.inr (.inl ⟨rfl, by omega, by omega, by rw [hOE, decide_eq_false (show ¬ (q : Int) < (fn.length : Int) by omega)]; simp⟩))
          clear hOE hRw hRW e1 e2 b1 b2
          rcases HW5 with ⟨rfl, rfl⟩ | ⟨rfl, h1, rfl⟩ | ⟨rfl, h1, h2, rfl⟩ | ⟨q, hq, rfl, rfl, ha, rfl⟩ | ⟨q, hq, rfl, rfl, ha, rfl⟩
          · have HE : Hid (R = false) := Lib.hid (by rw [HE.out, HM.out rfl, Bool.and_false])
            clear HM HT hRV
            go_quiet (fail)
            go_wp2_with fail
            go_ret
            exact ⟨by rw [HE.out]; try rfl, below_drewN (hbW.thenCall hbW.size hbx) _⟩
          · have HE : Hid (R = false) := Lib.hid (by rw [HE.out, HM.out rfl, Bool.and_false])
            have h1d : decide (con' < 0) = true := decide_eq_true h1
            clear HM HT hRV
            go_quiet (fail)
            go_wp2_with fail
            go_ret
            exact ⟨by rw [HE.out]; try rfl, below_drewN (hbW.thenCall hbW.size hbx) _⟩
          · have HE : Hid (R = false) := Lib.hid (by rw [HE.out, HM.out rfl, Bool.and_false])
            have h1d : decide (con' < 0) = false := decide_eq_false (by omega)
            have h2d : decide ((fn.length : Int) ≤ con') = true := decide_eq_true h1
            clear HM HT hRV
            go_quiet (fail)
            go_wp2_with fail
            go_ret
            exact ⟨by rw [HE.out]; try rfl, below_drewN (hbW.thenCall hbW.size hbx) _⟩
          · have HE : Hid (R = false) := Lib.hid (by rw [HE.out, HM.out rfl, Bool.and_false])
            obtain ⟨bq, oq, rfl, hbl, hc⟩ := hRV q hq
            generalize fn[q] = fa at *
            have hab : (fa == ar) = false := by simpa using ha
            have hab2 : (fa != ar) = true := by simpa using ha
            have hqi : (q : Int) < (fn.length : Int) := by omega
            have h1d : decide ((q : Int) < 0) = false := decide_eq_false (by omega)
            have h2d : decide ((fn.length : Int) ≤ (q : Int)) = false := decide_eq_false (by omega)
            clear HM HT hRV ha
            go_quiet (fail)
            go_wp2_with fail
            go_ret
            exact ⟨by rw [HE.out]; try rfl, below_drewN (hbW.thenCall hbW.size hbx) _⟩
          · obtain ⟨bq, oq, rfl, hbl, hc⟩ := hRV q hq
            rw [ha] at hc
            have hqi : (q : Int) < (fn.length : Int) := by omega
            have h1d : decide ((q : Int) < 0) = false := decide_eq_false (by omega)
            have h2d : decide ((fn.length : Int) ≤ (q : Int)) = false := decide_eq_false (by omega)
            have h2n : ¬ fn.length ≤ q := by omega
            have h2i : ¬ (fn.length : Int) ≤ (q : Int) := by omega
            have hplV := Nat.lt_of_lt_of_le hpl hbV.size
            have hflV := Nat.lt_of_lt_of_le hfl hbV.size
            have hnl := (Array.getElem?_eq_some_iff.1 hnV).1
            have MS : Hid (∀ y, Below V.heap.size V y → (fun w' : World => w'.cell? ⟨wr.heap.size, 0, none⟩ = some (.int .i64 (q : Int)) ∧ w'.cell? ⟨wr.heap.size, 1, none⟩ = some (.bool false) ∧ w'.cell? ⟨wr.heap.size, 2, none⟩ = some (.int .i64 k') ∧ w'.cell? ⟨wr.heap.size, 3, none⟩ = some (.int .i64 r') ∧ w'.cell? ⟨wr.heap.size, 4, none⟩ = some (.slice pA' pn' pc') ∧ w'.cell? ⟨wr.heap.size, 5, none⟩ = some (.slice A' ys'.length cap') ∧ w'.cell? ⟨z.heap.size, 2, none⟩ = some (.slice (some ⟨bq, oq, none⟩) fn.length cf) ∧ w'.cell? ⟨z.heap.size + 1, 1, none⟩ = some (.int .i64 ar) ∧ w'.cell? ⟨bq, oq + q * 7 + 1, none⟩ = some (.int .i64 ar)) y) := Lib.hid (fun y hy =>
              ⟨(hy.cell (p := ⟨wr.heap.size, 0, none⟩) hnl).trans d0, (hy.cell (p := ⟨wr.heap.size, 1, none⟩) hnl).trans d1, (hy.cell (p := ⟨wr.heap.size, 2, none⟩) hnl).trans d2, (hy.cell (p := ⟨wr.heap.size, 3, none⟩) hnl).trans d3, (hy.cell (p := ⟨wr.heap.size, 4, none⟩) hnl).trans d4, (hy.cell (p := ⟨wr.heap.size, 5, none⟩) hnl).trans d5,
                (hy.cell (p := ⟨z.heap.size, 2, none⟩) hplV).trans hp2, (hy.cell (p := ⟨z.heap.size + 1, 1, none⟩) hflV).trans hf1, (hy.cell (p := ⟨bq, oq + q * 7 + 1, none⟩) hbl).trans hc⟩)
            have hB0 : Below V.heap.size V V.drew := (Below.refl _ _).drew
            clear hRV ha d0 d1 d2 d3 d4 d5 hp2 hf1 hc hnV
            cases OK
            · have HE : Hid (R = false) := Lib.hid (by rw [HE.out, HM.out rfl, Bool.and_false])
              clear HM HT
              go_region_held3 (fun w' : World => w'.cell? ⟨wr.heap.size, 0, none⟩ = some (.int .i64 (q : Int)) ∧ w'.cell? ⟨wr.heap.size, 1, none⟩ = some (.bool false) ∧ w'.cell? ⟨wr.heap.size, 2, none⟩ = some (.int .i64 k') ∧ w'.cell? ⟨wr.heap.size, 3, none⟩ = some (.int .i64 r') ∧ w'.cell? ⟨wr.heap.size, 4, none⟩ = some (.slice pA' pn' pc') ∧ w'.cell? ⟨wr.heap.size, 5, none⟩ = some (.slice A' ys'.length cap') ∧ w'.cell? ⟨z.heap.size, 2, none⟩ = some (.slice (some ⟨bq, oq, none⟩) fn.length cf) ∧ w'.cell? ⟨z.heap.size + 1, 1, none⟩ = some (.int .i64 ar) ∧ w'.cell? ⟨bq, oq + q * 7 + 1, none⟩ = some (.int .i64 ar))
                (first | exact MS.out _ hB1 | exact MS.out _ hB0)
                (first
                 | (go_at_call 30; ((with_reducible refine (HSZ _).out.mono ?_); rintro _ y1 ⟨rfl, q1⟩; have hB1 := hB0.thenCall hB0.size q1)))
              go_wp2_with fail
              go_ret
              exact ⟨by rw [HE.out]; try rfl, hbW.thenCall hbW.size (hbx.thenCall hbx.size hB1)⟩
            · have HN : Hid ((ys.take (j + 1)).all (orOne fn ar) = true) := Lib.hid (by rw [HT.out, hall.out]; rfl)
              clear HM HT
              go_region_held3 (fun w' : World => w'.cell? ⟨wr.heap.size, 0, none⟩ = some (.int .i64 (q : Int)) ∧ w'.cell? ⟨wr.heap.size, 1, none⟩ = some (.bool false) ∧ w'.cell? ⟨wr.heap.size, 2, none⟩ = some (.int .i64 k') ∧ w'.cell? ⟨wr.heap.size, 3, none⟩ = some (.int .i64 r') ∧ w'.cell? ⟨wr.heap.size, 4, none⟩ = some (.slice pA' pn' pc') ∧ w'.cell? ⟨wr.heap.size, 5, none⟩ = some (.slice A' ys'.length cap') ∧ w'.cell? ⟨z.heap.size, 2, none⟩ = some (.slice (some ⟨bq, oq, none⟩) fn.length cf) ∧ w'.cell? ⟨z.heap.size + 1, 1, none⟩ = some (.int .i64 ar) ∧ w'.cell? ⟨bq, oq + q * 7 + 1, none⟩ = some (.int .i64 ar))
                (first | exact MS.out _ hB1 | exact MS.out _ hB0)
                (first
                 | (go_at_call 30; ((with_reducible refine (HSZ _).out.mono ?_); rintro _ y1 ⟨rfl, q1⟩; have hB1 := hB0.thenCall hB0.size q1)))
              go_wp2_with fail
              exact ⟨⟨j + 1, by go_num, by omega, HN, hbx.thenCall hbx.size hB1⟩, by simp [intOf]; omega⟩
        · have HA : Hid (R = (ys.length == 2)) := Lib.hid (by
            have h := hall.out
            rw [List.take_of_length_le (by omega)] at h
            rw [HE.out, h, Bool.and_true])
          have t3w := (cells4p ((hb.block _ (Array.getElem?_eq_some_iff.1 e3).1).trans e3)).2.2.2
          clear HE hall hsW
          by_cases hp : ys.length = 2
          · have HA : Hid (R = true) := Lib.hid (by rw [HA.out]; simp [hp])
            have hlb : ((ys.length : Int) == 2) = true := by simp; omega
            clear hp
            go_wp2_with fail
            go_ret
            exact ⟨by rw [HA.out]; try rfl, hbW.thenCall hbW.size hb⟩
          · have HA : Hid (R = false) := Lib.hid (by rw [HA.out]; simp [hp])
            have hlb : ((ys.length : Int) == 2) = false := by simp; omega
            clear hp
            go_wp2_with fail
            go_ret
            exact ⟨by rw [HA.out]; try rfl, hbW.thenCall hbW.size hb⟩
    have q0 : (k == 0) = false := by simpa using hk0
    have q1 : (k == 1) = false := by simpa using hk1
    have q2 : (k == 2) = false := by simpa using hk2
    have q3 : (k == 3) = false := by simpa using hk3
    have HE : Hid (R = false) := Lib.hid (by rw [hE, if_neg hk0, if_neg hk1, if_neg hk2, if_neg hk3])
    clear hE hR hRz hs hsz hsW hRW e1 e2 e3 hk0 hk1 hk2 hk3 ih
    go_wp2_with fail
    go_ret
    exact ⟨by rw [HE.out]; try rfl, hbW⟩
end Go.Proofs.Ytkcgbakjpodmeaa.Co
