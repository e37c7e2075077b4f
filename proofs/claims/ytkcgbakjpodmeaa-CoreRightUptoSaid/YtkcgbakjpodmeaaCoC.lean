/- Contracts: core is the same as itself; whether an expression has as many parts as it must have. -/
import Derived.Test.YtkcgbakjpodmeaaCoB
namespace Go.Proofs.Ytkcgbakjpodmeaa.Co
open Go.ChangeShapes Go.WideShapes Go.ChangeAt Go.RowKit Go.Proofs.Ytkcgbakjpodmeaa.Lift Go.Proofs.Ytkcgbakjpodmeaa.Data
set_option linter.unusedVariables false
set_option linter.unusedSimpArgs false
def eqAll {α : Type} (eqB : α → α → Bool) : List α → List α → Bool
  | [], [] => true
  | a :: r, b :: q => eqB a b && eqAll eqB r q
  | _, _ => false
theorem eqAll_take {α : Type} {eqB : α → α → Bool} : ∀ {ys zs : List α} {j : Nat} (h : j < ys.length) (h2 : j < zs.length), eqAll eqB (ys.take (j + 1)) (zs.take (j + 1)) = (eqAll eqB (ys.take j) (zs.take j) && eqB ys[j] zs[j])
  | [], _, _, h, _ => by simp at h
  | _ :: _, [], _, _, h => by simp at h
  | a :: r, b :: q, 0, _, _ => by simp [eqAll]
  | a :: r, b :: q, j + 1, h, h2 => by
    simp only [List.take_succ_cons, eqAll, List.getElem_cons_succ]
    rw [eqAll_take (by simpa using h) (by simpa using h2), Bool.and_assoc]
theorem eqAll_false {α : Type} {eqB : α → α → Bool} : ∀ {ys zs : List α} {j : Nat} (h : j < ys.length) (h2 : j < zs.length), eqB ys[j] zs[j] = false → eqAll eqB ys zs = false
  | [], _, _, h, _, _ => by simp at h
  | _ :: _, [], _, _, h, _ => by simp at h
  | a :: r, b :: q, 0, _, _, h => by simp at h; simp [eqAll, h]
  | a :: r, b :: q, j + 1, h, h2, h3 => by
    simp only [eqAll, Bool.and_eq_false_iff]
    exact .inr (eqAll_false (by simpa using h) (by simpa using h2) (by simpa using h3))
theorem eqAll_len {α : Type} {eqB : α → α → Bool} : ∀ {ys zs : List α}, ¬ ys.length = zs.length → eqAll eqB ys zs = false
  | [], [], h => by simp at h
  | [], _ :: _, _ => rfl
  | _ :: _, [], _ => rfl
  | a :: r, b :: q, h => by
    simp only [eqAll, Bool.and_eq_false_iff]
    exact .inr (eqAll_len (by simpa using h))
set_option maxHeartbeats 1000000 in
theorem equalCo_any (eqB : Co → Co → Bool) (w0 : World) (ys zs : List Co) (v u : Value) (hv : Co.Sl w0 v ys) (hu : Co.Sl w0 u zs)
    (hcall : ∀ (i : Nat) (h1 : i < ys.length) (h2 : i < zs.length) (w : World) (a b : Value), (ys[i]).Val w0 a → (zs[i]).Val w0 b → Below w0.heap.size w0 w →
      Calls Try.prog 10 #[a, b] w fun r w' => r = .returned (.bool (eqB ys[i] zs[i])) ∧ Below w.heap.size w w')
    (w : World) (h0 : Below w0.heap.size w0 w) :
    Calls Try.prog 19 #[v, u, .func (.func 10) #[] #[]] w fun r w' => r = .returned (.bool (eqAll eqB ys zs)) ∧ Below w.heap.size w w' := by
  obtain ⟨A, cap, rfl, ⟨hd1, hd2, hd3, hd4⟩, hs⟩ := hv
  obtain ⟨A2, cap2, rfl, ⟨he1, he2, he3, he4⟩, hs2⟩ := hu
  by_cases hL : ys.length = zs.length
  · rw [← hL]
    have hd5 : zs.length ≤ ys.length := by omega
    have he5 : ys.length ≤ zs.length := by omega
    have HL := Lib.hid hL
    clear hL
    have HCA := Lib.hid hcall
    clear hcall
    go_enter Try.func19, Try.ntmps19
    go_wp2_with fail
    go_loopw [17] (fun i wr => ∃ j : Nat, i = .int .i64 j ∧ j ≤ ys.length ∧ eqAll eqB (ys.take j) (zs.take j) = true ∧ Below w.heap.size w wr) (fun i _ => ys.length - (intOf i).toNat)
    case atStart => exact ⟨0, rfl, Nat.zero_le _, by simp [eqAll], Below.refl _ _⟩
    case round =>
      obtain ⟨j, rfl, hj, hsj, hb⟩ := hrel
      have HSJ := Lib.hid hsj
      clear hsj
      by_cases hlt : j < ys.length
      · have hlt2 : j < zs.length := by omega
        obtain ⟨b, o, rfl, hat⟩ := hs.get j hlt
        obtain ⟨b', o', rfl, hat2⟩ := hs2.get j hlt2
        have hb0 := h0.trans (hb.mono h0.size)
        have HT := Lib.hid (eqAll_take (eqB := eqB) hlt hlt2)
        have HF := Lib.hid (eqAll_false (eqB := eqB) hlt hlt2)
        have HI := Lib.hid (HCA.out j hlt hlt2)
        clear HCA
        generalize ys[j] = y at *
        generalize zs[j] = z at *
        cases y with
        | mk k' n' ys'  =>
        cases z with
        | mk k'' n'' ys''  =>
        obtain ⟨A', cap', c0, c1, c2, hv'⟩ := Co.At.both hat hb0 (Nat.le_refl _)
        obtain ⟨A'', cap'', d0, d1, d2, hu'⟩ := Co.At.both hat2 hb0 (Nat.le_refl _)
        clear hat hat2 hs hs2
        have hbl1 : b < wr.heap.size := World.block_lt_of_cell? _ _ c0
        have hbl2 : b' < wr.heap.size := World.block_lt_of_cell? _ _ d0
        have HC := Lib.hid (fun o o' => HI.out ((wr.alloc o).alloc o') _ _ hv' hu' ((hb0.alloc hb0.size o).alloc (by simp; exact Nat.le_succ_of_le hb0.size) o'))
        clear HI
        cases hsm : eqB (.mk k' n' ys' ) (.mk k'' n'' ys'' )
        · rw [hsm] at HC
          have HFF := Lib.hid (HF.out hsm)
          clear hsm
          go_wp2_with (go_at_call 10; refine (HC.out _ _).mono ?_; rintro e w1 ⟨rfl, hb1⟩)
          go_ret
          exact ⟨by rw [HFF.out]; rfl, hb.thenCall hb.size (Below.call2 hb1)⟩
        · rw [hsm] at HC
          have HTT := Lib.hid (by rw [HT.out, HSJ.out, hsm]; rfl : eqAll eqB (ys.take (j + 1)) (zs.take (j + 1)) = true)
          clear hsm
          go_wp2_with (go_at_call 10; refine (HC.out _ _).mono ?_; rintro e w1 ⟨rfl, hb1⟩)
          exact ⟨⟨j + 1, by go_num, by omega, HTT.out, hb.thenCall hb.size (Below.call2 hb1)⟩, by simp [intOf]; omega⟩
      · have hfin : eqAll eqB ys zs = true := by
          have h := HSJ.out
          rw [List.take_of_length_le (by omega), List.take_of_length_le (by omega)] at h
          exact h
        have HFin := Lib.hid hfin
        clear hfin
        go_wp2_with fail
        go_ret
        exact ⟨by rw [HFin.out]; rfl, hb⟩
  · have hf := Lib.hid (eqAll_len (eqB := eqB) hL)
    have h4 : ¬ ((ys.length : Int) = zs.length) := by omega
    clear hL hcall
    go_enter Try.func19, Try.ntmps19
    go_wp2_with fail
    go_ret
    exact ⟨by rw [hf.out]; rfl, Below.refl _ _⟩

theorem eqAll_true : ∀ ys : List Co, eqAll (fun _ _ => true) ys ys = true
  | [] => rfl
  | e :: r => by simp only [eqAll, Bool.true_and]; exact eqAll_true r
set_option maxRecDepth 100000 in
set_option maxHeartbeats 1000000 in
theorem same_any (N : Nat) (w0 : World) : ∀ (e : Co) (w : World) (v u : Value), e.size ≤ N → e.Val w0 v → e.Val w0 u → Below w0.heap.size w0 w →
    Calls Try.prog 10 #[v, u] w fun r w' => r = .returned (.bool true) ∧ Below w.heap.size w w' := by
  induction N with
  | zero => intro e w v u h; cases e; rw [Co.size_mk] at h; omega
  | succ N ih =>
    intro e w v u hN hv hu h0
    cases e with
    | mk k n ys =>
    obtain ⟨A, cap, rfl, hd, hs⟩ := hv
    obtain ⟨A2, cap2, rfl, hd2, hs2⟩ := hu
    rw [Co.size_mk] at hN
    have HC := fun wx (hx : Below w0.heap.size w0 wx) => equalCo_any (fun _ _ => true) w0 ys ys (.slice A ys.length cap) (.slice A2 ys.length cap2) ⟨A, cap, rfl, hd, hs⟩ ⟨A2, cap2, rfl, hd2, hs2⟩
      (fun i h1 h2 w a b ha hb hw => ih ys[i] w a b (by have := CoSize_get h1; omega) ha hb hw) wx hx
    rw [eqAll_true] at HC
    have HC2 := fun o o' => Lib.hid (HC ((w.alloc o).alloc o') ((h0.alloc h0.size o).alloc (by simp; exact Nat.le_succ_of_le h0.size) o'))
    clear HC hs hs2 hd hd2 ih
    go_enter Try.func10, Try.ntmps10
    go_wp2_with (go_at_call 19; refine (HC2 _ _).out.mono ?_; rintro e w1 ⟨rfl, hb1⟩)
    go_ret
    exact ⟨rfl, Below.call2 hb1⟩
/-- a program's constructors and functions: how many arguments each has. -/
def PrV (w : World) (v : Value) (mk fn : List Int) : Prop := ∃ Ak nk ck Am cm Af cf, v = .agg #[.slice Ak nk ck, .slice Am mk.length cm, .slice Af fn.length cf] ∧
  (∀ j (h : j < mk.length), ∃ b o, Am = some ⟨b, o, none⟩ ∧ b < w.heap.size ∧ w.cell? ⟨b, o + j * 4 + 1, none⟩ = some (.int .i64 mk[j])) ∧
  (∀ j (h : j < fn.length), ∃ b o, Af = some ⟨b, o, none⟩ ∧ b < w.heap.size ∧ w.cell? ⟨b, o + j * 7 + 1, none⟩ = some (.int .i64 fn[j])) ∧ mk.length ≤ 4194304 ∧ fn.length ≤ 4194304
def partsB (mk fn : List Int) (k n : Int) (m : Nat) : Bool :=
  if k = 1 ∨ k = 5 then ((m : Int) == 0)
  else if k = 2 then (if 0 ≤ n ∧ n < mk.length then ((m : Int) == mk.getD n.toNat 0) else false)
  else if k = 3 then (if 0 ≤ n ∧ n < fn.length then ((m : Int) == fn.getD n.toNat 0) else false)
  else if k = 4 then (if 0 ≤ n ∧ n < fn.length then decide ((m : Int) < fn.getD n.toNat 0) else false)
  else if k = 8 then (if 1 ≤ n ∧ n ≤ 5 then ((m : Int) == 2) else false)
  else if k = 6 ∨ k = 7 ∨ k = 9 then ((m : Int) == 2)
  else if k = 10 then ((m : Int) == 1)
  else false
theorem within_yes {n m : Int} (h : 0 ≤ n ∧ n < m) (w : World) : Calls Try.prog 20 #[.int .i64 n, .int .i64 m] w fun e w' => e = .returned (.bool true) ∧ w = w' := by
  have := within_any n m w
  rwa [decide_eq_true h.1, decide_eq_true h.2] at this
theorem within_no {n m : Int} (h : ¬ (0 ≤ n ∧ n < m)) (w : World) : Calls Try.prog 20 #[.int .i64 n, .int .i64 m] w fun e w' => e = .returned (.bool false) ∧ w = w' := by
  have := within_any n m w
  have e : (decide (0 ≤ n) && decide (n < m)) = false := by
    by_cases h1 : 0 ≤ n
    · rw [decide_eq_false (fun h2 => h ⟨h1, h2⟩), Bool.and_false]
    · rw [decide_eq_false h1, Bool.false_and]
  rwa [e] at this
set_option maxRecDepth 100000 in
set_option maxHeartbeats 2000000 in
theorem parts_any (mk fn : List Int) (k n : Int) (A : Option Addr) (m cap : Nat) (hm : m ≤ 1048576) (w0 w : World) (pv : Value) (hp : PrV w0 pv mk fn) (h0 : Below w0.heap.size w0 w) :
    Calls Try.prog 15 #[pv, .agg #[.int .i64 k, .int .i64 n, .slice A m cap]] w fun e w' => e = .returned (.bool (partsB mk fn k n m)) ∧ Below w.heap.size w w' := by
  obtain ⟨Ak, nk, ck, Am, cm, Af, cf, rfl, hmk, hfn, hl1, hl2⟩ := hp
  have hal : ∀ o o', Below w.heap.size w ((w.alloc o).alloc o') := fun o o' => ((Below.refl _ _).alloc (Nat.le_refl _) _).alloc (by simp) _
  have hB := fun o o' => h0.trans ((hal o o').mono h0.size)
  by_cases e1 : k = 1
  · subst e1
    rw [show partsB mk fn 1 n m = ((m : Int) == 0) by simp [partsB]]
    clear hmk hfn
    go_enter Try.func15, Try.ntmps15
    go_wp2_with fail
    go_ret
    exact ⟨rfl, hal _ _⟩
  by_cases e5 : k = 5
  · subst e5
    rw [show partsB mk fn 5 n m = ((m : Int) == 0) by simp [partsB]]
    clear hmk hfn
    go_enter Try.func15, Try.ntmps15
    go_wp2_with fail
    go_ret
    exact ⟨rfl, hal _ _⟩
  by_cases e2 : k = 2
  · subst e2
    by_cases hr : 0 ≤ n ∧ n < mk.length
    · obtain ⟨j, rfl⟩ : ∃ j : Nat, n = j := ⟨n.toNat, by omega⟩
      have hj : j < mk.length := by omega
      have HW := fun z => Lib.hid (within_yes hr z)
      obtain ⟨b, o, rfl, hbl, hc⟩ := hmk j hj
      rw [show partsB mk fn 2 j m = ((m : Int) == mk[j]) by unfold partsB; rw [if_neg (by omega), if_pos rfl, if_pos hr]; simp [List.getD, List.getElem?_eq_getElem hj]]
      have hc2 := fun o o' => ((hB o o').cell (p := ⟨b, _, none⟩) hbl).trans hc
      clear hmk hfn hc
      generalize mk[j] = x at *
      go_enter Try.func15, Try.ntmps15
      go_wp2_with (go_at_call 20; refine (HW _).out.mono ?_; rintro e w1 ⟨rfl, rfl⟩)
      go_ret
      exact ⟨rfl, hal _ _⟩
    · have HW := fun z => Lib.hid (within_no hr z)
      rw [show partsB mk fn 2 n m = false by unfold partsB; rw [if_neg (by omega), if_pos rfl, if_neg hr]]
      clear hmk hfn hr
      go_enter Try.func15, Try.ntmps15
      go_wp2_with (go_at_call 20; refine (HW _).out.mono ?_; rintro e w1 ⟨rfl, rfl⟩)
      go_ret
      exact ⟨rfl, hal _ _⟩
  by_cases e3 : k = 3
  · subst e3
    by_cases hr : 0 ≤ n ∧ n < fn.length
    · obtain ⟨j, rfl⟩ : ∃ j : Nat, n = j := ⟨n.toNat, by omega⟩
      have hj : j < fn.length := by omega
      have HW := fun z => Lib.hid (within_yes hr z)
      obtain ⟨b, o, rfl, hbl, hc⟩ := hfn j hj
      rw [show partsB mk fn 3 j m = ((m : Int) == fn[j]) by unfold partsB; rw [if_neg (by omega), if_neg (by omega), if_pos rfl, if_pos hr]; simp [List.getD, List.getElem?_eq_getElem hj]]
      have hc2 := fun o o' => ((hB o o').cell (p := ⟨b, _, none⟩) hbl).trans hc
      clear hmk hfn hc
      generalize fn[j] = x at *
      go_enter Try.func15, Try.ntmps15
      go_wp2_with (go_at_call 20; refine (HW _).out.mono ?_; rintro e w1 ⟨rfl, rfl⟩)
      go_ret
      exact ⟨rfl, hal _ _⟩
    · have HW := fun z => Lib.hid (within_no hr z)
      rw [show partsB mk fn 3 n m = false by unfold partsB; rw [if_neg (by omega), if_neg (by omega), if_pos rfl, if_neg hr]]
      clear hmk hfn hr
      go_enter Try.func15, Try.ntmps15
      go_wp2_with (go_at_call 20; refine (HW _).out.mono ?_; rintro e w1 ⟨rfl, rfl⟩)
      go_ret
      exact ⟨rfl, hal _ _⟩
  by_cases e4 : k = 4
  · subst e4
    by_cases hr : 0 ≤ n ∧ n < fn.length
    · obtain ⟨j, rfl⟩ : ∃ j : Nat, n = j := ⟨n.toNat, by omega⟩
      have hj : j < fn.length := by omega
      have HW := fun z => Lib.hid (within_yes hr z)
      obtain ⟨b, o, rfl, hbl, hc⟩ := hfn j hj
      rw [show partsB mk fn 4 j m = decide ((m : Int) < fn[j]) by unfold partsB; rw [if_neg (by omega), if_neg (by omega), if_neg (by omega), if_pos rfl, if_pos hr]; simp [List.getD, List.getElem?_eq_getElem hj]]
      have hc2 := fun o o' => ((hB o o').cell (p := ⟨b, _, none⟩) hbl).trans hc
      clear hmk hfn hc
      generalize fn[j] = x at *
      go_enter Try.func15, Try.ntmps15
      go_wp2_with (go_at_call 20; refine (HW _).out.mono ?_; rintro e w1 ⟨rfl, rfl⟩)
      go_ret
      exact ⟨rfl, hal _ _⟩
    · have HW := fun z => Lib.hid (within_no hr z)
      rw [show partsB mk fn 4 n m = false by unfold partsB; rw [if_neg (by omega), if_neg (by omega), if_neg (by omega), if_pos rfl, if_neg hr]]
      clear hmk hfn hr
      go_enter Try.func15, Try.ntmps15
      go_wp2_with (go_at_call 20; refine (HW _).out.mono ?_; rintro e w1 ⟨rfl, rfl⟩)
      go_ret
      exact ⟨rfl, hal _ _⟩
  by_cases e8 : k = 8
  · subst e8
    have HW := fun z => Lib.hid (op_any n z)
    by_cases hr : 1 ≤ n ∧ n ≤ 5
    · rw [show partsB mk fn 8 n m = ((m : Int) == 2) by simp [partsB, hr]]
      obtain ⟨t1, t2⟩ := tl_ne (op_in hr.1 hr.2)
      generalize opOf n = p at *
      clear hmk hfn hr
      go_enter Try.func15, Try.ntmps15
      go_wp2_with (go_at_call 11; refine (HW _).out.mono ?_; rintro e w1 ⟨rfl, rfl⟩)
      go_ret
      exact ⟨rfl, hal _ _⟩
    · rw [show partsB mk fn 8 n m = false by unfold partsB; rw [if_neg (by omega), if_neg (by omega), if_neg (by omega), if_neg (by omega), if_pos rfl, if_neg hr]]
      rw [op_out (by omega)] at HW
      clear hmk hfn hr
      go_enter Try.func15, Try.ntmps15
      go_wp2_with (go_at_call 11; refine (HW _).out.mono ?_; rintro e w1 ⟨rfl, rfl⟩)
      go_ret
      exact ⟨rfl, hal _ _⟩
  by_cases e6 : k = 6
  · subst e6
    rw [show partsB mk fn 6 n m = ((m : Int) == 2) by simp [partsB]]
    clear hmk hfn
    go_enter Try.func15, Try.ntmps15
    go_wp2_with fail
    go_ret
    exact ⟨rfl, hal _ _⟩
  by_cases e7 : k = 7
  · subst e7
    rw [show partsB mk fn 7 n m = ((m : Int) == 2) by simp [partsB]]
    clear hmk hfn
    go_enter Try.func15, Try.ntmps15
    go_wp2_with fail
    go_ret
    exact ⟨rfl, hal _ _⟩
  by_cases e9 : k = 9
  · subst e9
    rw [show partsB mk fn 9 n m = ((m : Int) == 2) by simp [partsB]]
    clear hmk hfn
    go_enter Try.func15, Try.ntmps15
    go_wp2_with fail
    go_ret
    exact ⟨rfl, hal _ _⟩
  by_cases e10 : k = 10
  · subst e10
    rw [show partsB mk fn 10 n m = ((m : Int) == 1) by simp [partsB]]
    clear hmk hfn
    go_enter Try.func15, Try.ntmps15
    go_wp2_with fail
    go_ret
    exact ⟨rfl, hal _ _⟩
  rw [show partsB mk fn k n m = false by unfold partsB; rw [if_neg (by omega), if_neg e2, if_neg e3, if_neg e4, if_neg e8, if_neg (by omega), if_neg e10]]
  have f1 : (k == 1) = false := by simpa using e1
  have f2 : (k == 2) = false := by simpa using e2
  have f3 : (k == 3) = false := by simpa using e3
  have f4 : (k == 4) = false := by simpa using e4
  have f5 : (k == 5) = false := by simpa using e5
  have f6 : (k == 6) = false := by simpa using e6
  have f7 : (k == 7) = false := by simpa using e7
  have f8 : (k == 8) = false := by simpa using e8
  have f9 : (k == 9) = false := by simpa using e9
  have f10 : (k == 10) = false := by simpa using e10
  clear hmk hfn e1 e2 e3 e4 e5 e6 e7 e8 e9 e10
  go_enter Try.func15, Try.ntmps15
  go_wp2_with fail
  go_ret
  exact ⟨rfl, hal _ _⟩
end Go.Proofs.Ytkcgbakjpodmeaa.Co
