/- The walk of NodePuts. -/
import Derived.Test.YtccknhhjkkbadaaAwk
import Derived.Test.YtccknhhjkkbadaaOpenN
namespace Go.Proofs.Ytccknhhjkkbadaa.nodePuts
open Go.ChangeShapes Go.WideShapes Go.ChangeAt Go.RowKit Go.Proofs.Ytccknhhjkkbadaa.Lift Go.Proofs.Ytccknhhjkkbadaa.Arn Go.Proofs.Ytccknhhjkkbadaa.ArnN Go.Proofs.Ytccknhhjkkbadaa.Gr Go.Maps
set_option linter.unusedVariables false
set_option linter.unusedSimpArgs false
theorem box3 {V z : World} {b : Nat} {x : Nd} (h : V.heap[b]? = some (.cells #[.int .i64 x.k, .int .i64 x.n, .slice x.A x.len x.cap] 43)) (hz : Below V.heap.size V z) :
    z.cell? ⟨b, 0, none⟩ = some (.int .i64 x.k) ∧ z.cell? ⟨b, 1, none⟩ = some (.int .i64 x.n) ∧ z.cell? ⟨b, 2, none⟩ = some (.slice x.A x.len x.cap) := by
  have := (hz.block _ (Array.getElem?_eq_some_iff.1 h).1).trans h
  refine ⟨?_, ?_, ?_⟩ <;> simp [World.cell?, this]
theorem rows2 {w : World} {a b : Nd} {la lb : List Int} (h : w.heap.size ≤ w.heap.size) (ha : Args w a la) (hb : Args w b lb) :
    Lift.RowsIn (DdR (w.alloc (.cells #[.int .i64 0, .int .i64 0, .int .i64 a.k, .int .i64 a.n, .slice a.A a.len a.cap, .int .i64 0, .int .i64 0, .int .i64 b.k, .int .i64 b.n, .slice b.A b.len b.cap] 46)))
      (w.alloc (.cells #[.int .i64 0, .int .i64 0, .int .i64 a.k, .int .i64 a.n, .slice a.A a.len a.cap, .int .i64 0, .int .i64 0, .int .i64 b.k, .int .i64 b.n, .slice b.A b.len b.cap] 46)) 5 (some ⟨w.heap.size, 0, none⟩) [⟨0, 0, a, la⟩, ⟨0, 0, b, lb⟩] := by
  have hal := (Below.refl w.heap.size w).alloc (Nat.le_refl _) (.cells #[.int .i64 0, .int .i64 0, .int .i64 a.k, .int .i64 a.n, .slice a.A a.len a.cap, .int .i64 0, .int .i64 0, .int .i64 b.k, .int .i64 b.n, .slice b.A b.len b.cap] 46)
  have hn := heap_alloc_new w (.cells #[.int .i64 0, .int .i64 0, .int .i64 a.k, .int .i64 a.n, .slice a.A a.len a.cap, .int .i64 0, .int .i64 0, .int .i64 b.k, .int .i64 b.n, .slice b.A b.len b.cap] 46)
  have ha' := ha.below hal
  have hb' := hb.below hal
  generalize w.alloc _ = V at *
  have hlt := (Array.getElem?_eq_some_iff.1 hn).1
  intro i hi
  have : i = 0 ∨ i = 1 := by simp at hi; omega
  rcases this with rfl | rfl
  · refine ⟨_, _, _, rfl, hlt, ⟨rfl, (show (Lit.int .i64 0).wf = true by decide), ha'⟩, rfl, fun j u hu => ?_⟩
    have hj := (List.getElem?_eq_some_iff.1 hu).1
    simp only [List.length_cons, List.length_nil] at hj
    rcases (by omega : j = 0 ∨ j = 1 ∨ j = 2 ∨ j = 3 ∨ j = 4) with rfl | rfl | rfl | rfl | rfl <;> (simp at hu; subst hu; simp [World.cell?, hn])
  · refine ⟨_, _, _, rfl, hlt, ⟨rfl, (show (Lit.int .i64 0).wf = true by decide), hb'⟩, rfl, fun j u hu => ?_⟩
    have hj := (List.getElem?_eq_some_iff.1 hu).1
    simp only [List.length_cons, List.length_nil] at hj
    rcases (by omega : j = 0 ∨ j = 1 ∨ j = 2 ∨ j = 3 ∨ j = 4) with rfl | rfl | rfl | rfl | rfl <;> (simp at hu; subst hu; simp [World.cell?, hn])
/-- 'len(m)' behind a guard that is wanted. -/
theorem wpList_len_wanted {H : Type} {P : Program} {ops : Array Oper} {Q : Exit → Act → World → Prop} {o : Oper} {rest : List Oper} {a : Act} {w : World} (hw : Region.wanted o (yielded ops a.tmps) = true) (m : Operand) (t : TypeId) (hop : o.op = Op.call { callee := Callee.builtin Builtin.len, args := #[m], argTypes := #[t] })
    (k e : TypeId) (ht : P.underlying t = some (.map k e)) (R : Value → Option (DataW H × List MemPlace)) (b n : Nat) (D : DataW H) (hm : a.eval m = .map (some b)) (hown : w.ownsMap P k R b n D)
    (hK : wpList P ops Q rest (a.put o.dst (.int .i64 (Maps.size D))) w) :
    wpList P ops Q (o :: rest) a w := by
  refine wpList_step fun K' hK' => ?_
  rw [if_pos hw]
  unfold Oper.wp
  simp [execOp, hop, resolve, invoke, builtin, hm, hown.len ht o.type, Result.andThen]
  exact hK' _ _ hK
theorem len_eq {w : World} {F : Nat → Prop} {gg g : Nat} {xs : List Nd} {us : List Bool} {low most : Nat} (h : Gr w F gg g xs us low most) : xs.length = us.length := by
  obtain ⟨_, ⟨_, _, _, _, hh⟩, _⟩ := h
  exact hh.2.2.2.2.1
theorem getX_put {xs : List Nd} {us : List Bool} (h : xs.length = us.length) (x : Nd) : getX (setX xs us x) (setU us) (firstF us) = x := by
  have hle := firstF_le us
  unfold getX
  rw [hasB_setU, if_pos rfl, if_pos rfl, Int.toNat_natCast]
  unfold setX
  by_cases hf : firstF us < us.length
  · rw [if_pos hf]
    simp [List.getD, List.getElem?_set, h, hf]
  · rw [if_neg hf]
    have : firstF us = xs.length := by omega
    rw [this]
    simp [List.getD]
theorem getX_set {xs : List Nd} {us : List Bool} {i : Nat} (hi : i < xs.length) (hb : hasB us i = true) (x : Nd) : getX (xs.set i x) us i = x := by
  unfold getX
  rw [hb, if_pos rfl, Int.toNat_natCast]
  simp [List.getD, List.getElem?_set, hi]
theorem firstF_lt {xs : List Nd} {us : List Bool} (h : xs.length = us.length) (x : Nd) : firstF us < (setX xs us x).length := by
  have hle := firstF_le us
  unfold setX
  by_cases hf : firstF us < us.length
  · rw [if_pos hf, List.length_set]; omega
  · rw [if_neg hf, List.length_append, List.length_singleton]; omega
theorem firstF_back (us : List Bool) : firstF ((setU us).set (firstF us) false) = firstF us := by
  have hle := firstF_le us
  unfold setU
  by_cases hf : firstF us < us.length
  · rw [if_pos hf]
    refine firstF_eq (by simp; omega) (fun j hj hlt => ?_) (fun hk => by simp)
    simp only [List.length_set] at hj
    rw [List.getElem_set, if_neg (by omega), List.getElem_set, if_neg (by omega)]
    exact firstF_before hj hlt
  · rw [if_neg hf]
    have he : firstF us = us.length := by omega
    refine firstF_eq (by simp; omega) (fun j hj hlt => ?_) (fun hk => by simp)
    have hj2 : j < us.length := by omega
    rw [List.getElem_set, if_neg (by omega), List.getElem_append_left hj2]
    exact firstF_before hj2 (by omega)
/-- between two calls: the arena's blocks are new, the map is as it was. -/
structure St (V z : World) (F : Nat → Prop) (m k : Nat) (us : List Bool) : Prop where
  hF : ∀ b, F b → V.heap.size ≤ b
  hb : Below V.heap.size V z
  hs : V.heap.size ≤ z.heap.size
  hm : ¬ F m
  mp : Mp z m k us
theorem St.turn {V z z' : World} {F F' : Nat → Prop} {m k : Nat} {us : List Bool} (h : St V z F m k us) (hg : Grows F F' z z') (ht : Turn F z z') : St V z' F' m k us :=
  have h3 := put_old h.hF h.hb h.hs hg ht
  ⟨h3.1, h3.2.1, h3.2.2, fun e => (hg m e).elim h.hm (fun e => by have := h.mp.lt; omega), h.mp.keep (ht.block m h.mp.lt h.hm)⟩
theorem St.below {V z z' : World} {F : Nat → Prop} {m k : Nat} {us : List Bool} (h : St V z F m k us) (hb : Below z.heap.size z z') : St V z' F m k us := h.turn (Grows.refl _ _ _) (Turn.of_below hb)
set_option maxRecDepth 100000 in
set_option maxHeartbeats 4000000 in
theorem walk (W : World) (n : Int) (A : Option Addr) (cap : Nat) (ds : List Dd) (x y : Nd) (lx ly : List Int) (hR : Lift.RowsIn (DdR W) W 5 A ds) (hm : ds.length ≤ 1048576) (hx : Args W x lx) (hy : Args W y ly) :
    Calls Try.prog 5 #[.int .i64 n, .slice A ds.length cap, enc x, enc y] W fun e w' => e = .returned (.bool true) ∧ Below W.heap.size W w' := by
  obtain ⟨V, hV⟩ : ∃ V, V = ((W.alloc (.cells #[.int .i64 x.k, .int .i64 x.n, .slice x.A x.len x.cap] 43)).alloc (.cells #[.int .i64 y.k, .int .i64 y.n, .slice y.A y.len y.cap] 43)) := ⟨_, rfl⟩
  have hWV : Below W.heap.size W V := by rw [hV]; exact ((Below.refl _ _).alloc (Nat.le_refl _) _).alloc (by simp) _
  have bx : V.heap[W.heap.size]? = some (.cells #[.int .i64 x.k, .int .i64 x.n, .slice x.A x.len x.cap] 43) := by
    rw [hV, Below.heap_alloc _ _ _ (by simp)]
    exact heap_alloc_new W _
  have bY : V.heap[W.heap.size + 1]? = some (.cells #[.int .i64 y.k, .int .i64 y.n, .slice y.A y.len y.cap] 43) := by
    rw [hV]
    have := heap_alloc_new (W.alloc (.cells #[.int .i64 x.k, .int .i64 x.n, .slice x.A x.len x.cap] 43)) (.cells #[.int .i64 y.k, .int .i64 y.n, .slice y.A y.len y.cap] 43)
    rwa [World.size_alloc] at this
  have hxV := hx.below hWV
  have hyV := hy.below hWV
  have CX : Hid (∀ z, Below V.heap.size V z → z.cell? ⟨W.heap.size, 0, none⟩ = some (.int .i64 x.k) ∧ z.cell? ⟨W.heap.size, 1, none⟩ = some (.int .i64 x.n) ∧ z.cell? ⟨W.heap.size, 2, none⟩ = some (.slice x.A x.len x.cap)) := Lib.hid (fun z hz => box3 bx hz)
  have CY : Hid (∀ z, Below V.heap.size V z → z.cell? ⟨W.heap.size + 1, 0, none⟩ = some (.int .i64 y.k) ∧ z.cell? ⟨W.heap.size + 1, 1, none⟩ = some (.int .i64 y.n) ∧ z.cell? ⟨W.heap.size + 1, 2, none⟩ = some (.slice y.A y.len y.cap)) := Lib.hid (fun z hz => box3 bY hz)
  have AX : Hid (∀ z, Below V.heap.size V z → Args z x lx) := Lib.hid (fun z hz => hxV.below hz)
  have AY : Hid (∀ z, Below V.heap.size V z → Args z y ly) := Lib.hid (fun z hz => hyV.below hz)
  have HR := Lib.hid hR
  have HV := Lib.hid hV
  clear hV bx bY hxV hyV hx hy hR
  obtain ⟨xk, xn, xA, xl, xc⟩ := x
  obtain ⟨yk, yn, yA, yl, yc⟩ := y
  unfold enc
  dsimp only at *
  go_enter Try.func5, Try.ntmps5
  go_wp2_with fail
  rw [← HV.out]
  refine (awake24_any V).mono ?_
  rintro _ w2 ⟨rfl, hb2⟩
  go_wp2_with fail
  refine (few_any W A cap ds HR.out hm w2 (hWV.thenCall hWV.size hb2)).mono ?_
  rintro _ w3 ⟨rfl, q3⟩
  have hb3 := hb2.thenCall hb2.size q3
  cases hf1 : fewD ds with
  | false =>
    go_wp2_with fail
    go_ret
    exact ⟨rfl, hWV.thenCall hWV.size hb3⟩
  | true =>
    obtain ⟨k0, k1, k2⟩ := CX.out _ hb3
    obtain ⟨k3, k4, k5⟩ := CY.out _ hb3
    go_wp2_with fail
    have hal := (Below.refl w3.heap.size w3).alloc (Nat.le_refl _) (.cells #[.int .i64 0, .int .i64 0, .int .i64 xk, .int .i64 xn, .slice xA xl xc, .int .i64 0, .int .i64 0, .int .i64 yk, .int .i64 yn, .slice yA yl yc] 46)
    have hr2 := rows2 (Nat.le_refl _) (AX.out _ hb3) (AY.out _ hb3)
    have CF := few_any _ (some ⟨w3.heap.size, 0, none⟩) 2 _ hr2 (by simp) _ (Below.refl _ _)
    refine CF.mono ?_
    rintro _ w4 ⟨rfl, q4⟩
    have hb4 := hb3.thenCall hb3.size (hal.thenCall hal.size q4)
    clear CF hr2 q4 hal k0 k1 k2 k3 k4 k5 hb3 q3 hb2
    cases hf2 : fewD [⟨0, 0, ⟨xk, xn, xA, xl, xc⟩, lx⟩, ⟨0, 0, ⟨yk, yn, yA, yl, yc⟩, ly⟩] with
    | false =>
      go_wp2_with fail
      go_ret
      exact ⟨rfl, hWV.thenCall hWV.size hb4⟩
    | true =>
      by_cases hn : (200 : Int) < n
      · go_wp2_with fail
        go_ret
        exact ⟨rfl, hWV.thenCall hWV.size hb4⟩
      · have hd60 : ds.length ≤ 1000 := by
          unfold fewD at hf1
          rw [Bool.and_eq_true] at hf1
          have := of_decide_eq_true hf1.2
          omega
        have hl20 : lx.length ≤ 1000000 ∧ ly.length ≤ 1000000 := by
          unfold fewD at hf2
          rw [Bool.and_eq_true, List.all_eq_true] at hf2
          have e1 := of_decide_eq_true (hf2.1 _ (List.mem_cons_self))
          have e2 := of_decide_eq_true (hf2.1 _ (List.mem_cons_of_mem _ List.mem_cons_self))
          dsimp only at e1 e2
          omega
        clear hf1 hf2
        go_wp2_with fail
        refine (made_any W n A cap ds HR.out hd60 w4 (hWV.thenCall hWV.size hb4)).mono ?_
        rintro _ w5 ⟨gg, g, m, rfl, ⟨F, xs, us, low, hG, hM, hFm, hBF, hb5⟩, hgg5, hm5⟩
        have hS : St V w5 F m ds.length us := ⟨fun b hb => Nat.le_trans hb4.size (hBF b hb), hb4.thenCall hb4.size hb5, Nat.le_trans hb4.size hb5.size, hFm, hM⟩
        clear hBF hb5 hgg5 hm5 hM hFm hb4
        obtain ⟨k0, k1, k2⟩ := CX.out _ hS.hb
        have hle : us.count true ≤ mostN n := by
          obtain ⟨_, ⟨_, _, _, _, hh⟩, _⟩ := hG
          exact Nat.le_trans List.count_le_length hh.2.2.2.2.2.2.2.1
        rcases Nat.lt_or_eq_of_le hle with hc | hc
        · have hlen := len_eq hG
          have hP := Lib.hid (gput_room _ lx hG hc (AX.out _ hS.hb))
          have hbk := firstF_back us
          have hcu := count_setU us
          have hno := hasB_first ((setU us).set (firstF us) false)
          rw [hbk] at hno
          have hmo : mostN n ≤ 65536 := by unfold mostN; omega
          have hus1 : hasB (setU us) (firstF us) = true := by rw [hasB_setU, if_pos rfl]
          have hus0 := hasB_first us
          have hgp := fun x => getX_put hlen x
          have hflt := fun x => firstF_lt hlen x
          have hcf := count_free (setU us) (firstF us) hus1
          rw [Int.toNat_natCast] at hcf
          have hifw : (Lit.int .i64 (firstF us)).wf = true := by
            have h6 := firstF_le us
            obtain ⟨_, ⟨_, _, _, _, hh⟩, _⟩ := hG
            exact WalkArith.wf_i64 (by omega)
          clear hG
          go_wp2_with fail
          refine hP.out.mono ?_
          rintro _ w6 ⟨rfl, F1, x1, hG1, e1, e2, a1, o1, gr1, t1⟩
          have hS1 := hS.turn gr1 t1
          clear hP hS gr1 t1 k0 k1 k2
          dsimp only at e1 e2
          have hgx := hgp x1
          have hil := hflt x1
          clear hgp hflt
          generalize firstF us = i0 at *
          generalize hX1 : setX xs us x1 = X1 at *
          generalize hU1 : setU us = U1 at *
          obtain ⟨D, hown, hhas, hsz⟩ := hS1.mp
          have hPG := gget_any (i0 : Int) lx hG1 (by rw [hgx]; exact a1)
          rw [hgx, hus1] at hPG
          have HPG := Lib.hid hPG
          have hM := Lib.hid (gmost_any hG1)
          have hcc : ((us.count true : Nat) : Int) < ((mostN n : Nat) : Int) := by omega
          have HH := Lib.hid (hhas i0 hifw)
          clear hhas hPG hX1 hU1
          go_wp2_with (at_len; refine wpList_len_own _ rfl _ 48 rfl 3 43 Try.underlying48 rN m _ D rfl hown ?_; rw [hsz])
          refine hM.out.mono ?_
          rintro _ w7 ⟨rfl, rfl⟩
          go_wp2_with fail
          refine HPG.out.mono ?_
          rintro _ w7 ⟨A2, cap2, rfl, a2, bl2, q7⟩
          have hS2 := hS1.below q7
          have hG2 := hG1.below q7
          clear HPG hM hown HH hsz
          rw [e1, e2] at a2 ⊢
          have hal := (Below.refl w7.heap.size w7).alloc (Nat.le_refl _) (.cells #[.int .i64 xk, .int .i64 xn, .slice A2 lx.length cap2] 43)
          have hS3 := hS2.below hal
          have hG3 := hG2.below hal
          have CS := Lib.hid (same_yes ⟨xk, xn, A2, lx.length, cap2⟩ ⟨xk, xn, xA, xl, xc⟩ lx _ (a2.below hal) (AX.out _ hS3.hb) rfl rfl hl20.1)
          obtain ⟨k0, k1, k2⟩ := CX.out _ hS3.hb
          clear a2 hal hS2 hG2 hG1 hS1 q7
          go_wp2_with fail
          refine CS.out.mono ?_
          rintro _ w8 ⟨rfl, q8⟩
          have hS4 := hS3.below q8
          have hG4 := hG3.below q8
          clear CS hS3 hG3 k0 k1 k2 q8
          have hPS := gset_any (i0 : Int) ⟨yk, yn, yA, yl, yc⟩ ly hG4 (AY.out _ hS4.hb)
          obtain ⟨k0, k1, k2⟩ := CY.out _ hS4.hb
          have hPS := Lib.hid hPS
          clear hG4
          go_wp2_with fail
          refine hPS.out.mono ?_
          rintro _ w9 ⟨rfl, x2, hG5, e3, e4, a3, o3, t3⟩
          have hS5 := hS4.turn (Grows.refl _ _ _) t3
          rw [hus1] at hG5 ⊢
          rw [if_pos rfl, Int.toNat_natCast] at hG5
          dsimp only at e3 e4
          clear hPS hS4 k0 k1 k2 t3
          have hgx2 : getX (X1.set i0 x2) U1 i0 = x2 := getX_set hil hus1 x2
          have hPG := gget_any (i0 : Int) ly hG5 (by rw [hgx2]; exact a3)
          rw [hgx2, hus1] at hPG
          have HPG := Lib.hid hPG
          clear hPG
          go_wp2_with fail
          refine HPG.out.mono ?_
          rintro _ w10 ⟨A3, cap3, rfl, a4, bl4, q10⟩
          have hS6 := hS5.below q10
          have hG6 := hG5.below q10
          clear HPG hS5 hG5
          rw [e3, e4] at a4 ⊢
          have hal := (Below.refl w10.heap.size w10).alloc (Nat.le_refl _) (.cells #[.int .i64 yk, .int .i64 yn, .slice A3 ly.length cap3] 43)
          have hS7 := hS6.below hal
          have hG7 := hG6.below hal
          have CS := Lib.hid (same_yes ⟨yk, yn, A3, ly.length, cap3⟩ ⟨yk, yn, yA, yl, yc⟩ ly _ (a4.below hal) (AY.out _ hS7.hb) rfl rfl hl20.2)
          obtain ⟨k0, k1, k2⟩ := CY.out _ hS7.hb
          clear a4 hal hS6 hG6 q10
          go_wp2_with fail
          refine CS.out.mono ?_
          rintro _ w11 ⟨rfl, q11⟩
          have hS8 := hS7.below q11
          have hG8 := hG7.below q11
          clear CS hS7 hG7 k0 k1 k2 q11
          have hPF := gfree_any (i0 : Int) hG8
          rw [hus1, if_pos rfl, if_pos rfl, if_pos rfl, Int.toNat_natCast] at hPF
          have hPF := Lib.hid hPF
          clear hG8
          go_wp2_with fail
          refine hPF.out.mono ?_
          rintro _ w12 ⟨rfl, hG9, t9⟩
          have hS9 := hS8.turn (Grows.refl _ _ _) t9
          clear hPF hS8 t9
          have hPF := gfree_any (i0 : Int) hG9
          rw [hno, if_neg (by decide), if_neg (by decide), if_neg (by decide)] at hPF
          have hPF := Lib.hid hPF
          clear hG9
          go_wp2_with fail
          refine hPF.out.mono ?_
          rintro _ w13 ⟨rfl, hG10, t10⟩
          have hS10 := hS9.turn (Grows.refl _ _ _) t10
          clear hPF hS9 t10
          have hPS := gset_any (i0 : Int) ⟨xk, xn, xA, xl, xc⟩ lx hG10 (AX.out _ hS10.hb)
          obtain ⟨k0, k1, k2⟩ := CX.out _ hS10.hb
          have hPS := Lib.hid hPS
          clear hG10
          go_wp2_with fail
          refine hPS.out.mono ?_
          rintro _ w14 ⟨rfl, x3, hG11, -, -, -, -, t11⟩
          have hS11 := hS10.turn (Grows.refl _ _ _) t11
          rw [hno] at hG11 ⊢
          rw [if_neg (by decide)] at hG11
          clear hPS hS10 t11 k0 k1 k2
          have hPP := gput_room ⟨yk, yn, yA, yl, yc⟩ ly hG11 (by omega) (AY.out _ hS11.hb)
          obtain ⟨k0, k1, k2⟩ := CY.out _ hS11.hb
          have hPP := Lib.hid hPP
          clear hG11
          go_wp2_with fail
          refine hPP.out.mono ?_
          rintro _ w15 ⟨rfl, F3, x4, hG12, -, -, -, -, gr12, t12⟩
          have hS12 := hS11.turn gr12 t12
          clear hPP hS11 gr12 t12 k0 k1 k2
          rw [hbk] at hG12 ⊢
          obtain ⟨D, hown, hhas, hsz⟩ := hS12.mp
          have hL := fun z (hz : Below w15.heap.size w15 z) => glen_any (hG12.below hz)
          have hcnt : (((setU (U1.set i0 false)).count true : Nat) : Int) = (us.count true : Nat) + 1 := by
            rw [count_setU]; omega
          rw [hcnt] at hL
          have hL := Lib.hid hL
          have HH := Lib.hid ((hhas i0 hifw).trans hus0)
          have hkey := keyOf_int_mk Try.underlying3 hifw
          clear hG12 hhas hcnt hcf hcu hbk hno hgx hgx2 hus1 hus0 hil
          go_wp2_with (at_lookup; refine wpList_lookup_own_ok _ rfl _ _ 48 rfl 3 43 law3 Try.underlying48 rN (Try.zeroValue43 _) (.lit (.int .i64 0)) [] rfl m _ D rfl hown _ _ rfl hkey ?_; intro v ps hv; obtain ⟨⟨zk, zn, zA, zl, zc⟩, rfl⟩ := rN_inv hv; rw [HH.out]; clear hv)
          have hal := (Below.refl w15.heap.size w15).alloc (Nat.le_refl _) (.cells #[.int .i64 zk, .int .i64 zn, .slice zA zl zc] 43)
          refine (hL.out _ hal).mono ?_
          rintro _ w16 ⟨rfl, rfl⟩
          have hS13 := hS12.below hal
          have hown1 := hown.alloc (.cells #[.int .i64 zk, .int .i64 zn, .slice zA zl zc] 43)
          go_wp2_with (at_len; go_loud (refine wpList_len_wanted rfl _ 48 rfl 3 43 Try.underlying48 rN m _ D rfl hown1 ?_; rw [hsz]))
          go_ret
          exact ⟨rfl, hWV.thenCall hWV.size hS13.hb⟩
        · have hP := Lib.hid (gput_full _ lx hG hc (AX.out _ hS.hb))
          have hM := Lib.hid (fun z hz => gmost_any (hG.below (w' := z) hz))
          have hRm := Lib.hid (fun z hz => groom_full (hG.below (w' := z) hz) hc)
          clear hG
          go_wp2_with fail
          refine hP.out.mono ?_
          rintro _ w6 ⟨rfl, q6⟩
          have hS6 := hS.below q6
          obtain ⟨D, hown, hhas, hsz⟩ := hS6.mp
          rw [hc] at hsz
          clear hhas hP
          go_wp2_with (at_len; refine wpList_len_own _ rfl _ 48 rfl 3 43 Try.underlying48 rN m _ D rfl hown ?_; rw [hsz])
          refine (hM.out _ q6).mono ?_
          rintro _ w7 ⟨rfl, rfl⟩
          go_wp2_with fail
          refine (hRm.out _ q6).mono ?_
          rintro _ w7 ⟨rfl, rfl⟩
          go_wp2_with fail
          go_ret
          exact ⟨rfl, hWV.thenCall hWV.size hS6.hb⟩
end Go.Proofs.Ytccknhhjkkbadaa.nodePuts
