/- Contract: the law's fits. -/
import Derived.Test.YtkcgbakjpodmeaaCrF
import Derived.Deep.RegionLawGrows
import Derived.Deep.QuietTactic
import Derived.BigQuiet
namespace Go.Proofs.Ytkcgbakjpodmeaa.Co
open Go.ChangeShapes Go.WideShapes Go.ChangeAt Go.RowKit Go.Proofs.Ytkcgbakjpodmeaa.Lift Go.Proofs.Ytkcgbakjpodmeaa.Data
set_option linter.unusedVariables false
set_option linter.unusedSimpArgs false
theorem holdsG {w : World} {A : Option Addr} {l : List Int} (h : IntsAt w A l) : ∀ b, A = some b → ∀ j u, (l.map (Value.int .i64))[j]? = some u → w.cell? (b.add j) = some u := by
  intro b hb j u hu
  have hs := ints_src h
  have hj := (List.getElem?_eq_some_iff.1 hu).1
  rw [List.length_map] at hj
  obtain ⟨b', o', e, _, hc⟩ := h j hj
  rw [hb] at e
  injection e with e
  subst e
  rw [hb] at hs
  exact hs.cells j u hu
theorem step_append_growsW {P : Program} {ops : Array Oper} {o : Oper} {a : Act} {w : World} {K : Act → World → Prop} {Q : Exit → Act → World → Prop} {E : Prop}
    (hw : Region.wanted o (yielded ops a.tmps) = true) (s x : Operand) (t : TypeId) (hop : o.op = Op.call { callee := Callee.builtin Builtin.append, args := #[s, x], argTypes := #[t, t] })
    (e : TypeId) (i : TypeInfo) (z : Value) (size bytes : Nat) (h1 : P.underlying t = some (.slice e)) (h2 : P.info? e = some i) (h3 : i.zero = some z) (h4 : i.size = size) (h5 : i.bytes = bytes) (h6 : z.cells.size = size) (h7 : 0 < size)
    (ao : Option Addr) (n cap : Nat) (olds : List Value) (hs : a.eval s = .slice ao n cap) (hnone : ao = none → n = 0 ∧ cap = 0) (hlo : olds.length = n * size) (holds : ∀ b, ao = some b → ∀ j u, olds[j]? = some u → w.cell? (b.add j) = some u)
    (ad : Addr) (m c : Nat) (news : List Value) (hx : a.eval x = .slice (some ad) m c) (hn : news.length = m * size) (hc : ∀ j u, news[j]? = some u → w.cell? (ad.add j) = some u) (h1c : ∀ u ∈ news, u.oneCell' = true)
    (hfull : cap < n + m) (b1 : n + m ≤ maxLen) (b2 : (n + m) * bytes ≤ 140737488355328)
    (hK : ∀ v' w', w'.ownsRow w.heap.size e size v' (n + m) (olds ++ news) → w.grownBy w' none → K (a.put o.dst v') w') :
    if Region.wanted o (yielded ops a.tmps) = true then Oper.wp P o a w K Q else E := by
  rw [if_pos hw]
  have h := step_append_grows (P := P) (ops := ops) (o := { o with guard := none }) (a := a) (w := w) (K := K) (Q := Q) (E := E) rfl s x t hop e i z size bytes h1 h2 h3 h4 h5 h6 h7 ao n cap olds hs hnone hlo holds ad m c news hx hn hc h1c hfull b1 b2 hK
  rw [if_pos (by simp [Region.wanted])] at h
  exact h
theorem fits_free {mk fn : List Int} {n : Int} {ys : List Co} {bd : List Int} (h : ys.length = 1) : fitsB mk fn (.mk 10 n ys) bd = fitsB mk fn (ys[0]'(by omega)) (bd ++ [n]) := by
  match ys, h with
  | [y], _ => simp [fitsB, fitsBs, partsB, around]
theorem fits_let {mk fn : List Int} {n : Int} {ys : List Co} {bd : List Int} (h : ys.length = 2) : fitsB mk fn (.mk 9 n ys) bd = (fitsB mk fn (ys[0]'(by omega)) bd && fitsB mk fn (ys[1]'(by omega)) (bd ++ [n])) := by
  match ys, h with
  | [x, y], _ => simp [fitsB, fitsBs, partsB, around]
theorem fits_few {mk fn : List Int} {k n : Int} {ys : List Co} {bd : List Int} (h : partsB mk fn k n ys.length = false) : fitsB mk fn (.mk k n ys) bd = false := by rw [fitsB, h]; rfl
set_option maxRecDepth 100000 in
set_option maxHeartbeats 8000000 in
theorem law26_10 (N : Nat) (w0 : World) (mk fn : List Int) (Ak Am Af : Option Addr) (nk ck cm cf : Nat) (hmk : NumAt w0 4 Am mk) (hfn : NumAt w0 7 Af fn) (hl1 : mk.length ≤ 4194304) (hl2 : fn.length ≤ 4194304)
    (ih : Law26 N w0 mk fn (.agg #[.slice Ak nk ck, .slice Am mk.length cm, .slice Af fn.length cf])) (n : Int) (ys : List Co) (bd : List Int) (w : World) (A' A : Option Addr) (cap' cap : Nat) (hN : CoSize ys ≤ N) (hsz : bd.length + (CoSize ys + 1) ≤ 4194304) (hd : CoHd A' ys.length cap') (hs : Cos w0 A' ys) (hbd : InSl w A cap bd) (h0 : Below w0.heap.size w0 w) :
    Calls Try.prog 26 #[.agg #[.slice Ak nk ck, .slice Am mk.length cm, .slice Af fn.length cf], .agg #[.int .i64 10, .int .i64 n, .slice A' ys.length cap'], .slice A bd.length cap] w fun r w' => r = .returned (.bool (fitsB mk fn (.mk 10 n ys) bd)) ∧ Below w.heap.size w w' := by
  have HIH := Lib.hid ih
  have HSs := Lib.hid hs
  have HMk := Lib.hid hmk
  have HFn := Lib.hid hfn
  have HBd := Lib.hid hbd
  have hd1 := hd.1
  have hd2 := hd.2.1
  have hd3 := hd.2.2.1
  have hb1 := hbd.2.1
  have hb2 := hbd.2.2.1
  clear ih hs hmk hfn hbd hd
  go_enter Try.func26, Try.ntmps26
  go_upto_region 1 with fail
  have bp0 := heap_alloc_new w (.cells #[.slice Ak nk ck, .slice Am mk.length cm, .slice Af fn.length cf] 26)
  have be := heap_alloc_new (w.alloc (.cells #[.slice Ak nk ck, .slice Am mk.length cm, .slice Af fn.length cf] 26)) (.cells #[.int .i64 10, .int .i64 n, .slice A' ys.length cap'] 29)
  have bp := (Below.heap_alloc _ (.cells #[.int .i64 10, .int .i64 n, .slice A' ys.length cap'] 29) w.heap.size (by simp)).trans bp0
  rw [World.size_alloc] at be
  have hWV : Below w.heap.size w ((w.alloc (.cells #[.slice Ak nk ck, .slice Am mk.length cm, .slice Af fn.length cf] 26)).alloc (.cells #[.int .i64 10, .int .i64 n, .slice A' ys.length cap'] 29)) := (below1N w _).alloc (by simp) _
  generalize (w.alloc (.cells #[.slice Ak nk ck, .slice Am mk.length cm, .slice Af fn.length cf] 26)).alloc (.cells #[.int .i64 10, .int .i64 n, .slice A' ys.length cap'] 29) = V at *
  have hpl := (Array.getElem?_eq_some_iff.1 bp).1
  have hel := (Array.getElem?_eq_some_iff.1 be).1
  have HP := fun (y : World) (hy : Below V.heap.size V y) => Lib.hid (two_cells bp hy)
  have HE := fun (y : World) (hy : Below V.heap.size V y) => Lib.hid (two_cells be hy)
  have h0V := h0.trans (hWV.mono h0.size)
  obtain ⟨p0, p1, p2⟩ := (HP V (Below.refl _ _)).out
  obtain ⟨e0, e1, e2⟩ := (HE V (Below.refl _ _)).out
  have HWV := Lib.hid hWV
  have HH0 := Lib.hid h0V
  clear bp0 bp be hWV
  by_cases hm : ys.length = 1
  · have h0y : 0 < ys.length := by omega
    have hFI := fits_free (mk := mk) (fn := fn) (n := n) (bd := bd) hm
    obtain ⟨b, o, rfl, hat⟩ := HSs.out.get 0 h0y
    have hszj := CoSize_get h0y
    have HIx := fun (y : World) (v : Value) (A2 : Option Addr) (cap2 : Nat) (hv : (ys[0]).Val w0 v) (hin : InSl y A2 cap2 (bd ++ [n])) (hy : Below V.heap.size V y) => HIH.out ys[0] (bd ++ [n]) y v A2 cap2 (by omega) (by simp only [List.length_append, List.length_cons, List.length_nil]; omega) hv hin (HH0.out.trans (hy.mono HH0.out.size))
    rw [Nat.zero_mul, Nat.add_zero] at hat
    generalize ys[0] = y at *
    cases y with
    | mk k2 n2 ys2 =>
    obtain ⟨A2, cap2, d0, d1, d2, hv2⟩ := Co.At.open_ hat
    have HIx := fun y B2 c2 hin hy => HIx y _ B2 c2 hv2 hin hy
    rw [show (bd ++ [n]).length = bd.length + 1 by simp] at HIx
    have MS : Hid (∀ y, Below V.heap.size V y → (fun w' => Below V.heap.size V w' ∧ (w'.cell? ⟨w.heap.size, 0, none⟩ = some (.slice Ak nk ck) ∧ w'.cell? ⟨w.heap.size, 1, none⟩ = some (.slice Am mk.length cm) ∧ w'.cell? ⟨w.heap.size, 2, none⟩ = some (.slice Af fn.length cf)) ∧ (w'.cell? ⟨w.heap.size + 1, 1, none⟩ = some (.int .i64 n) ∧ w'.cell? ⟨w.heap.size + 1, 2, none⟩ = some (.slice (some ⟨b, o, none⟩) ys.length cap')) ∧ (w'.cell? ⟨b, o, none⟩ = some (.int .i64 k2) ∧ w'.cell? ⟨b, o + 1, none⟩ = some (.int .i64 n2) ∧ w'.cell? ⟨b, o + 2, none⟩ = some (.slice A2 ys2.length cap2))) y) := Lib.hid (fun y hy => ⟨hy, (HP y hy).out, (HE y hy).out.2, cellB (HH0.out.trans (hy.mono HH0.out.size)) (Nat.le_refl _) d0, cellB (HH0.out.trans (hy.mono HH0.out.size)) (Nat.le_refl _) d1, cellB (HH0.out.trans (hy.mono HH0.out.size)) (Nat.le_refl _) d2⟩)
    generalize fitsB mk fn (.mk k2 n2 ys2) (bd ++ [n]) = f2 at *
    have HFI := Lib.hid hFI
    have HF26 := Lib.hid HIx
    have hm3 : ((ys.length : Int) == 1) = true := by rw [hm]; rfl
    have HNo : Hid (A = none → bd.length = 0 ∧ bd.length = 0) := Lib.hid (fun h => by have := HBd.out.2.1; have := HBd.out.2.2.2.2 h; omega)
    obtain ⟨i0, hi0, hz0, hz1, hz2⟩ := info_parts info3'
    have hcp2 : (bd.length : Int) ≤ (cap : Int) := by omega
    have hcp3 : (0 : Int) ≤ (bd.length : Int) := by omega
    have hg1 : bd.length + 1 ≤ maxLen := by unfold maxLen; omega
    have hg2' : (bd.length + 1) * 8 ≤ 140737488355328 := by omega
    have hone : ∀ u ∈ [Value.int .i64 n], u.oneCell' = true := by simp [Value.oneCell']
    have HOL := fun y (hy : Below V.heap.size V y) => Lib.hid (holdsG (HBd.out.1.below (HWV.out.thenCall HWV.out.size hy) (Nat.le_refl _)))
    have HFA := fun (y : World) (x : World) (v : Value) (hx : Below V.heap.size V x) (ho : x.ownsRow y.heap.size 3 1 v (bd.length + 1) (bd.map (Value.int .i64) ++ [.int .i64 n])) => inner_fin (W := V) (x := x) (bd := bd) (n := n) (y := x) (B := y.heap.size) (v := v) hx ho (by omega)
    have hB0 : Below V.heap.size V V.drew := (Below.refl _ _).drew
    have hBA : ∀ o, Below V.heap.size V (V.alloc o).drew := fun o => ((Below.refl _ _).alloc (Nat.le_refl _) o).drew
    have h0y' : (0 : Int) < (ys.length : Int) := by omega
    clear hFI HIx hm hat d0 d1 d2 hv2
    go_upto_region 23 with fail
    clear p0 p1 p2 e0 e1 e2
    go_region_held3 (fun w' => Below V.heap.size V w' ∧ (w'.cell? ⟨w.heap.size, 0, none⟩ = some (.slice Ak nk ck) ∧ w'.cell? ⟨w.heap.size, 1, none⟩ = some (.slice Am mk.length cm) ∧ w'.cell? ⟨w.heap.size, 2, none⟩ = some (.slice Af fn.length cf)) ∧ (w'.cell? ⟨w.heap.size + 1, 1, none⟩ = some (.int .i64 n) ∧ w'.cell? ⟨w.heap.size + 1, 2, none⟩ = some (.slice (some ⟨b, o, none⟩) ys.length cap')) ∧ (w'.cell? ⟨b, o, none⟩ = some (.int .i64 k2) ∧ w'.cell? ⟨b, o + 1, none⟩ = some (.int .i64 n2) ∧ w'.cell? ⟨b, o + 2, none⟩ = some (.slice A2 ys2.length cap2)))
      (first | exact MS.out _ hB2 | exact MS.out _ hB1 | exact MS.out _ (hBA _) | exact MS.out _ (hB0.alloc hB0.size _) | exact MS.out _ hB0)
      (first
       | (refine step_append_growsW (by rfl) (.tmp 167) (.tmp 170) 30 rfl 3 i0 _ 1 8 Try.underlying30 hi0 hz0 hz1 hz2 rfl Nat.one_pos A bd.length bd.length (bd.map (Value.int .i64)) rfl HNo.out (by simp) (HOL _ (hBA _)).out ⟨V.heap.size, 0, none⟩ 1 1 [.int .i64 n] rfl rfl (srcD V n).cells hone (Nat.lt_succ_self _) hg1 hg2' ?_; intro v2 y1 hO2 hG2; have hB1 := (hBA (.cells #[.int .i64 n] 3)).trans ((Below.refl _ _).grown hG2 (hBA _).size (fun k h => nomatch h)); obtain ⟨A4, cap4, rfl, hin, -⟩ := HFA _ _ _ hB1 hO2)
       | (go_at_call 26; ((with_reducible refine (HF26.out _ _ _ hin hB1).mono ?_); rintro _ y2 ⟨rfl, q2⟩; have hB2 := hB1.thenCall hB1.size q2)))
    go_wp2_with fail
    go_ret
    exact ⟨by rw [HFI.out]; try rfl, HWV.out.thenCall HWV.out.size hB2⟩
  · have hm2 : ¬ (ys.length : Int) = 1 := by omega
    have hm3 : ((ys.length : Int) == 1) = false := beq_eq_false_iff_ne.2 hm2
    have HR : Hid (fitsB mk fn (.mk 10 n ys) bd = false) := Lib.hid (fits_few (by unfold partsB; rw [hm3]; simp))
    clear hm hm2
    go_upto_region 23 with fail
    go_quiet (fail)
    go_wp2_with fail
    go_ret
    exact ⟨by rw [HR.out]; try rfl, below_drewN HWV.out _⟩
set_option maxRecDepth 100000 in
set_option maxHeartbeats 8000000 in
theorem law26_9 (N : Nat) (w0 : World) (mk fn : List Int) (Ak Am Af : Option Addr) (nk ck cm cf : Nat) (hmk : NumAt w0 4 Am mk) (hfn : NumAt w0 7 Af fn) (hl1 : mk.length ≤ 4194304) (hl2 : fn.length ≤ 4194304)
    (ih : Law26 N w0 mk fn (.agg #[.slice Ak nk ck, .slice Am mk.length cm, .slice Af fn.length cf])) (n : Int) (ys : List Co) (bd : List Int) (w : World) (A' A : Option Addr) (cap' cap : Nat) (hN : CoSize ys ≤ N) (hsz : bd.length + (CoSize ys + 1) ≤ 4194304) (hd : CoHd A' ys.length cap') (hs : Cos w0 A' ys) (hbd : InSl w A cap bd) (h0 : Below w0.heap.size w0 w) :
    Calls Try.prog 26 #[.agg #[.slice Ak nk ck, .slice Am mk.length cm, .slice Af fn.length cf], .agg #[.int .i64 9, .int .i64 n, .slice A' ys.length cap'], .slice A bd.length cap] w fun r w' => r = .returned (.bool (fitsB mk fn (.mk 9 n ys) bd)) ∧ Below w.heap.size w w' := by
  have HIH := Lib.hid ih
  have HSs := Lib.hid hs
  have HMk := Lib.hid hmk
  have HFn := Lib.hid hfn
  have HBd := Lib.hid hbd
  have hd1 := hd.1
  have hd2 := hd.2.1
  have hd3 := hd.2.2.1
  have hb1 := hbd.2.1
  have hb2 := hbd.2.2.1
  clear ih hs hmk hfn hbd hd
  go_enter Try.func26, Try.ntmps26
  go_upto_region 1 with fail
  have bp0 := heap_alloc_new w (.cells #[.slice Ak nk ck, .slice Am mk.length cm, .slice Af fn.length cf] 26)
  have be := heap_alloc_new (w.alloc (.cells #[.slice Ak nk ck, .slice Am mk.length cm, .slice Af fn.length cf] 26)) (.cells #[.int .i64 9, .int .i64 n, .slice A' ys.length cap'] 29)
  have bp := (Below.heap_alloc _ (.cells #[.int .i64 9, .int .i64 n, .slice A' ys.length cap'] 29) w.heap.size (by simp)).trans bp0
  rw [World.size_alloc] at be
  have hWV : Below w.heap.size w ((w.alloc (.cells #[.slice Ak nk ck, .slice Am mk.length cm, .slice Af fn.length cf] 26)).alloc (.cells #[.int .i64 9, .int .i64 n, .slice A' ys.length cap'] 29)) := (below1N w _).alloc (by simp) _
  generalize (w.alloc (.cells #[.slice Ak nk ck, .slice Am mk.length cm, .slice Af fn.length cf] 26)).alloc (.cells #[.int .i64 9, .int .i64 n, .slice A' ys.length cap'] 29) = V at *
  have hpl := (Array.getElem?_eq_some_iff.1 bp).1
  have hel := (Array.getElem?_eq_some_iff.1 be).1
  have HP := fun (y : World) (hy : Below V.heap.size V y) => Lib.hid (two_cells bp hy)
  have HE := fun (y : World) (hy : Below V.heap.size V y) => Lib.hid (two_cells be hy)
  have h0V := h0.trans (hWV.mono h0.size)
  obtain ⟨p0, p1, p2⟩ := (HP V (Below.refl _ _)).out
  obtain ⟨e0, e1, e2⟩ := (HE V (Below.refl _ _)).out
  have HWV := Lib.hid hWV
  have HH0 := Lib.hid h0V
  clear bp0 bp be hWV
  by_cases hm : ys.length = 2
  · have h0y : 0 < ys.length := by omega
    have h1y : 1 < ys.length := by omega
    have hFI := fits_let (mk := mk) (fn := fn) (n := n) (bd := bd) hm
    obtain ⟨b, o, rfl, hat⟩ := HSs.out.get 0 h0y
    obtain ⟨b', o', e', hat3⟩ := HSs.out.get 1 h1y
    injection e' with e'
    injection e' with e1' e2' e3'
    subst e1' e2'
    have hszj := CoSize_get h0y
    have hszk := CoSize_get h1y
    have HIx := fun (y : World) (v : Value) (hv : (ys[0]).Val w0 v) (hin : InSl y A cap bd) (hy : Below V.heap.size V y) => HIH.out ys[0] bd y v A cap (by omega) (by omega) hv hin (HH0.out.trans (hy.mono HH0.out.size))
    have HIy := fun (y : World) (v : Value) (A2 : Option Addr) (cap2 : Nat) (hv : (ys[1]).Val w0 v) (hin : InSl y A2 cap2 (bd ++ [n])) (hy : Below V.heap.size V y) => HIH.out ys[1] (bd ++ [n]) y v A2 cap2 (by omega) (by simp only [List.length_append, List.length_cons, List.length_nil]; omega) hv hin (HH0.out.trans (hy.mono HH0.out.size))
    rw [Nat.zero_mul, Nat.add_zero] at hat
    rw [Nat.one_mul] at hat3
    generalize ys[0] = y at *
    generalize ys[1] = x at *
    cases y with
    | mk k2 n2 ys2 =>
    cases x with
    | mk k3 n3 ys3 =>
    obtain ⟨A2, cap2, d0, d1, d2, hv2⟩ := Co.At.open_ hat
    obtain ⟨A3, cap3, g0, g1, g2, hv3⟩ := Co.At.open_ hat3
    have HIx := fun y hy => HIx y _ hv2 ((HBd.out.below HWV.out (Nat.le_refl _)).below hy (Nat.le_refl _)) hy
    have HIy := fun y B2 c2 hin hy => HIy y _ B2 c2 hv3 hin hy
    rw [show (bd ++ [n]).length = bd.length + 1 by simp] at HIy
    have MS : Hid (∀ y, Below V.heap.size V y → (fun w' => Below V.heap.size V w' ∧ (w'.cell? ⟨w.heap.size, 0, none⟩ = some (.slice Ak nk ck) ∧ w'.cell? ⟨w.heap.size, 1, none⟩ = some (.slice Am mk.length cm) ∧ w'.cell? ⟨w.heap.size, 2, none⟩ = some (.slice Af fn.length cf)) ∧ (w'.cell? ⟨w.heap.size + 1, 1, none⟩ = some (.int .i64 n) ∧ w'.cell? ⟨w.heap.size + 1, 2, none⟩ = some (.slice (some ⟨b, o, none⟩) ys.length cap')) ∧ (w'.cell? ⟨b, o, none⟩ = some (.int .i64 k2) ∧ w'.cell? ⟨b, o + 1, none⟩ = some (.int .i64 n2) ∧ w'.cell? ⟨b, o + 2, none⟩ = some (.slice A2 ys2.length cap2)) ∧ (w'.cell? ⟨b, o + 3, none⟩ = some (.int .i64 k3) ∧ w'.cell? ⟨b, o + 3 + 1, none⟩ = some (.int .i64 n3) ∧ w'.cell? ⟨b, o + 3 + 2, none⟩ = some (.slice A3 ys3.length cap3))) y) := Lib.hid (fun y hy => ⟨hy, (HP y hy).out, (HE y hy).out.2, ⟨cellB (HH0.out.trans (hy.mono HH0.out.size)) (Nat.le_refl _)  d0, cellB (HH0.out.trans (hy.mono HH0.out.size)) (Nat.le_refl _)  d1, cellB (HH0.out.trans (hy.mono HH0.out.size)) (Nat.le_refl _)  d2⟩, cellB (HH0.out.trans (hy.mono HH0.out.size)) (Nat.le_refl _)  g0, cellB (HH0.out.trans (hy.mono HH0.out.size)) (Nat.le_refl _)  g1, cellB (HH0.out.trans (hy.mono HH0.out.size)) (Nat.le_refl _)  g2⟩)
    generalize fitsB mk fn (.mk k2 n2 ys2) bd = f2 at *
    generalize fitsB mk fn (.mk k3 n3 ys3) (bd ++ [n]) = f3 at *
    have HFI := Lib.hid hFI
    have HF26 := Lib.hid HIx
    have HF27 := Lib.hid HIy
    have hm3 : ((ys.length : Int) == 2) = true := by rw [hm]; rfl
    have HNo : Hid (A = none → bd.length = 0 ∧ bd.length = 0) := Lib.hid (fun h => by have := HBd.out.2.1; have := HBd.out.2.2.2.2 h; omega)
    obtain ⟨i0, hi0, hz0, hz1, hz2⟩ := info_parts info3'
    have hcp2 : (bd.length : Int) ≤ (cap : Int) := by omega
    have hcp3 : (0 : Int) ≤ (bd.length : Int) := by omega
    have hg1 : bd.length + 1 ≤ maxLen := by unfold maxLen; omega
    have hg2' : (bd.length + 1) * 8 ≤ 140737488355328 := by omega
    have hone : ∀ u ∈ [Value.int .i64 n], u.oneCell' = true := by simp [Value.oneCell']
    have HOL := fun y (hy : Below V.heap.size V y) => Lib.hid (holdsG (HBd.out.1.below (HWV.out.thenCall HWV.out.size hy) (Nat.le_refl _)))
    have HFA := fun (y : World) (x : World) (v : Value) (hx : Below V.heap.size V x) (ho : x.ownsRow y.heap.size 3 1 v (bd.length + 1) (bd.map (Value.int .i64) ++ [.int .i64 n])) => inner_fin (W := V) (x := x) (bd := bd) (n := n) (y := x) (B := y.heap.size) (v := v) hx ho (by omega)
    have hB0 : Below V.heap.size V V.drew := (Below.refl _ _).drew
    have h0y' : (0 : Int) < (ys.length : Int) := by omega
    have h1y' : (1 : Int) < (ys.length : Int) := by omega
    clear hFI HIx HIy hm hat hat3 d0 d1 d2 hv2 g0 g1 g2 hv3
    cases f2
    · go_upto_region 21 with fail
      clear p0 p1 p2 e0 e1 e2
      refine wp_region_held_drew (S := (fun w' => Below V.heap.size V w' ∧ (w'.cell? ⟨w.heap.size, 0, none⟩ = some (.slice Ak nk ck) ∧ w'.cell? ⟨w.heap.size, 1, none⟩ = some (.slice Am mk.length cm) ∧ w'.cell? ⟨w.heap.size, 2, none⟩ = some (.slice Af fn.length cf)) ∧ (w'.cell? ⟨w.heap.size + 1, 1, none⟩ = some (.int .i64 n) ∧ w'.cell? ⟨w.heap.size + 1, 2, none⟩ = some (.slice (some ⟨b, o, none⟩) ys.length cap')) ∧ (w'.cell? ⟨b, o, none⟩ = some (.int .i64 k2) ∧ w'.cell? ⟨b, o + 1, none⟩ = some (.int .i64 n2) ∧ w'.cell? ⟨b, o + 2, none⟩ = some (.slice A2 ys2.length cap2)) ∧ (w'.cell? ⟨b, o + 3, none⟩ = some (.int .i64 k3) ∧ w'.cell? ⟨b, o + 3 + 1, none⟩ = some (.int .i64 n3) ∧ w'.cell? ⟨b, o + 3 + 2, none⟩ = some (.slice A3 ys3.length cap3)))) (by kernel_rfl) (MS.out _ hB0) (fun hHeld => ?_)
      try dsimp only at hHeld
      (refine wpAnyH_take (i := 0) (oi := ?_) (v := ?_) ?_ (by kernel_rfl) (by kernel_rfl) (by kernel_rfl) ?_ ?_ (by assumption) ?_; rotate_left 2; (simp only [List.getElem?_toArray, List.getElem?_cons_succ, List.getElem?_cons_zero]; rfl); (exact fun _ _ _ h => h); (refine Or.inl ⟨by rfl, ?_⟩; intro w hSw; (try dsimp only at hSw); go_simp; try with_reducible rfl); try simp only [Act.put, List.setIfInBounds_toArray, List.set_cons_zero, List.set_cons_succ])
      (refine wpAnyH_take (i := 1) (oi := ?_) (v := ?_) ?_ (by kernel_rfl) (by kernel_rfl) (by kernel_rfl) ?_ ?_ (by assumption) ?_; rotate_left 2; (simp only [List.getElem?_toArray, List.getElem?_cons_succ, List.getElem?_cons_zero]; rfl); (exact fun _ _ _ h => h); (refine Or.inl ⟨by rfl, ?_⟩; intro w hSw; (try dsimp only at hSw); go_simp; try with_reducible rfl); try simp only [Act.put, List.setIfInBounds_toArray, List.set_cons_zero, List.set_cons_succ])
      (refine wpAnyH_take (i := 2) (oi := ?_) (v := ?_) ?_ (by kernel_rfl) (by kernel_rfl) (by kernel_rfl) ?_ ?_ (by assumption) ?_; rotate_left 2; (simp only [List.getElem?_toArray, List.getElem?_cons_succ, List.getElem?_cons_zero]; rfl); (exact fun _ _ _ h => h); (refine Or.inl ⟨by rfl, ?_⟩; intro w hSw; (try dsimp only at hSw); go_simp; try with_reducible rfl); try simp only [Act.put, List.setIfInBounds_toArray, List.set_cons_zero, List.set_cons_succ])
      (refine wpAnyH_take (i := 3) (oi := ?_) (v := ?_) ?_ (by kernel_rfl) (by kernel_rfl) (by kernel_rfl) ?_ ?_ (by assumption) ?_; rotate_left 2; (simp only [List.getElem?_toArray, List.getElem?_cons_succ, List.getElem?_cons_zero]; rfl); (exact fun _ _ _ h => h); (refine Or.inl ⟨by rfl, ?_⟩; intro w hSw; (try dsimp only at hSw); go_simp; try with_reducible rfl); try simp only [Act.put, List.setIfInBounds_toArray, List.set_cons_zero, List.set_cons_succ])
      (refine wpAnyH_take (i := 4) (oi := ?_) (v := ?_) ?_ (by kernel_rfl) (by kernel_rfl) (by kernel_rfl) ?_ ?_ (by assumption) ?_; rotate_left 2; (simp only [List.getElem?_toArray, List.getElem?_cons_succ, List.getElem?_cons_zero]; rfl); (exact fun _ _ _ h => h); (refine Or.inl ⟨by rfl, ?_⟩; intro w hSw; (try dsimp only at hSw); go_simp; try with_reducible rfl); try simp only [Act.put, List.setIfInBounds_toArray, List.set_cons_zero, List.set_cons_succ])
      (refine wpAnyH_take (i := 5) (oi := ?_) (v := ?_) ?_ (by kernel_rfl) (by kernel_rfl) (by kernel_rfl) ?_ ?_ (by assumption) ?_; rotate_left 2; (simp only [List.getElem?_toArray, List.getElem?_cons_succ, List.getElem?_cons_zero]; rfl); (exact fun _ _ _ h => h); (refine Or.inl ⟨by rfl, ?_⟩; intro w hSw; (try dsimp only at hSw); go_simp; try with_reducible rfl); try simp only [Act.put, List.setIfInBounds_toArray, List.set_cons_zero, List.set_cons_succ])
      (refine wpAnyH_take (i := 6) (oi := ?_) (v := ?_) ?_ (by kernel_rfl) (by kernel_rfl) (by kernel_rfl) ?_ ?_ (by assumption) ?_; rotate_left 2; (simp only [List.getElem?_toArray, List.getElem?_cons_succ, List.getElem?_cons_zero]; rfl); (exact fun _ _ _ h => h); (refine Or.inl ⟨by rfl, ?_⟩; intro w hSw; (try dsimp only at hSw); go_simp; try with_reducible rfl); try simp only [Act.put, List.setIfInBounds_toArray, List.set_cons_zero, List.set_cons_succ])
      (refine wpAnyH_take (i := 7) (oi := ?_) (v := ?_) ?_ (by kernel_rfl) (by kernel_rfl) (by kernel_rfl) ?_ ?_ (by assumption) ?_; rotate_left 2; (simp only [List.getElem?_toArray, List.getElem?_cons_succ, List.getElem?_cons_zero]; rfl); (exact fun _ _ _ h => h); (refine Or.inl ⟨by rfl, ?_⟩; intro w hSw; (try dsimp only at hSw); go_simp; try with_reducible rfl); try simp only [Act.put, List.setIfInBounds_toArray, List.set_cons_zero, List.set_cons_succ])
      (refine wpAnyH_take (i := 8) (oi := ?_) (v := ?_) ?_ (by kernel_rfl) (by kernel_rfl) (by kernel_rfl) ?_ ?_ (by assumption) ?_; rotate_left 2; (simp only [List.getElem?_toArray, List.getElem?_cons_succ, List.getElem?_cons_zero]; rfl); (exact fun _ _ _ h => h); (refine Or.inl ⟨by rfl, ?_⟩; intro w hSw; (try dsimp only at hSw); go_simp; try with_reducible rfl); try simp only [Act.put, List.setIfInBounds_toArray, List.set_cons_zero, List.set_cons_succ])
      refine wpAnyH_ready (rs := [9]) (by kernel_rfl) (by simp) ?_
      refine AllReadyH.cons (o := ?_) ?_ (fun K hK => ?_) AllReadyH.nil
      rotate_left 1
      (simp only [List.getElem?_toArray, List.getElem?_cons_succ, List.getElem?_cons_zero]; rfl)
      go_simp
      go_at_call 26
      refine (HF26.out _ hHeld.1).mono ?_
      rintro _ w9 ⟨rfl, hb9⟩
      have hNew := MS.out _ (hHeld.1.thenCall hHeld.1.size hb9)
      try go_wp2_with fail
      clear hHeld
      refine hK.out _ _ hNew (fun hHeld => ?_)
      clear hK K hNew
      try simp only [Act.put, List.setIfInBounds_toArray, List.set_cons_zero, List.set_cons_succ]
      (refine wpAnyH_take (i := 10) (oi := ?_) (v := ?_) ?_ (by kernel_rfl) (by kernel_rfl) (by kernel_rfl) ?_ ?_ (by assumption) ?_; rotate_left 2; (simp only [List.getElem?_toArray, List.getElem?_cons_succ, List.getElem?_cons_zero]; rfl); (exact fun _ _ _ h => h); (refine Or.inl ⟨by rfl, ?_⟩; intro w hSw; (try dsimp only at hSw); go_simp; try with_reducible rfl); try simp only [Act.put, List.setIfInBounds_toArray, List.set_cons_zero, List.set_cons_succ])
      (refine wpAnyH_take (i := 11) (oi := ?_) (v := ?_) ?_ (by kernel_rfl) (by kernel_rfl) (by kernel_rfl) ?_ ?_ (by assumption) ?_; rotate_left 2; (simp only [List.getElem?_toArray, List.getElem?_cons_succ, List.getElem?_cons_zero]; rfl); (exact fun _ _ _ h => h); (refine Or.inl ⟨by rfl, ?_⟩; intro w hSw; (try dsimp only at hSw); go_simp; try with_reducible rfl); try simp only [Act.put, List.setIfInBounds_toArray, List.set_cons_zero, List.set_cons_succ])
      (refine wpAnyH_take (i := 12) (oi := ?_) (v := undef) ?_ (by kernel_rfl) (by kernel_rfl) (by kernel_rfl) ?_ ?_ (by assumption) ?_; rotate_left 1; (simp only [List.getElem?_toArray, List.getElem?_cons_succ, List.getElem?_cons_zero]; rfl); (exact fun _ _ _ h => h); (exact Or.inr ⟨by rfl, rfl⟩); try simp only [Act.put, List.setIfInBounds_toArray, List.set_cons_zero, List.set_cons_succ])
      (refine wpAnyH_take (i := 13) (oi := ?_) (v := undef) ?_ (by kernel_rfl) (by kernel_rfl) (by kernel_rfl) ?_ ?_ (by assumption) ?_; rotate_left 1; (simp only [List.getElem?_toArray, List.getElem?_cons_succ, List.getElem?_cons_zero]; rfl); (exact fun _ _ _ h => h); (exact Or.inr ⟨by rfl, rfl⟩); try simp only [Act.put, List.setIfInBounds_toArray, List.set_cons_zero, List.set_cons_succ])
      (refine wpAnyH_take (i := 14) (oi := ?_) (v := undef) ?_ (by kernel_rfl) (by kernel_rfl) (by kernel_rfl) ?_ ?_ (by assumption) ?_; rotate_left 1; (simp only [List.getElem?_toArray, List.getElem?_cons_succ, List.getElem?_cons_zero]; rfl); (exact fun _ _ _ h => h); (exact Or.inr ⟨by rfl, rfl⟩); try simp only [Act.put, List.setIfInBounds_toArray, List.set_cons_zero, List.set_cons_succ])
      (refine wpAnyH_take (i := 15) (oi := ?_) (v := undef) ?_ (by kernel_rfl) (by kernel_rfl) (by kernel_rfl) ?_ ?_ (by assumption) ?_; rotate_left 1; (simp only [List.getElem?_toArray, List.getElem?_cons_succ, List.getElem?_cons_zero]; rfl); (exact fun _ _ _ h => h); (exact Or.inr ⟨by rfl, rfl⟩); try simp only [Act.put, List.setIfInBounds_toArray, List.set_cons_zero, List.set_cons_succ])
      (refine wpAnyH_take (i := 16) (oi := ?_) (v := undef) ?_ (by kernel_rfl) (by kernel_rfl) (by kernel_rfl) ?_ ?_ (by assumption) ?_; rotate_left 1; (simp only [List.getElem?_toArray, List.getElem?_cons_succ, List.getElem?_cons_zero]; rfl); (exact fun _ _ _ h => h); (exact Or.inr ⟨by rfl, rfl⟩); try simp only [Act.put, List.setIfInBounds_toArray, List.set_cons_zero, List.set_cons_succ])
      (refine wpAnyH_take (i := 17) (oi := ?_) (v := undef) ?_ (by kernel_rfl) (by kernel_rfl) (by kernel_rfl) ?_ ?_ (by assumption) ?_; rotate_left 1; (simp only [List.getElem?_toArray, List.getElem?_cons_succ, List.getElem?_cons_zero]; rfl); (exact fun _ _ _ h => h); (exact Or.inr ⟨by rfl, rfl⟩); try simp only [Act.put, List.setIfInBounds_toArray, List.set_cons_zero, List.set_cons_succ])
      (refine wpAnyH_take (i := 18) (oi := ?_) (v := undef) ?_ (by kernel_rfl) (by kernel_rfl) (by kernel_rfl) ?_ ?_ (by assumption) ?_; rotate_left 1; (simp only [List.getElem?_toArray, List.getElem?_cons_succ, List.getElem?_cons_zero]; rfl); (exact fun _ _ _ h => h); (exact Or.inr ⟨by rfl, rfl⟩); try simp only [Act.put, List.setIfInBounds_toArray, List.set_cons_zero, List.set_cons_succ])
      (refine wpAnyH_take (i := 19) (oi := ?_) (v := undef) ?_ (by kernel_rfl) (by kernel_rfl) (by kernel_rfl) ?_ ?_ (by assumption) ?_; rotate_left 1; (simp only [List.getElem?_toArray, List.getElem?_cons_succ, List.getElem?_cons_zero]; rfl); (exact fun _ _ _ h => h); (exact Or.inr ⟨by rfl, rfl⟩); try simp only [Act.put, List.setIfInBounds_toArray, List.set_cons_zero, List.set_cons_succ])
      (refine wpAnyH_take (i := 20) (oi := ?_) (v := undef) ?_ (by kernel_rfl) (by kernel_rfl) (by kernel_rfl) ?_ ?_ (by assumption) ?_; rotate_left 1; (simp only [List.getElem?_toArray, List.getElem?_cons_succ, List.getElem?_cons_zero]; rfl); (exact fun _ _ _ h => h); (exact Or.inr ⟨by rfl, rfl⟩); try simp only [Act.put, List.setIfInBounds_toArray, List.set_cons_zero, List.set_cons_succ])
      (refine wpAnyH_take (i := 21) (oi := ?_) (v := undef) ?_ (by kernel_rfl) (by kernel_rfl) (by kernel_rfl) ?_ ?_ (by assumption) ?_; rotate_left 1; (simp only [List.getElem?_toArray, List.getElem?_cons_succ, List.getElem?_cons_zero]; rfl); (exact fun _ _ _ h => h); (exact Or.inr ⟨by rfl, rfl⟩); try simp only [Act.put, List.setIfInBounds_toArray, List.set_cons_zero, List.set_cons_succ])
      (refine wpAnyH_take (i := 22) (oi := ?_) (v := undef) ?_ (by kernel_rfl) (by kernel_rfl) (by kernel_rfl) ?_ ?_ (by assumption) ?_; rotate_left 1; (simp only [List.getElem?_toArray, List.getElem?_cons_succ, List.getElem?_cons_zero]; rfl); (exact fun _ _ _ h => h); (exact Or.inr ⟨by rfl, rfl⟩); try simp only [Act.put, List.setIfInBounds_toArray, List.set_cons_zero, List.set_cons_succ])
      (refine wpAnyH_take (i := 23) (oi := ?_) (v := undef) ?_ (by kernel_rfl) (by kernel_rfl) (by kernel_rfl) ?_ ?_ (by assumption) ?_; rotate_left 1; (simp only [List.getElem?_toArray, List.getElem?_cons_succ, List.getElem?_cons_zero]; rfl); (exact fun _ _ _ h => h); (exact Or.inr ⟨by rfl, rfl⟩); try simp only [Act.put, List.setIfInBounds_toArray, List.set_cons_zero, List.set_cons_succ])
      (refine wpAnyH_take (i := 24) (oi := ?_) (v := undef) ?_ (by kernel_rfl) (by kernel_rfl) (by kernel_rfl) ?_ ?_ (by assumption) ?_; rotate_left 1; (simp only [List.getElem?_toArray, List.getElem?_cons_succ, List.getElem?_cons_zero]; rfl); (exact fun _ _ _ h => h); (exact Or.inr ⟨by rfl, rfl⟩); try simp only [Act.put, List.setIfInBounds_toArray, List.set_cons_zero, List.set_cons_succ])
      (refine wpAnyH_take (i := 25) (oi := ?_) (v := undef) ?_ (by kernel_rfl) (by kernel_rfl) (by kernel_rfl) ?_ ?_ (by assumption) ?_; rotate_left 1; (simp only [List.getElem?_toArray, List.getElem?_cons_succ, List.getElem?_cons_zero]; rfl); (exact fun _ _ _ h => h); (exact Or.inr ⟨by rfl, rfl⟩); try simp only [Act.put, List.setIfInBounds_toArray, List.set_cons_zero, List.set_cons_succ])
      (refine wpAnyH_take (i := 26) (oi := ?_) (v := undef) ?_ (by kernel_rfl) (by kernel_rfl) (by kernel_rfl) ?_ ?_ (by assumption) ?_; rotate_left 1; (simp only [List.getElem?_toArray, List.getElem?_cons_succ, List.getElem?_cons_zero]; rfl); (exact fun _ _ _ h => h); (exact Or.inr ⟨by rfl, rfl⟩); try simp only [Act.put, List.setIfInBounds_toArray, List.set_cons_zero, List.set_cons_succ])
      (refine wpAnyH_take (i := 27) (oi := ?_) (v := undef) ?_ (by kernel_rfl) (by kernel_rfl) (by kernel_rfl) ?_ ?_ (by assumption) ?_; rotate_left 1; (simp only [List.getElem?_toArray, List.getElem?_cons_succ, List.getElem?_cons_zero]; rfl); (exact fun _ _ _ h => h); (exact Or.inr ⟨by rfl, rfl⟩); try simp only [Act.put, List.setIfInBounds_toArray, List.set_cons_zero, List.set_cons_succ])
      (refine wpAnyH_take (i := 28) (oi := ?_) (v := ?_) ?_ (by kernel_rfl) (by kernel_rfl) (by kernel_rfl) ?_ ?_ (by assumption) ?_; rotate_left 2; (simp only [List.getElem?_toArray, List.getElem?_cons_succ, List.getElem?_cons_zero]; rfl); (exact fun _ _ _ h => h); (refine Or.inl ⟨by rfl, ?_⟩; intro w hSw; (try dsimp only at hSw); go_simp; try with_reducible rfl); try simp only [Act.put, List.setIfInBounds_toArray, List.set_cons_zero, List.set_cons_succ])
      (refine wpAnyH_take (i := 29) (oi := ?_) (v := ?_) ?_ (by kernel_rfl) (by kernel_rfl) (by kernel_rfl) ?_ ?_ (by assumption) ?_; rotate_left 2; (simp only [List.getElem?_toArray, List.getElem?_cons_succ, List.getElem?_cons_zero]; rfl); (exact fun _ _ _ h => h); (refine Or.inl ⟨by rfl, ?_⟩; intro w hSw; (try dsimp only at hSw); go_simp; try with_reducible rfl); try simp only [Act.put, List.setIfInBounds_toArray, List.set_cons_zero, List.set_cons_succ])
      refine wpAnyH_done (by kernel_rfl) ?_ _
      go_wp2_with fail
      go_ret
      exact ⟨by rw [HFI.out]; try rfl, HWV.out.thenCall HWV.out.size hHeld.1⟩
    · go_upto_region 21 with fail
      clear p0 p1 p2 e0 e1 e2
      go_region_held3 (fun w' => Below V.heap.size V w' ∧ (w'.cell? ⟨w.heap.size, 0, none⟩ = some (.slice Ak nk ck) ∧ w'.cell? ⟨w.heap.size, 1, none⟩ = some (.slice Am mk.length cm) ∧ w'.cell? ⟨w.heap.size, 2, none⟩ = some (.slice Af fn.length cf)) ∧ (w'.cell? ⟨w.heap.size + 1, 1, none⟩ = some (.int .i64 n) ∧ w'.cell? ⟨w.heap.size + 1, 2, none⟩ = some (.slice (some ⟨b, o, none⟩) ys.length cap')) ∧ (w'.cell? ⟨b, o, none⟩ = some (.int .i64 k2) ∧ w'.cell? ⟨b, o + 1, none⟩ = some (.int .i64 n2) ∧ w'.cell? ⟨b, o + 2, none⟩ = some (.slice A2 ys2.length cap2)) ∧ (w'.cell? ⟨b, o + 3, none⟩ = some (.int .i64 k3) ∧ w'.cell? ⟨b, o + 3 + 1, none⟩ = some (.int .i64 n3) ∧ w'.cell? ⟨b, o + 3 + 2, none⟩ = some (.slice A3 ys3.length cap3)))
        (first | exact MS.out _ hB3 | exact MS.out _ hB2 | exact MS.out _ (hBA _) | exact MS.out _ (hB1.alloc hB1.size _) | exact MS.out _ hB1 | exact MS.out _ hB0)
        (first
         | (go_at_call 26; ((with_reducible refine (HF26.out _ hB0).mono ?_); rintro _ y1 ⟨rfl, q1⟩; have hB1 := hB0.thenCall hB0.size q1; have hBA : ∀ o, Below V.heap.size V (y1.alloc o) := fun o => hB1.alloc hB1.size o))
         | (refine step_append_growsW (by rfl) (.tmp 145) (.tmp 148) 30 rfl 3 i0 _ 1 8 Try.underlying30 hi0 hz0 hz1 hz2 rfl Nat.one_pos A bd.length bd.length (bd.map (Value.int .i64)) rfl HNo.out (by simp) (HOL _ (hBA _)).out ⟨y1.heap.size, 0, none⟩ 1 1 [.int .i64 n] rfl rfl (Src.of_own (own_new y1 3 1 1 #[.int .i64 n] rfl (by omega))).cells hone (Nat.lt_succ_self _) hg1 hg2' ?_; intro v2 y2 hO2 hG2; have hB2 := (hBA (.cells #[.int .i64 n] 3)).trans ((Below.refl _ _).grown hG2 (hBA _).size (fun k h => nomatch h)); obtain ⟨A4, cap4, rfl, hin, -⟩ := HFA _ _ _ hB2 hO2)
         | (go_at_call 26; ((with_reducible refine (HF27.out _ _ _ hin hB2).mono ?_); rintro _ y3 ⟨rfl, q3⟩; have hB3 := hB2.thenCall hB2.size q3)))
      go_wp2_with fail
      go_ret
      exact ⟨by rw [HFI.out]; try rfl, HWV.out.thenCall HWV.out.size hB3⟩
  · have hm2 : ¬ (ys.length : Int) = 2 := by omega
    have hm3 : ((ys.length : Int) == 2) = false := beq_eq_false_iff_ne.2 hm2
    have HR : Hid (fitsB mk fn (.mk 9 n ys) bd = false) := Lib.hid (fits_few (by unfold partsB; rw [hm3]; simp))
    clear hm hm2
    go_upto_region 21 with fail
    go_quiet (fail)
    go_wp2_with fail
    go_ret
    exact ⟨by rw [HR.out]; try rfl, below_drewN HWV.out _⟩
theorem law26_any (N : Nat) (w0 : World) (mk fn : List Int) (Ak Am Af : Option Addr) (nk ck cm cf : Nat) (hmk : NumAt w0 4 Am mk) (hfn : NumAt w0 7 Af fn) (hl1 : mk.length ≤ 4194304) (hl2 : fn.length ≤ 4194304) : Law26 N w0 mk fn (.agg #[.slice Ak nk ck, .slice Am mk.length cm, .slice Af fn.length cf]) := by
  induction N with
  | zero => intro e bd w v A cap h; cases e; rw [Co.size_mk] at h; omega
  | succ N ih =>
    intro e bd w v A cap hN hsz hv hbd h0
    cases e with
    | mk k n ys =>
    obtain ⟨A', cap', rfl, hd, hs⟩ := hv
    rw [Co.size_mk] at hN hsz
    have hN' : CoSize ys ≤ N := by omega
    by_cases h1 : k = 1
    · subst h1; exact law26_1 N w0 mk fn Ak Am Af nk ck cm cf hmk hfn hl1 hl2 ih n ys bd w A' A cap' cap hN' hsz hd hs hbd h0
    by_cases h2 : k = 2
    · subst h2; exact law26_2 N w0 mk fn Ak Am Af nk ck cm cf hmk hfn hl1 hl2 ih n ys bd w A' A cap' cap hN' hsz hd hs hbd h0
    by_cases h3 : k = 3
    · subst h3; exact law26_3 N w0 mk fn Ak Am Af nk ck cm cf hmk hfn hl1 hl2 ih n ys bd w A' A cap' cap hN' hsz hd hs hbd h0
    by_cases h4 : k = 4
    · subst h4; exact law26_4 N w0 mk fn Ak Am Af nk ck cm cf hmk hfn hl1 hl2 ih n ys bd w A' A cap' cap hN' hsz hd hs hbd h0
    by_cases h5 : k = 5
    · subst h5; exact law26_5 N w0 mk fn Ak Am Af nk ck cm cf hmk hfn hl1 hl2 ih n ys bd w A' A cap' cap hN' hsz hd hs hbd h0
    by_cases h6 : k = 6
    · subst h6; exact law26_6 N w0 mk fn Ak Am Af nk ck cm cf hmk hfn hl1 hl2 ih n ys bd w A' A cap' cap hN' hsz hd hs hbd h0
    by_cases h7 : k = 7
    · subst h7; exact law26_7 N w0 mk fn Ak Am Af nk ck cm cf hmk hfn hl1 hl2 ih n ys bd w A' A cap' cap hN' hsz hd hs hbd h0
    by_cases h8 : k = 8
    · subst h8; exact law26_8 N w0 mk fn Ak Am Af nk ck cm cf hmk hfn hl1 hl2 ih n ys bd w A' A cap' cap hN' hsz hd hs hbd h0
    by_cases h9 : k = 9
    · subst h9; exact law26_9 N w0 mk fn Ak Am Af nk ck cm cf hmk hfn hl1 hl2 ih n ys bd w A' A cap' cap hN' hsz hd hs hbd h0
    by_cases h10 : k = 10
    · subst h10; exact law26_10 N w0 mk fn Ak Am Af nk ck cm cf hmk hfn hl1 hl2 ih n ys bd w A' A cap' cap hN' hsz hd hs hbd h0
    exact law26_0 k (by omega) N w0 mk fn Ak Am Af nk ck cm cf hmk hfn hl1 hl2 ih n ys bd w A' A cap' cap hN' hsz hd hs hbd h0
end Go.Proofs.Ytkcgbakjpodmeaa.Co
