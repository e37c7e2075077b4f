/- Contract: the law's fits, but for let and free. -/
import Derived.Test.YtkcgbakjpodmeaaCoD
import Derived.Test.YtkcgbakjpodmeaaCrA
namespace Go.Proofs.Ytkcgbakjpodmeaa.Co
open Go.ChangeShapes Go.WideShapes Go.ChangeAt Go.RowKit Go.Proofs.Ytkcgbakjpodmeaa.Lift Go.Proofs.Ytkcgbakjpodmeaa.Data
set_option linter.unusedVariables false
set_option linter.unusedSimpArgs false
/-- what the law's fits says of all cores up to a size. -/
def Law26 (N : Nat) (w0 : World) (mk fn : List Int) (pv : Value) : Prop := ∀ (e : Co) (bd : List Int) (w : World) (v : Value) (A : Option Addr) (cap : Nat), e.size ≤ N → bd.length + e.size ≤ 4194304 → e.Val w0 v → InSl w A cap bd → Below w0.heap.size w0 w →
    Calls Try.prog 26 #[pv, v, .slice A bd.length cap] w fun r w' => r = .returned (.bool (fitsB mk fn e bd)) ∧ Below w.heap.size w w'
/-- rows of numbers, a field of k cells each. -/
def NumAt (w : World) (k : Nat) (A : Option Addr) (l : List Int) : Prop := ∀ j (h : j < l.length), ∃ b o, A = some ⟨b, o, none⟩ ∧ b < w.heap.size ∧ w.cell? ⟨b, o + j * k + 1, none⟩ = some (.int .i64 l[j])
theorem fits_mk {mk fn : List Int} {k n : Int} {ys : List Co} {bd : List Int} {h : Bool} (hh : (partsB mk fn k n ys.length && (!decide (k = 1) || inB bd n)) = h) : fitsB mk fn (.mk k n ys) bd = (h && fitsBs mk fn k n ys 0 bd) := by rw [fitsB, ← hh, Bool.and_assoc]
theorem below1N (w : World) (o : Obj) : Below w.heap.size w (w.alloc o) := (Below.refl _ _).alloc (Nat.le_refl _) o
set_option maxRecDepth 100000 in
set_option maxHeartbeats 8000000 in
theorem law26_1 (N : Nat) (w0 : World) (mk fn : List Int) (Ak Am Af : Option Addr) (nk ck cm cf : Nat) (hmk : NumAt w0 4 Am mk) (hfn : NumAt w0 7 Af fn) (hl1 : mk.length ≤ 4194304) (hl2 : fn.length ≤ 4194304)
    (ih : Law26 N w0 mk fn (.agg #[.slice Ak nk ck, .slice Am mk.length cm, .slice Af fn.length cf])) (n : Int) (ys : List Co) (bd : List Int) (w : World) (A' A : Option Addr) (cap' cap : Nat) (hN : CoSize ys ≤ N) (hsz : bd.length + (CoSize ys + 1) ≤ 4194304) (hd : CoHd A' ys.length cap') (hs : Cos w0 A' ys) (hbd : InSl w A cap bd) (h0 : Below w0.heap.size w0 w) :
    Calls Try.prog 26 #[.agg #[.slice Ak nk ck, .slice Am mk.length cm, .slice Af fn.length cf], .agg #[.int .i64 1, .int .i64 n, .slice A' ys.length cap'], .slice A bd.length cap] w fun r w' => r = .returned (.bool (fitsB mk fn (.mk 1 n ys) bd)) ∧ Below w.heap.size w w' := by
  have HIH := Lib.hid ih
  have HSs := Lib.hid hs
  have HMk := Lib.hid hmk
  have HFn := Lib.hid hfn
  have HBd := Lib.hid hbd
  have hd1 := hd.1
  have hd2 := hd.2.1
  have hd3 := hd.2.2.1
  have hb1 := hbd.2.1
  have hb2 := hbd.2.2.1
  clear ih hs hmk hfn hbd hd
  go_enter Try.func26, Try.ntmps26
  go_upto_region 1 with fail
  have bp0 := heap_alloc_new w (.cells #[.slice Ak nk ck, .slice Am mk.length cm, .slice Af fn.length cf] 26)
  have be := heap_alloc_new (w.alloc (.cells #[.slice Ak nk ck, .slice Am mk.length cm, .slice Af fn.length cf] 26)) (.cells #[.int .i64 1, .int .i64 n, .slice A' ys.length cap'] 29)
  have bp := (Below.heap_alloc _ (.cells #[.int .i64 1, .int .i64 n, .slice A' ys.length cap'] 29) w.heap.size (by simp)).trans bp0
  rw [World.size_alloc] at be
  have hWV : Below w.heap.size w ((w.alloc (.cells #[.slice Ak nk ck, .slice Am mk.length cm, .slice Af fn.length cf] 26)).alloc (.cells #[.int .i64 1, .int .i64 n, .slice A' ys.length cap'] 29)) := (below1N w _).alloc (by simp) _
  generalize (w.alloc (.cells #[.slice Ak nk ck, .slice Am mk.length cm, .slice Af fn.length cf] 26)).alloc (.cells #[.int .i64 1, .int .i64 n, .slice A' ys.length cap'] 29) = V at *
  have hpl := (Array.getElem?_eq_some_iff.1 bp).1
  have hel := (Array.getElem?_eq_some_iff.1 be).1
  have HP := fun (y : World) (hy : Below V.heap.size V y) => Lib.hid (two_cells bp hy)
  have HE := fun (y : World) (hy : Below V.heap.size V y) => Lib.hid (two_cells be hy)
  have h0V := h0.trans (hWV.mono h0.size)
  obtain ⟨p0, p1, p2⟩ := (HP V (Below.refl _ _)).out
  obtain ⟨e0, e1, e2⟩ := (HE V (Below.refl _ _)).out
  have HWV := Lib.hid hWV
  have HH0 := Lib.hid h0V
  clear bp0 bp be hWV
  by_cases hm : ys.length = 0
  · have HC := Lib.hid (in_any V A cap bd n (HBd.out.below HWV.out (Nat.le_refl _)))
    have HHD : Hid ((partsB mk fn 1 n ys.length && (!decide ((1 : Int) = 1) || inB bd n)) = inB bd n) := Lib.hid (by simp [partsB, hm])
    have HF := Lib.hid (fits_mk (mk := mk) (fn := fn) (k := 1) (n := n) (ys := ys) (bd := bd) (h := inB bd n) HHD.out)
    clear HHD
    generalize inB bd n = hv at *
    go_upto_region 24 with (go_at_call 24; refine HC.out.mono ?_; rintro _ z1 ⟨rfl, rfl⟩)
    go_wp2_with fail
    go_loopw [8, 177] (fun x i wr => ∃ (j : Nat) (c : Bool), i = .int .i64 j ∧ x = .bool c ∧ j ≤ ys.length ∧ Hid (c = (hv && fitsBs mk fn 1 n (ys.take j) 0 bd)) ∧ Hid (Below V.heap.size V wr)) (fun _ i _ => ys.length - (intOf i).toNat)
    case atStart => exact ⟨0, hv, rfl, by trivial, Nat.zero_le _, Lib.hid (by rw [List.take_zero, fitsBs, Bool.and_true]), Lib.hid (Below.refl _ _)⟩
    case round =>
      obtain ⟨j, c, rfl, rfl, hj, hc, hbb⟩ := hrel
      have hbV := hbb.out.size
      have hb0 := HH0.out.trans (hbb.out.mono HH0.out.size)
      by_cases hlt : j < ys.length
      · exact absurd hlt (by omega)
      · have HR : Hid (fitsB mk fn (.mk 1 n ys) bd = c) := Lib.hid (by
          have h := hc.out
          rw [List.take_of_length_le (by omega)] at h
          rw [HF.out, ← h])
        clear e0 e1 e2
        go_wp2_with fail
        go_ret
        exact ⟨by rw [HR.out]; try rfl, HWV.out.thenCall HWV.out.size hbb.out⟩
  · have hm2 : ¬ (ys.length : Int) = 0 := by omega
    have hm3 : ((ys.length : Int) == 0) = false := beq_eq_false_iff_ne.2 hm2
    have HHD : Hid ((partsB mk fn 1 n ys.length && (!decide ((1 : Int) = 1) || inB bd n)) = false) := Lib.hid (by unfold partsB; rw [hm3]; simp)
    have HF := Lib.hid (fits_mk (mk := mk) (fn := fn) (k := 1) (n := n) (ys := ys) (bd := bd) (h := false) HHD.out)
    clear HHD
    go_upto_region 24 with fail
    go_wp2_with fail
    go_loopw [8, 177] (fun x i wr => ∃ (j : Nat) (c : Bool), i = .int .i64 j ∧ x = .bool c ∧ j ≤ ys.length ∧ Hid (c = (false && fitsBs mk fn 1 n (ys.take j) 0 bd)) ∧ Hid (Below V.heap.size V wr)) (fun _ i _ => ys.length - (intOf i).toNat)
    case atStart => exact ⟨0, false, rfl, by trivial, Nat.zero_le _, Lib.hid (by rw [List.take_zero, fitsBs, Bool.and_true]), Lib.hid (Below.refl _ _)⟩
    case round =>
      obtain ⟨j, c, rfl, rfl, hj, hc, hbb⟩ := hrel
      have hbV := hbb.out.size
      have hb0 := HH0.out.trans (hbb.out.mono HH0.out.size)
      by_cases hlt : j < ys.length
      · obtain ⟨b, o, rfl, hat⟩ := HSs.out.get j hlt
        have hszj := CoSize_get hlt
        have HT := fitsBs_take (mk := mk) (fn := fn) (k := 1) (n := n) (bd := bd) 0 hlt
        rw [Nat.zero_add, show around 1 n j bd = bd by unfold around; rw [if_neg (by omega)]] at HT
        have HIx := fun (o : Obj) (v : Value) (hv : (ys[j]).Val w0 v) => Lib.hid (HIH.out ys[j] bd (wr.alloc o) v A cap (by omega) (by omega) hv (((HBd.out.below HWV.out (Nat.le_refl _)).below hbb.out (Nat.le_refl _)).below (below1N wr o) (Nat.le_refl _)) (hb0.alloc hb0.size o))
        obtain ⟨p0, p1, p2⟩ := (HP wr hbb.out).out
        have q0 := fun O => (World.cell?_alloc_lt wr O ⟨w.heap.size, 0, none⟩ (Nat.lt_of_lt_of_le hpl hbV)).trans p0
        have q1 := fun O => (World.cell?_alloc_lt wr O ⟨w.heap.size, 1, none⟩ (Nat.lt_of_lt_of_le hpl hbV)).trans p1
        have q2 := fun O => (World.cell?_alloc_lt wr O ⟨w.heap.size, 2, none⟩ (Nat.lt_of_lt_of_le hpl hbV)).trans p2
        generalize ys[j] = y at *
        cases y with
        | mk k2 n2 ys2 =>
        obtain ⟨A3, cap3, d0, d1, d2, hv2⟩ := Co.At.both hat hb0 (Nat.le_refl _)
        have HI2 := fun o => HIx o _ hv2
        clear HIx hat
        generalize fitsB mk fn (.mk k2 n2 ys2) bd = f2 at *
        have HTT := Lib.hid HT
        clear HT p0 p1 p2 e0 e1 e2
        cases c
        · have HN : Hid (false = (false && fitsBs mk fn 1 n (ys.take (j + 1)) 0 bd)) := Lib.hid (by rw [HTT.out, ← Bool.and_assoc, ← hc.out]; rfl)
          clear HI2 HTT
          go_wp2_with fail
          exact ⟨⟨j + 1, false, by go_num, by trivial, by omega, HN, Lib.hid (hbb.out.alloc hbV _)⟩, by simp [intOf]; omega⟩
        · exact absurd hc.out (by simp)
      · have HR : Hid (fitsB mk fn (.mk 1 n ys) bd = c) := Lib.hid (by
          have h := hc.out
          rw [List.take_of_length_le (by omega)] at h
          rw [HF.out, ← h])
        clear e0 e1 e2
        go_wp2_with fail
        go_ret
        exact ⟨by rw [HR.out]; try rfl, HWV.out.thenCall HWV.out.size hbb.out⟩
set_option maxRecDepth 100000 in
set_option maxHeartbeats 8000000 in
theorem law26_5 (N : Nat) (w0 : World) (mk fn : List Int) (Ak Am Af : Option Addr) (nk ck cm cf : Nat) (hmk : NumAt w0 4 Am mk) (hfn : NumAt w0 7 Af fn) (hl1 : mk.length ≤ 4194304) (hl2 : fn.length ≤ 4194304)
    (ih : Law26 N w0 mk fn (.agg #[.slice Ak nk ck, .slice Am mk.length cm, .slice Af fn.length cf])) (n : Int) (ys : List Co) (bd : List Int) (w : World) (A' A : Option Addr) (cap' cap : Nat) (hN : CoSize ys ≤ N) (hsz : bd.length + (CoSize ys + 1) ≤ 4194304) (hd : CoHd A' ys.length cap') (hs : Cos w0 A' ys) (hbd : InSl w A cap bd) (h0 : Below w0.heap.size w0 w) :
    Calls Try.prog 26 #[.agg #[.slice Ak nk ck, .slice Am mk.length cm, .slice Af fn.length cf], .agg #[.int .i64 5, .int .i64 n, .slice A' ys.length cap'], .slice A bd.length cap] w fun r w' => r = .returned (.bool (fitsB mk fn (.mk 5 n ys) bd)) ∧ Below w.heap.size w w' := by
  have HIH := Lib.hid ih
  have HSs := Lib.hid hs
  have HMk := Lib.hid hmk
  have HFn := Lib.hid hfn
  have HBd := Lib.hid hbd
  have hd1 := hd.1
  have hd2 := hd.2.1
  have hd3 := hd.2.2.1
  have hb1 := hbd.2.1
  have hb2 := hbd.2.2.1
  clear ih hs hmk hfn hbd hd
  go_enter Try.func26, Try.ntmps26
  go_upto_region 1 with fail
  have bp0 := heap_alloc_new w (.cells #[.slice Ak nk ck, .slice Am mk.length cm, .slice Af fn.length cf] 26)
  have be := heap_alloc_new (w.alloc (.cells #[.slice Ak nk ck, .slice Am mk.length cm, .slice Af fn.length cf] 26)) (.cells #[.int .i64 5, .int .i64 n, .slice A' ys.length cap'] 29)
  have bp := (Below.heap_alloc _ (.cells #[.int .i64 5, .int .i64 n, .slice A' ys.length cap'] 29) w.heap.size (by simp)).trans bp0
  rw [World.size_alloc] at be
  have hWV : Below w.heap.size w ((w.alloc (.cells #[.slice Ak nk ck, .slice Am mk.length cm, .slice Af fn.length cf] 26)).alloc (.cells #[.int .i64 5, .int .i64 n, .slice A' ys.length cap'] 29)) := (below1N w _).alloc (by simp) _
  generalize (w.alloc (.cells #[.slice Ak nk ck, .slice Am mk.length cm, .slice Af fn.length cf] 26)).alloc (.cells #[.int .i64 5, .int .i64 n, .slice A' ys.length cap'] 29) = V at *
  have hpl := (Array.getElem?_eq_some_iff.1 bp).1
  have hel := (Array.getElem?_eq_some_iff.1 be).1
  have HP := fun (y : World) (hy : Below V.heap.size V y) => Lib.hid (two_cells bp hy)
  have HE := fun (y : World) (hy : Below V.heap.size V y) => Lib.hid (two_cells be hy)
  have h0V := h0.trans (hWV.mono h0.size)
  obtain ⟨p0, p1, p2⟩ := (HP V (Below.refl _ _)).out
  obtain ⟨e0, e1, e2⟩ := (HE V (Below.refl _ _)).out
  have HWV := Lib.hid hWV
  have HH0 := Lib.hid h0V
  clear bp0 bp be hWV
  by_cases hm : ys.length = 0
  · have HHD : Hid ((partsB mk fn 5 n ys.length && (!decide ((5 : Int) = 1) || inB bd n)) = true) := Lib.hid (by simp [partsB, hm])
    have HF := Lib.hid (fits_mk (mk := mk) (fn := fn) (k := 5) (n := n) (ys := ys) (bd := bd) (h := true) HHD.out)
    clear HHD
    go_upto_region 24 with fail
    go_wp2_with fail
    go_loopw [8, 177] (fun x i wr => ∃ (j : Nat) (c : Bool), i = .int .i64 j ∧ x = .bool c ∧ j ≤ ys.length ∧ Hid (c = (true && fitsBs mk fn 5 n (ys.take j) 0 bd)) ∧ Hid (Below V.heap.size V wr)) (fun _ i _ => ys.length - (intOf i).toNat)
    case atStart => exact ⟨0, true, rfl, by trivial, Nat.zero_le _, Lib.hid (by rw [List.take_zero, fitsBs, Bool.and_true]), Lib.hid (Below.refl _ _)⟩
    case round =>
      obtain ⟨j, c, rfl, rfl, hj, hc, hbb⟩ := hrel
      have hbV := hbb.out.size
      have hb0 := HH0.out.trans (hbb.out.mono HH0.out.size)
      by_cases hlt : j < ys.length
      · exact absurd hlt (by omega)
      · have HR : Hid (fitsB mk fn (.mk 5 n ys) bd = c) := Lib.hid (by
          have h := hc.out
          rw [List.take_of_length_le (by omega)] at h
          rw [HF.out, ← h])
        clear e0 e1 e2
        go_wp2_with fail
        go_ret
        exact ⟨by rw [HR.out]; try rfl, HWV.out.thenCall HWV.out.size hbb.out⟩
  · have hm2 : ¬ (ys.length : Int) = 0 := by omega
    have hm3 : ((ys.length : Int) == 0) = false := beq_eq_false_iff_ne.2 hm2
    have HHD : Hid ((partsB mk fn 5 n ys.length && (!decide ((5 : Int) = 1) || inB bd n)) = false) := Lib.hid (by unfold partsB; rw [hm3]; simp)
    have HF := Lib.hid (fits_mk (mk := mk) (fn := fn) (k := 5) (n := n) (ys := ys) (bd := bd) (h := false) HHD.out)
    clear HHD
    go_upto_region 24 with fail
    go_wp2_with fail
    go_loopw [8, 177] (fun x i wr => ∃ (j : Nat) (c : Bool), i = .int .i64 j ∧ x = .bool c ∧ j ≤ ys.length ∧ Hid (c = (false && fitsBs mk fn 5 n (ys.take j) 0 bd)) ∧ Hid (Below V.heap.size V wr)) (fun _ i _ => ys.length - (intOf i).toNat)
    case atStart => exact ⟨0, false, rfl, by trivial, Nat.zero_le _, Lib.hid (by rw [List.take_zero, fitsBs, Bool.and_true]), Lib.hid (Below.refl _ _)⟩
    case round =>
      obtain ⟨j, c, rfl, rfl, hj, hc, hbb⟩ := hrel
      have hbV := hbb.out.size
      have hb0 := HH0.out.trans (hbb.out.mono HH0.out.size)
      by_cases hlt : j < ys.length
      · obtain ⟨b, o, rfl, hat⟩ := HSs.out.get j hlt
        have hszj := CoSize_get hlt
        have HT := fitsBs_take (mk := mk) (fn := fn) (k := 5) (n := n) (bd := bd) 0 hlt
        rw [Nat.zero_add, show around 5 n j bd = bd by unfold around; rw [if_neg (by omega)]] at HT
        have HIx := fun (o : Obj) (v : Value) (hv : (ys[j]).Val w0 v) => Lib.hid (HIH.out ys[j] bd (wr.alloc o) v A cap (by omega) (by omega) hv (((HBd.out.below HWV.out (Nat.le_refl _)).below hbb.out (Nat.le_refl _)).below (below1N wr o) (Nat.le_refl _)) (hb0.alloc hb0.size o))
        obtain ⟨p0, p1, p2⟩ := (HP wr hbb.out).out
        have q0 := fun O => (World.cell?_alloc_lt wr O ⟨w.heap.size, 0, none⟩ (Nat.lt_of_lt_of_le hpl hbV)).trans p0
        have q1 := fun O => (World.cell?_alloc_lt wr O ⟨w.heap.size, 1, none⟩ (Nat.lt_of_lt_of_le hpl hbV)).trans p1
        have q2 := fun O => (World.cell?_alloc_lt wr O ⟨w.heap.size, 2, none⟩ (Nat.lt_of_lt_of_le hpl hbV)).trans p2
        generalize ys[j] = y at *
        cases y with
        | mk k2 n2 ys2 =>
        obtain ⟨A3, cap3, d0, d1, d2, hv2⟩ := Co.At.both hat hb0 (Nat.le_refl _)
        have HI2 := fun o => HIx o _ hv2
        clear HIx hat
        generalize fitsB mk fn (.mk k2 n2 ys2) bd = f2 at *
        have HTT := Lib.hid HT
        clear HT p0 p1 p2 e0 e1 e2
        cases c
        · have HN : Hid (false = (false && fitsBs mk fn 5 n (ys.take (j + 1)) 0 bd)) := Lib.hid (by rw [HTT.out, ← Bool.and_assoc, ← hc.out]; rfl)
          clear HI2 HTT
          go_wp2_with fail
          exact ⟨⟨j + 1, false, by go_num, by trivial, by omega, HN, Lib.hid (hbb.out.alloc hbV _)⟩, by simp [intOf]; omega⟩
        · exact absurd hc.out (by simp)
      · have HR : Hid (fitsB mk fn (.mk 5 n ys) bd = c) := Lib.hid (by
          have h := hc.out
          rw [List.take_of_length_le (by omega)] at h
          rw [HF.out, ← h])
        clear e0 e1 e2
        go_wp2_with fail
        go_ret
        exact ⟨by rw [HR.out]; try rfl, HWV.out.thenCall HWV.out.size hbb.out⟩
set_option maxRecDepth 100000 in
set_option maxHeartbeats 8000000 in
theorem law26_2 (N : Nat) (w0 : World) (mk fn : List Int) (Ak Am Af : Option Addr) (nk ck cm cf : Nat) (hmk : NumAt w0 4 Am mk) (hfn : NumAt w0 7 Af fn) (hl1 : mk.length ≤ 4194304) (hl2 : fn.length ≤ 4194304)
    (ih : Law26 N w0 mk fn (.agg #[.slice Ak nk ck, .slice Am mk.length cm, .slice Af fn.length cf])) (n : Int) (ys : List Co) (bd : List Int) (w : World) (A' A : Option Addr) (cap' cap : Nat) (hN : CoSize ys ≤ N) (hsz : bd.length + (CoSize ys + 1) ≤ 4194304) (hd : CoHd A' ys.length cap') (hs : Cos w0 A' ys) (hbd : InSl w A cap bd) (h0 : Below w0.heap.size w0 w) :
    Calls Try.prog 26 #[.agg #[.slice Ak nk ck, .slice Am mk.length cm, .slice Af fn.length cf], .agg #[.int .i64 2, .int .i64 n, .slice A' ys.length cap'], .slice A bd.length cap] w fun r w' => r = .returned (.bool (fitsB mk fn (.mk 2 n ys) bd)) ∧ Below w.heap.size w w' := by
  have HIH := Lib.hid ih
  have HSs := Lib.hid hs
  have HMk := Lib.hid hmk
  have HFn := Lib.hid hfn
  have HBd := Lib.hid hbd
  have hd1 := hd.1
  have hd2 := hd.2.1
  have hd3 := hd.2.2.1
  have hb1 := hbd.2.1
  have hb2 := hbd.2.2.1
  clear ih hs hmk hfn hbd hd
  go_enter Try.func26, Try.ntmps26
  go_upto_region 1 with fail
  have bp0 := heap_alloc_new w (.cells #[.slice Ak nk ck, .slice Am mk.length cm, .slice Af fn.length cf] 26)
  have be := heap_alloc_new (w.alloc (.cells #[.slice Ak nk ck, .slice Am mk.length cm, .slice Af fn.length cf] 26)) (.cells #[.int .i64 2, .int .i64 n, .slice A' ys.length cap'] 29)
  have bp := (Below.heap_alloc _ (.cells #[.int .i64 2, .int .i64 n, .slice A' ys.length cap'] 29) w.heap.size (by simp)).trans bp0
  rw [World.size_alloc] at be
  have hWV : Below w.heap.size w ((w.alloc (.cells #[.slice Ak nk ck, .slice Am mk.length cm, .slice Af fn.length cf] 26)).alloc (.cells #[.int .i64 2, .int .i64 n, .slice A' ys.length cap'] 29)) := (below1N w _).alloc (by simp) _
  generalize (w.alloc (.cells #[.slice Ak nk ck, .slice Am mk.length cm, .slice Af fn.length cf] 26)).alloc (.cells #[.int .i64 2, .int .i64 n, .slice A' ys.length cap'] 29) = V at *
  have hpl := (Array.getElem?_eq_some_iff.1 bp).1
  have hel := (Array.getElem?_eq_some_iff.1 be).1
  have HP := fun (y : World) (hy : Below V.heap.size V y) => Lib.hid (two_cells bp hy)
  have HE := fun (y : World) (hy : Below V.heap.size V y) => Lib.hid (two_cells be hy)
  have h0V := h0.trans (hWV.mono h0.size)
  obtain ⟨p0, p1, p2⟩ := (HP V (Below.refl _ _)).out
  obtain ⟨e0, e1, e2⟩ := (HE V (Below.refl _ _)).out
  have HWV := Lib.hid hWV
  have HH0 := Lib.hid h0V
  clear bp0 bp be hWV
  by_cases hn0 : 0 ≤ n
  · by_cases hn1 : n < (mk.length : Int)
    · obtain ⟨j0, rfl⟩ : ∃ j : Nat, n = j := ⟨n.toNat, by omega⟩
      have hj0 : j0 < mk.length := by omega
      obtain ⟨bm, om, hA, hbl, hcm⟩ := HMk.out j0 hj0
      subst hA
      have x1 := (HH0.out.cell (p := ⟨bm, _, none⟩) hbl).trans hcm
      have hgd : mk.getD j0 0 = mk[j0] := by simp [List.getD, List.getElem?_eq_getElem hj0]
      clear hcm
      by_cases hm : mk[j0] = (ys.length : Int)
      · have HHD : Hid ((partsB mk fn 2 (j0 : Int) ys.length && (!decide ((2 : Int) = 1) || inB bd (j0 : Int))) = true) := Lib.hid (by simp [partsB, hj0, ← hm])
        rw [hm] at x1
        clear hm hgd
        have HF := Lib.hid (fits_mk (mk := mk) (fn := fn) (k := 2) (n := (j0 : Int)) (ys := ys) (bd := bd) (h := true) HHD.out)
        clear HHD
        go_upto_region 24 with fail
        go_wp2_with fail
        go_loopw [8, 177] (fun x i wr => ∃ (j : Nat) (c : Bool), i = .int .i64 j ∧ x = .bool c ∧ j ≤ ys.length ∧ Hid (c = (true && fitsBs mk fn 2 (j0 : Int) (ys.take j) 0 bd)) ∧ Hid (Below V.heap.size V wr)) (fun _ i _ => ys.length - (intOf i).toNat)
        case atStart => exact ⟨0, true, rfl, by trivial, Nat.zero_le _, Lib.hid (by rw [List.take_zero, fitsBs, Bool.and_true]), Lib.hid (Below.refl _ _)⟩
        case round =>
          obtain ⟨j, c, rfl, rfl, hj, hc, hbb⟩ := hrel
          have hbV := hbb.out.size
          have hb0 := HH0.out.trans (hbb.out.mono HH0.out.size)
          by_cases hlt : j < ys.length
          · obtain ⟨b, o, rfl, hat⟩ := HSs.out.get j hlt
            have hszj := CoSize_get hlt
            have HT := fitsBs_take (mk := mk) (fn := fn) (k := 2) (n := (j0 : Int)) (bd := bd) 0 hlt
            rw [Nat.zero_add, show around 2 (j0 : Int) j bd = bd by unfold around; rw [if_neg (by omega)]] at HT
            have HIx := fun (o : Obj) (v : Value) (hv : (ys[j]).Val w0 v) => Lib.hid (HIH.out ys[j] bd (wr.alloc o) v A cap (by omega) (by omega) hv (((HBd.out.below HWV.out (Nat.le_refl _)).below hbb.out (Nat.le_refl _)).below (below1N wr o) (Nat.le_refl _)) (hb0.alloc hb0.size o))
            obtain ⟨p0, p1, p2⟩ := (HP wr hbb.out).out
            have q0 := fun O => (World.cell?_alloc_lt wr O ⟨w.heap.size, 0, none⟩ (Nat.lt_of_lt_of_le hpl hbV)).trans p0
            have q1 := fun O => (World.cell?_alloc_lt wr O ⟨w.heap.size, 1, none⟩ (Nat.lt_of_lt_of_le hpl hbV)).trans p1
            have q2 := fun O => (World.cell?_alloc_lt wr O ⟨w.heap.size, 2, none⟩ (Nat.lt_of_lt_of_le hpl hbV)).trans p2
            generalize ys[j] = y at *
            cases y with
            | mk k2 n2 ys2 =>
            obtain ⟨A3, cap3, d0, d1, d2, hv2⟩ := Co.At.both hat hb0 (Nat.le_refl _)
            have HI2 := fun o => HIx o _ hv2
            clear HIx hat
            generalize fitsB mk fn (.mk k2 n2 ys2) bd = f2 at *
            have HTT := Lib.hid HT
            clear HT p0 p1 p2 e0 e1 e2
            cases c
            · have HN : Hid (false = (true && fitsBs mk fn 2 (j0 : Int) (ys.take (j + 1)) 0 bd)) := Lib.hid (by rw [HTT.out, ← Bool.and_assoc, ← hc.out]; rfl)
              clear HI2 HTT
              go_wp2_with fail
              exact ⟨⟨j + 1, false, by go_num, by trivial, by omega, HN, Lib.hid (hbb.out.alloc hbV _)⟩, by simp [intOf]; omega⟩
            · have HN : Hid (f2 = (true && fitsBs mk fn 2 (j0 : Int) (ys.take (j + 1)) 0 bd)) := Lib.hid (by rw [HTT.out, ← Bool.and_assoc, ← hc.out]; rfl)
              clear HTT
              go_wp2_with (go_at_call 26; refine (HI2 _).out.mono ?_; rintro _ z1 ⟨rfl, g1⟩)
              exact ⟨⟨j + 1, f2, by go_num, by trivial, by omega, HN, Lib.hid (hbb.out.thenCall hbV (Below.call1 g1))⟩, by simp [intOf]; omega⟩
          · have HR : Hid (fitsB mk fn (.mk 2 (j0 : Int) ys) bd = c) := Lib.hid (by
              have h := hc.out
              rw [List.take_of_length_le (by omega)] at h
              rw [HF.out, ← h])
            clear e0 e1 e2
            go_wp2_with fail
            go_ret
            exact ⟨by rw [HR.out]; try rfl, HWV.out.thenCall HWV.out.size hbb.out⟩
      · have HHD : Hid ((partsB mk fn 2 (j0 : Int) ys.length && (!decide ((2 : Int) = 1) || inB bd (j0 : Int))) = false) := Lib.hid (by simp [partsB, hj0]; exact fun h => hm h.symm)
        have hm2 : (mk[j0] == (ys.length : Int)) = false := by simpa using hm
        generalize mk[j0] = xj at *
        have HF := Lib.hid (fits_mk (mk := mk) (fn := fn) (k := 2) (n := (j0 : Int)) (ys := ys) (bd := bd) (h := false) HHD.out)
        clear HHD
        go_upto_region 24 with fail
        go_wp2_with fail
        go_loopw [8, 177] (fun x i wr => ∃ (j : Nat) (c : Bool), i = .int .i64 j ∧ x = .bool c ∧ j ≤ ys.length ∧ Hid (c = (false && fitsBs mk fn 2 (j0 : Int) (ys.take j) 0 bd)) ∧ Hid (Below V.heap.size V wr)) (fun _ i _ => ys.length - (intOf i).toNat)
        case atStart => exact ⟨0, false, rfl, by trivial, Nat.zero_le _, Lib.hid (by rw [List.take_zero, fitsBs, Bool.and_true]), Lib.hid (Below.refl _ _)⟩
        case round =>
          obtain ⟨j, c, rfl, rfl, hj, hc, hbb⟩ := hrel
          have hbV := hbb.out.size
          have hb0 := HH0.out.trans (hbb.out.mono HH0.out.size)
          by_cases hlt : j < ys.length
          · obtain ⟨b, o, rfl, hat⟩ := HSs.out.get j hlt
            have hszj := CoSize_get hlt
            have HT := fitsBs_take (mk := mk) (fn := fn) (k := 2) (n := (j0 : Int)) (bd := bd) 0 hlt
            rw [Nat.zero_add, show around 2 (j0 : Int) j bd = bd by unfold around; rw [if_neg (by omega)]] at HT
            have HIx := fun (o : Obj) (v : Value) (hv : (ys[j]).Val w0 v) => Lib.hid (HIH.out ys[j] bd (wr.alloc o) v A cap (by omega) (by omega) hv (((HBd.out.below HWV.out (Nat.le_refl _)).below hbb.out (Nat.le_refl _)).below (below1N wr o) (Nat.le_refl _)) (hb0.alloc hb0.size o))
            obtain ⟨p0, p1, p2⟩ := (HP wr hbb.out).out
            have q0 := fun O => (World.cell?_alloc_lt wr O ⟨w.heap.size, 0, none⟩ (Nat.lt_of_lt_of_le hpl hbV)).trans p0
            have q1 := fun O => (World.cell?_alloc_lt wr O ⟨w.heap.size, 1, none⟩ (Nat.lt_of_lt_of_le hpl hbV)).trans p1
            have q2 := fun O => (World.cell?_alloc_lt wr O ⟨w.heap.size, 2, none⟩ (Nat.lt_of_lt_of_le hpl hbV)).trans p2
            generalize ys[j] = y at *
            cases y with
            | mk k2 n2 ys2 =>
            obtain ⟨A3, cap3, d0, d1, d2, hv2⟩ := Co.At.both hat hb0 (Nat.le_refl _)
            have HI2 := fun o => HIx o _ hv2
            clear HIx hat
            generalize fitsB mk fn (.mk k2 n2 ys2) bd = f2 at *
            have HTT := Lib.hid HT
            clear HT p0 p1 p2 e0 e1 e2
            cases c
            · have HN : Hid (false = (false && fitsBs mk fn 2 (j0 : Int) (ys.take (j + 1)) 0 bd)) := Lib.hid (by rw [HTT.out, ← Bool.and_assoc, ← hc.out]; rfl)
              clear HI2 HTT
              go_wp2_with fail
              exact ⟨⟨j + 1, false, by go_num, by trivial, by omega, HN, Lib.hid (hbb.out.alloc hbV _)⟩, by simp [intOf]; omega⟩
            · exact absurd hc.out (by simp)
          · have HR : Hid (fitsB mk fn (.mk 2 (j0 : Int) ys) bd = c) := Lib.hid (by
              have h := hc.out
              rw [List.take_of_length_le (by omega)] at h
              rw [HF.out, ← h])
            clear e0 e1 e2
            go_wp2_with fail
            go_ret
            exact ⟨by rw [HR.out]; try rfl, HWV.out.thenCall HWV.out.size hbb.out⟩
    · have HHD : Hid ((partsB mk fn 2 n ys.length && (!decide ((2 : Int) = 1) || inB bd n)) = false) := Lib.hid (by simp [partsB, hn1])
      have HF := Lib.hid (fits_mk (mk := mk) (fn := fn) (k := 2) (n := n) (ys := ys) (bd := bd) (h := false) HHD.out)
      clear HHD
      go_upto_region 24 with fail
      go_wp2_with fail
      go_loopw [8, 177] (fun x i wr => ∃ (j : Nat) (c : Bool), i = .int .i64 j ∧ x = .bool c ∧ j ≤ ys.length ∧ Hid (c = (false && fitsBs mk fn 2 n (ys.take j) 0 bd)) ∧ Hid (Below V.heap.size V wr)) (fun _ i _ => ys.length - (intOf i).toNat)
      case atStart => exact ⟨0, false, rfl, by trivial, Nat.zero_le _, Lib.hid (by rw [List.take_zero, fitsBs, Bool.and_true]), Lib.hid (Below.refl _ _)⟩
      case round =>
        obtain ⟨j, c, rfl, rfl, hj, hc, hbb⟩ := hrel
        have hbV := hbb.out.size
        have hb0 := HH0.out.trans (hbb.out.mono HH0.out.size)
        by_cases hlt : j < ys.length
        · obtain ⟨b, o, rfl, hat⟩ := HSs.out.get j hlt
          have hszj := CoSize_get hlt
          have HT := fitsBs_take (mk := mk) (fn := fn) (k := 2) (n := n) (bd := bd) 0 hlt
          rw [Nat.zero_add, show around 2 n j bd = bd by unfold around; rw [if_neg (by omega)]] at HT
          have HIx := fun (o : Obj) (v : Value) (hv : (ys[j]).Val w0 v) => Lib.hid (HIH.out ys[j] bd (wr.alloc o) v A cap (by omega) (by omega) hv (((HBd.out.below HWV.out (Nat.le_refl _)).below hbb.out (Nat.le_refl _)).below (below1N wr o) (Nat.le_refl _)) (hb0.alloc hb0.size o))
          obtain ⟨p0, p1, p2⟩ := (HP wr hbb.out).out
          have q0 := fun O => (World.cell?_alloc_lt wr O ⟨w.heap.size, 0, none⟩ (Nat.lt_of_lt_of_le hpl hbV)).trans p0
          have q1 := fun O => (World.cell?_alloc_lt wr O ⟨w.heap.size, 1, none⟩ (Nat.lt_of_lt_of_le hpl hbV)).trans p1
          have q2 := fun O => (World.cell?_alloc_lt wr O ⟨w.heap.size, 2, none⟩ (Nat.lt_of_lt_of_le hpl hbV)).trans p2
          generalize ys[j] = y at *
          cases y with
          | mk k2 n2 ys2 =>
          obtain ⟨A3, cap3, d0, d1, d2, hv2⟩ := Co.At.both hat hb0 (Nat.le_refl _)
          have HI2 := fun o => HIx o _ hv2
          clear HIx hat
          generalize fitsB mk fn (.mk k2 n2 ys2) bd = f2 at *
          have HTT := Lib.hid HT
          clear HT p0 p1 p2 e0 e1 e2
          cases c
          · have HN : Hid (false = (false && fitsBs mk fn 2 n (ys.take (j + 1)) 0 bd)) := Lib.hid (by rw [HTT.out, ← Bool.and_assoc, ← hc.out]; rfl)
            clear HI2 HTT
            go_wp2_with fail
            exact ⟨⟨j + 1, false, by go_num, by trivial, by omega, HN, Lib.hid (hbb.out.alloc hbV _)⟩, by simp [intOf]; omega⟩
          · exact absurd hc.out (by simp)
        · have HR : Hid (fitsB mk fn (.mk 2 n ys) bd = c) := Lib.hid (by
            have h := hc.out
            rw [List.take_of_length_le (by omega)] at h
            rw [HF.out, ← h])
          clear e0 e1 e2
          go_wp2_with fail
          go_ret
          exact ⟨by rw [HR.out]; try rfl, HWV.out.thenCall HWV.out.size hbb.out⟩
  · have HHD : Hid ((partsB mk fn 2 n ys.length && (!decide ((2 : Int) = 1) || inB bd n)) = false) := Lib.hid (by simp [partsB, hn0])
    have HF := Lib.hid (fits_mk (mk := mk) (fn := fn) (k := 2) (n := n) (ys := ys) (bd := bd) (h := false) HHD.out)
    clear HHD
    go_upto_region 24 with fail
    go_wp2_with fail
    go_loopw [8, 177] (fun x i wr => ∃ (j : Nat) (c : Bool), i = .int .i64 j ∧ x = .bool c ∧ j ≤ ys.length ∧ Hid (c = (false && fitsBs mk fn 2 n (ys.take j) 0 bd)) ∧ Hid (Below V.heap.size V wr)) (fun _ i _ => ys.length - (intOf i).toNat)
    case atStart => exact ⟨0, false, rfl, by trivial, Nat.zero_le _, Lib.hid (by rw [List.take_zero, fitsBs, Bool.and_true]), Lib.hid (Below.refl _ _)⟩
    case round =>
      obtain ⟨j, c, rfl, rfl, hj, hc, hbb⟩ := hrel
      have hbV := hbb.out.size
      have hb0 := HH0.out.trans (hbb.out.mono HH0.out.size)
      by_cases hlt : j < ys.length
      · obtain ⟨b, o, rfl, hat⟩ := HSs.out.get j hlt
        have hszj := CoSize_get hlt
        have HT := fitsBs_take (mk := mk) (fn := fn) (k := 2) (n := n) (bd := bd) 0 hlt
        rw [Nat.zero_add, show around 2 n j bd = bd by unfold around; rw [if_neg (by omega)]] at HT
        have HIx := fun (o : Obj) (v : Value) (hv : (ys[j]).Val w0 v) => Lib.hid (HIH.out ys[j] bd (wr.alloc o) v A cap (by omega) (by omega) hv (((HBd.out.below HWV.out (Nat.le_refl _)).below hbb.out (Nat.le_refl _)).below (below1N wr o) (Nat.le_refl _)) (hb0.alloc hb0.size o))
        obtain ⟨p0, p1, p2⟩ := (HP wr hbb.out).out
        have q0 := fun O => (World.cell?_alloc_lt wr O ⟨w.heap.size, 0, none⟩ (Nat.lt_of_lt_of_le hpl hbV)).trans p0
        have q1 := fun O => (World.cell?_alloc_lt wr O ⟨w.heap.size, 1, none⟩ (Nat.lt_of_lt_of_le hpl hbV)).trans p1
        have q2 := fun O => (World.cell?_alloc_lt wr O ⟨w.heap.size, 2, none⟩ (Nat.lt_of_lt_of_le hpl hbV)).trans p2
        generalize ys[j] = y at *
        cases y with
        | mk k2 n2 ys2 =>
        obtain ⟨A3, cap3, d0, d1, d2, hv2⟩ := Co.At.both hat hb0 (Nat.le_refl _)
        have HI2 := fun o => HIx o _ hv2
        clear HIx hat
        generalize fitsB mk fn (.mk k2 n2 ys2) bd = f2 at *
        have HTT := Lib.hid HT
        clear HT p0 p1 p2 e0 e1 e2
        cases c
        · have HN : Hid (false = (false && fitsBs mk fn 2 n (ys.take (j + 1)) 0 bd)) := Lib.hid (by rw [HTT.out, ← Bool.and_assoc, ← hc.out]; rfl)
          clear HI2 HTT
          go_wp2_with fail
          exact ⟨⟨j + 1, false, by go_num, by trivial, by omega, HN, Lib.hid (hbb.out.alloc hbV _)⟩, by simp [intOf]; omega⟩
        · exact absurd hc.out (by simp)
      · have HR : Hid (fitsB mk fn (.mk 2 n ys) bd = c) := Lib.hid (by
          have h := hc.out
          rw [List.take_of_length_le (by omega)] at h
          rw [HF.out, ← h])
        clear e0 e1 e2
        go_wp2_with fail
        go_ret
        exact ⟨by rw [HR.out]; try rfl, HWV.out.thenCall HWV.out.size hbb.out⟩
set_option maxRecDepth 100000 in
set_option maxHeartbeats 8000000 in
theorem law26_3 (N : Nat) (w0 : World) (mk fn : List Int) (Ak Am Af : Option Addr) (nk ck cm cf : Nat) (hmk : NumAt w0 4 Am mk) (hfn : NumAt w0 7 Af fn) (hl1 : mk.length ≤ 4194304) (hl2 : fn.length ≤ 4194304)
    (ih : Law26 N w0 mk fn (.agg #[.slice Ak nk ck, .slice Am mk.length cm, .slice Af fn.length cf])) (n : Int) (ys : List Co) (bd : List Int) (w : World) (A' A : Option Addr) (cap' cap : Nat) (hN : CoSize ys ≤ N) (hsz : bd.length + (CoSize ys + 1) ≤ 4194304) (hd : CoHd A' ys.length cap') (hs : Cos w0 A' ys) (hbd : InSl w A cap bd) (h0 : Below w0.heap.size w0 w) :
    Calls Try.prog 26 #[.agg #[.slice Ak nk ck, .slice Am mk.length cm, .slice Af fn.length cf], .agg #[.int .i64 3, .int .i64 n, .slice A' ys.length cap'], .slice A bd.length cap] w fun r w' => r = .returned (.bool (fitsB mk fn (.mk 3 n ys) bd)) ∧ Below w.heap.size w w' := by
  have HIH := Lib.hid ih
  have HSs := Lib.hid hs
  have HMk := Lib.hid hmk
  have HFn := Lib.hid hfn
  have HBd := Lib.hid hbd
  have hd1 := hd.1
  have hd2 := hd.2.1
  have hd3 := hd.2.2.1
  have hb1 := hbd.2.1
  have hb2 := hbd.2.2.1
  clear ih hs hmk hfn hbd hd
  go_enter Try.func26, Try.ntmps26
  go_upto_region 1 with fail
  have bp0 := heap_alloc_new w (.cells #[.slice Ak nk ck, .slice Am mk.length cm, .slice Af fn.length cf] 26)
  have be := heap_alloc_new (w.alloc (.cells #[.slice Ak nk ck, .slice Am mk.length cm, .slice Af fn.length cf] 26)) (.cells #[.int .i64 3, .int .i64 n, .slice A' ys.length cap'] 29)
  have bp := (Below.heap_alloc _ (.cells #[.int .i64 3, .int .i64 n, .slice A' ys.length cap'] 29) w.heap.size (by simp)).trans bp0
  rw [World.size_alloc] at be
  have hWV : Below w.heap.size w ((w.alloc (.cells #[.slice Ak nk ck, .slice Am mk.length cm, .slice Af fn.length cf] 26)).alloc (.cells #[.int .i64 3, .int .i64 n, .slice A' ys.length cap'] 29)) := (below1N w _).alloc (by simp) _
  generalize (w.alloc (.cells #[.slice Ak nk ck, .slice Am mk.length cm, .slice Af fn.length cf] 26)).alloc (.cells #[.int .i64 3, .int .i64 n, .slice A' ys.length cap'] 29) = V at *
  have hpl := (Array.getElem?_eq_some_iff.1 bp).1
  have hel := (Array.getElem?_eq_some_iff.1 be).1
  have HP := fun (y : World) (hy : Below V.heap.size V y) => Lib.hid (two_cells bp hy)
  have HE := fun (y : World) (hy : Below V.heap.size V y) => Lib.hid (two_cells be hy)
  have h0V := h0.trans (hWV.mono h0.size)
  obtain ⟨p0, p1, p2⟩ := (HP V (Below.refl _ _)).out
  obtain ⟨e0, e1, e2⟩ := (HE V (Below.refl _ _)).out
  have HWV := Lib.hid hWV
  have HH0 := Lib.hid h0V
  clear bp0 bp be hWV
  by_cases hn0 : 0 ≤ n
  · by_cases hn1 : n < (fn.length : Int)
    · obtain ⟨j0, rfl⟩ : ∃ j : Nat, n = j := ⟨n.toNat, by omega⟩
      have hj0 : j0 < fn.length := by omega
      obtain ⟨bm, om, hA, hbl, hcm⟩ := HFn.out j0 hj0
      subst hA
      have x1 := (HH0.out.cell (p := ⟨bm, _, none⟩) hbl).trans hcm
      have hgd : fn.getD j0 0 = fn[j0] := by simp [List.getD, List.getElem?_eq_getElem hj0]
      clear hcm
      by_cases hm : fn[j0] = (ys.length : Int)
      · have HHD : Hid ((partsB mk fn 3 (j0 : Int) ys.length && (!decide ((3 : Int) = 1) || inB bd (j0 : Int))) = true) := Lib.hid (by simp [partsB, hj0, ← hm])
        rw [hm] at x1
        clear hm hgd
        have HF := Lib.hid (fits_mk (mk := mk) (fn := fn) (k := 3) (n := (j0 : Int)) (ys := ys) (bd := bd) (h := true) HHD.out)
        clear HHD
        go_upto_region 24 with fail
        go_wp2_with fail
        go_loopw [8, 177] (fun x i wr => ∃ (j : Nat) (c : Bool), i = .int .i64 j ∧ x = .bool c ∧ j ≤ ys.length ∧ Hid (c = (true && fitsBs mk fn 3 (j0 : Int) (ys.take j) 0 bd)) ∧ Hid (Below V.heap.size V wr)) (fun _ i _ => ys.length - (intOf i).toNat)
        case atStart => exact ⟨0, true, rfl, by trivial, Nat.zero_le _, Lib.hid (by rw [List.take_zero, fitsBs, Bool.and_true]), Lib.hid (Below.refl _ _)⟩
        case round =>
          obtain ⟨j, c, rfl, rfl, hj, hc, hbb⟩ := hrel
          have hbV := hbb.out.size
          have hb0 := HH0.out.trans (hbb.out.mono HH0.out.size)
          by_cases hlt : j < ys.length
          · obtain ⟨b, o, rfl, hat⟩ := HSs.out.get j hlt
            have hszj := CoSize_get hlt
            have HT := fitsBs_take (mk := mk) (fn := fn) (k := 3) (n := (j0 : Int)) (bd := bd) 0 hlt
            rw [Nat.zero_add, show around 3 (j0 : Int) j bd = bd by unfold around; rw [if_neg (by omega)]] at HT
            have HIx := fun (o : Obj) (v : Value) (hv : (ys[j]).Val w0 v) => Lib.hid (HIH.out ys[j] bd (wr.alloc o) v A cap (by omega) (by omega) hv (((HBd.out.below HWV.out (Nat.le_refl _)).below hbb.out (Nat.le_refl _)).below (below1N wr o) (Nat.le_refl _)) (hb0.alloc hb0.size o))
            obtain ⟨p0, p1, p2⟩ := (HP wr hbb.out).out
            have q0 := fun O => (World.cell?_alloc_lt wr O ⟨w.heap.size, 0, none⟩ (Nat.lt_of_lt_of_le hpl hbV)).trans p0
            have q1 := fun O => (World.cell?_alloc_lt wr O ⟨w.heap.size, 1, none⟩ (Nat.lt_of_lt_of_le hpl hbV)).trans p1
            have q2 := fun O => (World.cell?_alloc_lt wr O ⟨w.heap.size, 2, none⟩ (Nat.lt_of_lt_of_le hpl hbV)).trans p2
            generalize ys[j] = y at *
            cases y with
            | mk k2 n2 ys2 =>
            obtain ⟨A3, cap3, d0, d1, d2, hv2⟩ := Co.At.both hat hb0 (Nat.le_refl _)
            have HI2 := fun o => HIx o _ hv2
            clear HIx hat
            generalize fitsB mk fn (.mk k2 n2 ys2) bd = f2 at *
            have HTT := Lib.hid HT
            clear HT p0 p1 p2 e0 e1 e2
            cases c
            · have HN : Hid (false = (true && fitsBs mk fn 3 (j0 : Int) (ys.take (j + 1)) 0 bd)) := Lib.hid (by rw [HTT.out, ← Bool.and_assoc, ← hc.out]; rfl)
              clear HI2 HTT
              go_wp2_with fail
              exact ⟨⟨j + 1, false, by go_num, by trivial, by omega, HN, Lib.hid (hbb.out.alloc hbV _)⟩, by simp [intOf]; omega⟩
            · have HN : Hid (f2 = (true && fitsBs mk fn 3 (j0 : Int) (ys.take (j + 1)) 0 bd)) := Lib.hid (by rw [HTT.out, ← Bool.and_assoc, ← hc.out]; rfl)
              clear HTT
              go_wp2_with (go_at_call 26; refine (HI2 _).out.mono ?_; rintro _ z1 ⟨rfl, g1⟩)
              exact ⟨⟨j + 1, f2, by go_num, by trivial, by omega, HN, Lib.hid (hbb.out.thenCall hbV (Below.call1 g1))⟩, by simp [intOf]; omega⟩
          · have HR : Hid (fitsB mk fn (.mk 3 (j0 : Int) ys) bd = c) := Lib.hid (by
              have h := hc.out
              rw [List.take_of_length_le (by omega)] at h
              rw [HF.out, ← h])
            clear e0 e1 e2
            go_wp2_with fail
            go_ret
            exact ⟨by rw [HR.out]; try rfl, HWV.out.thenCall HWV.out.size hbb.out⟩
      · have HHD : Hid ((partsB mk fn 3 (j0 : Int) ys.length && (!decide ((3 : Int) = 1) || inB bd (j0 : Int))) = false) := Lib.hid (by simp [partsB, hj0]; exact fun h => hm h.symm)
        have hm2 : (fn[j0] == (ys.length : Int)) = false := by simpa using hm
        generalize fn[j0] = xj at *
        have HF := Lib.hid (fits_mk (mk := mk) (fn := fn) (k := 3) (n := (j0 : Int)) (ys := ys) (bd := bd) (h := false) HHD.out)
        clear HHD
        go_upto_region 24 with fail
        go_wp2_with fail
        go_loopw [8, 177] (fun x i wr => ∃ (j : Nat) (c : Bool), i = .int .i64 j ∧ x = .bool c ∧ j ≤ ys.length ∧ Hid (c = (false && fitsBs mk fn 3 (j0 : Int) (ys.take j) 0 bd)) ∧ Hid (Below V.heap.size V wr)) (fun _ i _ => ys.length - (intOf i).toNat)
        case atStart => exact ⟨0, false, rfl, by trivial, Nat.zero_le _, Lib.hid (by rw [List.take_zero, fitsBs, Bool.and_true]), Lib.hid (Below.refl _ _)⟩
        case round =>
          obtain ⟨j, c, rfl, rfl, hj, hc, hbb⟩ := hrel
          have hbV := hbb.out.size
          have hb0 := HH0.out.trans (hbb.out.mono HH0.out.size)
          by_cases hlt : j < ys.length
          · obtain ⟨b, o, rfl, hat⟩ := HSs.out.get j hlt
            have hszj := CoSize_get hlt
            have HT := fitsBs_take (mk := mk) (fn := fn) (k := 3) (n := (j0 : Int)) (bd := bd) 0 hlt
            rw [Nat.zero_add, show around 3 (j0 : Int) j bd = bd by unfold around; rw [if_neg (by omega)]] at HT
            have HIx := fun (o : Obj) (v : Value) (hv : (ys[j]).Val w0 v) => Lib.hid (HIH.out ys[j] bd (wr.alloc o) v A cap (by omega) (by omega) hv (((HBd.out.below HWV.out (Nat.le_refl _)).below hbb.out (Nat.le_refl _)).below (below1N wr o) (Nat.le_refl _)) (hb0.alloc hb0.size o))
            obtain ⟨p0, p1, p2⟩ := (HP wr hbb.out).out
            have q0 := fun O => (World.cell?_alloc_lt wr O ⟨w.heap.size, 0, none⟩ (Nat.lt_of_lt_of_le hpl hbV)).trans p0
            have q1 := fun O => (World.cell?_alloc_lt wr O ⟨w.heap.size, 1, none⟩ (Nat.lt_of_lt_of_le hpl hbV)).trans p1
            have q2 := fun O => (World.cell?_alloc_lt wr O ⟨w.heap.size, 2, none⟩ (Nat.lt_of_lt_of_le hpl hbV)).trans p2
            generalize ys[j] = y at *
            cases y with
            | mk k2 n2 ys2 =>
            obtain ⟨A3, cap3, d0, d1, d2, hv2⟩ := Co.At.both hat hb0 (Nat.le_refl _)
            have HI2 := fun o => HIx o _ hv2
            clear HIx hat
            generalize fitsB mk fn (.mk k2 n2 ys2) bd = f2 at *
            have HTT := Lib.hid HT
            clear HT p0 p1 p2 e0 e1 e2
            cases c
            · have HN : Hid (false = (false && fitsBs mk fn 3 (j0 : Int) (ys.take (j + 1)) 0 bd)) := Lib.hid (by rw [HTT.out, ← Bool.and_assoc, ← hc.out]; rfl)
              clear HI2 HTT
              go_wp2_with fail
              exact ⟨⟨j + 1, false, by go_num, by trivial, by omega, HN, Lib.hid (hbb.out.alloc hbV _)⟩, by simp [intOf]; omega⟩
            · exact absurd hc.out (by simp)
          · have HR : Hid (fitsB mk fn (.mk 3 (j0 : Int) ys) bd = c) := Lib.hid (by
              have h := hc.out
              rw [List.take_of_length_le (by omega)] at h
              rw [HF.out, ← h])
            clear e0 e1 e2
            go_wp2_with fail
            go_ret
            exact ⟨by rw [HR.out]; try rfl, HWV.out.thenCall HWV.out.size hbb.out⟩
    · have HHD : Hid ((partsB mk fn 3 n ys.length && (!decide ((3 : Int) = 1) || inB bd n)) = false) := Lib.hid (by simp [partsB, hn1])
      have HF := Lib.hid (fits_mk (mk := mk) (fn := fn) (k := 3) (n := n) (ys := ys) (bd := bd) (h := false) HHD.out)
      clear HHD
      go_upto_region 24 with fail
      go_wp2_with fail
      go_loopw [8, 177] (fun x i wr => ∃ (j : Nat) (c : Bool), i = .int .i64 j ∧ x = .bool c ∧ j ≤ ys.length ∧ Hid (c = (false && fitsBs mk fn 3 n (ys.take j) 0 bd)) ∧ Hid (Below V.heap.size V wr)) (fun _ i _ => ys.length - (intOf i).toNat)
      case atStart => exact ⟨0, false, rfl, by trivial, Nat.zero_le _, Lib.hid (by rw [List.take_zero, fitsBs, Bool.and_true]), Lib.hid (Below.refl _ _)⟩
      case round =>
        obtain ⟨j, c, rfl, rfl, hj, hc, hbb⟩ := hrel
        have hbV := hbb.out.size
        have hb0 := HH0.out.trans (hbb.out.mono HH0.out.size)
        by_cases hlt : j < ys.length
        · obtain ⟨b, o, rfl, hat⟩ := HSs.out.get j hlt
          have hszj := CoSize_get hlt
          have HT := fitsBs_take (mk := mk) (fn := fn) (k := 3) (n := n) (bd := bd) 0 hlt
          rw [Nat.zero_add, show around 3 n j bd = bd by unfold around; rw [if_neg (by omega)]] at HT
          have HIx := fun (o : Obj) (v : Value) (hv : (ys[j]).Val w0 v) => Lib.hid (HIH.out ys[j] bd (wr.alloc o) v A cap (by omega) (by omega) hv (((HBd.out.below HWV.out (Nat.le_refl _)).below hbb.out (Nat.le_refl _)).below (below1N wr o) (Nat.le_refl _)) (hb0.alloc hb0.size o))
          obtain ⟨p0, p1, p2⟩ := (HP wr hbb.out).out
          have q0 := fun O => (World.cell?_alloc_lt wr O ⟨w.heap.size, 0, none⟩ (Nat.lt_of_lt_of_le hpl hbV)).trans p0
          have q1 := fun O => (World.cell?_alloc_lt wr O ⟨w.heap.size, 1, none⟩ (Nat.lt_of_lt_of_le hpl hbV)).trans p1
          have q2 := fun O => (World.cell?_alloc_lt wr O ⟨w.heap.size, 2, none⟩ (Nat.lt_of_lt_of_le hpl hbV)).trans p2
          generalize ys[j] = y at *
          cases y with
          | mk k2 n2 ys2 =>
          obtain ⟨A3, cap3, d0, d1, d2, hv2⟩ := Co.At.both hat hb0 (Nat.le_refl _)
          have HI2 := fun o => HIx o _ hv2
          clear HIx hat
          generalize fitsB mk fn (.mk k2 n2 ys2) bd = f2 at *
          have HTT := Lib.hid HT
          clear HT p0 p1 p2 e0 e1 e2
          cases c
          · have HN : Hid (false = (false && fitsBs mk fn 3 n (ys.take (j + 1)) 0 bd)) := Lib.hid (by rw [HTT.out, ← Bool.and_assoc, ← hc.out]; rfl)
            clear HI2 HTT
            go_wp2_with fail
            exact ⟨⟨j + 1, false, by go_num, by trivial, by omega, HN, Lib.hid (hbb.out.alloc hbV _)⟩, by simp [intOf]; omega⟩
          · exact absurd hc.out (by simp)
        · have HR : Hid (fitsB mk fn (.mk 3 n ys) bd = c) := Lib.hid (by
            have h := hc.out
            rw [List.take_of_length_le (by omega)] at h
            rw [HF.out, ← h])
          clear e0 e1 e2
          go_wp2_with fail
          go_ret
          exact ⟨by rw [HR.out]; try rfl, HWV.out.thenCall HWV.out.size hbb.out⟩
  · have HHD : Hid ((partsB mk fn 3 n ys.length && (!decide ((3 : Int) = 1) || inB bd n)) = false) := Lib.hid (by simp [partsB, hn0])
    have HF := Lib.hid (fits_mk (mk := mk) (fn := fn) (k := 3) (n := n) (ys := ys) (bd := bd) (h := false) HHD.out)
    clear HHD
    go_upto_region 24 with fail
    go_wp2_with fail
    go_loopw [8, 177] (fun x i wr => ∃ (j : Nat) (c : Bool), i = .int .i64 j ∧ x = .bool c ∧ j ≤ ys.length ∧ Hid (c = (false && fitsBs mk fn 3 n (ys.take j) 0 bd)) ∧ Hid (Below V.heap.size V wr)) (fun _ i _ => ys.length - (intOf i).toNat)
    case atStart => exact ⟨0, false, rfl, by trivial, Nat.zero_le _, Lib.hid (by rw [List.take_zero, fitsBs, Bool.and_true]), Lib.hid (Below.refl _ _)⟩
    case round =>
      obtain ⟨j, c, rfl, rfl, hj, hc, hbb⟩ := hrel
      have hbV := hbb.out.size
      have hb0 := HH0.out.trans (hbb.out.mono HH0.out.size)
      by_cases hlt : j < ys.length
      · obtain ⟨b, o, rfl, hat⟩ := HSs.out.get j hlt
        have hszj := CoSize_get hlt
        have HT := fitsBs_take (mk := mk) (fn := fn) (k := 3) (n := n) (bd := bd) 0 hlt
        rw [Nat.zero_add, show around 3 n j bd = bd by unfold around; rw [if_neg (by omega)]] at HT
        have HIx := fun (o : Obj) (v : Value) (hv : (ys[j]).Val w0 v) => Lib.hid (HIH.out ys[j] bd (wr.alloc o) v A cap (by omega) (by omega) hv (((HBd.out.below HWV.out (Nat.le_refl _)).below hbb.out (Nat.le_refl _)).below (below1N wr o) (Nat.le_refl _)) (hb0.alloc hb0.size o))
        obtain ⟨p0, p1, p2⟩ := (HP wr hbb.out).out
        have q0 := fun O => (World.cell?_alloc_lt wr O ⟨w.heap.size, 0, none⟩ (Nat.lt_of_lt_of_le hpl hbV)).trans p0
        have q1 := fun O => (World.cell?_alloc_lt wr O ⟨w.heap.size, 1, none⟩ (Nat.lt_of_lt_of_le hpl hbV)).trans p1
        have q2 := fun O => (World.cell?_alloc_lt wr O ⟨w.heap.size, 2, none⟩ (Nat.lt_of_lt_of_le hpl hbV)).trans p2
        generalize ys[j] = y at *
        cases y with
        | mk k2 n2 ys2 =>
        obtain ⟨A3, cap3, d0, d1, d2, hv2⟩ := Co.At.both hat hb0 (Nat.le_refl _)
        have HI2 := fun o => HIx o _ hv2
        clear HIx hat
        generalize fitsB mk fn (.mk k2 n2 ys2) bd = f2 at *
        have HTT := Lib.hid HT
        clear HT p0 p1 p2 e0 e1 e2
        cases c
        · have HN : Hid (false = (false && fitsBs mk fn 3 n (ys.take (j + 1)) 0 bd)) := Lib.hid (by rw [HTT.out, ← Bool.and_assoc, ← hc.out]; rfl)
          clear HI2 HTT
          go_wp2_with fail
          exact ⟨⟨j + 1, false, by go_num, by trivial, by omega, HN, Lib.hid (hbb.out.alloc hbV _)⟩, by simp [intOf]; omega⟩
        · exact absurd hc.out (by simp)
      · have HR : Hid (fitsB mk fn (.mk 3 n ys) bd = c) := Lib.hid (by
          have h := hc.out
          rw [List.take_of_length_le (by omega)] at h
          rw [HF.out, ← h])
        clear e0 e1 e2
        go_wp2_with fail
        go_ret
        exact ⟨by rw [HR.out]; try rfl, HWV.out.thenCall HWV.out.size hbb.out⟩
set_option maxRecDepth 100000 in
set_option maxHeartbeats 8000000 in
theorem law26_4 (N : Nat) (w0 : World) (mk fn : List Int) (Ak Am Af : Option Addr) (nk ck cm cf : Nat) (hmk : NumAt w0 4 Am mk) (hfn : NumAt w0 7 Af fn) (hl1 : mk.length ≤ 4194304) (hl2 : fn.length ≤ 4194304)
    (ih : Law26 N w0 mk fn (.agg #[.slice Ak nk ck, .slice Am mk.length cm, .slice Af fn.length cf])) (n : Int) (ys : List Co) (bd : List Int) (w : World) (A' A : Option Addr) (cap' cap : Nat) (hN : CoSize ys ≤ N) (hsz : bd.length + (CoSize ys + 1) ≤ 4194304) (hd : CoHd A' ys.length cap') (hs : Cos w0 A' ys) (hbd : InSl w A cap bd) (h0 : Below w0.heap.size w0 w) :
    Calls Try.prog 26 #[.agg #[.slice Ak nk ck, .slice Am mk.length cm, .slice Af fn.length cf], .agg #[.int .i64 4, .int .i64 n, .slice A' ys.length cap'], .slice A bd.length cap] w fun r w' => r = .returned (.bool (fitsB mk fn (.mk 4 n ys) bd)) ∧ Below w.heap.size w w' := by
  have HIH := Lib.hid ih
  have HSs := Lib.hid hs
  have HMk := Lib.hid hmk
  have HFn := Lib.hid hfn
  have HBd := Lib.hid hbd
  have hd1 := hd.1
  have hd2 := hd.2.1
  have hd3 := hd.2.2.1
  have hb1 := hbd.2.1
  have hb2 := hbd.2.2.1
  clear ih hs hmk hfn hbd hd
  go_enter Try.func26, Try.ntmps26
  go_upto_region 1 with fail
  have bp0 := heap_alloc_new w (.cells #[.slice Ak nk ck, .slice Am mk.length cm, .slice Af fn.length cf] 26)
  have be := heap_alloc_new (w.alloc (.cells #[.slice Ak nk ck, .slice Am mk.length cm, .slice Af fn.length cf] 26)) (.cells #[.int .i64 4, .int .i64 n, .slice A' ys.length cap'] 29)
  have bp := (Below.heap_alloc _ (.cells #[.int .i64 4, .int .i64 n, .slice A' ys.length cap'] 29) w.heap.size (by simp)).trans bp0
  rw [World.size_alloc] at be
  have hWV : Below w.heap.size w ((w.alloc (.cells #[.slice Ak nk ck, .slice Am mk.length cm, .slice Af fn.length cf] 26)).alloc (.cells #[.int .i64 4, .int .i64 n, .slice A' ys.length cap'] 29)) := (below1N w _).alloc (by simp) _
  generalize (w.alloc (.cells #[.slice Ak nk ck, .slice Am mk.length cm, .slice Af fn.length cf] 26)).alloc (.cells #[.int .i64 4, .int .i64 n, .slice A' ys.length cap'] 29) = V at *
  have hpl := (Array.getElem?_eq_some_iff.1 bp).1
  have hel := (Array.getElem?_eq_some_iff.1 be).1
  have HP := fun (y : World) (hy : Below V.heap.size V y) => Lib.hid (two_cells bp hy)
  have HE := fun (y : World) (hy : Below V.heap.size V y) => Lib.hid (two_cells be hy)
  have h0V := h0.trans (hWV.mono h0.size)
  obtain ⟨p0, p1, p2⟩ := (HP V (Below.refl _ _)).out
  obtain ⟨e0, e1, e2⟩ := (HE V (Below.refl _ _)).out
  have HWV := Lib.hid hWV
  have HH0 := Lib.hid h0V
  clear bp0 bp be hWV
  by_cases hn0 : 0 ≤ n
  · by_cases hn1 : n < (fn.length : Int)
    · obtain ⟨j0, rfl⟩ : ∃ j : Nat, n = j := ⟨n.toNat, by omega⟩
      have hj0 : j0 < fn.length := by omega
      obtain ⟨bm, om, hA, hbl, hcm⟩ := HFn.out j0 hj0
      subst hA
      have x1 := (HH0.out.cell (p := ⟨bm, _, none⟩) hbl).trans hcm
      have hgd : fn.getD j0 0 = fn[j0] := by simp [List.getD, List.getElem?_eq_getElem hj0]
      clear hcm
      by_cases hm : (ys.length : Int) < fn[j0]
      · have HHD : Hid ((partsB mk fn 4 (j0 : Int) ys.length && (!decide ((4 : Int) = 1) || inB bd (j0 : Int))) = true) := Lib.hid (by simp [partsB, hj0, hm])
        generalize fn[j0] = xj at *
        have HF := Lib.hid (fits_mk (mk := mk) (fn := fn) (k := 4) (n := (j0 : Int)) (ys := ys) (bd := bd) (h := true) HHD.out)
        clear HHD
        go_upto_region 24 with fail
        go_wp2_with fail
        go_loopw [8, 177] (fun x i wr => ∃ (j : Nat) (c : Bool), i = .int .i64 j ∧ x = .bool c ∧ j ≤ ys.length ∧ Hid (c = (true && fitsBs mk fn 4 (j0 : Int) (ys.take j) 0 bd)) ∧ Hid (Below V.heap.size V wr)) (fun _ i _ => ys.length - (intOf i).toNat)
        case atStart => exact ⟨0, true, rfl, by trivial, Nat.zero_le _, Lib.hid (by rw [List.take_zero, fitsBs, Bool.and_true]), Lib.hid (Below.refl _ _)⟩
        case round =>
          obtain ⟨j, c, rfl, rfl, hj, hc, hbb⟩ := hrel
          have hbV := hbb.out.size
          have hb0 := HH0.out.trans (hbb.out.mono HH0.out.size)
          by_cases hlt : j < ys.length
          · obtain ⟨b, o, rfl, hat⟩ := HSs.out.get j hlt
            have hszj := CoSize_get hlt
            have HT := fitsBs_take (mk := mk) (fn := fn) (k := 4) (n := (j0 : Int)) (bd := bd) 0 hlt
            rw [Nat.zero_add, show around 4 (j0 : Int) j bd = bd by unfold around; rw [if_neg (by omega)]] at HT
            have HIx := fun (o : Obj) (v : Value) (hv : (ys[j]).Val w0 v) => Lib.hid (HIH.out ys[j] bd (wr.alloc o) v A cap (by omega) (by omega) hv (((HBd.out.below HWV.out (Nat.le_refl _)).below hbb.out (Nat.le_refl _)).below (below1N wr o) (Nat.le_refl _)) (hb0.alloc hb0.size o))
            obtain ⟨p0, p1, p2⟩ := (HP wr hbb.out).out
            have q0 := fun O => (World.cell?_alloc_lt wr O ⟨w.heap.size, 0, none⟩ (Nat.lt_of_lt_of_le hpl hbV)).trans p0
            have q1 := fun O => (World.cell?_alloc_lt wr O ⟨w.heap.size, 1, none⟩ (Nat.lt_of_lt_of_le hpl hbV)).trans p1
            have q2 := fun O => (World.cell?_alloc_lt wr O ⟨w.heap.size, 2, none⟩ (Nat.lt_of_lt_of_le hpl hbV)).trans p2
            generalize ys[j] = y at *
            cases y with
            | mk k2 n2 ys2 =>
            obtain ⟨A3, cap3, d0, d1, d2, hv2⟩ := Co.At.both hat hb0 (Nat.le_refl _)
            have HI2 := fun o => HIx o _ hv2
            clear HIx hat
            generalize fitsB mk fn (.mk k2 n2 ys2) bd = f2 at *
            have HTT := Lib.hid HT
            clear HT p0 p1 p2 e0 e1 e2
            cases c
            · have HN : Hid (false = (true && fitsBs mk fn 4 (j0 : Int) (ys.take (j + 1)) 0 bd)) := Lib.hid (by rw [HTT.out, ← Bool.and_assoc, ← hc.out]; rfl)
              clear HI2 HTT
              go_wp2_with fail
              exact ⟨⟨j + 1, false, by go_num, by trivial, by omega, HN, Lib.hid (hbb.out.alloc hbV _)⟩, by simp [intOf]; omega⟩
            · have HN : Hid (f2 = (true && fitsBs mk fn 4 (j0 : Int) (ys.take (j + 1)) 0 bd)) := Lib.hid (by rw [HTT.out, ← Bool.and_assoc, ← hc.out]; rfl)
              clear HTT
              go_wp2_with (go_at_call 26; refine (HI2 _).out.mono ?_; rintro _ z1 ⟨rfl, g1⟩)
              exact ⟨⟨j + 1, f2, by go_num, by trivial, by omega, HN, Lib.hid (hbb.out.thenCall hbV (Below.call1 g1))⟩, by simp [intOf]; omega⟩
          · have HR : Hid (fitsB mk fn (.mk 4 (j0 : Int) ys) bd = c) := Lib.hid (by
              have h := hc.out
              rw [List.take_of_length_le (by omega)] at h
              rw [HF.out, ← h])
            clear e0 e1 e2
            go_wp2_with fail
            go_ret
            exact ⟨by rw [HR.out]; try rfl, HWV.out.thenCall HWV.out.size hbb.out⟩
      · have HHD : Hid ((partsB mk fn 4 (j0 : Int) ys.length && (!decide ((4 : Int) = 1) || inB bd (j0 : Int))) = false) := Lib.hid (by simp [partsB, hj0]; omega)
        generalize fn[j0] = xj at *
        have HF := Lib.hid (fits_mk (mk := mk) (fn := fn) (k := 4) (n := (j0 : Int)) (ys := ys) (bd := bd) (h := false) HHD.out)
        clear HHD
        go_upto_region 24 with fail
        go_wp2_with fail
        go_loopw [8, 177] (fun x i wr => ∃ (j : Nat) (c : Bool), i = .int .i64 j ∧ x = .bool c ∧ j ≤ ys.length ∧ Hid (c = (false && fitsBs mk fn 4 (j0 : Int) (ys.take j) 0 bd)) ∧ Hid (Below V.heap.size V wr)) (fun _ i _ => ys.length - (intOf i).toNat)
        case atStart => exact ⟨0, false, rfl, by trivial, Nat.zero_le _, Lib.hid (by rw [List.take_zero, fitsBs, Bool.and_true]), Lib.hid (Below.refl _ _)⟩
        case round =>
          obtain ⟨j, c, rfl, rfl, hj, hc, hbb⟩ := hrel
          have hbV := hbb.out.size
          have hb0 := HH0.out.trans (hbb.out.mono HH0.out.size)
          by_cases hlt : j < ys.length
          · obtain ⟨b, o, rfl, hat⟩ := HSs.out.get j hlt
            have hszj := CoSize_get hlt
            have HT := fitsBs_take (mk := mk) (fn := fn) (k := 4) (n := (j0 : Int)) (bd := bd) 0 hlt
            rw [Nat.zero_add, show around 4 (j0 : Int) j bd = bd by unfold around; rw [if_neg (by omega)]] at HT
            have HIx := fun (o : Obj) (v : Value) (hv : (ys[j]).Val w0 v) => Lib.hid (HIH.out ys[j] bd (wr.alloc o) v A cap (by omega) (by omega) hv (((HBd.out.below HWV.out (Nat.le_refl _)).below hbb.out (Nat.le_refl _)).below (below1N wr o) (Nat.le_refl _)) (hb0.alloc hb0.size o))
            obtain ⟨p0, p1, p2⟩ := (HP wr hbb.out).out
            have q0 := fun O => (World.cell?_alloc_lt wr O ⟨w.heap.size, 0, none⟩ (Nat.lt_of_lt_of_le hpl hbV)).trans p0
            have q1 := fun O => (World.cell?_alloc_lt wr O ⟨w.heap.size, 1, none⟩ (Nat.lt_of_lt_of_le hpl hbV)).trans p1
            have q2 := fun O => (World.cell?_alloc_lt wr O ⟨w.heap.size, 2, none⟩ (Nat.lt_of_lt_of_le hpl hbV)).trans p2
            generalize ys[j] = y at *
            cases y with
            | mk k2 n2 ys2 =>
            obtain ⟨A3, cap3, d0, d1, d2, hv2⟩ := Co.At.both hat hb0 (Nat.le_refl _)
            have HI2 := fun o => HIx o _ hv2
            clear HIx hat
            generalize fitsB mk fn (.mk k2 n2 ys2) bd = f2 at *
            have HTT := Lib.hid HT
            clear HT p0 p1 p2 e0 e1 e2
            cases c
            · have HN : Hid (false = (false && fitsBs mk fn 4 (j0 : Int) (ys.take (j + 1)) 0 bd)) := Lib.hid (by rw [HTT.out, ← Bool.and_assoc, ← hc.out]; rfl)
              clear HI2 HTT
              go_wp2_with fail
              exact ⟨⟨j + 1, false, by go_num, by trivial, by omega, HN, Lib.hid (hbb.out.alloc hbV _)⟩, by simp [intOf]; omega⟩
            · exact absurd hc.out (by simp)
          · have HR : Hid (fitsB mk fn (.mk 4 (j0 : Int) ys) bd = c) := Lib.hid (by
              have h := hc.out
              rw [List.take_of_length_le (by omega)] at h
              rw [HF.out, ← h])
            clear e0 e1 e2
            go_wp2_with fail
            go_ret
            exact ⟨by rw [HR.out]; try rfl, HWV.out.thenCall HWV.out.size hbb.out⟩
    · have HHD : Hid ((partsB mk fn 4 n ys.length && (!decide ((4 : Int) = 1) || inB bd n)) = false) := Lib.hid (by simp [partsB, hn1])
      have HF := Lib.hid (fits_mk (mk := mk) (fn := fn) (k := 4) (n := n) (ys := ys) (bd := bd) (h := false) HHD.out)
      clear HHD
      go_upto_region 24 with fail
      go_wp2_with fail
      go_loopw [8, 177] (fun x i wr => ∃ (j : Nat) (c : Bool), i = .int .i64 j ∧ x = .bool c ∧ j ≤ ys.length ∧ Hid (c = (false && fitsBs mk fn 4 n (ys.take j) 0 bd)) ∧ Hid (Below V.heap.size V wr)) (fun _ i _ => ys.length - (intOf i).toNat)
      case atStart => exact ⟨0, false, rfl, by trivial, Nat.zero_le _, Lib.hid (by rw [List.take_zero, fitsBs, Bool.and_true]), Lib.hid (Below.refl _ _)⟩
      case round =>
        obtain ⟨j, c, rfl, rfl, hj, hc, hbb⟩ := hrel
        have hbV := hbb.out.size
        have hb0 := HH0.out.trans (hbb.out.mono HH0.out.size)
        by_cases hlt : j < ys.length
        · obtain ⟨b, o, rfl, hat⟩ := HSs.out.get j hlt
          have hszj := CoSize_get hlt
          have HT := fitsBs_take (mk := mk) (fn := fn) (k := 4) (n := n) (bd := bd) 0 hlt
          rw [Nat.zero_add, show around 4 n j bd = bd by unfold around; rw [if_neg (by omega)]] at HT
          have HIx := fun (o : Obj) (v : Value) (hv : (ys[j]).Val w0 v) => Lib.hid (HIH.out ys[j] bd (wr.alloc o) v A cap (by omega) (by omega) hv (((HBd.out.below HWV.out (Nat.le_refl _)).below hbb.out (Nat.le_refl _)).below (below1N wr o) (Nat.le_refl _)) (hb0.alloc hb0.size o))
          obtain ⟨p0, p1, p2⟩ := (HP wr hbb.out).out
          have q0 := fun O => (World.cell?_alloc_lt wr O ⟨w.heap.size, 0, none⟩ (Nat.lt_of_lt_of_le hpl hbV)).trans p0
          have q1 := fun O => (World.cell?_alloc_lt wr O ⟨w.heap.size, 1, none⟩ (Nat.lt_of_lt_of_le hpl hbV)).trans p1
          have q2 := fun O => (World.cell?_alloc_lt wr O ⟨w.heap.size, 2, none⟩ (Nat.lt_of_lt_of_le hpl hbV)).trans p2
          generalize ys[j] = y at *
          cases y with
          | mk k2 n2 ys2 =>
          obtain ⟨A3, cap3, d0, d1, d2, hv2⟩ := Co.At.both hat hb0 (Nat.le_refl _)
          have HI2 := fun o => HIx o _ hv2
          clear HIx hat
          generalize fitsB mk fn (.mk k2 n2 ys2) bd = f2 at *
          have HTT := Lib.hid HT
          clear HT p0 p1 p2 e0 e1 e2
          cases c
          · have HN : Hid (false = (false && fitsBs mk fn 4 n (ys.take (j + 1)) 0 bd)) := Lib.hid (by rw [HTT.out, ← Bool.and_assoc, ← hc.out]; rfl)
            clear HI2 HTT
            go_wp2_with fail
            exact ⟨⟨j + 1, false, by go_num, by trivial, by omega, HN, Lib.hid (hbb.out.alloc hbV _)⟩, by simp [intOf]; omega⟩
          · exact absurd hc.out (by simp)
        · have HR : Hid (fitsB mk fn (.mk 4 n ys) bd = c) := Lib.hid (by
            have h := hc.out
            rw [List.take_of_length_le (by omega)] at h
            rw [HF.out, ← h])
          clear e0 e1 e2
          go_wp2_with fail
          go_ret
          exact ⟨by rw [HR.out]; try rfl, HWV.out.thenCall HWV.out.size hbb.out⟩
  · have HHD : Hid ((partsB mk fn 4 n ys.length && (!decide ((4 : Int) = 1) || inB bd n)) = false) := Lib.hid (by simp [partsB, hn0])
    have HF := Lib.hid (fits_mk (mk := mk) (fn := fn) (k := 4) (n := n) (ys := ys) (bd := bd) (h := false) HHD.out)
    clear HHD
    go_upto_region 24 with fail
    go_wp2_with fail
    go_loopw [8, 177] (fun x i wr => ∃ (j : Nat) (c : Bool), i = .int .i64 j ∧ x = .bool c ∧ j ≤ ys.length ∧ Hid (c = (false && fitsBs mk fn 4 n (ys.take j) 0 bd)) ∧ Hid (Below V.heap.size V wr)) (fun _ i _ => ys.length - (intOf i).toNat)
    case atStart => exact ⟨0, false, rfl, by trivial, Nat.zero_le _, Lib.hid (by rw [List.take_zero, fitsBs, Bool.and_true]), Lib.hid (Below.refl _ _)⟩
    case round =>
      obtain ⟨j, c, rfl, rfl, hj, hc, hbb⟩ := hrel
      have hbV := hbb.out.size
      have hb0 := HH0.out.trans (hbb.out.mono HH0.out.size)
      by_cases hlt : j < ys.length
      · obtain ⟨b, o, rfl, hat⟩ := HSs.out.get j hlt
        have hszj := CoSize_get hlt
        have HT := fitsBs_take (mk := mk) (fn := fn) (k := 4) (n := n) (bd := bd) 0 hlt
        rw [Nat.zero_add, show around 4 n j bd = bd by unfold around; rw [if_neg (by omega)]] at HT
        have HIx := fun (o : Obj) (v : Value) (hv : (ys[j]).Val w0 v) => Lib.hid (HIH.out ys[j] bd (wr.alloc o) v A cap (by omega) (by omega) hv (((HBd.out.below HWV.out (Nat.le_refl _)).below hbb.out (Nat.le_refl _)).below (below1N wr o) (Nat.le_refl _)) (hb0.alloc hb0.size o))
        obtain ⟨p0, p1, p2⟩ := (HP wr hbb.out).out
        have q0 := fun O => (World.cell?_alloc_lt wr O ⟨w.heap.size, 0, none⟩ (Nat.lt_of_lt_of_le hpl hbV)).trans p0
        have q1 := fun O => (World.cell?_alloc_lt wr O ⟨w.heap.size, 1, none⟩ (Nat.lt_of_lt_of_le hpl hbV)).trans p1
        have q2 := fun O => (World.cell?_alloc_lt wr O ⟨w.heap.size, 2, none⟩ (Nat.lt_of_lt_of_le hpl hbV)).trans p2
        generalize ys[j] = y at *
        cases y with
        | mk k2 n2 ys2 =>
        obtain ⟨A3, cap3, d0, d1, d2, hv2⟩ := Co.At.both hat hb0 (Nat.le_refl _)
        have HI2 := fun o => HIx o _ hv2
        clear HIx hat
        generalize fitsB mk fn (.mk k2 n2 ys2) bd = f2 at *
        have HTT := Lib.hid HT
        clear HT p0 p1 p2 e0 e1 e2
        cases c
        · have HN : Hid (false = (false && fitsBs mk fn 4 n (ys.take (j + 1)) 0 bd)) := Lib.hid (by rw [HTT.out, ← Bool.and_assoc, ← hc.out]; rfl)
          clear HI2 HTT
          go_wp2_with fail
          exact ⟨⟨j + 1, false, by go_num, by trivial, by omega, HN, Lib.hid (hbb.out.alloc hbV _)⟩, by simp [intOf]; omega⟩
        · exact absurd hc.out (by simp)
      · have HR : Hid (fitsB mk fn (.mk 4 n ys) bd = c) := Lib.hid (by
          have h := hc.out
          rw [List.take_of_length_le (by omega)] at h
          rw [HF.out, ← h])
        clear e0 e1 e2
        go_wp2_with fail
        go_ret
        exact ⟨by rw [HR.out]; try rfl, HWV.out.thenCall HWV.out.size hbb.out⟩
set_option maxRecDepth 100000 in
set_option maxHeartbeats 8000000 in
theorem law26_6 (N : Nat) (w0 : World) (mk fn : List Int) (Ak Am Af : Option Addr) (nk ck cm cf : Nat) (hmk : NumAt w0 4 Am mk) (hfn : NumAt w0 7 Af fn) (hl1 : mk.length ≤ 4194304) (hl2 : fn.length ≤ 4194304)
    (ih : Law26 N w0 mk fn (.agg #[.slice Ak nk ck, .slice Am mk.length cm, .slice Af fn.length cf])) (n : Int) (ys : List Co) (bd : List Int) (w : World) (A' A : Option Addr) (cap' cap : Nat) (hN : CoSize ys ≤ N) (hsz : bd.length + (CoSize ys + 1) ≤ 4194304) (hd : CoHd A' ys.length cap') (hs : Cos w0 A' ys) (hbd : InSl w A cap bd) (h0 : Below w0.heap.size w0 w) :
    Calls Try.prog 26 #[.agg #[.slice Ak nk ck, .slice Am mk.length cm, .slice Af fn.length cf], .agg #[.int .i64 6, .int .i64 n, .slice A' ys.length cap'], .slice A bd.length cap] w fun r w' => r = .returned (.bool (fitsB mk fn (.mk 6 n ys) bd)) ∧ Below w.heap.size w w' := by
  have HIH := Lib.hid ih
  have HSs := Lib.hid hs
  have HMk := Lib.hid hmk
  have HFn := Lib.hid hfn
  have HBd := Lib.hid hbd
  have hd1 := hd.1
  have hd2 := hd.2.1
  have hd3 := hd.2.2.1
  have hb1 := hbd.2.1
  have hb2 := hbd.2.2.1
  clear ih hs hmk hfn hbd hd
  go_enter Try.func26, Try.ntmps26
  go_upto_region 1 with fail
  have bp0 := heap_alloc_new w (.cells #[.slice Ak nk ck, .slice Am mk.length cm, .slice Af fn.length cf] 26)
  have be := heap_alloc_new (w.alloc (.cells #[.slice Ak nk ck, .slice Am mk.length cm, .slice Af fn.length cf] 26)) (.cells #[.int .i64 6, .int .i64 n, .slice A' ys.length cap'] 29)
  have bp := (Below.heap_alloc _ (.cells #[.int .i64 6, .int .i64 n, .slice A' ys.length cap'] 29) w.heap.size (by simp)).trans bp0
  rw [World.size_alloc] at be
  have hWV : Below w.heap.size w ((w.alloc (.cells #[.slice Ak nk ck, .slice Am mk.length cm, .slice Af fn.length cf] 26)).alloc (.cells #[.int .i64 6, .int .i64 n, .slice A' ys.length cap'] 29)) := (below1N w _).alloc (by simp) _
  generalize (w.alloc (.cells #[.slice Ak nk ck, .slice Am mk.length cm, .slice Af fn.length cf] 26)).alloc (.cells #[.int .i64 6, .int .i64 n, .slice A' ys.length cap'] 29) = V at *
  have hpl := (Array.getElem?_eq_some_iff.1 bp).1
  have hel := (Array.getElem?_eq_some_iff.1 be).1
  have HP := fun (y : World) (hy : Below V.heap.size V y) => Lib.hid (two_cells bp hy)
  have HE := fun (y : World) (hy : Below V.heap.size V y) => Lib.hid (two_cells be hy)
  have h0V := h0.trans (hWV.mono h0.size)
  obtain ⟨p0, p1, p2⟩ := (HP V (Below.refl _ _)).out
  obtain ⟨e0, e1, e2⟩ := (HE V (Below.refl _ _)).out
  have HWV := Lib.hid hWV
  have HH0 := Lib.hid h0V
  clear bp0 bp be hWV
  by_cases hm : ys.length = 2
  · have HHD : Hid ((partsB mk fn 6 n ys.length && (!decide ((6 : Int) = 1) || inB bd n)) = true) := Lib.hid (by simp [partsB, hm])
    have hm3 : ((ys.length : Int) == 2) = true := by rw [hm]; rfl
    clear hm
    have HF := Lib.hid (fits_mk (mk := mk) (fn := fn) (k := 6) (n := n) (ys := ys) (bd := bd) (h := true) HHD.out)
    clear HHD
    go_upto_region 24 with fail
    go_wp2_with fail
    go_loopw [8, 177] (fun x i wr => ∃ (j : Nat) (c : Bool), i = .int .i64 j ∧ x = .bool c ∧ j ≤ ys.length ∧ Hid (c = (true && fitsBs mk fn 6 n (ys.take j) 0 bd)) ∧ Hid (Below V.heap.size V wr)) (fun _ i _ => ys.length - (intOf i).toNat)
    case atStart => exact ⟨0, true, rfl, by trivial, Nat.zero_le _, Lib.hid (by rw [List.take_zero, fitsBs, Bool.and_true]), Lib.hid (Below.refl _ _)⟩
    case round =>
      obtain ⟨j, c, rfl, rfl, hj, hc, hbb⟩ := hrel
      have hbV := hbb.out.size
      have hb0 := HH0.out.trans (hbb.out.mono HH0.out.size)
      by_cases hlt : j < ys.length
      · obtain ⟨b, o, rfl, hat⟩ := HSs.out.get j hlt
        have hszj := CoSize_get hlt
        have HT := fitsBs_take (mk := mk) (fn := fn) (k := 6) (n := n) (bd := bd) 0 hlt
        rw [Nat.zero_add, show around 6 n j bd = bd by unfold around; rw [if_neg (by omega)]] at HT
        have HIx := fun (o : Obj) (v : Value) (hv : (ys[j]).Val w0 v) => Lib.hid (HIH.out ys[j] bd (wr.alloc o) v A cap (by omega) (by omega) hv (((HBd.out.below HWV.out (Nat.le_refl _)).below hbb.out (Nat.le_refl _)).below (below1N wr o) (Nat.le_refl _)) (hb0.alloc hb0.size o))
        obtain ⟨p0, p1, p2⟩ := (HP wr hbb.out).out
        have q0 := fun O => (World.cell?_alloc_lt wr O ⟨w.heap.size, 0, none⟩ (Nat.lt_of_lt_of_le hpl hbV)).trans p0
        have q1 := fun O => (World.cell?_alloc_lt wr O ⟨w.heap.size, 1, none⟩ (Nat.lt_of_lt_of_le hpl hbV)).trans p1
        have q2 := fun O => (World.cell?_alloc_lt wr O ⟨w.heap.size, 2, none⟩ (Nat.lt_of_lt_of_le hpl hbV)).trans p2
        generalize ys[j] = y at *
        cases y with
        | mk k2 n2 ys2 =>
        obtain ⟨A3, cap3, d0, d1, d2, hv2⟩ := Co.At.both hat hb0 (Nat.le_refl _)
        have HI2 := fun o => HIx o _ hv2
        clear HIx hat
        generalize fitsB mk fn (.mk k2 n2 ys2) bd = f2 at *
        have HTT := Lib.hid HT
        clear HT p0 p1 p2 e0 e1 e2
        cases c
        · have HN : Hid (false = (true && fitsBs mk fn 6 n (ys.take (j + 1)) 0 bd)) := Lib.hid (by rw [HTT.out, ← Bool.and_assoc, ← hc.out]; rfl)
          clear HI2 HTT
          go_wp2_with fail
          exact ⟨⟨j + 1, false, by go_num, by trivial, by omega, HN, Lib.hid (hbb.out.alloc hbV _)⟩, by simp [intOf]; omega⟩
        · have HN : Hid (f2 = (true && fitsBs mk fn 6 n (ys.take (j + 1)) 0 bd)) := Lib.hid (by rw [HTT.out, ← Bool.and_assoc, ← hc.out]; rfl)
          clear HTT
          go_wp2_with (go_at_call 26; refine (HI2 _).out.mono ?_; rintro _ z1 ⟨rfl, g1⟩)
          exact ⟨⟨j + 1, f2, by go_num, by trivial, by omega, HN, Lib.hid (hbb.out.thenCall hbV (Below.call1 g1))⟩, by simp [intOf]; omega⟩
      · have HR : Hid (fitsB mk fn (.mk 6 n ys) bd = c) := Lib.hid (by
          have h := hc.out
          rw [List.take_of_length_le (by omega)] at h
          rw [HF.out, ← h])
        clear e0 e1 e2
        go_wp2_with fail
        go_ret
        exact ⟨by rw [HR.out]; try rfl, HWV.out.thenCall HWV.out.size hbb.out⟩
  · have hm2 : ¬ (ys.length : Int) = 2 := by omega
    have hm3 : ((ys.length : Int) == 2) = false := beq_eq_false_iff_ne.2 hm2
    have HHD : Hid ((partsB mk fn 6 n ys.length && (!decide ((6 : Int) = 1) || inB bd n)) = false) := Lib.hid (by unfold partsB; rw [hm3]; simp)
    have HF := Lib.hid (fits_mk (mk := mk) (fn := fn) (k := 6) (n := n) (ys := ys) (bd := bd) (h := false) HHD.out)
    clear HHD
    go_upto_region 24 with fail
    go_wp2_with fail
    go_loopw [8, 177] (fun x i wr => ∃ (j : Nat) (c : Bool), i = .int .i64 j ∧ x = .bool c ∧ j ≤ ys.length ∧ Hid (c = (false && fitsBs mk fn 6 n (ys.take j) 0 bd)) ∧ Hid (Below V.heap.size V wr)) (fun _ i _ => ys.length - (intOf i).toNat)
    case atStart => exact ⟨0, false, rfl, by trivial, Nat.zero_le _, Lib.hid (by rw [List.take_zero, fitsBs, Bool.and_true]), Lib.hid (Below.refl _ _)⟩
    case round =>
      obtain ⟨j, c, rfl, rfl, hj, hc, hbb⟩ := hrel
      have hbV := hbb.out.size
      have hb0 := HH0.out.trans (hbb.out.mono HH0.out.size)
      by_cases hlt : j < ys.length
      · obtain ⟨b, o, rfl, hat⟩ := HSs.out.get j hlt
        have hszj := CoSize_get hlt
        have HT := fitsBs_take (mk := mk) (fn := fn) (k := 6) (n := n) (bd := bd) 0 hlt
        rw [Nat.zero_add, show around 6 n j bd = bd by unfold around; rw [if_neg (by omega)]] at HT
        have HIx := fun (o : Obj) (v : Value) (hv : (ys[j]).Val w0 v) => Lib.hid (HIH.out ys[j] bd (wr.alloc o) v A cap (by omega) (by omega) hv (((HBd.out.below HWV.out (Nat.le_refl _)).below hbb.out (Nat.le_refl _)).below (below1N wr o) (Nat.le_refl _)) (hb0.alloc hb0.size o))
        obtain ⟨p0, p1, p2⟩ := (HP wr hbb.out).out
        have q0 := fun O => (World.cell?_alloc_lt wr O ⟨w.heap.size, 0, none⟩ (Nat.lt_of_lt_of_le hpl hbV)).trans p0
        have q1 := fun O => (World.cell?_alloc_lt wr O ⟨w.heap.size, 1, none⟩ (Nat.lt_of_lt_of_le hpl hbV)).trans p1
        have q2 := fun O => (World.cell?_alloc_lt wr O ⟨w.heap.size, 2, none⟩ (Nat.lt_of_lt_of_le hpl hbV)).trans p2
        generalize ys[j] = y at *
        cases y with
        | mk k2 n2 ys2 =>
        obtain ⟨A3, cap3, d0, d1, d2, hv2⟩ := Co.At.both hat hb0 (Nat.le_refl _)
        have HI2 := fun o => HIx o _ hv2
        clear HIx hat
        generalize fitsB mk fn (.mk k2 n2 ys2) bd = f2 at *
        have HTT := Lib.hid HT
        clear HT p0 p1 p2 e0 e1 e2
        cases c
        · have HN : Hid (false = (false && fitsBs mk fn 6 n (ys.take (j + 1)) 0 bd)) := Lib.hid (by rw [HTT.out, ← Bool.and_assoc, ← hc.out]; rfl)
          clear HI2 HTT
          go_wp2_with fail
          exact ⟨⟨j + 1, false, by go_num, by trivial, by omega, HN, Lib.hid (hbb.out.alloc hbV _)⟩, by simp [intOf]; omega⟩
        · exact absurd hc.out (by simp)
      · have HR : Hid (fitsB mk fn (.mk 6 n ys) bd = c) := Lib.hid (by
          have h := hc.out
          rw [List.take_of_length_le (by omega)] at h
          rw [HF.out, ← h])
        clear e0 e1 e2
        go_wp2_with fail
        go_ret
        exact ⟨by rw [HR.out]; try rfl, HWV.out.thenCall HWV.out.size hbb.out⟩
set_option maxRecDepth 100000 in
set_option maxHeartbeats 8000000 in
theorem law26_7 (N : Nat) (w0 : World) (mk fn : List Int) (Ak Am Af : Option Addr) (nk ck cm cf : Nat) (hmk : NumAt w0 4 Am mk) (hfn : NumAt w0 7 Af fn) (hl1 : mk.length ≤ 4194304) (hl2 : fn.length ≤ 4194304)
    (ih : Law26 N w0 mk fn (.agg #[.slice Ak nk ck, .slice Am mk.length cm, .slice Af fn.length cf])) (n : Int) (ys : List Co) (bd : List Int) (w : World) (A' A : Option Addr) (cap' cap : Nat) (hN : CoSize ys ≤ N) (hsz : bd.length + (CoSize ys + 1) ≤ 4194304) (hd : CoHd A' ys.length cap') (hs : Cos w0 A' ys) (hbd : InSl w A cap bd) (h0 : Below w0.heap.size w0 w) :
    Calls Try.prog 26 #[.agg #[.slice Ak nk ck, .slice Am mk.length cm, .slice Af fn.length cf], .agg #[.int .i64 7, .int .i64 n, .slice A' ys.length cap'], .slice A bd.length cap] w fun r w' => r = .returned (.bool (fitsB mk fn (.mk 7 n ys) bd)) ∧ Below w.heap.size w w' := by
  have HIH := Lib.hid ih
  have HSs := Lib.hid hs
  have HMk := Lib.hid hmk
  have HFn := Lib.hid hfn
  have HBd := Lib.hid hbd
  have hd1 := hd.1
  have hd2 := hd.2.1
  have hd3 := hd.2.2.1
  have hb1 := hbd.2.1
  have hb2 := hbd.2.2.1
  clear ih hs hmk hfn hbd hd
  go_enter Try.func26, Try.ntmps26
  go_upto_region 1 with fail
  have bp0 := heap_alloc_new w (.cells #[.slice Ak nk ck, .slice Am mk.length cm, .slice Af fn.length cf] 26)
  have be := heap_alloc_new (w.alloc (.cells #[.slice Ak nk ck, .slice Am mk.length cm, .slice Af fn.length cf] 26)) (.cells #[.int .i64 7, .int .i64 n, .slice A' ys.length cap'] 29)
  have bp := (Below.heap_alloc _ (.cells #[.int .i64 7, .int .i64 n, .slice A' ys.length cap'] 29) w.heap.size (by simp)).trans bp0
  rw [World.size_alloc] at be
  have hWV : Below w.heap.size w ((w.alloc (.cells #[.slice Ak nk ck, .slice Am mk.length cm, .slice Af fn.length cf] 26)).alloc (.cells #[.int .i64 7, .int .i64 n, .slice A' ys.length cap'] 29)) := (below1N w _).alloc (by simp) _
  generalize (w.alloc (.cells #[.slice Ak nk ck, .slice Am mk.length cm, .slice Af fn.length cf] 26)).alloc (.cells #[.int .i64 7, .int .i64 n, .slice A' ys.length cap'] 29) = V at *
  have hpl := (Array.getElem?_eq_some_iff.1 bp).1
  have hel := (Array.getElem?_eq_some_iff.1 be).1
  have HP := fun (y : World) (hy : Below V.heap.size V y) => Lib.hid (two_cells bp hy)
  have HE := fun (y : World) (hy : Below V.heap.size V y) => Lib.hid (two_cells be hy)
  have h0V := h0.trans (hWV.mono h0.size)
  obtain ⟨p0, p1, p2⟩ := (HP V (Below.refl _ _)).out
  obtain ⟨e0, e1, e2⟩ := (HE V (Below.refl _ _)).out
  have HWV := Lib.hid hWV
  have HH0 := Lib.hid h0V
  clear bp0 bp be hWV
  by_cases hm : ys.length = 2
  · have HHD : Hid ((partsB mk fn 7 n ys.length && (!decide ((7 : Int) = 1) || inB bd n)) = true) := Lib.hid (by simp [partsB, hm])
    have hm3 : ((ys.length : Int) == 2) = true := by rw [hm]; rfl
    clear hm
    have HF := Lib.hid (fits_mk (mk := mk) (fn := fn) (k := 7) (n := n) (ys := ys) (bd := bd) (h := true) HHD.out)
    clear HHD
    go_upto_region 24 with fail
    go_wp2_with fail
    go_loopw [8, 177] (fun x i wr => ∃ (j : Nat) (c : Bool), i = .int .i64 j ∧ x = .bool c ∧ j ≤ ys.length ∧ Hid (c = (true && fitsBs mk fn 7 n (ys.take j) 0 bd)) ∧ Hid (Below V.heap.size V wr)) (fun _ i _ => ys.length - (intOf i).toNat)
    case atStart => exact ⟨0, true, rfl, by trivial, Nat.zero_le _, Lib.hid (by rw [List.take_zero, fitsBs, Bool.and_true]), Lib.hid (Below.refl _ _)⟩
    case round =>
      obtain ⟨j, c, rfl, rfl, hj, hc, hbb⟩ := hrel
      have hbV := hbb.out.size
      have hb0 := HH0.out.trans (hbb.out.mono HH0.out.size)
      by_cases hlt : j < ys.length
      · obtain ⟨b, o, rfl, hat⟩ := HSs.out.get j hlt
        have hszj := CoSize_get hlt
        have HT := fitsBs_take (mk := mk) (fn := fn) (k := 7) (n := n) (bd := bd) 0 hlt
        rw [Nat.zero_add, show around 7 n j bd = bd by unfold around; rw [if_neg (by omega)]] at HT
        have HIx := fun (o : Obj) (v : Value) (hv : (ys[j]).Val w0 v) => Lib.hid (HIH.out ys[j] bd (wr.alloc o) v A cap (by omega) (by omega) hv (((HBd.out.below HWV.out (Nat.le_refl _)).below hbb.out (Nat.le_refl _)).below (below1N wr o) (Nat.le_refl _)) (hb0.alloc hb0.size o))
        obtain ⟨p0, p1, p2⟩ := (HP wr hbb.out).out
        have q0 := fun O => (World.cell?_alloc_lt wr O ⟨w.heap.size, 0, none⟩ (Nat.lt_of_lt_of_le hpl hbV)).trans p0
        have q1 := fun O => (World.cell?_alloc_lt wr O ⟨w.heap.size, 1, none⟩ (Nat.lt_of_lt_of_le hpl hbV)).trans p1
        have q2 := fun O => (World.cell?_alloc_lt wr O ⟨w.heap.size, 2, none⟩ (Nat.lt_of_lt_of_le hpl hbV)).trans p2
        generalize ys[j] = y at *
        cases y with
        | mk k2 n2 ys2 =>
        obtain ⟨A3, cap3, d0, d1, d2, hv2⟩ := Co.At.both hat hb0 (Nat.le_refl _)
        have HI2 := fun o => HIx o _ hv2
        clear HIx hat
        generalize fitsB mk fn (.mk k2 n2 ys2) bd = f2 at *
        have HTT := Lib.hid HT
        clear HT p0 p1 p2 e0 e1 e2
        cases c
        · have HN : Hid (false = (true && fitsBs mk fn 7 n (ys.take (j + 1)) 0 bd)) := Lib.hid (by rw [HTT.out, ← Bool.and_assoc, ← hc.out]; rfl)
          clear HI2 HTT
          go_wp2_with fail
          exact ⟨⟨j + 1, false, by go_num, by trivial, by omega, HN, Lib.hid (hbb.out.alloc hbV _)⟩, by simp [intOf]; omega⟩
        · have HN : Hid (f2 = (true && fitsBs mk fn 7 n (ys.take (j + 1)) 0 bd)) := Lib.hid (by rw [HTT.out, ← Bool.and_assoc, ← hc.out]; rfl)
          clear HTT
          go_wp2_with (go_at_call 26; refine (HI2 _).out.mono ?_; rintro _ z1 ⟨rfl, g1⟩)
          exact ⟨⟨j + 1, f2, by go_num, by trivial, by omega, HN, Lib.hid (hbb.out.thenCall hbV (Below.call1 g1))⟩, by simp [intOf]; omega⟩
      · have HR : Hid (fitsB mk fn (.mk 7 n ys) bd = c) := Lib.hid (by
          have h := hc.out
          rw [List.take_of_length_le (by omega)] at h
          rw [HF.out, ← h])
        clear e0 e1 e2
        go_wp2_with fail
        go_ret
        exact ⟨by rw [HR.out]; try rfl, HWV.out.thenCall HWV.out.size hbb.out⟩
  · have hm2 : ¬ (ys.length : Int) = 2 := by omega
    have hm3 : ((ys.length : Int) == 2) = false := beq_eq_false_iff_ne.2 hm2
    have HHD : Hid ((partsB mk fn 7 n ys.length && (!decide ((7 : Int) = 1) || inB bd n)) = false) := Lib.hid (by unfold partsB; rw [hm3]; simp)
    have HF := Lib.hid (fits_mk (mk := mk) (fn := fn) (k := 7) (n := n) (ys := ys) (bd := bd) (h := false) HHD.out)
    clear HHD
    go_upto_region 24 with fail
    go_wp2_with fail
    go_loopw [8, 177] (fun x i wr => ∃ (j : Nat) (c : Bool), i = .int .i64 j ∧ x = .bool c ∧ j ≤ ys.length ∧ Hid (c = (false && fitsBs mk fn 7 n (ys.take j) 0 bd)) ∧ Hid (Below V.heap.size V wr)) (fun _ i _ => ys.length - (intOf i).toNat)
    case atStart => exact ⟨0, false, rfl, by trivial, Nat.zero_le _, Lib.hid (by rw [List.take_zero, fitsBs, Bool.and_true]), Lib.hid (Below.refl _ _)⟩
    case round =>
      obtain ⟨j, c, rfl, rfl, hj, hc, hbb⟩ := hrel
      have hbV := hbb.out.size
      have hb0 := HH0.out.trans (hbb.out.mono HH0.out.size)
      by_cases hlt : j < ys.length
      · obtain ⟨b, o, rfl, hat⟩ := HSs.out.get j hlt
        have hszj := CoSize_get hlt
        have HT := fitsBs_take (mk := mk) (fn := fn) (k := 7) (n := n) (bd := bd) 0 hlt
        rw [Nat.zero_add, show around 7 n j bd = bd by unfold around; rw [if_neg (by omega)]] at HT
        have HIx := fun (o : Obj) (v : Value) (hv : (ys[j]).Val w0 v) => Lib.hid (HIH.out ys[j] bd (wr.alloc o) v A cap (by omega) (by omega) hv (((HBd.out.below HWV.out (Nat.le_refl _)).below hbb.out (Nat.le_refl _)).below (below1N wr o) (Nat.le_refl _)) (hb0.alloc hb0.size o))
        obtain ⟨p0, p1, p2⟩ := (HP wr hbb.out).out
        have q0 := fun O => (World.cell?_alloc_lt wr O ⟨w.heap.size, 0, none⟩ (Nat.lt_of_lt_of_le hpl hbV)).trans p0
        have q1 := fun O => (World.cell?_alloc_lt wr O ⟨w.heap.size, 1, none⟩ (Nat.lt_of_lt_of_le hpl hbV)).trans p1
        have q2 := fun O => (World.cell?_alloc_lt wr O ⟨w.heap.size, 2, none⟩ (Nat.lt_of_lt_of_le hpl hbV)).trans p2
        generalize ys[j] = y at *
        cases y with
        | mk k2 n2 ys2 =>
        obtain ⟨A3, cap3, d0, d1, d2, hv2⟩ := Co.At.both hat hb0 (Nat.le_refl _)
        have HI2 := fun o => HIx o _ hv2
        clear HIx hat
        generalize fitsB mk fn (.mk k2 n2 ys2) bd = f2 at *
        have HTT := Lib.hid HT
        clear HT p0 p1 p2 e0 e1 e2
        cases c
        · have HN : Hid (false = (false && fitsBs mk fn 7 n (ys.take (j + 1)) 0 bd)) := Lib.hid (by rw [HTT.out, ← Bool.and_assoc, ← hc.out]; rfl)
          clear HI2 HTT
          go_wp2_with fail
          exact ⟨⟨j + 1, false, by go_num, by trivial, by omega, HN, Lib.hid (hbb.out.alloc hbV _)⟩, by simp [intOf]; omega⟩
        · exact absurd hc.out (by simp)
      · have HR : Hid (fitsB mk fn (.mk 7 n ys) bd = c) := Lib.hid (by
          have h := hc.out
          rw [List.take_of_length_le (by omega)] at h
          rw [HF.out, ← h])
        clear e0 e1 e2
        go_wp2_with fail
        go_ret
        exact ⟨by rw [HR.out]; try rfl, HWV.out.thenCall HWV.out.size hbb.out⟩
set_option maxRecDepth 100000 in
set_option maxHeartbeats 8000000 in
theorem law26_8 (N : Nat) (w0 : World) (mk fn : List Int) (Ak Am Af : Option Addr) (nk ck cm cf : Nat) (hmk : NumAt w0 4 Am mk) (hfn : NumAt w0 7 Af fn) (hl1 : mk.length ≤ 4194304) (hl2 : fn.length ≤ 4194304)
    (ih : Law26 N w0 mk fn (.agg #[.slice Ak nk ck, .slice Am mk.length cm, .slice Af fn.length cf])) (n : Int) (ys : List Co) (bd : List Int) (w : World) (A' A : Option Addr) (cap' cap : Nat) (hN : CoSize ys ≤ N) (hsz : bd.length + (CoSize ys + 1) ≤ 4194304) (hd : CoHd A' ys.length cap') (hs : Cos w0 A' ys) (hbd : InSl w A cap bd) (h0 : Below w0.heap.size w0 w) :
    Calls Try.prog 26 #[.agg #[.slice Ak nk ck, .slice Am mk.length cm, .slice Af fn.length cf], .agg #[.int .i64 8, .int .i64 n, .slice A' ys.length cap'], .slice A bd.length cap] w fun r w' => r = .returned (.bool (fitsB mk fn (.mk 8 n ys) bd)) ∧ Below w.heap.size w w' := by
  have HIH := Lib.hid ih
  have HSs := Lib.hid hs
  have HMk := Lib.hid hmk
  have HFn := Lib.hid hfn
  have HBd := Lib.hid hbd
  have hd1 := hd.1
  have hd2 := hd.2.1
  have hd3 := hd.2.2.1
  have hb1 := hbd.2.1
  have hb2 := hbd.2.2.1
  clear ih hs hmk hfn hbd hd
  go_enter Try.func26, Try.ntmps26
  go_upto_region 1 with fail
  have bp0 := heap_alloc_new w (.cells #[.slice Ak nk ck, .slice Am mk.length cm, .slice Af fn.length cf] 26)
  have be := heap_alloc_new (w.alloc (.cells #[.slice Ak nk ck, .slice Am mk.length cm, .slice Af fn.length cf] 26)) (.cells #[.int .i64 8, .int .i64 n, .slice A' ys.length cap'] 29)
  have bp := (Below.heap_alloc _ (.cells #[.int .i64 8, .int .i64 n, .slice A' ys.length cap'] 29) w.heap.size (by simp)).trans bp0
  rw [World.size_alloc] at be
  have hWV : Below w.heap.size w ((w.alloc (.cells #[.slice Ak nk ck, .slice Am mk.length cm, .slice Af fn.length cf] 26)).alloc (.cells #[.int .i64 8, .int .i64 n, .slice A' ys.length cap'] 29)) := (below1N w _).alloc (by simp) _
  generalize (w.alloc (.cells #[.slice Ak nk ck, .slice Am mk.length cm, .slice Af fn.length cf] 26)).alloc (.cells #[.int .i64 8, .int .i64 n, .slice A' ys.length cap'] 29) = V at *
  have hpl := (Array.getElem?_eq_some_iff.1 bp).1
  have hel := (Array.getElem?_eq_some_iff.1 be).1
  have HP := fun (y : World) (hy : Below V.heap.size V y) => Lib.hid (two_cells bp hy)
  have HE := fun (y : World) (hy : Below V.heap.size V y) => Lib.hid (two_cells be hy)
  have h0V := h0.trans (hWV.mono h0.size)
  obtain ⟨p0, p1, p2⟩ := (HP V (Below.refl _ _)).out
  obtain ⟨e0, e1, e2⟩ := (HE V (Below.refl _ _)).out
  have HWV := Lib.hid hWV
  have HH0 := Lib.hid h0V
  clear bp0 bp be hWV
  by_cases hm : ys.length = 2
  · by_cases h1 : 1 ≤ n
    · by_cases h5 : n ≤ 5
      · have HHD : Hid ((partsB mk fn 8 n ys.length && (!decide ((8 : Int) = 1) || inB bd n)) = true) := Lib.hid (by simp [partsB, hm, h1, h5])
        have hm3 : ((ys.length : Int) == 2) = true := by rw [hm]; rfl
        clear hm
        have HF := Lib.hid (fits_mk (mk := mk) (fn := fn) (k := 8) (n := n) (ys := ys) (bd := bd) (h := true) HHD.out)
        clear HHD
        go_upto_region 24 with fail
        go_wp2_with fail
        go_loopw [8, 177] (fun x i wr => ∃ (j : Nat) (c : Bool), i = .int .i64 j ∧ x = .bool c ∧ j ≤ ys.length ∧ Hid (c = (true && fitsBs mk fn 8 n (ys.take j) 0 bd)) ∧ Hid (Below V.heap.size V wr)) (fun _ i _ => ys.length - (intOf i).toNat)
        case atStart => exact ⟨0, true, rfl, by trivial, Nat.zero_le _, Lib.hid (by rw [List.take_zero, fitsBs, Bool.and_true]), Lib.hid (Below.refl _ _)⟩
        case round =>
          obtain ⟨j, c, rfl, rfl, hj, hc, hbb⟩ := hrel
          have hbV := hbb.out.size
          have hb0 := HH0.out.trans (hbb.out.mono HH0.out.size)
          by_cases hlt : j < ys.length
          · obtain ⟨b, o, rfl, hat⟩ := HSs.out.get j hlt
            have hszj := CoSize_get hlt
            have HT := fitsBs_take (mk := mk) (fn := fn) (k := 8) (n := n) (bd := bd) 0 hlt
            rw [Nat.zero_add, show around 8 n j bd = bd by unfold around; rw [if_neg (by omega)]] at HT
            have HIx := fun (o : Obj) (v : Value) (hv : (ys[j]).Val w0 v) => Lib.hid (HIH.out ys[j] bd (wr.alloc o) v A cap (by omega) (by omega) hv (((HBd.out.below HWV.out (Nat.le_refl _)).below hbb.out (Nat.le_refl _)).below (below1N wr o) (Nat.le_refl _)) (hb0.alloc hb0.size o))
            obtain ⟨p0, p1, p2⟩ := (HP wr hbb.out).out
            have q0 := fun O => (World.cell?_alloc_lt wr O ⟨w.heap.size, 0, none⟩ (Nat.lt_of_lt_of_le hpl hbV)).trans p0
            have q1 := fun O => (World.cell?_alloc_lt wr O ⟨w.heap.size, 1, none⟩ (Nat.lt_of_lt_of_le hpl hbV)).trans p1
            have q2 := fun O => (World.cell?_alloc_lt wr O ⟨w.heap.size, 2, none⟩ (Nat.lt_of_lt_of_le hpl hbV)).trans p2
            generalize ys[j] = y at *
            cases y with
            | mk k2 n2 ys2 =>
            obtain ⟨A3, cap3, d0, d1, d2, hv2⟩ := Co.At.both hat hb0 (Nat.le_refl _)
            have HI2 := fun o => HIx o _ hv2
            clear HIx hat
            generalize fitsB mk fn (.mk k2 n2 ys2) bd = f2 at *
            have HTT := Lib.hid HT
            clear HT p0 p1 p2 e0 e1 e2
            cases c
            · have HN : Hid (false = (true && fitsBs mk fn 8 n (ys.take (j + 1)) 0 bd)) := Lib.hid (by rw [HTT.out, ← Bool.and_assoc, ← hc.out]; rfl)
              clear HI2 HTT
              go_wp2_with fail
              exact ⟨⟨j + 1, false, by go_num, by trivial, by omega, HN, Lib.hid (hbb.out.alloc hbV _)⟩, by simp [intOf]; omega⟩
            · have HN : Hid (f2 = (true && fitsBs mk fn 8 n (ys.take (j + 1)) 0 bd)) := Lib.hid (by rw [HTT.out, ← Bool.and_assoc, ← hc.out]; rfl)
              clear HTT
              go_wp2_with (go_at_call 26; refine (HI2 _).out.mono ?_; rintro _ z1 ⟨rfl, g1⟩)
              exact ⟨⟨j + 1, f2, by go_num, by trivial, by omega, HN, Lib.hid (hbb.out.thenCall hbV (Below.call1 g1))⟩, by simp [intOf]; omega⟩
          · have HR : Hid (fitsB mk fn (.mk 8 n ys) bd = c) := Lib.hid (by
              have h := hc.out
              rw [List.take_of_length_le (by omega)] at h
              rw [HF.out, ← h])
            clear e0 e1 e2
            go_wp2_with fail
            go_ret
            exact ⟨by rw [HR.out]; try rfl, HWV.out.thenCall HWV.out.size hbb.out⟩
      · have HHD : Hid ((partsB mk fn 8 n ys.length && (!decide ((8 : Int) = 1) || inB bd n)) = false) := Lib.hid (by simp [partsB, h5])
        have hm3 : ((ys.length : Int) == 2) = true := by rw [hm]; rfl
        clear hm
        have HF := Lib.hid (fits_mk (mk := mk) (fn := fn) (k := 8) (n := n) (ys := ys) (bd := bd) (h := false) HHD.out)
        clear HHD
        go_upto_region 24 with fail
        go_wp2_with fail
        go_loopw [8, 177] (fun x i wr => ∃ (j : Nat) (c : Bool), i = .int .i64 j ∧ x = .bool c ∧ j ≤ ys.length ∧ Hid (c = (false && fitsBs mk fn 8 n (ys.take j) 0 bd)) ∧ Hid (Below V.heap.size V wr)) (fun _ i _ => ys.length - (intOf i).toNat)
        case atStart => exact ⟨0, false, rfl, by trivial, Nat.zero_le _, Lib.hid (by rw [List.take_zero, fitsBs, Bool.and_true]), Lib.hid (Below.refl _ _)⟩
        case round =>
          obtain ⟨j, c, rfl, rfl, hj, hc, hbb⟩ := hrel
          have hbV := hbb.out.size
          have hb0 := HH0.out.trans (hbb.out.mono HH0.out.size)
          by_cases hlt : j < ys.length
          · obtain ⟨b, o, rfl, hat⟩ := HSs.out.get j hlt
            have hszj := CoSize_get hlt
            have HT := fitsBs_take (mk := mk) (fn := fn) (k := 8) (n := n) (bd := bd) 0 hlt
            rw [Nat.zero_add, show around 8 n j bd = bd by unfold around; rw [if_neg (by omega)]] at HT
            have HIx := fun (o : Obj) (v : Value) (hv : (ys[j]).Val w0 v) => Lib.hid (HIH.out ys[j] bd (wr.alloc o) v A cap (by omega) (by omega) hv (((HBd.out.below HWV.out (Nat.le_refl _)).below hbb.out (Nat.le_refl _)).below (below1N wr o) (Nat.le_refl _)) (hb0.alloc hb0.size o))
            obtain ⟨p0, p1, p2⟩ := (HP wr hbb.out).out
            have q0 := fun O => (World.cell?_alloc_lt wr O ⟨w.heap.size, 0, none⟩ (Nat.lt_of_lt_of_le hpl hbV)).trans p0
            have q1 := fun O => (World.cell?_alloc_lt wr O ⟨w.heap.size, 1, none⟩ (Nat.lt_of_lt_of_le hpl hbV)).trans p1
            have q2 := fun O => (World.cell?_alloc_lt wr O ⟨w.heap.size, 2, none⟩ (Nat.lt_of_lt_of_le hpl hbV)).trans p2
            generalize ys[j] = y at *
            cases y with
            | mk k2 n2 ys2 =>
            obtain ⟨A3, cap3, d0, d1, d2, hv2⟩ := Co.At.both hat hb0 (Nat.le_refl _)
            have HI2 := fun o => HIx o _ hv2
            clear HIx hat
            generalize fitsB mk fn (.mk k2 n2 ys2) bd = f2 at *
            have HTT := Lib.hid HT
            clear HT p0 p1 p2 e0 e1 e2
            cases c
            · have HN : Hid (false = (false && fitsBs mk fn 8 n (ys.take (j + 1)) 0 bd)) := Lib.hid (by rw [HTT.out, ← Bool.and_assoc, ← hc.out]; rfl)
              clear HI2 HTT
              go_wp2_with fail
              exact ⟨⟨j + 1, false, by go_num, by trivial, by omega, HN, Lib.hid (hbb.out.alloc hbV _)⟩, by simp [intOf]; omega⟩
            · exact absurd hc.out (by simp)
          · have HR : Hid (fitsB mk fn (.mk 8 n ys) bd = c) := Lib.hid (by
              have h := hc.out
              rw [List.take_of_length_le (by omega)] at h
              rw [HF.out, ← h])
            clear e0 e1 e2
            go_wp2_with fail
            go_ret
            exact ⟨by rw [HR.out]; try rfl, HWV.out.thenCall HWV.out.size hbb.out⟩
    · have HHD : Hid ((partsB mk fn 8 n ys.length && (!decide ((8 : Int) = 1) || inB bd n)) = false) := Lib.hid (by simp [partsB, h1])
      have hm3 : ((ys.length : Int) == 2) = true := by rw [hm]; rfl
      clear hm
      have HF := Lib.hid (fits_mk (mk := mk) (fn := fn) (k := 8) (n := n) (ys := ys) (bd := bd) (h := false) HHD.out)
      clear HHD
      go_upto_region 24 with fail
      go_wp2_with fail
      go_loopw [8, 177] (fun x i wr => ∃ (j : Nat) (c : Bool), i = .int .i64 j ∧ x = .bool c ∧ j ≤ ys.length ∧ Hid (c = (false && fitsBs mk fn 8 n (ys.take j) 0 bd)) ∧ Hid (Below V.heap.size V wr)) (fun _ i _ => ys.length - (intOf i).toNat)
      case atStart => exact ⟨0, false, rfl, by trivial, Nat.zero_le _, Lib.hid (by rw [List.take_zero, fitsBs, Bool.and_true]), Lib.hid (Below.refl _ _)⟩
      case round =>
        obtain ⟨j, c, rfl, rfl, hj, hc, hbb⟩ := hrel
        have hbV := hbb.out.size
        have hb0 := HH0.out.trans (hbb.out.mono HH0.out.size)
        by_cases hlt : j < ys.length
        · obtain ⟨b, o, rfl, hat⟩ := HSs.out.get j hlt
          have hszj := CoSize_get hlt
          have HT := fitsBs_take (mk := mk) (fn := fn) (k := 8) (n := n) (bd := bd) 0 hlt
          rw [Nat.zero_add, show around 8 n j bd = bd by unfold around; rw [if_neg (by omega)]] at HT
          have HIx := fun (o : Obj) (v : Value) (hv : (ys[j]).Val w0 v) => Lib.hid (HIH.out ys[j] bd (wr.alloc o) v A cap (by omega) (by omega) hv (((HBd.out.below HWV.out (Nat.le_refl _)).below hbb.out (Nat.le_refl _)).below (below1N wr o) (Nat.le_refl _)) (hb0.alloc hb0.size o))
          obtain ⟨p0, p1, p2⟩ := (HP wr hbb.out).out
          have q0 := fun O => (World.cell?_alloc_lt wr O ⟨w.heap.size, 0, none⟩ (Nat.lt_of_lt_of_le hpl hbV)).trans p0
          have q1 := fun O => (World.cell?_alloc_lt wr O ⟨w.heap.size, 1, none⟩ (Nat.lt_of_lt_of_le hpl hbV)).trans p1
          have q2 := fun O => (World.cell?_alloc_lt wr O ⟨w.heap.size, 2, none⟩ (Nat.lt_of_lt_of_le hpl hbV)).trans p2
          generalize ys[j] = y at *
          cases y with
          | mk k2 n2 ys2 =>
          obtain ⟨A3, cap3, d0, d1, d2, hv2⟩ := Co.At.both hat hb0 (Nat.le_refl _)
          have HI2 := fun o => HIx o _ hv2
          clear HIx hat
          generalize fitsB mk fn (.mk k2 n2 ys2) bd = f2 at *
          have HTT := Lib.hid HT
          clear HT p0 p1 p2 e0 e1 e2
          cases c
          · have HN : Hid (false = (false && fitsBs mk fn 8 n (ys.take (j + 1)) 0 bd)) := Lib.hid (by rw [HTT.out, ← Bool.and_assoc, ← hc.out]; rfl)
            clear HI2 HTT
            go_wp2_with fail
            exact ⟨⟨j + 1, false, by go_num, by trivial, by omega, HN, Lib.hid (hbb.out.alloc hbV _)⟩, by simp [intOf]; omega⟩
          · exact absurd hc.out (by simp)
        · have HR : Hid (fitsB mk fn (.mk 8 n ys) bd = c) := Lib.hid (by
            have h := hc.out
            rw [List.take_of_length_le (by omega)] at h
            rw [HF.out, ← h])
          clear e0 e1 e2
          go_wp2_with fail
          go_ret
          exact ⟨by rw [HR.out]; try rfl, HWV.out.thenCall HWV.out.size hbb.out⟩
  · have hm2 : ¬ (ys.length : Int) = 2 := by omega
    have hm3 : ((ys.length : Int) == 2) = false := beq_eq_false_iff_ne.2 hm2
    have HHD : Hid ((partsB mk fn 8 n ys.length && (!decide ((8 : Int) = 1) || inB bd n)) = false) := Lib.hid (by unfold partsB; rw [hm3]; simp)
    have HF := Lib.hid (fits_mk (mk := mk) (fn := fn) (k := 8) (n := n) (ys := ys) (bd := bd) (h := false) HHD.out)
    clear HHD
    go_upto_region 24 with fail
    go_wp2_with fail
    go_loopw [8, 177] (fun x i wr => ∃ (j : Nat) (c : Bool), i = .int .i64 j ∧ x = .bool c ∧ j ≤ ys.length ∧ Hid (c = (false && fitsBs mk fn 8 n (ys.take j) 0 bd)) ∧ Hid (Below V.heap.size V wr)) (fun _ i _ => ys.length - (intOf i).toNat)
    case atStart => exact ⟨0, false, rfl, by trivial, Nat.zero_le _, Lib.hid (by rw [List.take_zero, fitsBs, Bool.and_true]), Lib.hid (Below.refl _ _)⟩
    case round =>
      obtain ⟨j, c, rfl, rfl, hj, hc, hbb⟩ := hrel
      have hbV := hbb.out.size
      have hb0 := HH0.out.trans (hbb.out.mono HH0.out.size)
      by_cases hlt : j < ys.length
      · obtain ⟨b, o, rfl, hat⟩ := HSs.out.get j hlt
        have hszj := CoSize_get hlt
        have HT := fitsBs_take (mk := mk) (fn := fn) (k := 8) (n := n) (bd := bd) 0 hlt
        rw [Nat.zero_add, show around 8 n j bd = bd by unfold around; rw [if_neg (by omega)]] at HT
        have HIx := fun (o : Obj) (v : Value) (hv : (ys[j]).Val w0 v) => Lib.hid (HIH.out ys[j] bd (wr.alloc o) v A cap (by omega) (by omega) hv (((HBd.out.below HWV.out (Nat.le_refl _)).below hbb.out (Nat.le_refl _)).below (below1N wr o) (Nat.le_refl _)) (hb0.alloc hb0.size o))
        obtain ⟨p0, p1, p2⟩ := (HP wr hbb.out).out
        have q0 := fun O => (World.cell?_alloc_lt wr O ⟨w.heap.size, 0, none⟩ (Nat.lt_of_lt_of_le hpl hbV)).trans p0
        have q1 := fun O => (World.cell?_alloc_lt wr O ⟨w.heap.size, 1, none⟩ (Nat.lt_of_lt_of_le hpl hbV)).trans p1
        have q2 := fun O => (World.cell?_alloc_lt wr O ⟨w.heap.size, 2, none⟩ (Nat.lt_of_lt_of_le hpl hbV)).trans p2
        generalize ys[j] = y at *
        cases y with
        | mk k2 n2 ys2 =>
        obtain ⟨A3, cap3, d0, d1, d2, hv2⟩ := Co.At.both hat hb0 (Nat.le_refl _)
        have HI2 := fun o => HIx o _ hv2
        clear HIx hat
        generalize fitsB mk fn (.mk k2 n2 ys2) bd = f2 at *
        have HTT := Lib.hid HT
        clear HT p0 p1 p2 e0 e1 e2
        cases c
        · have HN : Hid (false = (false && fitsBs mk fn 8 n (ys.take (j + 1)) 0 bd)) := Lib.hid (by rw [HTT.out, ← Bool.and_assoc, ← hc.out]; rfl)
          clear HI2 HTT
          go_wp2_with fail
          exact ⟨⟨j + 1, false, by go_num, by trivial, by omega, HN, Lib.hid (hbb.out.alloc hbV _)⟩, by simp [intOf]; omega⟩
        · exact absurd hc.out (by simp)
      · have HR : Hid (fitsB mk fn (.mk 8 n ys) bd = c) := Lib.hid (by
          have h := hc.out
          rw [List.take_of_length_le (by omega)] at h
          rw [HF.out, ← h])
        clear e0 e1 e2
        go_wp2_with fail
        go_ret
        exact ⟨by rw [HR.out]; try rfl, HWV.out.thenCall HWV.out.size hbb.out⟩
set_option maxRecDepth 100000 in
set_option maxHeartbeats 8000000 in
theorem law26_0 (k : Int) (hk : k < 1 ∨ 10 < k) (N : Nat) (w0 : World) (mk fn : List Int) (Ak Am Af : Option Addr) (nk ck cm cf : Nat) (hmk : NumAt w0 4 Am mk) (hfn : NumAt w0 7 Af fn) (hl1 : mk.length ≤ 4194304) (hl2 : fn.length ≤ 4194304)
    (ih : Law26 N w0 mk fn (.agg #[.slice Ak nk ck, .slice Am mk.length cm, .slice Af fn.length cf])) (n : Int) (ys : List Co) (bd : List Int) (w : World) (A' A : Option Addr) (cap' cap : Nat) (hN : CoSize ys ≤ N) (hsz : bd.length + (CoSize ys + 1) ≤ 4194304) (hd : CoHd A' ys.length cap') (hs : Cos w0 A' ys) (hbd : InSl w A cap bd) (h0 : Below w0.heap.size w0 w) :
    Calls Try.prog 26 #[.agg #[.slice Ak nk ck, .slice Am mk.length cm, .slice Af fn.length cf], .agg #[.int .i64 k, .int .i64 n, .slice A' ys.length cap'], .slice A bd.length cap] w fun r w' => r = .returned (.bool (fitsB mk fn (.mk k n ys) bd)) ∧ Below w.heap.size w w' := by
  have HR : Hid (fitsB mk fn (.mk k n ys) bd = false) := Lib.hid (by
    rw [fitsB, show partsB mk fn k n ys.length = false by unfold partsB; rw [if_neg (by omega), if_neg (by omega), if_neg (by omega), if_neg (by omega), if_neg (by omega), if_neg (by omega), if_neg (by omega)]]
    rfl)
  have hk1 : (k == 1) = false := by simp; omega
  have hk2 : (k == 2) = false := by simp; omega
  have hk3 : (k == 3) = false := by simp; omega
  have hk4 : (k == 4) = false := by simp; omega
  have hk5 : (k == 5) = false := by simp; omega
  have hk6 : (k == 6) = false := by simp; omega
  have hk7 : (k == 7) = false := by simp; omega
  have hk8 : (k == 8) = false := by simp; omega
  have hk9 : (k == 9) = false := by simp; omega
  have hk10 : (k == 10) = false := by simp; omega
  have HIH := Lib.hid ih
  have HSs := Lib.hid hs
  have HMk := Lib.hid hmk
  have HFn := Lib.hid hfn
  have HBd := Lib.hid hbd
  have hd1 := hd.1
  have hd2 := hd.2.1
  have hd3 := hd.2.2.1
  have hb1 := hbd.2.1
  have hb2 := hbd.2.2.1
  clear ih hs hmk hfn hbd hd
  go_enter Try.func26, Try.ntmps26
  go_upto_region 1 with fail
  have bp0 := heap_alloc_new w (.cells #[.slice Ak nk ck, .slice Am mk.length cm, .slice Af fn.length cf] 26)
  have be := heap_alloc_new (w.alloc (.cells #[.slice Ak nk ck, .slice Am mk.length cm, .slice Af fn.length cf] 26)) (.cells #[.int .i64 k, .int .i64 n, .slice A' ys.length cap'] 29)
  have bp := (Below.heap_alloc _ (.cells #[.int .i64 k, .int .i64 n, .slice A' ys.length cap'] 29) w.heap.size (by simp)).trans bp0
  rw [World.size_alloc] at be
  have hWV : Below w.heap.size w ((w.alloc (.cells #[.slice Ak nk ck, .slice Am mk.length cm, .slice Af fn.length cf] 26)).alloc (.cells #[.int .i64 k, .int .i64 n, .slice A' ys.length cap'] 29)) := (below1N w _).alloc (by simp) _
  generalize (w.alloc (.cells #[.slice Ak nk ck, .slice Am mk.length cm, .slice Af fn.length cf] 26)).alloc (.cells #[.int .i64 k, .int .i64 n, .slice A' ys.length cap'] 29) = V at *
  have hpl := (Array.getElem?_eq_some_iff.1 bp).1
  have hel := (Array.getElem?_eq_some_iff.1 be).1
  have HP := fun (y : World) (hy : Below V.heap.size V y) => Lib.hid (two_cells bp hy)
  have HE := fun (y : World) (hy : Below V.heap.size V y) => Lib.hid (two_cells be hy)
  have h0V := h0.trans (hWV.mono h0.size)
  obtain ⟨p0, p1, p2⟩ := (HP V (Below.refl _ _)).out
  obtain ⟨e0, e1, e2⟩ := (HE V (Below.refl _ _)).out
  have HWV := Lib.hid hWV
  have HH0 := Lib.hid h0V
  clear bp0 bp be hWV
  clear hk
  go_wp2_with fail
  go_ret
  exact ⟨by rw [HR.out]; try rfl, HWV.out⟩
end Go.Proofs.Ytkcgbakjpodmeaa.Co
