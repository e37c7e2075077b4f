/- Contract: core.Fits. -/
import Derived.Test.YtkcgbakjpodmeaaCoC
import Derived.Test.YtkcgbakjpodmeaaWhere
import Derived.Deep.DeepCutAuto
namespace Go.Proofs.Ytkcgbakjpodmeaa.Co
open Go.ChangeShapes Go.WideShapes Go.ChangeAt Go.RowKit Go.Proofs.Ytkcgbakjpodmeaa.Lift Go.Proofs.Ytkcgbakjpodmeaa.Data
set_option linter.unusedVariables false
set_option linter.unusedSimpArgs false
/-- the slots that are bound where a part stands. -/
def around (k n : Int) (i : Nat) (bd : List Int) : List Int := if k = 10 ∨ (k = 9 ∧ i = 1) then bd ++ [n] else bd
mutual
def fitsB (mk fn : List Int) : Co → List Int → Bool
  | .mk k n ys, bd => partsB mk fn k n ys.length && ((!decide (k = 1) || inB bd n) && fitsBs mk fn k n ys 0 bd)
def fitsBs (mk fn : List Int) (k n : Int) : List Co → Nat → List Int → Bool
  | [], _, _ => true
  | e :: r, i, bd => fitsB mk fn e (around k n i bd) && fitsBs mk fn k n r (i + 1) bd
end
theorem fitsBs_take {mk fn : List Int} {k n : Int} {bd : List Int} : ∀ {ys : List Co} {j : Nat} (i : Nat) (h : j < ys.length), fitsBs mk fn k n (ys.take (j + 1)) i bd = (fitsBs mk fn k n (ys.take j) i bd && fitsB mk fn ys[j] (around k n (i + j) bd))
  | [], _, _, h => by simp at h
  | e :: r, 0, i, _ => by simp [fitsBs]
  | e :: r, j + 1, i, h => by
    simp only [List.take_succ_cons, fitsBs, List.getElem_cons_succ]
    rw [fitsBs_take (i + 1) (by simpa using h), Bool.and_assoc, show i + 1 + j = i + (j + 1) by omega]
theorem fitsBs_false {mk fn : List Int} {k n : Int} {bd : List Int} : ∀ {ys : List Co} {j : Nat} (i : Nat) (h : j < ys.length), fitsB mk fn ys[j] (around k n (i + j) bd) = false → fitsBs mk fn k n ys i bd = false
  | [], _, _, h, _ => by simp at h
  | e :: r, 0, i, _, h => by simp at h; simp [fitsBs, h]
  | e :: r, j + 1, i, h, h2 => by
    simp only [fitsBs, Bool.and_eq_false_iff]
    exact .inr (fitsBs_false (i + 1) (by simpa using h) (by rw [show i + 1 + j = i + (j + 1) by omega]; simpa using h2))
theorem two_cells {V z : World} {b : Nat} {v0 v1 v2 : Value} {t : TypeId} (h : V.heap[b]? = some (.cells #[v0, v1, v2] t (0, 0))) (hz : Below V.heap.size V z) : z.cell? ⟨b, 0, none⟩ = some v0 ∧ z.cell? ⟨b, 1, none⟩ = some v1 ∧ z.cell? ⟨b, 2, none⟩ = some v2 := by
  have := (hz.block _ (Array.getElem?_eq_some_iff.1 h).1).trans h
  exact ⟨cellOf this 0, cellOf this 1, cellOf this 2⟩
theorem srcD (w : World) (n : Int) : Src (w.alloc (.cells #[.int .i64 n] 3)).drew 1 (some ⟨w.heap.size, 0, none⟩) 1 [.int .i64 n] := Src.of_own (own_new w 3 1 1 #[.int .i64 n] rfl (by omega))
/-- what the inner list is. -/
def Inner (W : World) (bd : List Int) (n : Int) (u : Value) (wx : World) : Prop := ∃ A2 cap2, u = .slice A2 (bd.length + 1) cap2 ∧ InSl wx A2 cap2 (bd ++ [n]) ∧ Below W.heap.size W wx
theorem inner_fin {W x y : World} {bd : List Int} {n : Int} {B : Nat} {v : Value} (hB : Below W.heap.size W x) (ho : x.ownsRow B 3 1 v (bd.length + 1) (bd.map (Value.int .i64) ++ [.int .i64 n])) (hm : bd.length + 1 ≤ 4194304) : Inner W bd n v x := by
  have e : bd.map (Value.int .i64) ++ [.int .i64 n] = (bd ++ [n]).map (Value.int .i64) := by simp
  have e2 : bd.length + 1 = (bd ++ [n]).length := by simp
  rw [e, e2] at ho
  obtain ⟨A2, cap2, rfl, -, -⟩ := own_form ho
  have ho : OwnR x B A2 cap2 (bd ++ [n]) := ho
  exact ⟨A2, cap2, by rw [← e2], ho.insl (by rw [← e2]; exact hm), hB⟩
set_option maxRecDepth 100000 in
set_option maxHeartbeats 4000000 in
theorem fits_any (N : Nat) (w0 : World) (mk fn : List Int) (pv : Value) (hp : PrV w0 pv mk fn) : ∀ (e : Co) (bd : List Int) (w : World) (v : Value) (A : Option Addr) (cap : Nat), e.size ≤ N → bd.length + e.size ≤ 4194304 → e.Val w0 v → InSl w A cap bd → Below w0.heap.size w0 w →
    Calls Try.prog 7 #[pv, v, .slice A bd.length cap] w fun r w' => r = .returned (.bool (fitsB mk fn e bd)) ∧ Below w.heap.size w w' := by
  have HP := Lib.hid hp
  obtain ⟨Ak, nk, ck, Am, cm, Af, cf, rfl, -, -, hl1, hl2⟩ := hp
  induction N with
  | zero => intro e bd w v A cap h; cases e; rw [Co.size_mk] at h; omega
  | succ N ih =>
    intro e bd w v A cap hN hsz hv hbd h0
    cases e with
    | mk k n ys =>
    obtain ⟨A', cap', rfl, hd, hs⟩ := hv
    rw [Co.size_mk] at hN hsz
    obtain ⟨V, hV⟩ : ∃ V, V = ((w.alloc (.cells #[.slice Ak nk ck, .slice Am mk.length cm, .slice Af fn.length cf] 26)).alloc (.cells #[.int .i64 k, .int .i64 n, .slice A' ys.length cap'] 29)) := ⟨_, rfl⟩
    have hWV : Below w.heap.size w V := by rw [hV]; exact ((Below.refl _ _).alloc (Nat.le_refl _) _).alloc (by simp) _
    have bp : V.heap[w.heap.size]? = some (.cells #[.slice Ak nk ck, .slice Am mk.length cm, .slice Af fn.length cf] 26 (0, 0)) := by
      rw [hV, Below.heap_alloc _ _ _ (by simp)]
      exact heap_alloc_new w _
    have be : V.heap[w.heap.size + 1]? = some (.cells #[.int .i64 k, .int .i64 n, .slice A' ys.length cap'] 29 (0, 0)) := by
      rw [hV]
      have := heap_alloc_new (w.alloc (.cells #[.slice Ak nk ck, .slice Am mk.length cm, .slice Af fn.length cf] 26)) (.cells #[.int .i64 k, .int .i64 n, .slice A' ys.length cap'] 29)
      rwa [World.size_alloc] at this
    have PB := Lib.hid (fun z (hz : Below V.heap.size V z) => two_cells bp hz)
    have EB := Lib.hid (fun z (hz : Below V.heap.size V z) => two_cells be hz)
    have HV := Lib.hid hV
    have HWV := Lib.hid hWV
    have hVs : w.heap.size + 1 < V.heap.size := (Array.getElem?_eq_some_iff.1 be).1
    have hPa := parts_any mk fn k n A' ys.length cap' hd.2.2.1 w0 V _ HP.out (h0.trans (hWV.mono h0.size))
    have HIH := Lib.hid ih
    clear hV hWV bp be ih
    cases hpb : partsB mk fn k n ys.length with
    | false =>
      rw [hpb] at hPa
      have HF : Hid (fitsB mk fn (.mk k n ys) bd = false) := Lib.hid (by rw [fitsB, hpb, Bool.false_and])
      have HPa := Lib.hid hPa
      clear hPa hpb hs
      go_enter Try.func7, Try.ntmps7
      go_wp2_with fail
      rw [← HV.out]
      go_wp2_with fail
      refine HPa.out.mono ?_
      rintro _ V1 ⟨rfl, hb1⟩
      go_wp2_with fail
      go_ret
      exact ⟨by rw [HF.out]; rfl, HWV.out.thenCall HWV.out.size hb1⟩
    | true =>
      rw [hpb] at hPa
      have HPa := Lib.hid hPa
      clear hPa
      by_cases hk1 : k = 1
      · subst hk1
        cases hib : inB bd n with
        | false =>
          have HF : Hid (fitsB mk fn (.mk 1 n ys) bd = false) := Lib.hid (by rw [fitsB, hpb, hib]; rfl)
          clear hpb hs
          go_enter Try.func7, Try.ntmps7
          go_wp2_with fail
          rw [← HV.out]
          go_wp2_with fail
          refine HPa.out.mono ?_
          rintro _ V1 ⟨rfl, hb1⟩
          obtain ⟨e0, e1, e2⟩ := EB.out _ hb1
          have hC := contains_any V1 A cap bd n ((hbd.below HWV.out (Nat.le_refl _)).below hb1 (Nat.le_refl _))
          rw [hib] at hC
          have HC := Lib.hid hC
          clear hC hib
          go_wp2_with fail
          refine HC.out.mono ?_
          rintro _ V2 ⟨rfl, rfl⟩
          go_wp2_with fail
          go_ret
          exact ⟨by rw [HF.out]; rfl, HWV.out.thenCall HWV.out.size hb1⟩
        | true =>
          have HF : Hid (fitsB mk fn (.mk 1 n ys) bd = fitsBs mk fn 1 n ys 0 bd) := Lib.hid (by rw [fitsB, hpb, hib]; rfl)
          clear hpb
          go_enter Try.func7, Try.ntmps7
          go_wp2_with fail
          rw [← HV.out]
          go_wp2_with fail
          refine HPa.out.mono ?_
          rintro _ V1 ⟨rfl, hb1⟩
          obtain ⟨e0, e1, e2⟩ := EB.out _ hb1
          have hC := contains_any V1 A cap bd n ((hbd.below HWV.out (Nat.le_refl _)).below hb1 (Nat.le_refl _))
          rw [hib] at hC
          have HC := Lib.hid hC
          clear hC hib
          go_wp2_with fail
          refine HC.out.mono ?_
          rintro _ V2 ⟨rfl, rfl⟩
          have HV1 := Lib.hid hb1
          clear hb1 e0 e1 e2
          have MS : Hid (∀ y, Below V1.heap.size V1 y → (fun w' : World => w'.cell? ⟨w.heap.size + 1, 1, none⟩ = some (.int .i64 n)) y) := Lib.hid (fun y hy => (EB.out y (HV1.out.thenCall HV1.out.size hy)).2.1)
          have HCl := fun y (hy : Below V1.heap.size V1 y) => Lib.hid (clone_any y A cap bd (((hbd.below HWV.out (Nat.le_refl _)).below HV1.out (Nat.le_refl _)).below hy (Nat.le_refl _)))
          obtain ⟨i0, hi0, hz0, hz1, hz2⟩ := info_parts info3'
          have hone : ∀ u ∈ [Value.int .i64 n], u.oneCell' = true := by simp [Value.oneCell']
          have hg1 : bd.length + 1 ≤ maxLen := by unfold maxLen; omega
          have hg2' : (bd.length + 1) * 8 ≤ 140737488355328 := by omega
          have HFIN := fun x v hB ho => Lib.hid (inner_fin (W := V1) (x := x) (bd := bd) (n := n) (y := x) (B := V1.heap.size) (v := v) hB ho (by omega))
          go_upto_region 3 with fail
          go_cut [7] (fun u wx => Inner V1 bd n u wx)
          case first =>
            have hB0 : Below V1.heap.size V1 V1.drew := (Below.refl _ _).drew
            have hle0 : V1.heap.size ≤ V1.drew.heap.size := Nat.le_refl _
            have hBA : ∀ o, Below V1.heap.size V1 (V1.alloc o).drew := fun o => ((Below.refl _ _).alloc (Nat.le_refl _) o).drew
            have hle1 : ∀ o, V1.heap.size ≤ (V1.alloc o).drew.heap.size := fun o => (hBA o).size
            go_region_held3 (fun w' => w'.cell? ⟨w.heap.size + 1, 1, none⟩ = some (.int .i64 n))
              (first | exact MS.out _ hB2 | exact MS.out _ (hB1.alloc hB1.size _) | exact MS.out _ hB1 | exact MS.out _ (hBA _) | exact MS.out _ (hB0.alloc hB0.size _) | exact MS.out _ hB0)
              (first
               | (go_at_call 17; ((with_reducible refine (HCl _ hB0).out.mono ?_); rintro _ y1 ⟨A1, c1, rfl, r1', q1⟩; have r1 := own_less r1' hle0; have hB1 := hB0.thenCall hB0.size q1))
               | (go_at_call 17; ((with_reducible refine (HCl _ (hBA _)).out.mono ?_); rintro _ y1 ⟨A1, c1, rfl, r1', q1⟩; have r1 := own_less r1' (hle1 _); have hB1 := (hBA _).thenCall (hle1 _) q1))
               | (refine step_append_where (by rfl) (.tmp 28) (.tmp 31) 30 rfl V1.heap.size 3 i0 _ 1 8 Try.underlying30 hi0 hz0 hz1 hz2 rfl Nat.one_pos (.slice A1 bd.length c1) bd.length _ rfl (own_below r1 ((Below.refl _ _).alloc (Nat.le_refl _) _) (Nat.le_refl _)) (some ⟨y1.heap.size, 0, none⟩) 1 1 [.int .i64 n] rfl (Src.of_own (own_new y1 3 1 1 #[.int .i64 n] rfl (by omega))) (fun h => nomatch h) hone hg1 hg2' (hB1.alloc hB1.size _).size ?_; intro v2 y2 hO2 hG2 hf2; have hB2 := (hB1.alloc hB1.size (.cells #[.int .i64 n] 3)).trans (below_grown (own_below r1 ((Below.refl _ _).alloc (Nat.le_refl _) _) (Nat.le_refl _)) hG2 (hB1.alloc hB1.size _).size))
               | (refine step_append_where (by rfl) (.tmp 28) (.tmp 31) 30 rfl V1.heap.size 3 i0 _ 1 8 Try.underlying30 hi0 hz0 hz1 hz2 rfl Nat.one_pos (.slice A1 bd.length c1) bd.length _ rfl r1 (some ⟨V1.heap.size, 0, none⟩) 1 1 [.int .i64 n] rfl ((srcD V1 n).below q1 (Nat.le_refl _)) (fun h => nomatch h) hone hg1 hg2' hB1.size ?_; intro v2 y2 hO2 hG2 hf2; have hB2 := hB1.trans (below_grown r1 hG2 hB1.size)))
            all_goals
              go_wp2_with fail
              go_meet
              exact (HFIN _ _ hB2 hO2).out
          case rest =>
            obtain ⟨A2, cap2, rfl, hin, hbi⟩ := hcut
            have hVi := HV1.out.thenCall HV1.out.size hbi
            have hwi := HWV.out.thenCall HWV.out.size hVi
            obtain ⟨e0, e1, e2⟩ := EB.out _ hVi
            have HIn := Lib.hid hin
            have HBd := Lib.hid (hbd.below hwi (Nat.le_refl _))
            clear hin MS HCl HFIN hbi hbd
            go_wp2_with fail
            go_loopw [36] (fun i wr => ∃ j : Nat, i = .int .i64 j ∧ j ≤ ys.length ∧ Hid (fitsBs mk fn 1 n (ys.take j) 0 bd = true) ∧ Below wc.heap.size wc wr) (fun i _ => ys.length - (intOf i).toNat)
            case atStart => exact ⟨0, rfl, Nat.zero_le _, Lib.hid (by rw [List.take_zero, fitsBs]), Below.refl _ _⟩
            case round =>
              obtain ⟨j, rfl, hj, hsj, hb⟩ := hrel
              have hlen := hd.2.2.1
              clear e0 e1 e2
              by_cases hlt : j < ys.length
              · obtain ⟨b, o, rfl, hat⟩ := hs.get j hlt
                have hsz2 := CoSize_get hlt
                have hwr := hwi.thenCall hwi.size hb
                have hb0 := h0.trans (hwr.mono h0.size)
                have hVr := hVi.thenCall hVi.size hb
                obtain ⟨p0, p1, p2⟩ := PB.out _ hVr
                obtain ⟨e0, e1, e2⟩ := EB.out _ hVr
                have hbw : w.heap.size + 1 < wr.heap.size := Nat.lt_of_lt_of_le hVs hVr.size
                have q0 := fun O => (World.cell?_alloc_lt wr O ⟨w.heap.size, 0, none⟩ (Nat.lt_of_succ_lt hbw)).trans p0
                have q1 := fun O => (World.cell?_alloc_lt wr O ⟨w.heap.size, 1, none⟩ (Nat.lt_of_succ_lt hbw)).trans p1
                have q2 := fun O => (World.cell?_alloc_lt wr O ⟨w.heap.size, 2, none⟩ (Nat.lt_of_succ_lt hbw)).trans p2
                have r0 := fun O => (World.cell?_alloc_lt wr O ⟨w.heap.size + 1, 0, none⟩ hbw).trans e0
                have hal : ∀ o, Below wr.heap.size wr (wr.alloc o) := fun o => (Below.refl _ _).alloc (Nat.le_refl _) o
                have HT := fitsBs_take (mk := mk) (fn := fn) (k := 1) (n := n) (bd := bd) 0 hlt
                have HF2 := fitsBs_false (mk := mk) (fn := fn) (k := 1) (n := n) (bd := bd) 0 hlt
                rw [Nat.zero_add] at HT HF2
                have hrr : around 1 n j bd = bd := by unfold around; rw [if_neg (by omega)]
                rw [hrr] at HT HF2
                have HIx := fun (o : Obj) (v : Value) (hv : (ys[j]).Val w0 v) => Lib.hid (HIH.out ys[j] (bd) (wr.alloc o) v A cap (by omega) (by (try simp only [List.length_append, List.length_cons, List.length_nil]); omega) hv ((HBd.out.below hb (Nat.le_refl _)).below (hal o) (Nat.le_refl _)) (hb0.alloc hb0.size o))
                clear hrr
                generalize ys[j] = y at *
                cases y with
                | mk k2 n2 ys2 =>
                  obtain ⟨A3, cap3, d0, d1, d2, hv2⟩ := Co.At.both hat hb0 (Nat.le_refl _)
                  have HI2 := fun o => HIx o _ hv2
                  clear HIx hat hs
                  cases hfb : fitsB mk fn (.mk k2 n2 ys2) (bd) with
                  | false =>
                    rw [hfb] at HI2
                    have HFF := Lib.hid (HF2 hfb)
                    clear hfb HT HF2
                    go_wp2_with fail
                    refine (HI2 _).out.mono ?_
                    rintro _ w1 ⟨rfl, hb1⟩
                    go_wp2_with fail
                    go_ret
                    exact ⟨by rw [HF.out, HFF.out]; rfl, hwi.thenCall hwi.size (hb.thenCall hb.size (Below.call1 hb1))⟩
                  | true =>
                    rw [hfb] at HI2
                    have HTT : Hid (fitsBs mk fn 1 n (ys.take (j + 1)) 0 bd = true) := Lib.hid (by rw [HT, hsj.out, hfb]; rfl)
                    clear hfb HT HF2
                    go_wp2_with fail
                    refine (HI2 _).out.mono ?_
                    rintro _ w1 ⟨rfl, hb1⟩
                    go_wp2_with fail
                    exact ⟨⟨j + 1, by go_num, by omega, HTT, hb.thenCall hb.size (Below.call1 hb1)⟩, by simp [intOf]; omega⟩
              · have HE : Hid (fitsBs mk fn 1 n ys 0 bd = true) := Lib.hid (by have h := hsj.out; rwa [List.take_of_length_le (by omega)] at h)
                clear hs
                go_wp2_with fail
                go_ret
                exact ⟨by rw [HF.out, HE.out]; rfl, hwi.thenCall hwi.size hb⟩
      · have hk0 : (k == 1) = false := by simpa using hk1
        have HF : Hid (fitsB mk fn (.mk k n ys) bd = fitsBs mk fn k n ys 0 bd) := Lib.hid (by rw [fitsB, hpb, decide_eq_false hk1]; rfl)
        clear hpb hk1
        go_enter Try.func7, Try.ntmps7
        go_wp2_with fail
        rw [← HV.out]
        go_wp2_with fail
        refine HPa.out.mono ?_
        rintro _ V1 ⟨rfl, hb1⟩
        obtain ⟨e0, e1, e2⟩ := EB.out _ hb1
        have HV1 := Lib.hid hb1
        clear hb1
        have MS : Hid (∀ y, Below V1.heap.size V1 y → (fun w' : World => w'.cell? ⟨w.heap.size + 1, 1, none⟩ = some (.int .i64 n)) y) := Lib.hid (fun y hy => (EB.out y (HV1.out.thenCall HV1.out.size hy)).2.1)
        have HCl := fun y (hy : Below V1.heap.size V1 y) => Lib.hid (clone_any y A cap bd (((hbd.below HWV.out (Nat.le_refl _)).below HV1.out (Nat.le_refl _)).below hy (Nat.le_refl _)))
        obtain ⟨i0, hi0, hz0, hz1, hz2⟩ := info_parts info3'
        have hone : ∀ u ∈ [Value.int .i64 n], u.oneCell' = true := by simp [Value.oneCell']
        have hg1 : bd.length + 1 ≤ maxLen := by unfold maxLen; omega
        have hg2' : (bd.length + 1) * 8 ≤ 140737488355328 := by omega
        have HFIN := fun x v hB ho => Lib.hid (inner_fin (W := V1) (x := x) (bd := bd) (n := n) (y := x) (B := V1.heap.size) (v := v) hB ho (by omega))
        go_upto_region 3 with fail
        go_cut [7] (fun u wx => Inner V1 bd n u wx)
        case first =>
          have hB0 : Below V1.heap.size V1 V1.drew := (Below.refl _ _).drew
          have hle0 : V1.heap.size ≤ V1.drew.heap.size := Nat.le_refl _
          have hBA : ∀ o, Below V1.heap.size V1 (V1.alloc o).drew := fun o => ((Below.refl _ _).alloc (Nat.le_refl _) o).drew
          have hle1 : ∀ o, V1.heap.size ≤ (V1.alloc o).drew.heap.size := fun o => (hBA o).size
          go_region_held3 (fun w' => w'.cell? ⟨w.heap.size + 1, 1, none⟩ = some (.int .i64 n))
            (first | exact MS.out _ hB2 | exact MS.out _ (hB1.alloc hB1.size _) | exact MS.out _ hB1 | exact MS.out _ (hBA _) | exact MS.out _ (hB0.alloc hB0.size _) | exact MS.out _ hB0)
            (first
             | (go_at_call 17; ((with_reducible refine (HCl _ hB0).out.mono ?_); rintro _ y1 ⟨A1, c1, rfl, r1', q1⟩; have r1 := own_less r1' hle0; have hB1 := hB0.thenCall hB0.size q1))
             | (go_at_call 17; ((with_reducible refine (HCl _ (hBA _)).out.mono ?_); rintro _ y1 ⟨A1, c1, rfl, r1', q1⟩; have r1 := own_less r1' (hle1 _); have hB1 := (hBA _).thenCall (hle1 _) q1))
             | (refine step_append_where (by rfl) (.tmp 28) (.tmp 31) 30 rfl V1.heap.size 3 i0 _ 1 8 Try.underlying30 hi0 hz0 hz1 hz2 rfl Nat.one_pos (.slice A1 bd.length c1) bd.length _ rfl (own_below r1 ((Below.refl _ _).alloc (Nat.le_refl _) _) (Nat.le_refl _)) (some ⟨y1.heap.size, 0, none⟩) 1 1 [.int .i64 n] rfl (Src.of_own (own_new y1 3 1 1 #[.int .i64 n] rfl (by omega))) (fun h => nomatch h) hone hg1 hg2' (hB1.alloc hB1.size _).size ?_; intro v2 y2 hO2 hG2 hf2; have hB2 := (hB1.alloc hB1.size (.cells #[.int .i64 n] 3)).trans (below_grown (own_below r1 ((Below.refl _ _).alloc (Nat.le_refl _) _) (Nat.le_refl _)) hG2 (hB1.alloc hB1.size _).size))
             | (refine step_append_where (by rfl) (.tmp 28) (.tmp 31) 30 rfl V1.heap.size 3 i0 _ 1 8 Try.underlying30 hi0 hz0 hz1 hz2 rfl Nat.one_pos (.slice A1 bd.length c1) bd.length _ rfl r1 (some ⟨V1.heap.size, 0, none⟩) 1 1 [.int .i64 n] rfl ((srcD V1 n).below q1 (Nat.le_refl _)) (fun h => nomatch h) hone hg1 hg2' hB1.size ?_; intro v2 y2 hO2 hG2 hf2; have hB2 := hB1.trans (below_grown r1 hG2 hB1.size)))
          all_goals
            go_wp2_with fail
            go_meet
            exact (HFIN _ _ hB2 hO2).out
        case rest =>
          obtain ⟨A2, cap2, rfl, hin, hbi⟩ := hcut
          have hVi := HV1.out.thenCall HV1.out.size hbi
          have hwi := HWV.out.thenCall HWV.out.size hVi
          obtain ⟨e0, e1, e2⟩ := EB.out _ hVi
          have HIn := Lib.hid hin
          have HBd := Lib.hid (hbd.below hwi (Nat.le_refl _))
          clear hin MS HCl HFIN hbi hbd
          go_wp2_with fail
          go_loopw [36] (fun i wr => ∃ j : Nat, i = .int .i64 j ∧ j ≤ ys.length ∧ Hid (fitsBs mk fn k n (ys.take j) 0 bd = true) ∧ Below wc.heap.size wc wr) (fun i _ => ys.length - (intOf i).toNat)
          case atStart => exact ⟨0, rfl, Nat.zero_le _, Lib.hid (by rw [List.take_zero, fitsBs]), Below.refl _ _⟩
          case round =>
            obtain ⟨j, rfl, hj, hsj, hb⟩ := hrel
            have hlen := hd.2.2.1
            clear e0 e1 e2
            by_cases hlt : j < ys.length
            · obtain ⟨b, o, rfl, hat⟩ := hs.get j hlt
              have hsz2 := CoSize_get hlt
              have hwr := hwi.thenCall hwi.size hb
              have hb0 := h0.trans (hwr.mono h0.size)
              have hVr := hVi.thenCall hVi.size hb
              obtain ⟨p0, p1, p2⟩ := PB.out _ hVr
              obtain ⟨e0, e1, e2⟩ := EB.out _ hVr
              have hbw : w.heap.size + 1 < wr.heap.size := Nat.lt_of_lt_of_le hVs hVr.size
              have q0 := fun O => (World.cell?_alloc_lt wr O ⟨w.heap.size, 0, none⟩ (Nat.lt_of_succ_lt hbw)).trans p0
              have q1 := fun O => (World.cell?_alloc_lt wr O ⟨w.heap.size, 1, none⟩ (Nat.lt_of_succ_lt hbw)).trans p1
              have q2 := fun O => (World.cell?_alloc_lt wr O ⟨w.heap.size, 2, none⟩ (Nat.lt_of_succ_lt hbw)).trans p2
              have r0 := fun O => (World.cell?_alloc_lt wr O ⟨w.heap.size + 1, 0, none⟩ hbw).trans e0
              have hal : ∀ o, Below wr.heap.size wr (wr.alloc o) := fun o => (Below.refl _ _).alloc (Nat.le_refl _) o
              have HT := fitsBs_take (mk := mk) (fn := fn) (k := k) (n := n) (bd := bd) 0 hlt
              have HF2 := fitsBs_false (mk := mk) (fn := fn) (k := k) (n := n) (bd := bd) 0 hlt
              rw [Nat.zero_add] at HT HF2
              by_cases k10 : k = 10
              · subst k10
                have hrr : around 10 n j bd = bd ++ [n] := by unfold around; rw [if_pos (by omega)]
                rw [hrr] at HT HF2
                have HIx := fun (o : Obj) (v : Value) (hv : (ys[j]).Val w0 v) => Lib.hid (HIH.out ys[j] (bd ++ [n]) (wr.alloc o) v A2 cap2 (by omega) (by (try simp only [List.length_append, List.length_cons, List.length_nil]); omega) hv ((HIn.out.below hb (Nat.le_refl _)).below (hal o) (Nat.le_refl _)) (hb0.alloc hb0.size o))
                clear hrr
                generalize ys[j] = y at *
                cases y with
                | mk k2 n2 ys2 =>
                  obtain ⟨A3, cap3, d0, d1, d2, hv2⟩ := Co.At.both hat hb0 (Nat.le_refl _)
                  have HI2 := fun o => HIx o _ hv2
                  rw [show (bd ++ [n]).length = bd.length + 1 by simp] at HI2
                  clear HIx hat hs
                  cases hfb : fitsB mk fn (.mk k2 n2 ys2) (bd ++ [n]) with
                  | false =>
                    rw [hfb] at HI2
                    have HFF := Lib.hid (HF2 hfb)
                    clear hfb HT HF2
                    go_wp2_with fail
                    refine (HI2 _).out.mono ?_
                    rintro _ w1 ⟨rfl, hb1⟩
                    go_wp2_with fail
                    go_ret
                    exact ⟨by rw [HF.out, HFF.out]; rfl, hwi.thenCall hwi.size (hb.thenCall hb.size (Below.call1 hb1))⟩
                  | true =>
                    rw [hfb] at HI2
                    have HTT : Hid (fitsBs mk fn 10 n (ys.take (j + 1)) 0 bd = true) := Lib.hid (by rw [HT, hsj.out, hfb]; rfl)
                    clear hfb HT HF2
                    go_wp2_with fail
                    refine (HI2 _).out.mono ?_
                    rintro _ w1 ⟨rfl, hb1⟩
                    go_wp2_with fail
                    exact ⟨⟨j + 1, by go_num, by omega, HTT, hb.thenCall hb.size (Below.call1 hb1)⟩, by simp [intOf]; omega⟩
              · have k10' : (k == 10) = false := by simpa using k10
                by_cases k9 : k = 9
                · subst k9
                  by_cases j1 : j = 1
                  · subst j1
                    have hrr : around 9 n 1 bd = bd ++ [n] := by unfold around; rw [if_pos (by omega)]
                    rw [hrr] at HT HF2
                    have HIx := fun (o : Obj) (v : Value) (hv : (ys[1]).Val w0 v) => Lib.hid (HIH.out ys[1] (bd ++ [n]) (wr.alloc o) v A2 cap2 (by omega) (by (try simp only [List.length_append, List.length_cons, List.length_nil]); omega) hv ((HIn.out.below hb (Nat.le_refl _)).below (hal o) (Nat.le_refl _)) (hb0.alloc hb0.size o))
                    clear hrr
                    generalize ys[1] = y at *
                    cases y with
                    | mk k2 n2 ys2 =>
                      obtain ⟨A3, cap3, d0, d1, d2, hv2⟩ := Co.At.both hat hb0 (Nat.le_refl _)
                      have HI2 := fun o => HIx o _ hv2
                      rw [show (bd ++ [n]).length = bd.length + 1 by simp] at HI2
                      clear HIx hat hs
                      cases hfb : fitsB mk fn (.mk k2 n2 ys2) (bd ++ [n]) with
                      | false =>
                        rw [hfb] at HI2
                        have HFF := Lib.hid (HF2 hfb)
                        clear hfb HT HF2
                        go_wp2_with fail
                        refine (HI2 _).out.mono ?_
                        rintro _ w1 ⟨rfl, hb1⟩
                        go_wp2_with fail
                        go_ret
                        exact ⟨by rw [HF.out, HFF.out]; rfl, hwi.thenCall hwi.size (hb.thenCall hb.size (Below.call1 hb1))⟩
                      | true =>
                        rw [hfb] at HI2
                        have HTT : Hid (fitsBs mk fn 9 n (ys.take (1 + 1)) 0 bd = true) := Lib.hid (by rw [HT, hsj.out, hfb]; rfl)
                        clear hfb HT HF2
                        go_wp2_with fail
                        refine (HI2 _).out.mono ?_
                        rintro _ w1 ⟨rfl, hb1⟩
                        go_wp2_with fail
                        exact ⟨⟨1 + 1, by go_num, by omega, HTT, hb.thenCall hb.size (Below.call1 hb1)⟩, by simp [intOf]; omega⟩
                  · have j1' : ((j : Int) == 1) = false := by simp; omega
                    have hrr : around 9 n j bd = bd := by unfold around; rw [if_neg (by omega)]
                    clear j1
                    rw [hrr] at HT HF2
                    have HIx := fun (o : Obj) (v : Value) (hv : (ys[j]).Val w0 v) => Lib.hid (HIH.out ys[j] (bd) (wr.alloc o) v A cap (by omega) (by (try simp only [List.length_append, List.length_cons, List.length_nil]); omega) hv ((HBd.out.below hb (Nat.le_refl _)).below (hal o) (Nat.le_refl _)) (hb0.alloc hb0.size o))
                    clear hrr
                    generalize ys[j] = y at *
                    cases y with
                    | mk k2 n2 ys2 =>
                      obtain ⟨A3, cap3, d0, d1, d2, hv2⟩ := Co.At.both hat hb0 (Nat.le_refl _)
                      have HI2 := fun o => HIx o _ hv2
                      clear HIx hat hs
                      cases hfb : fitsB mk fn (.mk k2 n2 ys2) (bd) with
                      | false =>
                        rw [hfb] at HI2
                        have HFF := Lib.hid (HF2 hfb)
                        clear hfb HT HF2
                        go_wp2_with fail
                        refine (HI2 _).out.mono ?_
                        rintro _ w1 ⟨rfl, hb1⟩
                        go_wp2_with fail
                        go_ret
                        exact ⟨by rw [HF.out, HFF.out]; rfl, hwi.thenCall hwi.size (hb.thenCall hb.size (Below.call1 hb1))⟩
                      | true =>
                        rw [hfb] at HI2
                        have HTT : Hid (fitsBs mk fn 9 n (ys.take (j + 1)) 0 bd = true) := Lib.hid (by rw [HT, hsj.out, hfb]; rfl)
                        clear hfb HT HF2
                        go_wp2_with fail
                        refine (HI2 _).out.mono ?_
                        rintro _ w1 ⟨rfl, hb1⟩
                        go_wp2_with fail
                        exact ⟨⟨j + 1, by go_num, by omega, HTT, hb.thenCall hb.size (Below.call1 hb1)⟩, by simp [intOf]; omega⟩
                · have k9' : (k == 9) = false := by simpa using k9
                  have hrr : around k n j bd = bd := by unfold around; rw [if_neg (by omega)]
                  clear k9 k10
                  rw [hrr] at HT HF2
                  have HIx := fun (o : Obj) (v : Value) (hv : (ys[j]).Val w0 v) => Lib.hid (HIH.out ys[j] (bd) (wr.alloc o) v A cap (by omega) (by (try simp only [List.length_append, List.length_cons, List.length_nil]); omega) hv ((HBd.out.below hb (Nat.le_refl _)).below (hal o) (Nat.le_refl _)) (hb0.alloc hb0.size o))
                  clear hrr
                  generalize ys[j] = y at *
                  cases y with
                  | mk k2 n2 ys2 =>
                    obtain ⟨A3, cap3, d0, d1, d2, hv2⟩ := Co.At.both hat hb0 (Nat.le_refl _)
                    have HI2 := fun o => HIx o _ hv2
                    clear HIx hat hs
                    cases hfb : fitsB mk fn (.mk k2 n2 ys2) (bd) with
                    | false =>
                      rw [hfb] at HI2
                      have HFF := Lib.hid (HF2 hfb)
                      clear hfb HT HF2
                      go_wp2_with fail
                      refine (HI2 _).out.mono ?_
                      rintro _ w1 ⟨rfl, hb1⟩
                      go_wp2_with fail
                      go_ret
                      exact ⟨by rw [HF.out, HFF.out]; rfl, hwi.thenCall hwi.size (hb.thenCall hb.size (Below.call1 hb1))⟩
                    | true =>
                      rw [hfb] at HI2
                      have HTT : Hid (fitsBs mk fn k n (ys.take (j + 1)) 0 bd = true) := Lib.hid (by rw [HT, hsj.out, hfb]; rfl)
                      clear hfb HT HF2
                      go_wp2_with fail
                      refine (HI2 _).out.mono ?_
                      rintro _ w1 ⟨rfl, hb1⟩
                      go_wp2_with fail
                      exact ⟨⟨j + 1, by go_num, by omega, HTT, hb.thenCall hb.size (Below.call1 hb1)⟩, by simp [intOf]; omega⟩
            · have HE : Hid (fitsBs mk fn k n ys 0 bd = true) := Lib.hid (by have h := hsj.out; rwa [List.take_of_length_le (by omega)] at h)
              clear hs
              go_wp2_with fail
              go_ret
              exact ⟨by rw [HF.out, HE.out]; rfl, hwi.thenCall hwi.size hb⟩
end Go.Proofs.Ytkcgbakjpodmeaa.Co
