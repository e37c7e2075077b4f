/- The walk of TraceNode. -/
import Derived.Test.YtccknhhjkkbadaaTnL
import Derived.Test.YtccknhhjkkbadaaMadeR
import Derived.Test.YtccknhhjkkbadaaAwk
namespace Go.Proofs.Ytccknhhjkkbadaa.traceNode
open Go.ChangeShapes Go.WideShapes Go.ChangeAt Go.RowKit Go.Proofs.Ytccknhhjkkbadaa.Lift Go.Proofs.Ytccknhhjkkbadaa.Arn Go.Proofs.Ytccknhhjkkbadaa.ArnN Go.Proofs.Ytccknhhjkkbadaa.Gr Go.Proofs.Ytccknhhjkkbadaa.Dig Go.Proofs.Ytccknhhjkkbadaa.Tn Go.Maps
set_option linter.unusedVariables false
set_option linter.unusedSimpArgs false
theorem w64_nil : W64s 0 [] := ⟨by unfold W64; decide, fun a h => by simp at h⟩
theorem str_ne {s t : ByteArray} {a b : List UInt8} (hs : s.data.toList = a) (ht : t.data.toList = b) (h : a ≠ b) : ¬ s.toList = t.toList := fun e => h (by rw [← hs, ← ht, ← ByteArray.toList_eq, ← ByteArray.toList_eq, e])
set_option maxRecDepth 100000 in
set_option maxHeartbeats 8000000 in
theorem walk (W : World) (n : Int) (A : Option Addr) (cap : Nat) (ds : List Dd) (i k : Int) (hR : Lift.RowsIn (DdR W) W 5 A ds) (hm : ds.length ≤ 1048576) (hwd : ∀ d ∈ ds, W64s d.x.n d.l) (hi : W64 i) (hk : W64 k) :
    Calls Try.prog 8 #[.int .i64 n, .slice A ds.length cap, .int .i64 i, .int .i64 k] W fun e w' => e = .returned (.bool true) ∧ Below W.heap.size W w' := by
  have HR := Lib.hid hR
  have HD := Lib.hid hwd
  have HI := Lib.hid hi
  have HK := Lib.hid hk
  clear hR hwd hi hk
  go_enter Try.func8, Try.ntmps8
  go_wp2_with fail
  refine (Tn.awake_any W).mono ?_
  rintro _ w1 ⟨rfl, hb1⟩
  go_wp2_with fail
  refine (few_any W A cap ds HR.out hm w1 hb1).mono ?_
  rintro _ w3 ⟨rfl, q3⟩
  have hb3 := hb1.thenCall hb1.size q3
  clear q3 hb1
  cases hf1 : fewD ds with
  | false =>
    go_wp2_with fail
    go_ret
    exact ⟨rfl, hb3⟩
  | true =>
    by_cases hn : (100 : Int) < n
    · go_wp2_with fail
      go_ret
      exact ⟨rfl, hb3⟩
    · have hd60 : ds.length ≤ 1000 := by
        unfold fewD at hf1
        rw [Bool.and_eq_true] at hf1
        have := of_decide_eq_true hf1.2
        omega
      clear hf1
      go_wp2_with fail
      refine (madep_any (P := W64s) w64_nil W n A cap ds HR.out HD.out hd60 w3 hb3).mono ?_
      rintro _ w5 ⟨gg, g, m, rfl, ⟨F, xs, us, low, hG, hM, hFm, hBF, hb5⟩, hgg5, hm5⟩
      have hB5 := hb3.thenCall hb3.size hb5
      obtain ⟨D, hown, hhas, hsz, hsaid⟩ := hM
      obtain ⟨y, l, c1, c2, c3, c4, c5, c6⟩ := hsaid i HI.out
      obtain ⟨y', l', c1', c2', c3', c4', c5', c6'⟩ := hsaid k HK.out
      have hN1 := Lib.hid (node_any i HI.out l hG c5.args (c3 ▸ c6))
      have hN2 := Lib.hid (fun z (hz : Below w5.heap.size w5 z) => node_any k HK.out l' (hG.below hz) (c5'.args.below hz) (c3' ▸ c6'))
      have hl := c4.2.2.1
      have HS1 := Lib.hid (nodeS_len (k := (getX xs us i).k) HI.out (c3 ▸ c6) hl)
      have hmlt : m < w5.heap.size := by obtain ⟨es, cl, h1, _⟩ := hown; exact (Array.getElem?_eq_some_iff.1 h1).1
      have HIK : Hid (i = k → nodeS k (getX xs us k).k (getX xs us k).n l' = nodeS i (getX xs us i).k (getX xs us i).n l) := Lib.hid (fun e => by
        subst e
        have h1 := codeN_inj (c1.symm.trans c1')
        have e2 : l = l' := by
          have a1 := c5.1
          have a2 := c5'.1
          have hll : l.length = l'.length := by omega
          refine List.ext_getElem hll (fun j h1 h2 => ?_)
          obtain ⟨b, o, d1, _, _, d2⟩ := c5.2.2.2 j h1
          obtain ⟨b', o', d1', _, _, d2'⟩ := c5'.2.2.2 j h2
          rw [d1] at d1'
          injection d1' with d1'
          injection d1' with z1 z2
          subst z1 z2
          rw [d2] at d2'
          injection d2' with d2'
          injection d2' with _ d2'
          simpa [List.getD, List.getElem?_eq_getElem h1, List.getElem?_eq_getElem h2] using d2'
        rw [e2])
      have HNE : Hid (¬ i = k → nodeS i (getX xs us i).k (getX xs us i).n l ≠ nodeS k (getX xs us k).k (getX xs us k).n l') := Lib.hid (fun e => nodeS_ne e)
      have hkey := keyOf_int_mk Try.underlying3 HI.out
      have HF : Hid (∃ r, nodeS i (getX xs us i).k (getX xs us i).n l = (digS i ++ [58, 32]) ++ r) := Lib.hid (by rw [nodeS_eq]; exact ⟨_, by simp; rfl⟩)
      have HT : Hid (∃ r, nodeS i (getX xs us i).k (getX xs us i).n l = r ++ tailS l) := Lib.hid (by rw [nodeS_eq]; exact ⟨digS i ++ 58 :: 32 :: ((wrd (getX xs us i).k).data.toList ++ (if numB (getX xs us i).k then 32 :: digS (getX xs us i).n else [])), by simp⟩)
      have HC4 := Lib.hid c4
      have HC1 := Lib.hid c1
      have HC6 := Lib.hid c6
      have HOw := Lib.hid hown
      clear hG hFm hBF hb5 hgg5 hm5 hhas hsz hsaid c1 c2 c3 c4 c5 c6 c1' c2' c3' c4' c5' c6' hown
      generalize nodeS i (getX xs us i).k (getX xs us i).n l = S1 at *
      generalize nodeS k (getX xs us k).k (getX xs us k).n l' = S2 at *
      go_wp2_with fail
      refine hN1.out.mono ?_
      rintro _ w6 ⟨rfl, q6⟩
      obtain ⟨s, HSs⟩ : ∃ s : ByteArray, Hid (s = ⟨S1.toArray⟩) := ⟨_, Lib.hid rfl⟩
      rw [← HSs.out]
      go_wp2_with fail
      refine (hN2.out _ q6).mono ?_
      rintro _ w7 ⟨rfl, q7⟩
      have q57 := q6.thenCall q6.size q7
      obtain ⟨t, HTt⟩ : ∃ t : ByteArray, Hid (t = ⟨S2.toArray⟩) := ⟨_, Lib.hid rfl⟩
      rw [← HTt.out]
      clear hN1 hN2 q6 q7
      have LB := i64_of HI.out
      have L1 := Fg.digS_len LB
      have HDi := Lib.hid (refDigits_any i w7 LB.1 LB.2)
      have t1 : (digS i).length ≤ 9223372036854775806 := by omega
      go_wp2_with fail
      refine HDi.out.mono ?_
      rintro _ w8 ⟨rfl, q8⟩
      have q58 := q57.thenCall q57.size q8
      obtain ⟨hd, HHd⟩ : ∃ hd : ByteArray, Hid (hd = (⟨(digS i).toArray⟩ ++ ⟨#[58, 32]⟩ : ByteArray)) := ⟨_, Lib.hid rfl⟩
      have hfr : hd.size ≤ s.size ∧ s.extract 0 hd.size = hd := by
        obtain ⟨r, e⟩ := HF.out
        refine front_of (r := r) ?_
        rw [HSs.out, HHd.out, ba_app]
        simpa using e
      obtain ⟨f1, f2⟩ := hfr
      have f3 : decide (s.size < hd.size) = false := decide_eq_false (by omega)
      have hss : s.size ≤ 140737488355328 := by rw [size_of (s := s) (l := S1) (by rw [HSs.out])]; exact HS1.out
      have hB8 := hB5.thenCall hB5.size q58
      have hown8 := own_mapC_keep HOw.out (q58.block _ hmlt)
      obtain ⟨v, ps, hrun, hv⟩ := hown8.lookup law3 Try.underlying48 (Try.zeroValue43 _) (rC_enc nd0) hkey
      obtain ⟨y2, rfl, hy2⟩ := rC_inv hv
      rw [HC1.out] at hy2
      obtain ⟨hA2, -, -⟩ := HC4.out.code hy2
      have hA8 := hA2.below hB8
      obtain ⟨yk, yn, yA, yl, yc⟩ := y2
      have hyl : yl = l.length := hA8.1
      subst hyl
      have HA8 := Lib.hid hA8
      unfold enc at hrun
      have hfd : ∀ w : World, (Instr.field 43 (.agg #[.int .i64 yk, .int .i64 yn, .slice yA l.length yc]) 2).run Try.prog w = .ok (.slice yA l.length yc) w := fun _ => by kernel_rfl
      clear hv hy2 hA2 hA8 hown8 q57 q8
      go_upto_region 8 with fail
      rw [← HHd.out]
      go_wp2_with fail
      go_loopw [14, 59] (fun u c wr => ∃ j : Nat, c = .int .i64 j ∧ j ≤ l.length ∧ u = .string ⟨(tailS (l.take j)).toArray⟩ ∧ Below w8.heap.size w8 wr) (fun _ c _ => l.length - (intOf c).toNat)
      case atStart => exact ⟨0, rfl, Nat.zero_le _, rfl, Below.refl _ _⟩
      case round =>
        obtain ⟨j, rfl, hj, rfl, hbr⟩ := hrel
        by_cases hlt : j < l.length
        · obtain ⟨b, o, e0, hbl, hc⟩ := HA8.out.2.1 j hlt
          dsimp only at e0
          subst e0
          have hcr := (hbr.cell (p := ⟨b, o + j, none⟩) hbl).trans hc
          rw [show l.getD j 0 = l[j] by simp [List.getD, List.getElem?_eq_getElem hlt]] at hcr
          have HTk := Lib.hid (tailS_take hlt)
          have HB := i64_of (HC6.out.2 l[j] (List.getElem_mem hlt))
          have u2 := tailS_len (l := l.take j) (fun a ha => HC6.out.2 a (List.mem_of_mem_take ha))
          have u3 : (l.take j).length ≤ 1048576 := by rw [List.length_take]; omega
          have HDg := Lib.hid (refDigits_any l[j] wr HB.1 HB.2)
          have u1 := Fg.digS_len (n := l[j]) HB
          clear hc HB f2 f3
          generalize l[j] = z at *
          generalize digS z = d at *
          generalize tailS (l.take j) = T at *
          have u4 : T.length ≤ 23068672 := by omega
          have u5 : 1 + d.length ≤ 9223372036854775807 := by omega
          have u6 : T.length + (1 + d.length) ≤ 9223372036854775807 := by omega
          clear u2 u3
          go_wp2_with (go_at_call 43; refine HDg.out.mono ?_; rintro e7 w9 ⟨rfl, q9⟩)
          refine ⟨⟨j + 1, by go_num, by omega, ?_, hbr.thenCall hbr.size q9⟩, by simp [intOf]; omega⟩
          rw [HTk.out, ba_app, ba_app]
          simp
        · rw [List.take_of_length_le (by omega)]
          obtain ⟨tl, HTl⟩ : ∃ tl : ByteArray, Hid (tl = ⟨(tailS l).toArray⟩) := ⟨_, Lib.hid rfl⟩
          rw [← HTl.out]
          have hbk : tl.size ≤ s.size ∧ s.extract (s.size - tl.size) s.size = tl := by
            obtain ⟨r, e⟩ := HT.out
            refine back_of (r := r) ?_
            rw [HSs.out, HTl.out]
            simpa using e
          obtain ⟨g1, g2⟩ := hbk
          obtain ⟨q, hq⟩ : ∃ q, q = s.size - tl.size := ⟨_, rfl⟩
          rw [← hq] at g2
          have g3 : (s.size : Int) - (tl.size : Int) = (q : Int) := by omega
          have g4 : q ≤ s.size := by omega
          have g5 : decide (tl.size ≤ s.size) = true := decide_eq_true g1
          clear f1 f2 f3 hq
          by_cases hik : i = k
          · have hts : t = s := by rw [HTt.out, HSs.out, HIK.out hik]
            subst hts
            have hik2 : (i == k) = true := by simpa using hik
            clear hik
            go_wp2_with fail
            go_ret
            exact ⟨rfl, hB8.thenCall hB8.size hbr⟩
          · have hne := str_ne (s := s) (t := t) (a := S1) (b := S2) (by rw [HSs.out]) (by rw [HTt.out]) (HNE.out hik)
            have hne2 : (s.toList == t.toList) = false := by simpa using hne
            have hik2 : (i == k) = false := by simpa using hik
            clear hik
            go_wp2_with fail
            go_ret
            exact ⟨rfl, hB8.thenCall hB8.size hbr⟩
end Go.Proofs.Ytccknhhjkkbadaa.traceNode
