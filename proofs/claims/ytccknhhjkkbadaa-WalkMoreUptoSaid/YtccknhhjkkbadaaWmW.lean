/- The walk of WalkMore. -/
import Derived.Test.YtccknhhjkkbadaaWmA
import Derived.Test.YtccknhhjkkbadaaWmR
import Derived.Test.YtccknhhjkkbadaaFgL
namespace Go.Proofs.Ytccknhhjkkbadaa.Wm
open Go.ChangeShapes Go.WideShapes Go.ChangeAt Go.RowKit Go.Proofs.Ytccknhhjkkbadaa.Lift Go.Proofs.Ytccknhhjkkbadaa.Arn Go.Proofs.Ytccknhhjkkbadaa.ArnN Go.Proofs.Ytccknhhjkkbadaa.Gr Go.Maps
set_option linter.unusedVariables false
set_option linter.unusedSimpArgs false
/-! ### fingers -/
theorem getF_ins : ∀ (l : List Fg.Pk) (id a : Int), (Fg.getF (Fg.ins id a l) id).2 = true
  | [], id, a => by rw [Fg.ins, Fg.getF_cons]; simp
  | p :: r, id, a => by
    rw [Fg.ins]
    by_cases h : id ≤ p.1
    · rw [if_pos h]
      by_cases e : p.1 = id
      · rw [if_pos e, Fg.getF_cons, if_pos h, if_pos e]
      · rw [if_neg e, Fg.getF_cons]; simp
    · rw [if_neg h, Fg.getF_cons, if_neg h]
      exact getF_ins r id a
theorem ins_end : ∀ (acc : List Fg.Pk) (id a : Int), (∀ x ∈ acc, x.1 < id) → Fg.ins id a acc = acc ++ [(id, a)]
  | [], id, a, _ => rfl
  | p :: r, id, a, h => by
    have := h p (by simp)
    rw [Fg.ins, if_neg (by omega), ins_end r id a (fun x hx => h x (by simp [hx]))]
    rfl
theorem inc_mid : ∀ (acc : List Fg.Pk) (p : Fg.Pk) (r : List Fg.Pk), Fg.Inc (acc ++ p :: r) → ∀ x ∈ acc, x.1 < p.1
  | [], _, _, _, x, hx => by simp at hx
  | q :: acc, p, r, h, x, hx => by
    rcases List.mem_cons.1 hx with rfl | hx
    · exact h.1 p (by simp)
    · exact inc_mid acc p r h.2 x hx
theorem fold_end : ∀ (l acc : List Fg.Pk), Fg.Inc (acc ++ l) → l.foldl (fun f p => Fg.withF f p.1 p.2) acc = acc ++ l
  | [], acc, _ => by simp
  | p :: r, acc, h => by
    rw [List.foldl_cons, Fg.withF_ins, ins_end acc p.1 p.2 (inc_mid acc p r h), fold_end r (acc ++ [(p.1, p.2)]) (by simpa using h)]
    simp
theorem ofF_inc {l : List Fg.Pk} (h : Fg.Inc l) : Fg.ofF l = l := by
  have := fold_end l [] (by simpa using h)
  simpa [Fg.ofF] using this
theorem ofF_of (l : List Fg.Pk) : Fg.ofF (Fg.ofF l) = Fg.ofF l := ofF_inc (by rw [Fg.ofF_picks]; exact Fg.picks_inc l)
/-! ### from what was made to a graph -/
theorem places_of : ∀ us : List Bool, ∃ m : List Int, m.length ≤ us.count true ∧ ∀ i, hasB us i = true → i ∈ m
  | [] => ⟨[], by simp, fun i h => by
    by_cases hi : i < 0
    · rw [hasB_neg hi] at h; cases h
    · obtain ⟨j, rfl⟩ : ∃ j : Nat, i = j := ⟨i.toNat, by omega⟩
      rw [hasB_far (Nat.zero_le _)] at h; cases h⟩
  | u :: r => by
    obtain ⟨m, h1, h2⟩ := places_of r
    have hs : ∀ j : Nat, hasB (u :: r) ((j + 1 : Nat) : Int) = hasB r j := fun j => by
      unfold hasB
      rw [show ((j + 1 : Nat) : Int).toNat = j + 1 by omega, show ((j : Nat) : Int).toNat = j by omega]
      simp
      omega
    refine ⟨(if u then [0] else []) ++ m.map (· + 1), ?_, fun i hi => ?_⟩
    · cases u <;> simp <;> omega
    · by_cases h0 : i < 0
      · rw [hasB_neg h0] at hi; cases hi
      · obtain ⟨j, rfl⟩ : ∃ j : Nat, i = j := ⟨i.toNat, by omega⟩
        cases j with
        | zero =>
          rw [hasB_at (by simp)] at hi
          simp only [List.getElem_cons_zero] at hi
          rw [hi]; simp
        | succ j =>
          rw [hs] at hi
          have := h2 _ hi
          refine List.mem_append_right _ (List.mem_map.2 ⟨j, this, by omega⟩)
theorem to_gph {B n most gg g m : Nat} {w0 w w' : World} (h : MadeP W64s B w0 w w' gg g m n most) (h0 : Below w0.heap.size w0 w') : ∃ (gr : Gph) (N : Nat), MapOk w' gr N m ∧ GrOk w' gr N gg ∧ Gok gr N ∧ Fin gr N ∧ Bare gr ∧ (∀ i, (gr.a i).length ≤ 1048576) ∧ ∀ i, gr.has i = true → ∃ j : Nat, i = j ∧ j < most := by
  obtain ⟨F, xs, us, low, hG, ⟨D, hown, hhas, hsz, hsaid⟩, hFm, hFB, hb⟩ := h
  have hc : ∀ i : Int, ∃ l : List Int, ((Lit.int .i64 i).wf = true → ∃ y, D.atKey (.int .i64 i) (codeN nd0) = codeN y ∧ y.k = (getX xs us i).k ∧ y.n = (getX xs us i).n ∧ Args w0 y l ∧ XV w' F (getX xs us i) l ∧ W64s y.n l) ∧ (¬ (Lit.int .i64 i).wf = true → l = []) := fun i => by
    by_cases hi : (Lit.int .i64 i).wf = true
    · obtain ⟨y, l, h1⟩ := hsaid i hi
      exact ⟨l, fun _ => ⟨y, h1⟩, fun h => absurd hi h⟩
    · exact ⟨[], fun h => absurd h hi, fun _ => rfl⟩
  obtain ⟨la, hla⟩ := Classical.axiomOfChoice hc
  have hlen : us.length ≤ most ∧ most ≤ 65536 := by
    obtain ⟨_, ⟨_, _, _, _, hh⟩, _⟩ := hG
    omega
  have hcnt := List.count_le_length (a := true) (l := us)
  refine ⟨⟨fun i => if (Lit.int .i64 i).wf then (getX xs us i).k else 0, fun i => if (Lit.int .i64 i).wf then (getX xs us i).n else 0, la, fun i => (Lit.int .i64 i).wf && hasB us i⟩, us.count true, ?_, ?_, ?_, ?_, ?_, ?_, ?_⟩
  · refine ⟨D, n, hown, hsz, fun i hi => ?_⟩
    have hi' : (Lit.int .i64 i).wf = true := hi
    obtain ⟨y, a1, a2, a3, a4, a5, a6⟩ := (hla i).1 hi'
    refine ⟨by rw [hhas i hi']; simp [hi'], y, a1, ?_, ?_, a4.below h0⟩
    · rw [a2]; simp [hi']
    · rw [a3]; simp [hi']
  · refine ⟨F, g, xs, us, low, most, hG, rfl, fun i hi => ?_⟩
    have hi' : (Lit.int .i64 i).wf = true := hi
    obtain ⟨y, a1, a2, a3, a4, a5, a6⟩ := (hla i).1 hi'
    exact ⟨by simp [hi'], by simp [hi'], by simp [hi'], a5.args⟩
  · refine ⟨by omega, fun i hi => ?_⟩
    have hi' : (Lit.int .i64 i).wf = true := hi
    obtain ⟨y, a1, a2, a3, a4, a5, a6⟩ := (hla i).1 hi'
    refine ⟨?_, a6.2, a4.2.2.1⟩
    rw [a3] at a6
    simpa [hi'] using a6.1
  · obtain ⟨ml, m1, m2⟩ := places_of us
    exact ⟨ml, m1, fun i hi => m2 i (by simp only [Bool.and_eq_true] at hi; exact hi.2)⟩
  · intro i hi
    by_cases hi' : (Lit.int .i64 i).wf = true
    · obtain ⟨y, a1, a2, a3, a4, a5, a6⟩ := (hla i).1 hi'
      simp only [hi', Bool.true_and] at hi
      have hx : getX xs us i = nd0 := by unfold getX; rw [hi]; rfl
      rw [hx] at a5
      exact List.eq_nil_of_length_eq_zero a5.1.symm
    · exact (hla i).2 hi'
  · intro i
    by_cases hi' : (Lit.int .i64 i).wf = true
    · obtain ⟨y, a1, a2, a3, a4, a5, a6⟩ := (hla i).1 hi'
      exact a5.2.1
    · show (la i).length ≤ _
      rw [(hla i).2 hi']; simp
  · intro i hi
    simp only [Bool.and_eq_true] at hi
    obtain ⟨j, h1, rfl, -⟩ := (hasB_eq us i).1 hi.2
    exact ⟨j, rfl, by omega⟩
/-- what is looked for is a number. -/
theorem lookL64 {step : Int → Dn → (Int × Int) × Dn} (h : ∀ i d, W64 i → W64 (step i d).1.2) : ∀ (l : List Int) (d : Dn), (∀ x ∈ l, W64 x) → W64 (lookL step l d).1.2
  | [], d, _ => w64_of (n := 0) (by omega) (by omega)
  | x :: r, d, hl => by
    rw [lookL]
    by_cases e : (step x d).1.1 = 0
    · rw [if_pos e]; exact lookL64 h r _ (fun y hy => hl y (by simp [hy]))
    · rw [if_neg e]; exact h x d (hl x (by simp))
theorem look64 {g : Gph} {f : Int → Int × Bool} {N : Nat} (hg : Gok g N) : ∀ (m : Nat) (i : Int) (d : Dn), W64 i → W64 (look g f N m i d).1.2
  | 0, i, d, _ => w64_of (n := 0) (by omega) (by omega)
  | m + 1, i, d, hi => by
    have h0 : W64 0 := w64_of (by omega) (by omega)
    have h1 := thrG64 (f := f) hg hi
    rw [look]
    split
    · exact h0
    split
    · exact h0
    split
    · exact h1
    split
    · exact h1
    split
    · exact h0
    split
    · exact h0
    split
    · exact h0
    · exact lookL64 (fun i d hi => look64 hg m i d hi) _ _ (hg.2 _ h1).2.1
theorem few47_any (w : World) (A : Option Addr) (n cap : Nat) : Calls Try.prog 47 #[.slice A n cap] w fun e w' => e = .returned (.bool (decide (n ≤ 30))) ∧ w = w' := by
  by_cases h : n ≤ 30
  · rw [decide_eq_true h]
    have h1 : (n : Int) ≤ 30 := by omega
    go_enter Try.func47, Try.ntmps47
    go_wp2_with fail
    go_ret
    exact ⟨ret_bool (by simp), rfl⟩
  · rw [decide_eq_false h]
    have h1 : ¬ (n : Int) ≤ 30 := by omega
    go_enter Try.func47, Try.ntmps47
    go_wp2_with fail
    go_ret
    exact ⟨ret_bool (by simp), rfl⟩
end Go.Proofs.Ytccknhhjkkbadaa.Wm
namespace Go.Proofs.Ytccknhhjkkbadaa.walkMore
open Go.ChangeShapes Go.WideShapes Go.ChangeAt Go.RowKit Go.Proofs.Ytccknhhjkkbadaa.Lift Go.Proofs.Ytccknhhjkkbadaa.Arn Go.Proofs.Ytccknhhjkkbadaa.ArnN Go.Proofs.Ytccknhhjkkbadaa.Gr Go.Proofs.Ytccknhhjkkbadaa.Wm Go.Maps
set_option maxRecDepth 100000 in
set_option maxHeartbeats 8000000 in
theorem walk (W : World) (n at' i : Int) (A : Option Addr) (cap : Nat) (ds : List Dd) (v : Value) (l : List Fg.Pk) (hR : Lift.RowsIn (DdR W) W 5 A ds) (hm : ds.length ≤ 1048576) (hwd : ∀ d ∈ ds, W64s d.x.n d.l) (hi : W64 i) (hv : Fg.PkSl W v l) :
    Calls Try.prog 9 #[.int .i64 n, .slice A ds.length cap, v, .int .i64 at', .int .i64 i] W fun e w' => e = .returned (.bool true) ∧ Below W.heap.size W w' := by
  have HR := Lib.hid hR
  have HD := Lib.hid hwd
  have HI := Lib.hid hi
  have HVv := Lib.hid hv
  obtain ⟨A2, cap2, rfl, -⟩ := hv
  clear hR hwd hi
  go_enter Try.func9, Try.ntmps9
  go_wp2_with fail
  refine (Wm.awake_any W).mono ?_
  rintro _ w1 ⟨rfl, hb1⟩
  go_wp2_with fail
  refine (few_any W A cap ds HR.out hm w1 hb1).mono ?_
  rintro _ w3 ⟨rfl, q3⟩
  have hb3 := hb1.thenCall hb1.size q3
  clear q3 hb1
  cases hf1 : fewD ds with
  | false =>
    go_wp2_with fail
    go_ret
    exact ⟨rfl, hb3⟩
  | true =>
    by_cases hn : (12 : Int) < n
    · go_wp2_with fail
      go_ret
      exact ⟨rfl, hb3⟩
    · have hd60 : ds.length ≤ 1000 := by
        unfold fewD at hf1
        rw [Bool.and_eq_true] at hf1
        have := of_decide_eq_true hf1.2
        omega
      clear hf1
      have HF47 := Lib.hid (few47_any w3 A2 l.length cap2)
      go_wp2_with fail
      refine HF47.out.mono ?_
      rintro _ w4 ⟨rfl, rfl⟩
      by_cases hl30 : l.length ≤ 30
      · rw [decide_eq_true hl30]
        go_wp2_with fail
        refine (madep_any (P := W64s) ⟨w64_of (n := 0) (by omega) (by omega), fun a h => by simp at h⟩ W n A cap ds HR.out HD.out hd60 w3 hb3).mono ?_
        rintro _ w5 ⟨gg, gb, m, rfl, hMd, hgg5, hm5⟩
        have hb5 : Below w3.heap.size w3 w5 := by obtain ⟨F, xs, us, low, _, _, _, _, hb⟩ := hMd; exact hb
        have hB5 := hb3.thenCall hb3.size hb5
        obtain ⟨gr, N, hMo, hGo, hGk, hFin, hBare, hLn, hPl⟩ := to_gph hMd hB5
        have hv5 := HVv.out.below hB5 (Nat.le_refl _)
        have HLi := Lib.hid (light_any hMo hGk _ l hv5 i HI.out w5 (Below.refl _ _))
        have HOf := Lib.hid (fun y hy => Fg.of_any w5 l y _ hv5 hy (by omega))
        have HMo := Lib.hid hMo
        have HGo := Lib.hid hGo
        have HGk := Lib.hid hGk
        have HFin := Lib.hid hFin
        have HRg : Hid (∀ y, Below w5.heap.size w5 y → _) := Lib.hid (fun y hy => rings_any hMo hGk hFin hBare hLn y hy)
        have hnm : mostN n ≤ 12 := by unfold mostN; omega
        have HRb : Hid (ringB gr = false → ∀ i, gr.has i = true → ¬ Wm.Way gr i i) := Lib.hid (fun h i hi hw => by
          obtain ⟨j, rfl, hj⟩ := hPl i hi
          rw [ringB_yes (by omega) hw] at h
          cases h)
        clear hMo hGo hGk hFin hBare hLn hPl hMd hv5 hb5
        go_wp2_with fail
        refine HLi.out.mono ?_
        rintro _ w6 ⟨⟨b, rfl⟩, q6⟩
        cases b with
        | false =>
          go_wp2_with fail
          go_ret
          exact ⟨rfl, hB5.thenCall hB5.size q6⟩
        | true =>
          go_wp2_with fail
          refine (HOf.out w6 q6).mono ?_
          rintro _ w7 ⟨fv, rfl, hfv, q7⟩
          have q57 := q6.thenCall q6.size q7
          have hlen7 := Nat.le_trans (Fg.ofF_len l) hl30
          have hoo := ofF_of l
          obtain ⟨fl, hfl⟩ : ∃ fl, fl = Fg.ofF l := ⟨_, rfl⟩
          rw [← hfl] at hfv hlen7 hoo
          have HOO := Lib.hid hoo
          have HFV := Lib.hid hfv
          have hfv0 := hfv
          obtain ⟨A7, cap7, rfl, -⟩ := hfv0
          have hG7 := HGo.out.below q57
          have hal : Below w7.heap.size w7 (w7.alloc (.cells #[.slice A7 fl.length cap7] 84)) := (Below.refl _ _).alloc (Nat.le_refl _) _
          have HLk := Lib.hid (fun y hy => look_any hG7 HGk.out HFin.out _ fl hfv i HI.out y hy)
          have HGt := Lib.hid (fun k hk y hy => gok_get hG7 k hk y hy)
          have HB := Lib.hid (fun z (hz : Below (w7.alloc (.cells #[.slice A7 fl.length cap7] 84)).heap.size (w7.alloc (.cells #[.slice A7 fl.length cap7] 84)) z) => show z.cell? ⟨w7.heap.size, 0, none⟩ = some (.slice A7 fl.length cap7) from by
            have := (hz.block _ (by simp)).trans (heap_alloc_new w7 (.cells #[.slice A7 fl.length cap7] 84))
            simp [World.cell?, this])
          have hans := look_ans gr (Fg.getF fl) N (N + 1) i (fun _ => false)
          have h64 := look64 (f := Fg.getF fl) (N := N) HGk.out (N + 1) i (fun _ => false) HI.out
          have HQ : Hid (∀ qa qk, (Wm.look gr (Fg.getF fl) N (N + 1) i (fun _ => false)).1 = (qa, qk) → Ans gr (Fg.getF fl) N (qa, qk) ∧ W64 qk) := Lib.hid (fun qa qk e => by rw [e] at hans h64; exact ⟨hans, h64⟩)
          have HG7 := Lib.hid hG7
          clear hfl hoo hfv hG7 hans h64 HOf
          go_wp2_with fail
          refine (HLk.out _ hal).mono ?_
          rintro _ w9 ⟨rfl, q9⟩
          obtain ⟨⟨qa, qk⟩, hq⟩ : ∃ q, q = (Wm.look gr (Fg.getF fl) N (N + 1) i (fun _ => false)).1 := ⟨_, rfl⟩
          rw [← hq]
          obtain ⟨hans, h64⟩ := HQ.out qa qk hq.symm
          have HQe := Lib.hid hq
          dsimp only at *
          have h79 := hal.thenCall hal.size q9
          have H64 := Lib.hid h64
          have HANS := Lib.hid hans
          clear hq hans h64 HQ
          go_wp2_with fail
          refine (HGt.out qk H64.out w9 h79).mono ?_
          rintro _ w10 ⟨A3, cap3, rfl, hA3, q10⟩
          clear hA3
          have h710 := h79.thenCall h79.size q10
          have q810 := q9.thenCall q9.size q10
          have hal2 : Below w10.heap.size w10 (w10.alloc (.cells #[.int .i64 (gr.k qk), .int .i64 (gr.n qk), .slice A3 (gr.a qk).length cap3] 43)) := (Below.refl _ _).alloc (Nat.le_refl _) _
          obtain ⟨V, hV⟩ : ∃ V, V = w10.alloc (.cells #[.int .i64 (gr.k qk), .int .i64 (gr.n qk), .slice A3 (gr.a qk).length cap3] 43) := ⟨_, rfl⟩
          rw [← hV] at hal2
          have hbx : V.heap[w10.heap.size]? = some (.cells #[.int .i64 (gr.k qk), .int .i64 (gr.n qk), .slice A3 (gr.a qk).length cap3] 43 (0, 0)) := by rw [hV]; exact heap_alloc_new _ _
          have h7V := h710.thenCall h710.size hal2
          have h5V := q57.thenCall q57.size h7V
          have hBV := hB5.thenCall hB5.size h5V
          have q8V := q810.thenCall q810.size hal2
          have HBX := Lib.hid (fun z (hz : Below V.heap.size V z) => box3n w10 (.cells #[.int .i64 (gr.k qk), .int .i64 (gr.n qk), .slice A3 (gr.a qk).length cap3] 43) (hV ▸ hz) (heap_alloc_new _ _))
          have HBV := Lib.hid (fun z (hz : Below V.heap.size V z) => HB.out z (q8V.thenCall q8V.size hz))
          obtain ⟨c0, c1, c2⟩ := HBX.out V (Below.refl _ _)
          have cf := HBV.out V (Below.refl _ _)
          have HV := Lib.hid hV
          clear hV hal2 hbx q810 q8V hal q9 q10 h79 h710 q6 q7
          go_upto_region 11 with fail
          rw [← HV.out]
          clear HV
          rcases HANS.out with e | e | ⟨e, hk3⟩ | ⟨e, hk3, hla, jj, hjj⟩
          · obtain ⟨rfl, rfl⟩ := Prod.mk.inj e
            go_wp2_with fail
            refine (Fg.picks_any w7 V _ fl HFV.out h7V).mono ?_
            rintro _ y1 ⟨v', rfl, hown, p1⟩
            have hv' := hown.sl (by omega)
            clear hown c0 c1 c2 cf
            go_wp2_with fail
            refine (Fg.of_any y1 fl y1 v' hv' (Below.refl _ _) (by omega)).mono ?_
            rintro _ y2 ⟨f2, rfl, hf2, p2⟩
            rw [HOO.out] at hf2
            have p12 := p1.thenCall p1.size p2
            have HL2 := look_any (HG7.out.below (h7V.thenCall h7V.size p12)) HGk.out HFin.out f2 fl hf2 i HI.out y2 (Below.refl _ _)
            rw [← HQe.out] at HL2
            go_wp2_with fail
            refine HL2.mono ?_
            rintro _ y3 ⟨rfl, p3⟩
            go_wp2_with fail
            go_ret
            exact ⟨ret_bool (by simp), (hBV.thenCall hBV.size p12).thenCall (Nat.le_trans hBV.size p12.size) p3⟩
          · obtain ⟨rfl, rfl⟩ := Prod.mk.inj e
            go_wp2_with fail
            refine (Fg.picks_any w7 V _ fl HFV.out h7V).mono ?_
            rintro _ y1 ⟨v', rfl, hown, p1⟩
            have hv' := hown.sl (by omega)
            clear hown c0 c1 c2 cf
            go_wp2_with fail
            refine (Fg.of_any y1 fl y1 v' hv' (Below.refl _ _) (by omega)).mono ?_
            rintro _ y2 ⟨f2, rfl, hf2, p2⟩
            rw [HOO.out] at hf2
            have p12 := p1.thenCall p1.size p2
            have HL2 := look_any (HG7.out.below (h7V.thenCall h7V.size p12)) HGk.out HFin.out f2 fl hf2 i HI.out y2 (Below.refl _ _)
            rw [← HQe.out] at HL2
            go_wp2_with fail
            refine HL2.mono ?_
            rintro _ y3 ⟨rfl, p3⟩
            go_wp2_with fail
            go_ret
            exact ⟨ret_bool (by simp), (hBV.thenCall hBV.size p12).thenCall (Nat.le_trans hBV.size p12.size) p3⟩
          · dsimp only at e hk3
            subst e
            rcases hk3 with h | h | h
            all_goals
              rw [h] at c0
              go_wp2_with fail
              refine (Fg.picks_any w7 V _ fl HFV.out h7V).mono ?_
              rintro _ y1 ⟨v', rfl, hown, p1⟩
              have hv' := hown.sl (by omega)
              clear hown c0 c1 c2 cf
              go_wp2_with fail
              refine (Fg.of_any y1 fl y1 v' hv' (Below.refl _ _) (by omega)).mono ?_
              rintro _ y2 ⟨f2, rfl, hf2, p2⟩
              rw [HOO.out] at hf2
              have p12 := p1.thenCall p1.size p2
              have HL2 := look_any (HG7.out.below (h7V.thenCall h7V.size p12)) HGk.out HFin.out f2 fl hf2 i HI.out y2 (Below.refl _ _)
              rw [← HQe.out] at HL2
              go_wp2_with fail
              refine HL2.mono ?_
              rintro _ y3 ⟨rfl, p3⟩
              go_wp2_with fail
              go_ret
              exact ⟨ret_bool (by simp), (hBV.thenCall hBV.size p12).thenCall (Nat.le_trans hBV.size p12.size) p3⟩
          · dsimp only at e hk3 hla hjj
            subst e
            rw [hk3] at c0
            have HPi : Hid (ringB gr = false → (Fg.getF fl (gr.n qk)).2 = false) := Lib.hid (fun h => by
              obtain ⟨ml, m1, m2⟩ := HFin.out
              exact fork_ring ml m2 m1 (HRb.out h) hjj hk3)
            have HNx : Hid (ringB gr = false → ∀ a, ((Wm.look gr (Fg.getF (Fg.withF fl (gr.n qk) a)) N (N + 1) i (fun _ => false)).1.1 = 2 → (Wm.look gr (Fg.getF (Fg.withF fl (gr.n qk) a)) N (N + 1) i (fun _ => false)).1.2 = qk → False)) := Lib.hid (fun h a e1 e2 => by
              obtain ⟨ml, m1, m2⟩ := HFin.out
              exact fork_next (j := 0) ml m2 m1 (HRb.out h) (by rw [Fg.withF_ins]; exact getF_ins _ _ _) e1 e2)
            have HK3 := Lib.hid hk3
            clear hk3 hjj
            clear HANS HGt
            generalize gr.n qk = ni at *
            go_wp2_with fail
            refine (Fg.get_any w7 fl ni V _ HFV.out h7V).mono ?_
            rintro _ y1 ⟨rfl, p1⟩
            generalize hgf : Fg.getF fl ni = gf at *
            obtain ⟨g1, g2⟩ := gf
            dsimp only at *
            have h5y := h5V.thenCall h5V.size p1
            have hBy := hBV.thenCall hBV.size p1
            cases g2 with
            | true =>
              have hring : ringB gr = true := by
                cases h : ringB gr with
                | true => rfl
                | false => have := HPi.out h; cases this
              go_wp2_with fail
              refine (HRg.out y1 h5y).mono ?_
              rintro _ y2 ⟨rfl, p2⟩
              rw [hring]
              go_wp2_with fail
              go_ret
              exact ⟨rfl, hBy.thenCall hBy.size p2⟩
            | false =>
              go_wp2_with fail
              refine (HRg.out y1 h5y).mono ?_
              rintro _ y2 ⟨rfl, p2⟩
              have p12 := p1.thenCall p1.size p2
              have h5z := h5y.thenCall h5y.size p2
              have hBz := hBy.thenCall hBy.size p2
              cases hring : ringB gr with
              | true =>
                go_wp2_with fail
                refine (HRg.out y2 h5z).mono ?_
                rintro _ y3 ⟨rfl, p3⟩
                rw [hring]
                go_wp2_with fail
                go_ret
                exact ⟨rfl, hBz.thenCall hBz.size p3⟩
              | false =>
                have HN3 := Lib.hid (HNx.out hring at')
                obtain ⟨d0, d1, d2⟩ := HBX.out y2 p12
                rw [HK3.out] at d0
                have df := HBV.out y2 p12
                have h7z := h7V.thenCall h7V.size p12
                clear c0 c1 c2 cf hring HNx HPi
                have hla2 : (0 : Int) < (gr.a qk).length := by omega
                generalize (gr.a qk).length = L at *
                have hcs : at' < 0 ∨ (¬ at' < 0 ∧ (L : Int) ≤ at') ∨ (¬ at' < 0 ∧ ¬ (L : Int) ≤ at') := by omega
                rcases hcs with hat | ⟨hat, hle⟩ | ⟨hat, hle⟩
                · go_wp2_with fail
                  go_ret
                  first | exact ⟨rfl, hBz⟩ | exact ⟨ret_bool (by simp; omega), hBz⟩
                · go_wp2_with fail
                  go_ret
                  first | exact ⟨rfl, hBz⟩ | exact ⟨ret_bool (by simp; omega), hBz⟩
                · go_wp2_with fail
                  refine (Fg.with_any w7 fl ni at' y2 _ HFV.out h7z (by omega)).mono ?_
                  rintro _ y3 ⟨f3, rfl, hf3, p3⟩
                  have p03 := p12.thenCall p12.size p3
                  have HL3 := look_any (HG7.out.below (h7V.thenCall h7V.size p03)) HGk.out HFin.out f3 _ hf3 i HI.out y3 (Below.refl _ _)
                  generalize (Wm.look gr (Fg.getF (Fg.withF fl ni at')) N (N + 1) i (fun _ => false)).1 = r at *
                  obtain ⟨r1, r2⟩ := r
                  dsimp only at *
                  have HN4 := Lib.hid HN3.out
                  clear d0 d1 d2 df HN3
                  go_wp2_with fail
                  refine HL3.mono ?_
                  rintro _ y4 ⟨rfl, p4⟩
                  have hB4 := (hBz.thenCall hBz.size p3).thenCall (Nat.le_trans hBz.size p3.size) p4
                  by_cases h2 : r1 = 2
                  · have h3 : ¬ r2 = qk := fun e => HN4.out h2 e
                    have h3' : (r2 != qk) = true := by simpa using h3
                    subst h2
                    clear h3
                    go_wp2_with fail
                    go_ret
                    exact ⟨ret_bool (by simp), hB4⟩
                  · have h2' : (r1 != 2) = true := by simpa using h2
                    clear h2
                    go_wp2_with fail
                    go_ret
                    exact ⟨ret_bool (by simp), hB4⟩
      · rw [decide_eq_false hl30]
        go_wp2_with fail
        go_ret
        exact ⟨rfl, hb3⟩
end Go.Proofs.Ytccknhhjkkbadaa.walkMore
