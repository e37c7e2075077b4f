/- DtreeSelects is true of all rules and terms whose bulk is at most 1048576. -/
import Derived.Test.YtnaakhnmbckpmaaFtX
import Derived.Test.YtnaakhnmbckpmaaAw16
import Derived.Test.YtnaakhnmbckpmaaRefA
import Derived.Deep.DeepCutAuto
import Derived.OpenShut
namespace Go.Proofs.Ytnaakhnmbckpmaa.Pats
open Go.ChangeShapes Go.WideShapes Go.ChangeAt Go.RowKit Go.Proofs.Ytnaakhnmbckpmaa.Lift Go.Proofs.Ytnaakhnmbckpmaa.Data Go.Proofs.Ytnaakhnmbckpmaa.Refs Go.Proofs.Ytnaakhnmbckpmaa.Strs
set_option linter.unusedVariables false
set_option linter.unusedSimpArgs false
/-- a flat row, place by place. -/
def SeqOk (F : Fn) : Bool → List Ex → Prop
  | _, [] => True
  | b, e :: r => ((e.k = 4 → ∀ y r', e.ys = y :: r' → F y.s.data.toList = some (r'.length : Int)) ∧ (e.k = 2 → b = false → F e.s.data.toList = some 0)) ∧ SeqOk F (decide (e.k = 4)) r
def last4 (b : Bool) (l : List Ex) : Bool := match l.getLast? with | none => b | some d => decide (d.k = 4)
theorem seq_of {F : Fn} {fl : List Ex} (h : ∀ i, i < fl.length → At4 F fl i) : ∀ (suf pre : List Ex), fl = pre ++ suf → SeqOk F (last4 false pre) suf
  | [], pre, _ => by rw [SeqOk]; trivial
  | e :: r, pre, hp => by
    rw [SeqOk]
    have hi : fl[pre.length]? = some e := by rw [hp]; simp
    have hlt := (List.getElem?_eq_some_iff.1 hi).1
    have h4 := h _ hlt e hi
    refine ⟨⟨h4.1, fun h2 hb => h4.2 h2 fun j d hj hd => ?_⟩, ?_⟩
    · have hl : pre.getLast? = some d := by
        rw [List.getLast?_eq_getElem?]
        rw [hp, List.getElem?_append_left (by omega)] at hd
        rw [← hd]
        congr 1
        omega
      unfold last4 at hb
      rw [hl] at hb
      simpa using hb
    · have := seq_of h r (pre ++ [e]) (by rw [hp]; simp)
      have hl : last4 false (pre ++ [e]) = decide (e.k = 4) := by unfold last4; simp
      rwa [hl] at this
theorem seq_append {F : Fn} : ∀ (a b : List Ex) (x : Bool), SeqOk F x (a ++ b) → SeqOk F x a ∧ SeqOk F (last4 x a) b
  | [], b, x, h => ⟨by rw [SeqOk]; trivial, by simpa [last4] using h⟩
  | e :: r, b, x, h => by
    rw [List.cons_append, SeqOk] at h
    obtain ⟨h1, h2⟩ := h
    obtain ⟨h3, h4⟩ := seq_append r b _ h2
    refine ⟨by rw [SeqOk]; exact ⟨h1, h3⟩, ?_⟩
    have : last4 x (e :: r) = last4 (decide (e.k = 4)) r := by
      unfold last4
      cases r with
      | nil => simp
      | cons y s =>
        rw [List.getLast?_cons_cons]
        cases hg : (y :: s).getLast? with
        | none => simp at hg
        | some d => rfl
    rw [this]
    exact h4
theorem pat_cases {k : Int} {s : ByteArray} {n : Int} {ys : List Ex} {l c : Int} (h : patS (.mk k s n ys l c) = true) : (k ≠ 4 ∧ ys = []) ∨ (k = 4 ∧ ∃ y r, ys = y :: r ∧ r ≠ [] ∧ y.k = 2 ∧ y.ys = [] ∧ patsS r = true) := by
  rw [patS.eq_def] at h
  simp only at h
  by_cases g : k = 1 ∨ k = 9 ∨ k = 3 ∨ k = 2
  · rw [if_pos g] at h
    exact .inl ⟨by omega, List.eq_nil_of_length_eq_zero (by simpa using h)⟩
  · rw [if_neg g] at h
    by_cases g4 : k = 4
    · rw [if_pos g4] at h
      cases ys with
      | nil => cases h
      | cons y r =>
        simp only [Bool.and_eq_true, decide_eq_true_eq] at h
        obtain ⟨a1, a2, a3, a4⟩ := h
        exact .inr ⟨g4, y, r, rfl, by rintro rfl; simp at a1, a2, List.eq_nil_of_length_eq_zero a3, a4⟩
    · rw [if_neg g4] at h; cases h
theorem head_flat {y : Ex} (h : y.ys = []) : y.flat = [y] := by
  cases y
  simp only [Ex.ys] at h
  subst h
  simp [Ex.flat, ExFlats]
theorem flats_ne {r : List Ex} (h : r ≠ []) : ExFlats r ≠ [] := by
  cases r with
  | nil => exact absurd rfl h
  | cons e r => cases e; simp [ExFlats, Ex.flat]
mutual
theorem pat_last : ∀ p : Ex, patS p = true → ∀ d, p.flat.getLast? = some d → d.k ≠ 4
  | .mk k s n ys l c, h, d, hd => by
    rcases pat_cases h with ⟨h4, rfl⟩ | ⟨h4, y, r, rfl, hr, hy, hy2, hp⟩
    · rw [Ex.flat, ExFlats] at hd
      simp at hd
      subst hd
      exact h4
    · have ih := pats_last r hp
      rw [Ex.flat, ExFlats, head_flat hy2] at hd
      simp only [List.singleton_append] at hd
      rw [List.getLast?_cons_cons] at hd
      cases hf : ExFlats r with
      | nil => exact absurd hf (flats_ne hr)
      | cons a b =>
        rw [hf, List.getLast?_cons_cons] at hd
        rw [hf] at ih
        exact ih d hd
theorem pats_last : ∀ ps : List Ex, patsS ps = true → ∀ d, (ExFlats ps).getLast? = some d → d.k ≠ 4
  | [], _, d, hd => by rw [ExFlats] at hd; cases hd
  | e :: r, h, d, hd => by
    rw [patsS, Bool.and_eq_true] at h
    rw [ExFlats, List.getLast?_append] at hd
    have ih := pats_last r h.2
    cases hf : (ExFlats r).getLast? with
    | none => rw [hf] at hd; exact pat_last e h.1 d (by simpa using hd)
    | some x => rw [hf] at hd; simp at hd; subst hd; exact ih _ hf
end
/-- arity, as it was seen. -/
def arF (F : Fn) : Ari := fun a => ((F a).getD 0).toNat
theorem arF_some {F : Fn} {s : ByteArray} {n : Nat} (h : F s.data.toList = some (n : Int)) : arF F s.toList = n := by
  unfold arF
  rw [ByteArray.toList_eq, h]
  simp
mutual
theorem okE_seq {F : Fn} : ∀ p : Ex, patS p = true → SeqOk F false p.flat → okE (arF F) p = true
  | .mk k s n ys l c, h, hs => by
    rw [Ex.flat, SeqOk] at hs
    obtain ⟨⟨h1, h2⟩, h3⟩ := hs
    rw [okE.eq_def]
    simp only
    by_cases g2 : k = 2
    · rw [if_pos g2]
      have := h2 g2 rfl
      simp only [Ex.s] at this
      simp [arF_some (n := 0) (by simpa using this)]
    · rw [if_neg g2]
      rcases pat_cases h with ⟨h4, rfl⟩ | ⟨h4, y, r, rfl, hr, hy, hy2, hp⟩
      · rw [if_neg h4]
      · rw [if_pos h4]
        have := h1 h4 y r rfl
        simp only [arF_some this]
        simp only [decide_true, Bool.true_and]
        rw [ExFlats, head_flat hy2] at h3
        simp only [List.singleton_append] at h3
        rw [SeqOk] at h3
        have h5 := h3.2
        rw [hy] at h5
        exact okEs_seq r hp (by simpa using h5)
theorem okEs_seq {F : Fn} : ∀ ps : List Ex, patsS ps = true → SeqOk F false (ExFlats ps) → okEs (arF F) ps = true
  | [], _, _ => by rw [okEs]
  | e :: r, h, hs => by
    rw [patsS, Bool.and_eq_true] at h
    rw [ExFlats] at hs
    obtain ⟨h1, h2⟩ := seq_append _ _ _ hs
    have hl : last4 false e.flat = false := by
      unfold last4
      cases hg : e.flat.getLast? with
      | none => rfl
      | some d => simp [pat_last e h.1 d hg]
    rw [hl] at h2
    rw [okEs, okE_seq e h.1 h1, okEs_seq r h.2 h2]
    rfl
end
mutual
theorem okT_flat {F : Fn} : ∀ t : Tm, (∀ x ∈ t.flat, AtT F x) → okT (arF F) t = true
  | .mk k s n ys, h => by
    have h0 := h _ (by rw [Tm.flat]; exact List.mem_cons_self ..)
    have h1 := okTs_flat ys (fun x hx => h x (by rw [Tm.flat]; exact List.mem_cons_of_mem _ hx))
    rw [okT, h1, Bool.and_true]
    rcases h0.2 with g | g
    · simp only [Tm.k] at g
      have := h0.1 g
      simp only [Tm.s, Tm.ys] at this
      simp [g, arF_some this]
    · simp only [Tm.k] at g
      simp [g]
theorem okTs_flat {F : Fn} : ∀ ts : List Tm, (∀ x ∈ TmFlats ts, AtT F x) → okTs (arF F) ts = true
  | [], _ => by rw [okTs]
  | e :: r, h => by
    rw [okTs, okT_flat e (fun x hx => h x (by rw [TmFlats]; exact List.mem_append_left _ hx)), okTs_flat r (fun x hx => h x (by rw [TmFlats]; exact List.mem_append_right _ hx))]
    rfl
end
theorem fit_good {rules : List (List Ex)} {args : List Tm} {F : Fn} {mk : List ByteArray} (h : FtPost rules args F) (hp : ∀ l ∈ rules, patsS l = true) (hk : ∀ l ∈ rules, KnL mk l) : (∀ l ∈ rules, ∀ e ∈ l, GoodE (arF F) mk e) ∧ ∀ t ∈ args, okT (arF F) t = true := by
  refine ⟨fun l hl e he => ?_, fun t ht => ?_⟩
  · obtain ⟨i, hi, rfl⟩ := List.getElem_of_mem he
    have hps := patsS_get hi (hp l hl)
    exact ⟨hps, okE_seq _ hps (seq_of (h.1 l hl _ he) _ [] rfl), hk l hl _ he⟩
  · obtain ⟨i, hi, rfl⟩ := List.getElem_of_mem ht
    exact okTs_get hi (okTs_flat args h.2)
theorem upto_nodup (n : Nat) : (upto n).Nodup := by
  unfold upto List.Nodup
  rw [List.pairwise_map]
  exact List.nodup_range.imp fun h e => h (by simp only [Int.ofNat_eq_natCast] at e; omega)
theorem upto_mem {n i : Nat} (h : i < n) : (i : Int) ∈ upto n := by
  unfold upto
  simp only [List.mem_map, List.mem_range]
  exact ⟨i, h, rfl⟩
theorem cnt_upto {n i : Nat} (h : i < n) : (upto n).count (i : Int) = 1 := by
  rw [List.Nodup.count (upto_nodup n), if_pos (upto_mem h)]
theorem tree_leaves {mk : List ByteArray} {rules : List (List Ex)} {T : Ct} (h : TreeOf mk rules T) : T.leaves.Perm (upto rules.length) := by
  rcases h with ⟨rfl, rfl⟩ | ⟨_, h⟩
  · simp [failT, Ct.leaves, CtLeaves, upto]
  · exact leaves_build h
theorem tree_count {mk : List ByteArray} {rules : List (List Ex)} {T : Ct} (h : TreeOf mk rules T) {i : Nat} (hi : i < rules.length) : T.leaves.count (i : Int) = 1 := by
  rw [(tree_leaves h).count_eq, cnt_upto hi]
theorem tree_len {mk : List ByteArray} {rules : List (List Ex)} {T : Ct} (h : TreeOf mk rules T) : T.leaves.length = rules.length := by
  rw [(tree_leaves h).length_eq, upto_len]
/-- what is selected. -/
theorem tree_sel {mk : List ByteArray} {rules : List (List Ex)} {T : Ct} {args : List Tm} {F : Fn} {n : Nat} (h : TreeOf mk rules T) (hF : FtPost rules args F) (hp : ∀ l ∈ rules, patsS l = true) (hk : ∀ l ∈ rules, KnL mk l) (hl : ∀ l ∈ rules, l.length = n) (ha : args.length = n) {i : Nat} (hi : i < rules.length) :
    (selS mk args T).count (i : Int) = if (allS rules[i] args).isSome = true then 1 else 0 := by
  rcases h with ⟨rfl, rfl⟩ | ⟨hne, h⟩
  · simp at hi
  · obtain ⟨g1, g2⟩ := fit_good hF hp hk
    have hn : (rules.getD 0 []).length = n := by
      have : 0 < rules.length := List.length_pos_iff.2 hne
      simp only [List.getD, List.getElem?_eq_getElem this, Option.getD_some]
      exact hl _ (List.getElem_mem this)
    rw [hn] at h
    rw [(sel_build h (cov_first hl g1 ha g2)).count_eq]
    have hm : mi rules args (i : Int) = (allS rules[i] args).isSome := by
      unfold mi
      simp [List.getD, hi]
    cases hc : (allS rules[i] args).isSome with
    | true =>
      rw [if_pos rfl, List.count_filter (by rw [hm]; exact hc), cnt_upto hi]
    | false =>
      rw [if_neg (by simp), List.count_eq_zero]
      intro hmem
      have := (List.mem_filter.1 hmem).2
      rw [hm, hc] at this
      cases this
end Go.Proofs.Ytnaakhnmbckpmaa.Pats
namespace Go.Proofs.Ytnaakhnmbckpmaa.Pats
open Go.ChangeShapes Go.WideShapes Go.ChangeAt Go.RowKit Go.Proofs.Ytnaakhnmbckpmaa.Lift Go.Proofs.Ytnaakhnmbckpmaa.Data Go.Proofs.Ytnaakhnmbckpmaa.Refs Go.Proofs.Ytnaakhnmbckpmaa.Strs
set_option linter.unusedVariables false
set_option linter.unusedSimpArgs false
theorem fewEx_200 {l : List Ex} (h : fewEx l = true) : ExSize l ≤ 200 := by
  simp only [fewEx, Bool.and_eq_true, decide_eq_true_eq] at h
  exact h.1
theorem tree_size {mk : List ByteArray} {rules : List (List Ex)} {T : Ct} (h : TreeOf mk rules T) (h200 : ∀ l ∈ rules, ExSize l ≤ 200) (hn : rules.length ≤ 8) : T.size ≤ 4000 := by
  rcases h with ⟨rfl, rfl⟩ | ⟨hne, h⟩
  · simp [failT, Ct.size, CtSize]
  · have h1 := size_build h (by intro e; have := upto_len rules.length; rw [e] at this; exact hne (List.eq_nil_of_length_eq_zero this.symm))
    have h2 := mu_first rules (rules.getD 0 []).length h200 (upto rules.length)
    rw [upto_len] at h2
    omega
theorem cnt_succ {l : List Int} {k : Nat} (h : k < l.length) (i : Int) : (l.take (k + 1)).count i = (l.take k).count i + (if (l[k] == i) = true then 1 else 0) := by
  rw [List.take_succ_eq_append_getElem h, List.count_append, List.count_singleton]
theorem cnt_le (l : List Int) (k : Nat) (i : Int) : (l.take k).count i ≤ l.length := Nat.le_trans List.count_le_length (by rw [List.length_take]; omega)
set_option maxRecDepth 100000 in
set_option maxHeartbeats 4000000 in
theorem selects_walk (w : World) (mv rv av : Value) (makers : List ByteArray) (rules : List (List Ex)) (args : List Tm) (hM : StrSl w mv makers) (hR : RS w rv rules) (hA : Tm.Sl w av args) (hm : ∀ l ∈ rules, ExSize l ≤ 1048576) (hma : TmSize args ≤ 1048576) (hnm : ∀ l ∈ rules, exNms l) (hna : tmNms args) :
    Calls Try.prog 8 #[mv, rv, av] w fun r w' => r = .returned (.bool true) ∧ Below w.heap.size w w' := by
  have HF := fun W hb => Lib.hid (fewR_any w W rv rules hR hm hb)
  have HT := fun W hb => Lib.hid (fewTm_any w args W av hA hma hb)
  have HK := fun W hb => Lib.hid (known_any w W mv rv makers rules hM hR hm hb)
  have HB := fun W hb h1 h2 => Lib.hid (build_any w W mv rv makers rules hM hR h1 h2 hb)
  have HPl := fun W s h => Lib.hid (place_any W mv makers s (Data.StrSl.sub hM (Sub.of_below (w' := W) h)))
  have HFt := fun W hok hb => Lib.hid (ftfits_any w W rv av rules args hR hA hok hb)
  have HAl := fun W l v hB hv hb => Lib.hid (refAll_any w l args W v av hB hv hA hb)
  have HM := Lib.hid hM
  have HA := Lib.hid hA
  have HN := Lib.hid hnm
  have HNA := Lib.hid hna
  clear hnm hna
  obtain ⟨Am, cm, rfl, m1, m2, m3, m4, m5⟩ := hM
  obtain ⟨Ar, cr, xr, rfl, r1, r2, r3, r4, r5, r6⟩ := hR
  obtain ⟨Aa, ca, rfl, -⟩ := hA
  go_enter Try.func8, Try.ntmps8
  go_wp2_with fail
  refine (awake16_any _).mono ?_
  rintro _ w1 ⟨rfl, hb1⟩
  by_cases h20 : ¬ makers.length ≤ 20
  · have hg : (20 : Int) < makers.length := by omega
    go_wp2_with fail
    go_ret
    exact ⟨rfl, hb1⟩
  have h20' : makers.length ≤ 20 := Classical.not_not.1 h20
  clear h20
  have hg : ¬ (20 : Int) < makers.length := by omega
  go_wp2_with fail
  refine ((HF _ hb1).out).mono ?_
  rintro _ w2 ⟨b2, rfl, hfew, hb2⟩
  have hbw2 := hb1.thenCall hb1.size hb2
  clear HF
  cases b2 with
  | false =>
    go_wp2_with fail
    go_ret
    exact ⟨rfl, hbw2⟩
  | true =>
  obtain ⟨hr8, hrok⟩ := hfew rfl
  have HROK := Lib.hid hrok
  clear hfew hrok
  have h200 : Hid (∀ l ∈ rules, ExSize l ≤ 200) := Lib.hid fun l hl => fewEx_200 (HROK.out l hl).1
  go_wp2_with fail
  refine ((HT _ hbw2).out).mono ?_
  rintro _ w3 ⟨rfl, hb3⟩
  have hbw3 := hbw2.thenCall hbw2.size hb3
  clear HT
  cases hfa : fewTm args with
  | false =>
    go_wp2_with fail
    go_ret
    exact ⟨rfl, hbw3⟩
  | true =>
  have hta : TmSize args ≤ 200 := by
    simp only [fewTm, Bool.and_eq_true, decide_eq_true_eq] at hfa
    exact hfa.1
  clear hfa
  go_wp2_with fail
  go_loopw [39] (fun i wr => ∃ j : Nat, i = .int .i64 j ∧ j ≤ makers.length ∧ w3 = wr) (fun i _ => makers.length - (intOf i).toNat)
  case atStart => exact ⟨0, rfl, Nat.zero_le _, rfl⟩
  case round =>
    obtain ⟨j, rfl, hj, rfl⟩ := hrel
    by_cases hlt : j < makers.length
    · obtain ⟨b, o, rfl, hbl, hc⟩ := StrSl.cell m5 j hlt
      have hc2 := cellB hbw3 (Nat.le_refl _) hc
      have hb2l := World.block_lt_of_cell? _ _ hc2
      simp only at hb2l
      have HP := HPl w3 makers[j] hbw3
      generalize makers[j] = s at *
      by_cases hi : idxS makers s = j
      · have e1 : (idxS makers s != (j : Int)) = false := by simp [hi]
        generalize idxS makers s = ix at *
        clear hc hi
        go_wp2_with (go_at_call 39; refine HP.out.mono ?_; rintro _ w4 ⟨rfl, rfl⟩)
        exact ⟨⟨j + 1, by go_num, by omega, trivial⟩, by simp [intOf]; omega⟩
      · have e1 : (idxS makers s != (j : Int)) = true := by simp [hi]
        generalize idxS makers s = ix at *
        clear hc hi
        go_wp2_with (go_at_call 39; refine HP.out.mono ?_; rintro _ w4 ⟨rfl, rfl⟩)
        go_ret
        exact ⟨rfl, hbw3⟩
    · clear m5 HPl
      go_wp2_with fail
      refine ((HK _ hbw3).out).mono ?_
      rintro _ w4 ⟨b4, rfl, hkn, hb4⟩
      have hbw4 := hbw3.thenCall hbw3.size hb4
      clear HK
      cases b4 with
      | false =>
        go_wp2_with fail
        go_ret
        exact ⟨rfl, hbw4⟩
      | true =>
      have HKN := Lib.hid (hkn rfl)
      clear hkn
      go_wp2_with fail
      refine ((HB _ hbw4 h200.out hr8).out).mono ?_
      rintro _ w5 ⟨T, vT, rfl, hTo, hTr, hb5⟩
      have hbw5 := hbw4.thenCall hbw4.size hb5
      clear HB
      have hTs := tree_size hTo h200.out hr8
      have hll := tree_len hTo
      have hlc : Hid (∀ i : Nat, i < rules.length → T.leaves.count (i : Int) = 1) := Lib.hid (fun i hi => tree_count hTo hi)
      have hsc : Hid (∀ (F : Fn) (i : Nat) (hi : i < rules.length), FtPost rules args F → args.length = rules[i].length → (selS makers args T).count (i : Int) = if (allS rules[i] args).isSome = true then 1 else 0) := Lib.hid (fun F i hi hF ha => tree_sel hTo hF (fun l hl => (HROK.out l hl).2.2.2) HKN.out (fun l hl => by rw [(HROK.out l hl).2.2.1, (HROK.out _ (List.getElem_mem hi)).2.2.1]) ha hi)
      clear hTo
      obtain ⟨Tp, tl, tc, TA, tcap, rfl⟩ := hTr.form
      have HL := fun W hb => Lib.hid (leaves_any T.size w5 T W _ (Nat.le_refl _) (by omega) hTr hb)
      have HS := fun W hb => Lib.hid (select_any w5 T W _ _ _ makers args (by omega) hTr (HA.out.below hbw5 (Nat.le_refl _)) (Data.StrSl.sub HM.out (Sub.of_below hbw5)) hb)
      have hlle := leaves_le T
      have hsle := sel_le makers args T
      clear hTr
      generalize T.leaves = lv at *
      generalize selS makers args T = sv at *
      generalize T.size = Tz at *
      generalize T.kind = Tk at *
      generalize T.rule = Tr' at *
      generalize T.cs.length = Tc at *
      have hbx := heap_alloc_new w5 (.cells #[.int .i64 Tk, .int .i64 Tr', .slice Tp tl tc, .slice TA Tc tcap] 74)
      have hb5a := below1 w5 (.cells #[.int .i64 Tk, .int .i64 Tr', .slice Tp tl tc, .slice TA Tc tcap] 74)
      have hV1s : (w5.alloc (.cells #[.int .i64 Tk, .int .i64 Tr', .slice Tp tl tc, .slice TA Tc tcap] 74)).heap.size = w5.heap.size + 1 := by simp
      have hbV := hbw5.thenCall hbw5.size hb5a
      have HL1 := HL _ hb5a
      clear HL
      go_wp2_with fail
      generalize hV : w5.alloc (.cells #[.int .i64 Tk, .int .i64 Tr', .slice Tp tl tc, .slice TA Tc tcap] 74) = V at *
      clear hV
      refine HL1.out.mono ?_
      clear HL1
      rintro _ w6 ⟨v6, rfl, hown6, hb6⟩
      have hb56 := hb5a.thenCall hb5a.size hb6
      have hbw6 := hbw5.thenCall hbw5.size hb56
      obtain ⟨p0, p1, p2, p3⟩ := row4 ((hb6.block _ (by omega)).trans hbx)
      have hz6 := hb6.size
      have hlt6 : w5.heap.size < w6.heap.size := by omega
      have HS1 := HS _ hb56
      clear HS
      unfold IntOwn at hown6
      obtain ⟨A6, c6, rfl, hc61, hc62⟩ := own_form hown6
      go_wp2_with fail
      refine HS1.out.mono ?_
      clear HS1
      rintro _ w7 ⟨v7, rfl, hown7, hb7⟩
      have hbw7 := hbw6.thenCall hbw6.size hb7
      unfold IntOwn at hown7
      obtain ⟨A7, c7, rfl, hc71, hc72⟩ := own_form hown7
      have HSR7 := Lib.hid (Src.of_own hown7)
      have HSR6 := Lib.hid (Src.of_own (own_below hown6 hb7 (Nat.le_refl _)))
      clear hown6 hown7 p0 p1 p2 p3 hbx hb6 hb7 hb5a hb56
      go_wp2_with fail
      go_loopw [65] (fun i wr => ∃ j : Nat, i = .int .i64 j ∧ j ≤ rules.length ∧ Below w7.heap.size w7 wr) (fun i _ => rules.length - (intOf i).toNat)
      case atStart => exact ⟨0, rfl, Nat.zero_le _, Below.refl _ _⟩
      case round =>
        clear hlt hj
        obtain ⟨j, rfl, hj, hb⟩ := hrel
        have hbwr := hbw7.thenCall hbw7.size hb
        by_cases hlt : j < rules.length
        · obtain ⟨b, o, lv0, rfl, hbl, hc, hsl⟩ := RS_get r5 r6 j hlt
          have d0 := cellB hbwr (Nat.le_refl _) hc
          have hbl2 := World.block_lt_of_cell? _ _ d0
          simp only at hbl2
          have hlc1 := hlc.out j hlt
          have hsc1 : Hid (∀ F : Fn, FtPost rules args F → args.length = rules[j].length → sv.count (j : Int) = if (allS rules[j] args).isSome = true then 1 else 0) := Lib.hid (fun F => hsc.out F j hlt)
          have HALL := fun W hb => HAl W rules[j] lv0 (hm _ (List.getElem_mem hlt)) hsl hb
          have HSL := Lib.hid hsl
          generalize rules[j] = l at *
          obtain ⟨Al, capl, rfl, -⟩ := hsl
          clear hc
          go_wp2_with fail
          obtain ⟨wB, hwB⟩ : ∃ x, x = wr := ⟨_, rfl⟩
          rw [← hwB] at hb hbwr d0 hbl2
          go_loopw [14, 72] (fun t i wr => ∃ k : Nat, i = .int .i64 k ∧ k ≤ lv.length ∧ t = .int .i64 ((lv.take k).count (j : Int) : Nat) ∧ wB = wr) (fun _ i _ => lv.length - (intOf i).toNat)
          case atStart => exact ⟨0, rfl, Nat.zero_le _, by simp, hwB⟩
          case round =>
            clear hwB
            obtain ⟨k, rfl, hk, rfl, rfl⟩ := hrel
            by_cases hltk : k < lv.length
            · obtain ⟨b', o', rfl, hbl', hc'⟩ := IS_cell HSR6.out k hltk
              have hc'' := cellB hb (Nat.le_refl _) hc'
              have hbl'' := World.block_lt_of_cell? _ _ hc''
              simp only at hbl''
              have hS := Lib.hid (cnt_succ hltk (j : Int))
              have hle := cnt_le lv k (j : Int)
              generalize lv[k] = y at *
              generalize (lv.take k).count (j : Int) = cn at *
              clear hc' hbl'
              cases hq : (y == (j : Int)) with
              | true =>
                rw [hq] at hS
                go_wp2_with fail
                exact ⟨⟨k + 1, by go_num, by omega, by rw [hS.out, if_pos rfl]; go_num, trivial⟩, by simp [intOf]; omega⟩
              | false =>
                rw [hq] at hS
                go_wp2_with fail
                exact ⟨⟨k + 1, by go_num, by omega, by rw [hS.out, if_neg (by simp)]; go_num, trivial⟩, by simp [intOf]; omega⟩
            · rw [List.take_of_length_le (by omega : lv.length ≤ k), hlc1]
              go_wp2_with fail
              go_loopw [15, 84] (fun t i wr => ∃ k : Nat, i = .int .i64 k ∧ k ≤ sv.length ∧ t = .int .i64 ((sv.take k).count (j : Int) : Nat) ∧ wB = wr) (fun _ i _ => sv.length - (intOf i).toNat)
              case atStart => exact ⟨0, rfl, Nat.zero_le _, by simp, rfl⟩
              case round =>
                clear hltk hk
                obtain ⟨k, rfl, hk, rfl, rfl⟩ := hrel
                by_cases hltk : k < sv.length
                · obtain ⟨b', o', rfl, hbl', hc'⟩ := IS_cell HSR7.out k hltk
                  have hc'' := cellB hb (Nat.le_refl _) hc'
                  have hbl'' := World.block_lt_of_cell? _ _ hc''
                  simp only at hbl''
                  have hS := Lib.hid (cnt_succ hltk (j : Int))
                  have hle := cnt_le sv k (j : Int)
                  generalize sv[k] = y at *
                  generalize (sv.take k).count (j : Int) = cn at *
                  clear hc' hbl'
                  cases hq : (y == (j : Int)) with
                  | true =>
                    rw [hq] at hS
                    go_wp2_with fail
                    exact ⟨⟨k + 1, by go_num, by omega, by rw [hS.out, if_pos rfl]; go_num, trivial⟩, by simp [intOf]; omega⟩
                  | false =>
                    rw [hq] at hS
                    go_wp2_with fail
                    exact ⟨⟨k + 1, by go_num, by omega, by rw [hS.out, if_neg (by simp)]; go_num, trivial⟩, by simp [intOf]; omega⟩
                · rw [List.take_of_length_le (by omega : sv.length ≤ k)]
                  rw [show ((1 : Nat) : Int) = 1 from rfl]
                  have HA1 := HALL wB hbwr
                  have hlenx : l.length ≤ 9223372036854775807 := by obtain ⟨_, _, e9, hd, _⟩ := HSL.out; cases e9; have := hd.2.2.1; omega
                  clear HALL hlc1
                  cases hall : allS l args with
                  | none =>
                    rw [hall] at HA1 hsc1
                    have hck : Hid (∀ F : Fn, FtPost rules args F → args.length = l.length → sv.count (j : Int) = 0) := Lib.hid (fun F h1 h2 => (hsc1.out F h1 h2).trans (if_neg (by simp)))
                    clear hsc1 hall
                    generalize sv.count (j : Int) = ck at *
                    go_wp2_with fail
                    refine HA1.out.mono ?_
                    rintro _ w8 ⟨A8, n8, cap8, b8, xs8, rfl, hown8, hb8, rfl, rfl, rfl⟩
                    have hb78 := hb.thenCall hb.size hb8
                    by_cases hleq : args.length = l.length
                    · have hle1 : ((args.length : Int) == l.length) = true := by simp [hleq]
                      have HFF := HFt w8 ⟨hr8, h200.out, (fun l hl => (HROK.out l hl).2.2.2), HN.out, hta, HNA.out⟩ (hbw7.thenCall hbw7.size hb78)
                      have HLE := Lib.hid hleq
                      clear hleq HA1 hown8 
                      go_wp2_with fail
                      refine HFF.out.mono ?_
                      clear HFF
                      rintro _ w9 ⟨b9, rfl, hF9, hb9⟩
                      have hb79 := hb78.thenCall hb78.size hb9
                      cases b9 with
                      | false =>
                        go_wp2_with fail
                        exact ⟨⟨j + 1, by go_num, by omega, hb79⟩, by simp [intOf]; omega⟩
                      | true =>
                        obtain ⟨F, hF⟩ := hF9 rfl
                        have hk := hck.out F hF HLE.out
                        subst hk
                        clear hF9 hF hck
                        go_wp2_with fail
                        exact ⟨⟨j + 1, by go_num, by omega, hb79⟩, by simp [intOf]; omega⟩
                    · have hle1 : ((args.length : Int) == l.length) = false := by rw [beq_eq_false_iff_ne]; omega
                      clear hleq HA1 hown8  hck
                      go_wp2_with fail
                      exact ⟨⟨j + 1, by go_num, by omega, hb78⟩, by simp [intOf]; omega⟩
                  | some bs =>
                    rw [hall] at HA1 hsc1
                    have hck : Hid (∀ F : Fn, FtPost rules args F → args.length = l.length → sv.count (j : Int) = 1) := Lib.hid (fun F h1 h2 => (hsc1.out F h1 h2).trans (if_pos rfl))
                    clear hsc1 hall
                    generalize sv.count (j : Int) = ck at *
                    go_wp2_with fail
                    refine HA1.out.mono ?_
                    rintro _ w8 ⟨A8, n8, cap8, b8, xs8, rfl, hown8, hb8, rfl, rfl, hbd8⟩
                    have hb78 := hb.thenCall hb.size hb8
                    by_cases hleq : args.length = l.length
                    · have hle1 : ((args.length : Int) == l.length) = true := by simp [hleq]
                      have HFF := HFt w8 ⟨hr8, h200.out, (fun l hl => (HROK.out l hl).2.2.2), HN.out, hta, HNA.out⟩ (hbw7.thenCall hbw7.size hb78)
                      have HLE := Lib.hid hleq
                      clear hleq HA1 hown8 hbd8
                      go_wp2_with fail
                      refine HFF.out.mono ?_
                      clear HFF
                      rintro _ w9 ⟨b9, rfl, hF9, hb9⟩
                      have hb79 := hb78.thenCall hb78.size hb9
                      cases b9 with
                      | false =>
                        go_wp2_with fail
                        exact ⟨⟨j + 1, by go_num, by omega, hb79⟩, by simp [intOf]; omega⟩
                      | true =>
                        obtain ⟨F, hF⟩ := hF9 rfl
                        have hk := hck.out F hF HLE.out
                        subst hk
                        clear hF9 hF hck
                        go_wp2_with fail
                        exact ⟨⟨j + 1, by go_num, by omega, hb79⟩, by simp [intOf]; omega⟩
                    · have hle1 : ((args.length : Int) == l.length) = false := by rw [beq_eq_false_iff_ne]; omega
                      clear hleq HA1 hown8 hbd8 hck
                      go_wp2_with fail
                      exact ⟨⟨j + 1, by go_num, by omega, hb78⟩, by simp [intOf]; omega⟩
        · have hle1 : ((lv.length : Int) == rules.length) = true := by simp [hll]
          clear hll
          go_wp2_with fail
          go_ret
          exact ⟨rfl, hbwr⟩
end Go.Proofs.Ytnaakhnmbckpmaa.Pats
namespace Go.Proofs.Ytnaakhnmbckpmaa.dtreeSelects
open Go.ChangeShapes Go.WideShapes Go.ChangeAt Go.RowKit Go.Proofs.Ytnaakhnmbckpmaa.Lift Go.Proofs.Ytnaakhnmbckpmaa.Data Go.Proofs.Ytnaakhnmbckpmaa.Refs Go.Proofs.Ytnaakhnmbckpmaa.Pats
set_option linter.unusedVariables false
set_option linter.unusedSimpArgs false
set_option maxRecDepth 100000 in
theorem contract (H : Type) (enc : TypeId × Value → H) (W : World) (base : Nat) (args : Array Value) (ds gs : List (DataW H)) (before : List MemPlace)
    (hval : ∀ (j : Nat) t v, Try.f8.params[j]? = some t → args[j]? = some v → Value.okWide Try.prog W .any base t v)
    (hW : DataW.Whole enc Try.prog Try.f8.params.toList Rows.dtreeSelectsSpec.vars false W args.toList ds gs before)
    (hk : Rows.uptoSmall H (ds ++ gs) = true) :
    Calls Try.prog 8 args W fun e W' => ∃ v, e = .returned v ∧ Rows.dtreeSelectsSpec.post enc Try.prog Try.f8 false true false false W args v W' := by
  have hW' := hW
  obtain ⟨p, q, hA0, hV, rfl, hfz, hnd⟩ := hW
  have hA : DataW.TrodAll enc Try.prog W 0 (fun _ => true) true Try.f8.params.toList args.toList ds p := hA0
  rw [Try.params8] at hA hval
  obtain ⟨v0, vs0, d0, ds0, p0, q0, hargs, rfl, rfl, h0, r0⟩ := trodAll_cons hA
  obtain ⟨v1, vs1, d1, ds1, p1, q1, rfl, rfl, rfl, h1, r1⟩ := trodAll_cons r0
  obtain ⟨v2, vs2, d2, ds2, p2, q2, rfl, rfl, rfl, h2, r2⟩ := trodAll_cons r1
  obtain ⟨rfl, rfl, rfl⟩ := trodAll_nil r2
  obtain rfl : args = #[v0, v1, v2] := by cases args; simp_all
  obtain ⟨rfl, -⟩ := trodVars_none (show DataW.TrodVars enc Try.prog W _ [] gs q from hV)
  have hbulk : Rows.uptoBulkAll [d0, d1, d2] ≤ 1048576 := by have h := of_decide_eq_true hk; simpa only [List.append_nil] using h
  clear hk
  obtain ⟨e0, he0⟩ := openStrs (hval 0 51 v0 rfl rfl) h0 (by simp only [Rows.uptoBulkAll] at hbulk; omega)
  obtain ⟨e1, he1, hs1, hn1⟩ := openRSN (hval 1 68 v1 rfl rfl) h1 (by simp only [Rows.uptoBulkAll] at hbulk; omega)
  obtain ⟨e2, he2, hs2, hn2⟩ := openTmN_sl (hval 2 27 v2 rfl rfl) h2 (by simp only [Rows.uptoBulkAll] at hbulk; omega)
  simp only [Rows.uptoBulkAll] at hbulk
  refine (selects_walk W v0 v1 v2 e0 e1 e2 he0 he1 he2 hs1 (by omega) hn1 hn2).mono fun e W1 ⟨he, hb⟩ => ?_
  exact ⟨_, he, law_post laidOut hW' rfl (by kernel_rfl) 4 Try.underlying4 rfl (fun _ => rfl) hb⟩

set_option maxRecDepth 100000 in
theorem lifted (os : Os) (started : os.Started) (H : Type) (enc : TypeId × Value → H) (F : Stop.Interp) :
    ReturnsInHanded {} Try.checked os 8 .any ((Rows.OpenSpec.upto Rows.dtreeSelectsSpec).pre6 enc Try.prog Try.f8 Rows.dtreeSelectsUptoRow.domain false) (((Rows.OpenSpec.upto Rows.dtreeSelectsSpec).at F).post enc Try.prog Try.f8 false true false false) := by
  refine returnsInHanded_of_cond (C := Try.checked) (s := Rows.OpenSpec.upto Rows.dtreeSelectsSpec) (k := Rows.uptoSmall) rfl own started (by kernel_rfl) Try.func8
    (OpenSpec.witness (enc := enc) (C := Try.checked) (s := Rows.OpenSpec.upto Rows.dtreeSelectsSpec) (k := Rows.uptoSmall) rfl false ⟨#[], #[.slice none 0 0, .slice none 0 0, .slice none 0 0], []⟩ 8 (by kernel_rfl) (by kernel_rfl) (by kernel_rfl)
      (x := ([.nil, .nil, .nil], [], [])) (by kernel_rfl) rfl (by kernel_rfl)) ?_
  intro W base args ds gs before hval hW _ hk _
  exact contract H enc W base args ds gs before hval hW hk
theorem over : Rows.dtreeSelectsUptoRow.holds Try.pinned (Rows.OpenSpec.upto Rows.dtreeSelectsSpec) :=
  OpenClaim.holds_of_cond 8 Try.f8 rfl rfl rfl rfl rfl rfl rfl ⟨rfl, rfl, rfl, rfl, rfl⟩ rfl rfl rfl rfl rfl (by kernel_rfl) Try.func8 (by kernel_rfl)
    (of_decide_eq_true (by kernel_rfl)) (by unfold Func.isWrapper; first | (rw [if_pos (by decide +kernel)]; kernel_rfl) | (rw [if_neg (by decide +kernel)]; exact ⟨rfl, rfl⟩))
    (fun os started H enc _ F => lifted os started H enc F)
/-- THE STATEMENT -/
theorem proved : Rows.DtreeSelectsUptoSaid :=
  over
#print axioms proved
end Go.Proofs.Ytnaakhnmbckpmaa.dtreeSelects
