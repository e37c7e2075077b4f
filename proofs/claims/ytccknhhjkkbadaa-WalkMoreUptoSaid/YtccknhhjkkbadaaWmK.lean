/- Contract: walk.Look. -/
import Derived.Test.YtccknhhjkkbadaaWmG
import Derived.Test.YtccknhhjkkbadaaNil
import Derived.Laws.EntriesVeiled
import Derived.Maps.OwnSet
import Derived.Deep.RegionHeld3
namespace Go.Proofs.Ytccknhhjkkbadaa.Wm
open Go.ChangeShapes Go.WideShapes Go.ChangeAt Go.RowKit Go.Proofs.Ytccknhhjkkbadaa.Lift Go.Proofs.Ytccknhhjkkbadaa.Arn Go.Proofs.Ytccknhhjkkbadaa.ArnN Go.Proofs.Ytccknhhjkkbadaa.Gr Go.Maps
set_option linter.unusedVariables false
set_option linter.unusedSimpArgs false
theorem plainElem_bool_inv {P : Program} {e : TypeId} (he : P.underlying e = some .bool) {v : Value} {z : DataW Unit × List MemPlace} (h : plainElem (H := Unit) P e v = some z) : ∃ x, v = .bool x ∧ z = (.lit (.bool x), []) := by
  unfold plainElem at h
  rw [he] at h
  cases v <;> simp at h
  obtain rfl := h
  exact ⟨_, rfl, rfl⟩
/-- a map of places that were seen. -/
def Done (g : Gph) (w : World) (md : Nat) (dn : Dn) : Prop :=
  ∃ (D : DataW Unit) (ks : List Int), w.ownsMap Try.prog 3 (plainElem Try.prog 4) md ks.length D ∧ Maps.size D = ks.length ∧ ks.Nodup ∧ (∀ x ∈ ks, g.has x = true) ∧ (∀ i, dn i = decide (i ∈ ks)) ∧
    ∀ i, W64 i → Maps.has D (.int .i64 i) = dn i ∧ D.atKey (.int .i64 i) (.lit (.bool false)) = .lit (.bool (dn i))
theorem Done.lt {g : Gph} {w : World} {md : Nat} {dn : Dn} (h : Done g w md dn) : md < w.heap.size := by
  obtain ⟨D, ks, h1, _⟩ := h
  exact h1.lt
theorem Done.keep {g : Gph} {w w' : World} {md : Nat} {dn : Dn} (h : Done g w md dn) (hb : w'.heap[md]? = w.heap[md]?) : Done g w' md dn := by
  obtain ⟨D, ks, ⟨es, cl, h1, h2⟩, h3⟩ := h
  exact ⟨D, ks, ⟨es, cl, hb.trans h1, h2⟩, h3⟩
theorem Done.below {g : Gph} {w w' : World} {md : Nat} {dn : Dn} (h : Done g w md dn) (hb : Below w.heap.size w w') : Done g w' md dn := h.keep (hb.block _ h.lt)
set_option maxRecDepth 100000 in
theorem Done.made (g : Gph) (w : World) : Done g (w.alloc (.map #[] 0)) w.heap.size (fun _ => false) :=
  ⟨.map [], [], World.ownsMap_made w Try.prog 3 _, rfl, List.nodup_nil, by simp, fun i => by simp, fun i hi => ⟨rfl, rfl⟩⟩
set_option maxRecDepth 100000 in
theorem Done.look {g : Gph} {w : World} {md : Nat} {dn : Dn} (h : Done g w md dn) {i : Int} (hi : W64 i) : (Instr.lookup 135 (.map (some md)) (.int .i64 i) false).run Try.prog w = .ok (.bool (dn i)) w := by
  obtain ⟨D, ks, h1, h2, h3, h4, h5, h6⟩ := h
  obtain ⟨v, ps, hrun, hv⟩ := h1.lookup law3 Try.underlying135 (Try.zeroValue4 _) (plainElem_bool Try.underlying4 false) (keyOf_int_mk Try.underlying3 hi)
  obtain ⟨x, rfl, hx⟩ := plainElem_bool_inv Try.underlying4 hv
  rw [(h6 i hi).2] at hx
  injection hx with hx _
  injection hx with hx
  injection hx with hx
  rw [hrun, hx]
/-- a graph has so many places at most. -/
def Fin (g : Gph) (N : Nat) : Prop := ∃ m : List Int, m.length ≤ N ∧ ∀ i, g.has i = true → i ∈ m
theorem Done.put {g : Gph} {N : Nat} {w w' : World} {md : Nat} {dn : Dn} {i : Int} (hF : Fin g N) (h : Done g w md dn) (hi : W64 i) (hh : g.has i = true) {D : DataW Unit} {ks : List Int} (h1 : w.ownsMap Try.prog 3 (plainElem Try.prog 4) md ks.length D) (h2 : Maps.size D = ks.length)
    (h3 : ks.Nodup) (h4 : ∀ x ∈ ks, g.has x = true) (h5 : ∀ i, dn i = decide (i ∈ ks)) (h6 : ∀ i, W64 i → Maps.has D (.int .i64 i) = dn i ∧ D.atKey (.int .i64 i) (.lit (.bool false)) = .lit (.bool (dn i)))
    (hp : w'.ownsMap Try.prog 3 (plainElem Try.prog 4) md (ks.length + 1) (D.put (.int .i64 i) (.lit (.bool true)))) : Done g w' md (setD dn i) := by
  have hT := h1.tidy law3
  have hsz := size_put (k := .int .i64 i) (d := .lit (.bool true)) hT
  rw [(h6 i hi).1, h5 i, h2] at hsz
  obtain ⟨ks', e1, e2, e3, e4⟩ : ∃ ks' : List Int, ks'.Nodup ∧ (∀ x, x ∈ ks' ↔ x = i ∨ x ∈ ks) ∧ Maps.size (D.put (.int .i64 i) (.lit (.bool true))) = ks'.length ∧ True := by
    by_cases hm : i ∈ ks
    · refine ⟨ks, h3, fun x => ⟨.inr, fun e => e.elim (fun e => e ▸ hm) id⟩, ?_, trivial⟩
      rw [hsz]; simp [hm]
    · refine ⟨i :: ks, List.nodup_cons.2 ⟨hm, h3⟩, fun x => by simp, ?_, trivial⟩
      rw [hsz]; simp [hm]
  refine ⟨_, ks', ?_, e3, e1, fun x hx => ((e2 x).1 hx).elim (fun e => e ▸ hh) (h4 x), fun j => ?_, fun j hj => ?_⟩
  · obtain ⟨es, cl, a1, a2, a3, a4⟩ := hp
    refine ⟨es, cl, a1, a2, ?_, a4⟩
    rw [← e3, a4]
    have : es.size = ((es.toList.map (Go.WideElems.rg (H := Unit) Try.prog 3 (plainElem Try.prog 4))).foldr DataW.insert []).length := by rw [length_sorted]; simp
    rw [this]
    exact Nat.le_refl _
  · unfold setD
    by_cases e : j = i
    · subst e
      rw [if_pos rfl]
      simp [e2]
    · rw [if_neg e, h5 j]
      have := e2 j
      simp only [this, e, false_or]
  · unfold setD
    by_cases e : j = i
    · subst e
      rw [if_pos rfl, has_put_same hT.isMap (isKey _ hi), atKey_put_same hT.isMap (isKey _ hi)]
      exact ⟨rfl, rfl⟩
    · rw [if_neg e, has_put_other (lit_ne e), atKey_put_other (lit_ne e)]
      exact h6 j hj
theorem thr_has {g : Gph} {f : Int → Int × Bool} {N : Nat} : ∀ (m : Nat) (i : Int), (thr g f N m i).2 = true → g.has (thr g f N m i).1 = true
  | 0, i, h => by rw [thr] at h ⊢; exact h
  | m + 1, i, h => by
    rw [thr] at h ⊢
    by_cases h1 : g.has i = false ∨ (g.k i ≠ 3 ∧ g.k i ≠ 11)
    · rw [if_pos h1] at h ⊢; exact h
    rw [if_neg h1] at h ⊢
    by_cases h2 : (f (g.n i)).2 = false
    · rw [if_pos h2]
      cases hh : g.has i with
      | false => exact absurd (.inl hh) h1
      | true => first | exact hh | rfl
    rw [if_neg h2] at h ⊢
    by_cases h3 : (f (g.n i)).1 < 0 ∨ (g.a i).length ≤ (f (g.n i)).1
    · rw [if_pos h3] at h; cases h
    rw [if_neg h3] at h ⊢
    exact thr_has m _ h
/-- the four boxes of Look. -/
structure Env (w : World) (bg bf bd bl md gg : Nat) (v : Value) : Prop where
  g : w.heap[bg]? = some (.cells #[.pointer (some ⟨gg, 0, none⟩)] 47 (0, 0))
  f : w.heap[bf]? = some (.cells #[v] 84 (0, 0))
  d : w.heap[bd]? = some (.cells #[.map (some md)] 135 (0, 0))
  l : w.heap[bl]? = some (.cells #[.func (.func 96) #[] #[.pointer (some ⟨bg, 0, none⟩), .pointer (some ⟨bf, 0, none⟩), .pointer (some ⟨bd, 0, none⟩), .pointer (some ⟨bl, 0, none⟩)]] 136 (0, 0))
  ng : bg ≠ md
  nf : bf ≠ md
  nd : bd ≠ md
  nl : bl ≠ md
theorem Env.turn {w w' : World} {bg bf bd bl md gg : Nat} {v : Value} (h : Env w bg bf bd bl md gg v) (ht : Turn (· = md) w w') : Env w' bg bf bd bl md gg v :=
  ⟨(ht.block _ (Array.getElem?_eq_some_iff.1 h.g).1 h.ng).trans h.g, (ht.block _ (Array.getElem?_eq_some_iff.1 h.f).1 h.nf).trans h.f, (ht.block _ (Array.getElem?_eq_some_iff.1 h.d).1 h.nd).trans h.d,
   (ht.block _ (Array.getElem?_eq_some_iff.1 h.l).1 h.nl).trans h.l, h.ng, h.nf, h.nd, h.nl⟩
theorem cell1 {w : World} {b : Nat} {v : Value} {t : TypeId} (h : w.heap[b]? = some (.cells #[v] t (0, 0))) : w.cell? ⟨b, 0, none⟩ = some v := by simp [World.cell?, h]
/-- what looking from a place on leaves. -/
def LkPost (g : Gph) (md : Nat) (q : (Int × Int) × Dn) (w : World) (e : Ending) (w' : World) : Prop :=
  e = .returned (.tuple #[.int .i64 q.1.1, .int .i64 q.1.2]) ∧ Done g w' md q.2 ∧ Turn (· = md) w w'
theorem LkPost.mk {g : Gph} {md : Nat} {q : (Int × Int) × Dn} {w w' : World} (a b : Int) (d : Dn) (hq : q = ((a, b), d)) (h1 : Done g w' md d) (h2 : Turn (· = md) w w') : LkPost g md q w (.returned (.tuple #[.int .i64 a, .int .i64 b])) w' := by
  subst hq
  exact ⟨rfl, h1, h2⟩
set_option maxRecDepth 100000 in
set_option maxHeartbeats 4000000 in
theorem lookc_any {w0 : World} {g : Gph} {N gg : Nat} (hG : GrOk w0 g N gg) (hk : Gok g N) (hF : Fin g N) (v : Value) (l : List Fg.Pk) (hv : Fg.PkSl w0 v l) (bg bf bd bl md : Nat) (hmd : w0.heap.size ≤ md) : ∀ (M : Nat) (i left : Int) (dn : Dn) (w : World), W64 i → Hid (left = (M : Int) - 1) → M ≤ 65537 → Below w0.heap.size w0 w → Env w bg bf bd bl md gg v → Done g w md dn →
    Calls Try.prog 96 #[.int .i64 i, .int .i64 left, .pointer (some ⟨bg, 0, none⟩), .pointer (some ⟨bf, 0, none⟩), .pointer (some ⟨bd, 0, none⟩), .pointer (some ⟨bl, 0, none⟩)] w (LkPost g md (look g (Fg.getF l) N M i dn) w) := by
  have HTh : Hid (∀ (y : World) i, Below w0.heap.size w0 y → W64 i → _) := Lib.hid (fun y i hy hi => through_any hG hk v l hv i hi y hy)
  have HGn : Hid (∀ (y : World) i, Below w0.heap.size w0 y → W64 i → _) := Lib.hid (fun y i hy hi => gok_get hG i hi y hy)
  have H64 : Hid (∀ i, W64 i → W64 (thrG g (Fg.getF l) N i).1) := Lib.hid (fun i hi => thrG64 hk hi)
  have HAr : Hid (∀ i, W64 i → ∀ k, k < (g.a i).length → W64 ((g.a i).getD k 0)) := Lib.hid (fun i hi k hk' => arg64 hk hi hk')
  have HLe : Hid (∀ i, W64 i → (g.a i).length ≤ 1048576) := Lib.hid (fun i hi => (hk.2 i hi).2.2)
  have HHas : Hid (∀ m i, (thr g (Fg.getF l) N m i).2 = true → g.has (thr g (Fg.getF l) N m i).1 = true) := Lib.hid (fun m i h => thr_has m i h)
  have HFn := Lib.hid hF
  have hNb := hk.1
  clear hG hk hF
  intro M
  induction M with
  | zero =>
    intro i left dn w hi hleft hM h0 hE hD
    have hneg : left < 0 := by have := hleft.out; omega
    have c1 := cell1 hE.g
    have c2 := cell1 hE.f
    have HI := Lib.hid hi
    have HD := Lib.hid hD
    clear hE hi hD
    go_enter Try.func96, Try.ntmps96
    go_wp2_with fail
    refine (HTh.out w i h0 HI.out).mono ?_
    rintro _ w1 ⟨rfl, q1⟩
    have h01 := h0.thenCall h0.size q1
    have c1' := (q1.cell (p := ⟨bg, 0, none⟩) (World.block_lt_of_cell? w _ c1)).trans c1
    have H64' := Lib.hid (H64.out i HI.out)
    have q1s := q1.size
    clear c1 c2
    go_wp2_with fail
    refine (HGn.out w1 _ h01 H64'.out).mono ?_
    rintro _ w2 ⟨A, cap, rfl, hA, q2⟩
    have q12 := q1.thenCall q1.size q2
    have hfin := fun o => Lib.hid (LkPost.mk (q := look g (Fg.getF l) N 0 i dn) (w := w) 3 0 dn rfl (HD.out.below (q12.alloc q12.size o)) (Turn.of_below (q12.alloc q12.size o)))
    clear hA c1' q1 q2 q12
    generalize (thrG g (Fg.getF l) N i) = q at *
    obtain ⟨i', is⟩ := q
    cases is
    all_goals
      go_wp2_with fail
      go_ret2
      exact (hfin _).out
  | succ M ih =>
    intro i left dn w hi hleft hM h0 hE hD
    have HIH := Lib.hid ih
    have hlf : left = (M : Int) := by have := hleft.out; omega
    obtain rfl := hlf
    have HL1 : Hid (IntKind.i64.wrap ((M : Int) - 1) = (M : Int) - 1) := Lib.hid (IntWalk.i64_in _ (by omega))
    have hneg : ¬ (M : Int) < 0 := by omega
    have c1 := cell1 hE.g
    have c2 := cell1 hE.f
    have HI := Lib.hid hi
    have HD := Lib.hid hD
    have HE := Lib.hid hE
    have HLk : Hid (look g (Fg.getF l) N (M + 1) i dn = _) := Lib.hid (by rw [look])
    have H64' := Lib.hid (H64.out i HI.out)
    have HH' : Hid ((thrG g (Fg.getF l) N i).2 = true → g.has (thrG g (Fg.getF l) N i).1 = true) := Lib.hid (HHas.out _ _)
    clear hE hi hD hleft ih
    go_enter Try.func96, Try.ntmps96
    go_wp2_with fail
    refine (HTh.out w i h0 HI.out).mono ?_
    rintro _ w1 ⟨rfl, q1⟩
    have h01 := h0.thenCall h0.size q1
    have c1' := (q1.cell (p := ⟨bg, 0, none⟩) (World.block_lt_of_cell? w _ c1)).trans c1
    have q1s := q1.size
    clear c1 c2
    generalize (thrG g (Fg.getF l) N i) = q at *
    obtain ⟨i', is⟩ := q
    dsimp only at *
    go_wp2_with fail
    refine (HGn.out w1 _ h01 H64'.out).mono ?_
    rintro _ w2 ⟨A, cap, rfl, hA, q2⟩
    have q12 := q1.thenCall q1.size q2
    have hlen := HLe.out i' H64'.out
    have HAr' := Lib.hid (HAr.out i' H64'.out)
    obtain ⟨K, hK⟩ : ∃ K, K = g.k i' := ⟨_, rfl⟩
    obtain ⟨la, hla⟩ : ∃ la, la = g.a i' := ⟨_, rfl⟩
    rw [← hla] at hA hlen HAr'
    have HKe := Lib.hid hK
    have HLa := Lib.hid hla
    rw [← hK, ← hla]
    obtain ⟨W2, hW2⟩ : ∃ W2, W2 = w2.alloc (.cells #[.int .i64 K, .int .i64 (g.n i'), .slice A la.length cap] 43) := ⟨_, rfl⟩
    have HW2 := Lib.hid hW2
    have hb23 : Below w2.heap.size w2 W2 := by rw [hW2]; exact (Below.refl w2.heap.size w2).alloc (Nat.le_refl _) _
    have hbx2 : W2.heap[w2.heap.size]? = some (.cells #[.int .i64 K, .int .i64 (g.n i'), .slice A la.length cap] 43 (0, 0)) := by rw [hW2]; exact heap_alloc_new _ _
    have hB2 := q12.thenCall q12.size hb23
    have hA2 := hA.below hb23
    have HD2 := Lib.hid (HD.out.below hB2)
    have HE2 := Lib.hid (HE.out.turn (Turn.of_below hB2))
    have hT2 : Turn (· = md) w W2 := Turn.of_below hB2
    have h02 := h0.thenCall h0.size hB2
    have b0 : W2.cell? ⟨w2.heap.size, 0, none⟩ = some (.int .i64 K) := by simp [World.cell?, hbx2]
    have b2 : W2.cell? ⟨w2.heap.size, 2, none⟩ = some (.slice A la.length cap) := by simp [World.cell?, hbx2]
    have cd := cell1 HE2.out.d
    have hrun := HD2.out.look H64'.out
    have hfin := fun a b (hq : look g (Fg.getF l) N (M + 1) i dn = ((a, b), dn)) => Lib.hid (LkPost.mk (w := w) a b dn hq HD2.out hT2)
    have HT2 := Lib.hid hT2
    have HA2 := Lib.hid hA2
    have hmd2 := HD2.out.lt
    clear hW2 hb23 hbx2 hB2 hA2 hA q12 q1 q2 hT2 hK hla c1' h0 h01
    go_upto_region 3 with fail
    rw [← HW2.out]
    clear HW2
    cases is with
    | false =>
      have HF := hfin 3 0 (HLk.out.trans (if_pos rfl))
      clear hfin
      go_wp2_with fail
      go_ret2
      exact HF.out
    | true =>
      have HLk := Lib.hid (HLk.out.trans (if_neg (by simp)))
      have hhas := HH'.out rfl
      by_cases hd : dn i' = true
      · have HF := hfin 0 0 (HLk.out.trans (if_pos hd))
        rw [hd] at hrun
        clear hfin hd hhas
        go_wp2_with fail
        go_ret2
        exact HF.out
      · have HLk := Lib.hid (HLk.out.trans (if_neg hd))
        have hd2 : dn i' = false := by simpa using hd
        rw [hd2] at hrun
        clear hd hd2
        rw [← HKe.out, ← HLa.out] at HLk
        have HLz := lazy_any K W2
        by_cases hz : K = 2 ∨ K = 9 ∨ K = 10
        · have HF := hfin 1 i' (HLk.out.trans (if_pos hz))
          have e : (K == 2 || K == 9 || K == 10) = true := by
            rcases hz with h | h | h <;> simp [h]
          rw [e] at HLz
          have HLz := Lib.hid HLz
          clear hfin hhas hz e
          go_wp2_with (go_at_call 37; refine HLz.out.mono ?_; rintro _ w3 ⟨rfl, rfl⟩)
          go_ret2
          exact HF.out
        have HLk := Lib.hid (HLk.out.trans (if_neg hz))
        have e : (K == 2 || K == 9 || K == 10) = false := by
          rw [Bool.eq_false_iff]
          intro h
          simp only [Bool.or_eq_true, beq_iff_eq] at h
          exact hz (by omega)
        rw [e] at HLz
        have HLz := Lib.hid HLz
        clear e hz
        by_cases h3 : K = 3
        · subst h3
          by_cases hl0 : 0 < la.length
          · have HF := hfin 2 i' (HLk.out.trans (if_pos ⟨rfl, hl0⟩))
            have hl1 : (0 : Int) < la.length := by omega
            clear hfin hhas
            go_wp2_with (go_at_call 37; refine HLz.out.mono ?_; rintro _ w3 ⟨rfl, rfl⟩)
            go_ret2
            exact HF.out
          · obtain rfl : la = [] := List.eq_nil_of_length_eq_zero (by omega)
            have HF := hfin 3 0 (((HLk.out.trans (if_neg (by simp))).trans (if_neg (by decide))).trans (if_pos (by decide)))
            clear hfin hhas
            simp only [List.length_nil] at b2 ⊢
            go_wp2_with (go_at_call 37; refine HLz.out.mono ?_; rintro _ w3 ⟨rfl, rfl⟩)
            go_ret2
            exact HF.out
        have HLk := Lib.hid (HLk.out.trans (if_neg (fun h => h3 h.1)))
        by_cases h6 : K = 6 ∨ K = 8 ∨ K = 4 ∨ K = 11
        · have HF := hfin 0 0 (HLk.out.trans (if_pos h6))
          clear hfin hhas h3
          rcases h6 with rfl | rfl | rfl | rfl
          all_goals
            go_wp2_with (go_at_call 37; refine HLz.out.mono ?_; rintro _ w3 ⟨rfl, rfl⟩)
            go_ret2
            exact HF.out
        have HLk := Lib.hid (HLk.out.trans (if_neg h6))
        by_cases h1 : K = 1
        · subst h1
          have HLk := Lib.hid (HLk.out.trans (if_neg (by simp)))
          have hi64 := keyOf_int_mk Try.underlying3 H64'.out
          have HHs := Lib.hid hhas
          clear hfin h3 h6 hhas
          go_wp2_with (go_at_call 37; refine HLz.out.mono ?_; rintro _ w3 ⟨rfl, rfl⟩)
          clear hrun cd b0
          go_loopw [83] (fun c wr => ∃ (j : Nat) (d' : Dn), c = .int .i64 j ∧ j ≤ la.length ∧ Hid (lookL (look g (Fg.getF l) N M) la dn = lookL (look g (Fg.getF l) N M) (la.drop j) d') ∧ Hid (Done g wr md d') ∧ Turn (· = md) W2 wr) (fun c _ => la.length - (intOf c).toNat)
          case atStart => exact ⟨0, dn, rfl, Nat.zero_le _, Lib.hid (by rw [List.drop_zero]), HD2, Turn.refl _ _⟩
          case round =>
            obtain ⟨j, d', rfl, hj, hq, hdn, ht⟩ := hrel
            have hE := HE2.out.turn ht
            have h0r := h02.trans ((ht.below (fun b e => by rw [e]; exact hmd) h02.size))
            by_cases hlt : j < la.length
            · obtain ⟨b, o, e1, e2, e3⟩ := HA2.out.2.1 j hlt
              dsimp only at e1
              subst e1
              have hne : ¬ b = md := fun e => by
                obtain ⟨D, ks, ⟨es, cl, a1, _⟩, _⟩ := HD2.out
                subst e
                simp [World.cell?, a1] at e3
              have e4 := (World.cell?_of_block (a := ⟨b, o + j, none⟩) (ht.block b e2 hne)).trans e3
              have hWj := Lib.hid (HAr'.out j hlt)
              have HQ := hq.out
              rw [List.drop_eq_getElem_cons hlt, lookL, show la[j] = la.getD j 0 by simp [List.getD, List.getElem?_eq_getElem hlt]] at HQ
              have HC := Lib.hid (HIH.out (la.getD j 0) ((M : Int) - 1) d' wr hWj.out (Lib.hid rfl) (by omega) h0r hE hdn.out)
              have cl := cell1 hE.l
              generalize la.getD j 0 = z at *
              obtain ⟨⟨⟨qa, qb⟩, qd⟩, hqq⟩ : ∃ q, q = look g (Fg.getF l) N M z d' := ⟨_, rfl⟩
              rw [← hqq] at HQ HC
              have HQ := Lib.hid HQ
              have hT2' := HT2.out.trans (ht.mono (fun b e => .inl e))
              clear hq e3 hqq hE
              go_wp2_with fail
              refine HC.out.mono ?_
              rintro _ w5 ⟨rfl, hd5, ht5⟩
              have htt := ht.trans (ht5.mono (fun b e => .inl e))
              have ht25 := HT2.out.trans (htt.mono (fun b e => .inl e))
              have HD5 := Lib.hid hd5
              clear hd5 cl
              dsimp only at *
              by_cases hqa : qa = 0
              · subst hqa
                have HQ2 := Lib.hid (HQ.out.trans (if_pos rfl))
                go_wp2_with fail
                exact ⟨⟨j + 1, qd, by go_num, by omega, HQ2, HD5, htt⟩, by simp [intOf]; omega⟩
              · have HQ2 := HQ.out.trans (if_neg hqa)
                have HF := Lib.hid (LkPost.mk qa qb qd (HLk.out.trans (by rw [HQ2]; exact if_neg hqa)) HD5.out ht25)
                have q1 : (qa == 0) = false := by simpa using hqa
                have q2 : (qa != 0) = true := by simpa using hqa
                clear HQ2 hqa
                go_wp2_with fail
                go_ret2
                exact HF.out
            · have HQ := hq.out
              rw [List.drop_eq_nil_of_le (by omega), lookL] at HQ
              have hD := hdn.out
              obtain ⟨D, ks, a1, a2, a3, a4, a5, a6⟩ := hdn.out
              have hks : ks.length ≤ 65536 := by
                obtain ⟨mm, m1, m2⟩ := HFn.out
                have := nodup_len ks mm a3 (fun x hx => m2 x (a4 x hx))
                omega
              have HPut : Hid (∀ w3, w3.ownsMap Try.prog 3 (plainElem Try.prog 4) md (ks.length + 1) (D.put (.int .i64 i') (.lit (.bool true))) → Done g w3 md (setD d' i')) := Lib.hid (fun w3 h3 => Done.put HFn.out hD H64'.out HHs.out a1 a2 a3 a4 a5 a6 h3)
              have HF : Hid (look g (Fg.getF l) N (M + 1) i dn = ((0, 0), setD d' i')) := Lib.hid (HLk.out.trans (by rw [HQ]; exact if_pos rfl))
              have hT2' := HT2.out.trans (ht.mono (fun b e => .inl e))
              have cd := cell1 hE.d
              have hkm : ks.length < maxLen := by unfold maxLen; omega
              clear hq HQ a2 a3 a4 a5 a6 hD hE
              go_wp2_with (at_mapUpdate; refine wpList_mapUpdate_own _ rfl _ _ _ 135 rfl 3 4 law3 Try.underlying135 (plainElem Try.prog 4) md ks.length D rfl a1 hkm _ _ _ rfl rfl hi64 _ [] (plainElem_bool Try.underlying4 true) ?_; intro w3 hown3 hg3)
              have hfin := LkPost.mk 0 0 _ HF.out (HPut.out _ hown3) (hT2'.trans ((turn_grown hg3).mono (fun b e => .inl e)))
              have HFF := Lib.hid hfin
              clear hfin hown3 hg3
              go_wp2_with fail
              go_ret2
              exact HFF.out
        · have HF := hfin 3 0 (HLk.out.trans (if_pos h1))
          have f3 : (K == 3) = false := by simpa using h3
          have f1 : (K == 1) = false := by simpa using h1
          have f1' : (K != 1) = true := by simpa using h1
          have f6 : (K == 6) = false := by rw [beq_eq_false_iff_ne]; intro h; exact h6 (.inl h)
          have f8 : (K == 8) = false := by rw [beq_eq_false_iff_ne]; intro h; exact h6 (.inr (.inl h))
          have f4 : (K == 4) = false := by rw [beq_eq_false_iff_ne]; intro h; exact h6 (.inr (.inr (.inl h)))
          have f11 : (K == 11) = false := by rw [beq_eq_false_iff_ne]; intro h; exact h6 (.inr (.inr (.inr h)))
          clear hfin hhas h3 h1 h6
          go_wp2_with (go_at_call 37; refine HLz.out.mono ?_; rintro _ w3 ⟨rfl, rfl⟩)
          go_ret2
          exact HF.out
theorem ha {w : World} {o : Obj} : (w.alloc o).heap[w.heap.size]? = some o := heap_alloc_new w o
set_option maxRecDepth 100000 in
set_option maxHeartbeats 4000000 in
theorem look_any {w0 : World} {g : Gph} {N gg : Nat} (hG : GrOk w0 g N gg) (hk : Gok g N) (hF : Fin g N) (v : Value) (l : List Fg.Pk) (hv : Fg.PkSl w0 v l) (i : Int) (hi : W64 i) (w : World) (h0 : Below w0.heap.size w0 w) :
    Calls Try.prog 50 #[.pointer (some ⟨gg, 0, none⟩), .agg #[v], .int .i64 i] w fun e w' => e = .returned (.tuple #[.int .i64 (look g (Fg.getF l) N (N + 1) i (fun _ => false)).1.1, .int .i64 (look g (Fg.getF l) N (N + 1) i (fun _ => false)).1.2]) ∧ Below w.heap.size w w' := by
  have hmm := @run_makeMap Try.prog
  obtain ⟨V, hV⟩ : ∃ V, V = ((((w.alloc (.cells #[.pointer (some ⟨gg, 0, none⟩)] 47)).alloc (.cells #[v] 84)).alloc (.map #[] 0)).alloc (.cells #[.map (some (w.heap.size + 1 + 1))] 135)).alloc
    (.cells #[.func (.func 96) #[] #[.pointer (some ⟨w.heap.size, 0, none⟩), .pointer (some ⟨w.heap.size + 1, 0, none⟩), .pointer (some ⟨w.heap.size + 1 + 1 + 1, 0, none⟩), .pointer (some ⟨w.heap.size + 1 + 1 + 1 + 1, 0, none⟩)]] 136) := ⟨_, rfl⟩
  have hbV : Below w.heap.size w V := by
    rw [hV]
    exact ((((((Below.refl _ _).alloc (Nat.le_refl _) _).alloc (by simp) _).alloc (by simp <;> omega) _).alloc (by simp <;> omega) _).alloc (by simp <;> omega) _)
  have hE : Env V w.heap.size (w.heap.size + 1) (w.heap.size + 1 + 1 + 1) (w.heap.size + 1 + 1 + 1 + 1) (w.heap.size + 1 + 1) gg v := by
    refine ⟨?_, ?_, ?_, ?_, by omega, by omega, by omega, by omega⟩
    · rw [hV, Below.heap_alloc _ _ _ (by simp <;> omega), Below.heap_alloc _ _ _ (by simp <;> omega), Below.heap_alloc _ _ _ (by simp <;> omega), Below.heap_alloc _ _ _ (by simp)]; exact ha
    · rw [hV, Below.heap_alloc _ _ _ (by simp <;> omega), Below.heap_alloc _ _ _ (by simp <;> omega), Below.heap_alloc _ _ _ (by simp)]; rw [show w.heap.size + 1 = (w.alloc (.cells #[.pointer (some ⟨gg, 0, none⟩)] 47)).heap.size by simp]; exact ha
    · rw [hV, Below.heap_alloc _ _ _ (by simp)]
      exact (by simp : w.heap.size + 1 + 1 + 1 = (((w.alloc (.cells #[.pointer (some ⟨gg, 0, none⟩)] 47)).alloc (.cells #[v] 84)).alloc (.map #[] 0)).heap.size) ▸ ha
    · rw [hV]
      exact (by simp : w.heap.size + 1 + 1 + 1 + 1 = ((((w.alloc (.cells #[.pointer (some ⟨gg, 0, none⟩)] 47)).alloc (.cells #[v] 84)).alloc (.map #[] 0)).alloc (.cells #[.map (some (w.heap.size + 1 + 1))] 135)).heap.size) ▸ ha
  have hD : Done g V (w.heap.size + 1 + 1) (fun _ => false) := by
    have := Done.made g ((w.alloc (.cells #[.pointer (some ⟨gg, 0, none⟩)] 47)).alloc (.cells #[v] 84))
    rw [World.size_alloc, World.size_alloc] at this
    rw [hV]
    exact (this.keep (Below.heap_alloc _ _ _ (by simp))).keep (Below.heap_alloc _ _ _ (by simp <;> omega))
  have h0V := h0.thenCall h0.size hbV
  have hws := h0.size
  have HC : Hid (∀ y, Below V.heap.size V y → Calls Try.prog 96 #[.int .i64 i, .int .i64 N, .pointer (some ⟨w.heap.size, 0, none⟩), .pointer (some ⟨w.heap.size + 1, 0, none⟩), .pointer (some ⟨w.heap.size + 1 + 1 + 1, 0, none⟩), .pointer (some ⟨w.heap.size + 1 + 1 + 1 + 1, 0, none⟩)] y (LkPost g (w.heap.size + 1 + 1) (look g (Fg.getF l) N (N + 1) i (fun _ => false)) y)) := Lib.hid (fun y hy =>
    lookc_any hG hk hF v l hv w.heap.size (w.heap.size + 1) (w.heap.size + 1 + 1 + 1) (w.heap.size + 1 + 1 + 1 + 1) (w.heap.size + 1 + 1) (by omega) (N + 1) i N (fun _ => false) y hi (Lib.hid (by omega)) (by have := hk.1; omega) (h0V.thenCall h0V.size hy) (hE.turn (Turn.of_below hy)) (hD.below hy))
  have HL : Hid (∀ y, Below V.heap.size V y → _) := Lib.hid (fun y hy => gok_len hG y (h0V.thenCall h0V.size hy))
  have MS : Hid (∀ y, Below V.heap.size V y → (fun w' => w'.cell? ⟨w.heap.size, 0, none⟩ = some (.pointer (some ⟨gg, 0, none⟩)) ∧ w'.cell? ⟨w.heap.size + 1 + 1 + 1 + 1, 0, none⟩ = some (.func (.func 96) #[] #[.pointer (some ⟨w.heap.size, 0, none⟩), .pointer (some ⟨w.heap.size + 1, 0, none⟩), .pointer (some ⟨w.heap.size + 1 + 1 + 1, 0, none⟩), .pointer (some ⟨w.heap.size + 1 + 1 + 1 + 1, 0, none⟩)])) y) := Lib.hid (fun y hy =>
    ⟨cell1 (hE.turn (Turn.of_below (F := (· = w.heap.size + 1 + 1)) hy)).g, cell1 (hE.turn (Turn.of_below (F := (· = w.heap.size + 1 + 1)) hy)).l⟩)
  have MT : Hid (∀ y z, Below V.heap.size V y → Turn (· = w.heap.size + 1 + 1) y z → (fun w' => w'.cell? ⟨w.heap.size, 0, none⟩ = some (.pointer (some ⟨gg, 0, none⟩)) ∧ w'.cell? ⟨w.heap.size + 1 + 1 + 1 + 1, 0, none⟩ = some (.func (.func 96) #[] #[.pointer (some ⟨w.heap.size, 0, none⟩), .pointer (some ⟨w.heap.size + 1, 0, none⟩), .pointer (some ⟨w.heap.size + 1 + 1 + 1, 0, none⟩), .pointer (some ⟨w.heap.size + 1 + 1 + 1 + 1, 0, none⟩)])) z) := Lib.hid (fun y z hy hz =>
    ⟨cell1 ((hE.turn (Turn.of_below (F := (· = w.heap.size + 1 + 1)) hy)).turn hz).g, cell1 ((hE.turn (Turn.of_below (F := (· = w.heap.size + 1 + 1)) hy)).turn hz).l⟩)
  have HFin : Hid (∀ y z, Below V.heap.size V y → Turn (· = w.heap.size + 1 + 1) y z → Below w.heap.size w z) := Lib.hid (fun y z hy hz => (hbV.thenCall hbV.size hy).trans (hz.below (fun b e => by omega) (Nat.le_trans hbV.size hy.size)))
  have hB0 : Below V.heap.size V V.drew := (Below.refl _ _).drew
  have HV := Lib.hid hV
  have hzz : w.heap.size + 1 + 1 < V.heap.size := by rw [hV]; simp
  generalize look g (Fg.getF l) N (N + 1) i (fun _ => false) = q at *
  obtain ⟨⟨qa, qb⟩, qd⟩ := q
  clear hV hE hD h0V hG hk hF hi hbV hv
  go_enter Try.func50, Try.ntmps50
  go_wp2_with fail
  rw [← HV.out]
  clear HV
  go_region_held3 (fun w' => w'.cell? ⟨w.heap.size, 0, none⟩ = some (.pointer (some ⟨gg, 0, none⟩)) ∧ w'.cell? ⟨w.heap.size + 1 + 1 + 1 + 1, 0, none⟩ = some (.func (.func 96) #[] #[.pointer (some ⟨w.heap.size, 0, none⟩), .pointer (some ⟨w.heap.size + 1, 0, none⟩), .pointer (some ⟨w.heap.size + 1 + 1 + 1, 0, none⟩), .pointer (some ⟨w.heap.size + 1 + 1 + 1 + 1, 0, none⟩)]))
    (first | exact MT.out _ _ hB0 hT | exact MS.out _ hB0)
    (first
     | (go_at_call 34; ((with_reducible refine (HL.out _ hB0).mono ?_); rintro _ y0 ⟨rfl, rfl⟩))
     | (go_at_call 96; ((with_reducible refine (HC.out _ hB0).mono ?_); rintro _ y1 ⟨rfl, hDD, hT⟩)))
  go_wp2_with fail
  go_ret2
  exact ⟨rfl, HFin.out _ _ hB0 hT⟩
end Go.Proofs.Ytccknhhjkkbadaa.Wm
