/- The walk of FingerOrder: it returns true. -/
import Derived.Test.YtccknhhjkkbadaaAw25
import Derived.Deep.RegionHeld3
import Derived.Deep.DeepCutAuto
namespace Go.Proofs.Ytccknhhjkkbadaa.fingerOrder
open Go.ChangeShapes Go.WideShapes Go.ChangeAt Go.RowKit Go.Proofs.Ytccknhhjkkbadaa.Lift Go.Proofs.Ytccknhhjkkbadaa.Fg Go.Proofs.Ytccknhhjkkbadaa.Dig
set_option linter.unusedVariables false
set_option linter.unusedSimpArgs false
theorem ins_comm (a1 a2 b1 b2 : Int) (h : a1 < b1) : ∀ l : List Pk, ins a1 a2 (ins b1 b2 l) = ins b1 b2 (ins a1 a2 l)
  | [] => by
    have e1 : ¬ b1 ≤ a1 := by omega
    have e2 : a1 ≤ b1 := by omega
    have e3 : ¬ b1 = a1 := by omega
    simp [ins, e1, e2, e3]
  | p :: r => by
    have e1 : ¬ b1 ≤ a1 := by omega
    have e2 : a1 ≤ b1 := by omega
    have e3 : ¬ b1 = a1 := by omega
    have ih := ins_comm a1 a2 b1 b2 h r
    by_cases ha : a1 ≤ p.1
    · by_cases hae : p.1 = a1
      · have hb : ¬ b1 ≤ p.1 := by omega
        simp [ins, ha, hae, hb, e1]
      · by_cases hb : b1 ≤ p.1
        · by_cases hbe : p.1 = b1
          · simp [ins, ha, hae, hb, hbe, e1, e2, e3]
          · simp [ins, ha, hae, hb, hbe, e1, e2, e3]
        · simp [ins, ha, hae, hb, e1]
    · have hb : ¬ b1 ≤ p.1 := by omega
      simp [ins, ha, hb, ih]
theorem ins_swap {a1 b1 : Int} (a2 b2 : Int) (h : ¬ a1 = b1) (l : List Pk) : ins b1 b2 (ins a1 a2 l) = ins a1 a2 (ins b1 b2 l) := by
  rcases Int.lt_or_gt_of_ne h with h | h
  · exact (ins_comm a1 a2 b1 b2 h l).symm
  · exact ins_comm b1 b2 a1 a2 h l
theorem mem_ins : ∀ (l : List Pk) (id a : Int) (x : Pk), x ∈ l → x ∈ ins id a l
  | [], id, a, x, h => by simp at h
  | p :: r, id, a, x, h => by
    rw [ins]
    split
    · split
      · exact h
      · exact List.mem_cons_of_mem _ h
    · rcases List.mem_cons.1 h with rfl | h
      · simp
      · exact List.mem_cons_of_mem _ (mem_ins r id a x h)
theorem get_ins : ∀ (l : List Pk) (id a : Int), getF (ins id a l) id = if (getF l id).2 then getF l id else (a, true)
  | [], id, a => by simp [ins, getF]
  | p :: r, id, a => by
    rw [ins, getF_cons p r]
    by_cases h : id ≤ p.1
    · by_cases e : p.1 = id
      · simp [h, e, getF_cons]
      · simp [h, e, getF_cons]
    · rw [if_neg h, if_neg h, getF_cons, if_neg h, get_ins r id a]
theorem ins_end : ∀ (l : List Pk) (p : Pk), (∀ x ∈ l, x.1 < p.1) → ins p.1 p.2 l = l ++ [p]
  | [], p, _ => rfl
  | q :: r, p, h => by
    have := h q (by simp)
    rw [ins, if_neg (by omega), ins_end r p (fun x hx => h x (by simp [hx]))]
    rfl
theorem fold_end : ∀ (l acc : List Pk), Inc l → (∀ x ∈ acc, ∀ y ∈ l, x.1 < y.1) → l.foldl (fun f p => withF f p.1 p.2) acc = acc ++ l
  | [], acc, _, _ => by simp
  | p :: r, acc, ⟨h1, h2⟩, h => by
    rw [List.foldl_cons, withF_ins, ins_end acc p (fun x hx => h x hx p (by simp)), fold_end r _ h2 (fun x hx y hy => by
      rcases List.mem_append.1 hx with hx | hx
      · exact h x hx y (by simp [hy])
      · simp only [List.mem_singleton] at hx
        subst hx
        exact h1 y hy)]
    simp
theorem ofF_inc (l : List Pk) (h : Inc l) : ofF l = l := by
  have := fold_end l [] h (fun x hx => by simp at hx)
  simpa [ofF] using this
theorem cell2 {w : World} {g : Nat} {v : Value} (h : w.heap[g]? = some (.cells #[v] 84 (0, 0))) : w.cell? ⟨g, 0, none⟩ = some v := by simp [World.cell?, h]
theorem cellp {w : World} {g : Nat} {v u : Value} (h : w.heap[g]? = some (.cells #[v, u] 95 (0, 0))) : w.cell? ⟨g, 0, none⟩ = some v ∧ w.cell? ⟨g, 1, none⟩ = some u := by simp [World.cell?, h]
theorem alloc_lt0 (y : World) (o : Obj) : y.heap.size < (y.alloc o).drew.heap.size := by show _ < (y.alloc o).heap.size; rw [World.size_alloc]; omega
theorem alloc_lt' {y x : World} {o : Obj} (h : Below ((y.alloc o).drew).heap.size ((y.alloc o).drew) x) : y.heap.size < x.heap.size := Nat.lt_of_lt_of_le (alloc_lt0 y o) h.size
theorem alloc_lt {y x : World} {o : Obj} (h : Below (y.alloc o).heap.size (y.alloc o) x) : y.heap.size < x.heap.size := by have := h.size; rw [World.size_alloc] at this; omega
theorem fin_set {W x : World} {g : Nat} {u v : Value} {l : List Pk} (hx : x.heap[g]? = some (.cells #[u] 84 (0, 0))) (hu : ∀ n, u ≠ .int .i64 n) (hs : PkSl x v l) (hB : Below W.heap.size W x) (hg : W.heap.size ≤ g) :
    (x.setCell ⟨g, 0, none⟩ v).heap[g]? = some (.cells #[v] 84 (0, 0)) ∧ PkSl (x.setCell ⟨g, 0, none⟩ v) v l ∧ Below W.heap.size W (x.setCell ⟨g, 0, none⟩ v) :=
  ⟨by simp [World.setCell, Array.getElem?_modify, hx], pk_set hs hx hu, hB.setCell hg _⟩
theorem fin_new {W x : World} {v : Value} {l : List Pk} (hs : PkSl x v l) (hB : Below W.heap.size W x) :
    (x.alloc (.cells #[v] 84)).heap[x.heap.size]? = some (.cells #[v] 84 (0, 0)) ∧ PkSl (x.alloc (.cells #[v] 84)) v l ∧ Below W.heap.size W (x.alloc (.cells #[v] 84)) :=
  ⟨heap_alloc_new x _, hs.below (Fg.below1 _ _) (Nat.le_refl _), hB.alloc hB.size _⟩
set_option maxRecDepth 100000 in
theorem few (w : World) (l : List Pk) (a b : Pk) (v : Value) (hl : PkSl w v l) (h : ¬ l.length ≤ 40) :
    Calls Try.prog 12 #[v, .agg #[.int .i64 a.1, .int .i64 a.2], .agg #[.int .i64 b.1, .int .i64 b.2]] w fun r w' => r = .returned (.bool true) ∧ Below w.heap.size w w' := by
  obtain ⟨A, cap, rfl, -⟩ := hl
  have hd : decide (l.length ≤ 40) = false := by simpa using h
  have HF := fun w => Lib.hid (fewPk_any w A l.length cap)
  rw [hd] at HF
  clear hd h
  go_enter Try.func12, Try.ntmps12
  go_wp2_with fail
  refine (awake25_any _).mono ?_
  rintro _ w1 ⟨rfl, hb1⟩
  go_wp2_with (go_at_call 56; refine (HF _).out.mono ?_; rintro _ w2 ⟨rfl, rfl⟩)
  go_ret
  exact ⟨rfl, Below.call2 hb1⟩
set_option maxRecDepth 100000 in
set_option maxHeartbeats 16000000 in
theorem walk (w : World) (l : List Pk) (a b : Pk) (v : Value) (hl : PkSl w v l) :
    Calls Try.prog 12 #[v, .agg #[.int .i64 a.1, .int .i64 a.2], .agg #[.int .i64 b.1, .int .i64 b.2]] w fun r w' => r = .returned (.bool true) ∧ Below w.heap.size w w' := by
  by_cases h1 : l.length ≤ 40
  · have hI : Inc (ofF l) := by rw [ofF_picks]; exact picks_inc l
    have HF := fun w A cap => Lib.hid (fewPk_any w A l.length cap)
    rw [show decide (l.length ≤ 40) = true by simpa using h1] at HF
    have HO := fun w1 (h : Below w.heap.size w w1) => Lib.hid (of_any w l w1 v hl h (by omega))
    have hLl := ofF_len l
    obtain ⟨A, cap, rfl, -⟩ := hl
    have hLm : (ofF l).length ≤ 4194304 := by omega
    have hLk : (ofF l).length ≤ 40 := by omega
    clear h1 hLl
    generalize ofF l = L at *
    obtain ⟨a1, a2⟩ := a
    obtain ⟨b1, b2⟩ := b
    dsimp only
    have hbox0 : ((w.alloc (.cells #[.int .i64 a1, .int .i64 a2] 95)).alloc (.cells #[.int .i64 b1, .int .i64 b2] 95)).heap[w.heap.size]? = some (.cells #[.int .i64 a1, .int .i64 a2] 95 (0, 0)) := by
      rw [Below.heap_alloc _ _ _ (by simp)]
      exact heap_alloc_new w _
    have hbox1 : ((w.alloc (.cells #[.int .i64 a1, .int .i64 a2] 95)).alloc (.cells #[.int .i64 b1, .int .i64 b2] 95)).heap[w.heap.size + 1]? = some (.cells #[.int .i64 b1, .int .i64 b2] 95 (0, 0)) := by
      have := heap_alloc_new (w.alloc (.cells #[.int .i64 a1, .int .i64 a2] 95)) (.cells #[.int .i64 b1, .int .i64 b2] 95)
      rwa [World.size_alloc] at this
    go_enter Try.func12, Try.ntmps12
    go_wp2_with fail
    refine (awake25_any _).mono ?_
    rintro _ w1 ⟨rfl, hb1⟩
    have k0 := (hb1.block _ (Array.getElem?_eq_some_iff.1 hbox0).1).trans hbox0
    have k1 := (hb1.block _ (Array.getElem?_eq_some_iff.1 hbox1).1).trans hbox1
    have hbw1 := Below.call2 hb1
    clear hb1 hbox0 hbox1
    go_wp2_with fail
    refine (HF _ _ _).out.mono ?_
    rintro _ w2 ⟨rfl, rfl⟩
    go_wp2_with fail
    refine (HO _ hbw1).out.mono ?_
    rintro _ w2 ⟨vf, rfl, hvf, hb2⟩
    have k2 := (hb2.block _ (Array.getElem?_eq_some_iff.1 k0).1).trans k0
    have k3 := (hb2.block _ (Array.getElem?_eq_some_iff.1 k1).1).trans k1
    have hbw2 := hbw1.thenCall hbw1.size hb2
    have hvfs := hvf
    obtain ⟨Af, capf, rfl, -⟩ := hvfs
    clear hb2 k0 k1 HF HO hbw1
    go_upto_region 6 with fail
    obtain ⟨gf, hgf⟩ : ∃ gf, gf = w2.heap.size := ⟨_, rfl⟩
    obtain ⟨W, hW⟩ : ∃ W, W = w2.alloc (.cells #[.slice Af L.length capf] 84) := ⟨_, rfl⟩
    have hbW : Below w2.heap.size w2 W := by rw [hW]; exact Fg.below1 _ _
    have k4 : W.heap[gf]? = some (.cells #[.slice Af L.length capf] 84 (0, 0)) := by rw [hW, hgf]; exact heap_alloc_new w2 _
    have k0 := (hbW.block _ (Array.getElem?_eq_some_iff.1 k2).1).trans k2
    have k1 := (hbW.block _ (Array.getElem?_eq_some_iff.1 k3).1).trans k3
    have hvfW := hvf.below hbW (Nat.le_refl _)
    have hbwW := hbw2.thenCall hbw2.size hbW
    rw [← hW, ← hgf]
    clear hW hgf hbW k2 k3 hvf hbw2
    go_cut [8] (fun s8 wx => ∃ (gg : Nat) (v : Value), s8 = .pointer (some ⟨gg, 0, none⟩) ∧ wx.heap[gg]? = some (.cells #[v] 84 (0, 0)) ∧ PkSl wx v (withF (withF L a1 a2) b1 b2) ∧ Below W.heap.size W wx)
    case first =>
      have MS : Hid (∀ x, Below W.heap.size W x → (fun w' => Below W.heap.size W w' ∧ w'.cell? ⟨gf, 0, none⟩ = some (.slice Af L.length capf) ∧ w'.cell? ⟨w.heap.size, 0, none⟩ = some (.int .i64 a1) ∧ w'.cell? ⟨w.heap.size, 1, none⟩ = some (.int .i64 a2) ∧ w'.cell? ⟨w.heap.size + 1, 0, none⟩ = some (.int .i64 b1) ∧ w'.cell? ⟨w.heap.size + 1, 1, none⟩ = some (.int .i64 b2)) x) := Lib.hid (fun x hx => by
        have c0 := cellp ((hx.block _ (Array.getElem?_eq_some_iff.1 k0).1).trans k0)
        have c1 := cellp ((hx.block _ (Array.getElem?_eq_some_iff.1 k1).1).trans k1)
        exact ⟨hx, cell2 ((hx.block _ (Array.getElem?_eq_some_iff.1 k4).1).trans k4), c0.1, c0.2, c1.1, c1.2⟩)
      have C1 := fun x (h : Below W.heap.size W x) => Lib.hid (with_any W L a1 a2 x _ hvfW h (by omega))
      have hwl := withF_len L a1 a2
      have hB : Below W.heap.size W W.drew := (Below.refl _ _).drew
      clear k0 k1 k4
      go_region_held3 (fun w' => Below W.heap.size W w' ∧ w'.cell? ⟨gf, 0, none⟩ = some (.slice Af L.length capf) ∧ w'.cell? ⟨w.heap.size, 0, none⟩ = some (.int .i64 a1) ∧ w'.cell? ⟨w.heap.size, 1, none⟩ = some (.int .i64 a2) ∧ w'.cell? ⟨w.heap.size + 1, 0, none⟩ = some (.int .i64 b1) ∧ w'.cell? ⟨w.heap.size + 1, 1, none⟩ = some (.int .i64 b2))
          (first | exact MS.out _ hB | exact MS.out _ (hB.alloc hB.size _) | exact MS.out _ (hB.setCell hq1 _) | exact MS.out _ (hB.setCell (Nat.le_refl _) _) | exact MS.out _ ((hB.alloc hB.size _).setCell hB.size _))
          (first
           | (go_at_call 53; ((with_reducible refine (C1 _ (by first | exact hB | exact hB.alloc hB.size _ | exact ((Below.refl _ _).alloc (Nat.le_refl _) _).drew)).out.mono ?_); rintro _ x1 ⟨v1, rfl, hs1, q1⟩; have hc1 := bcell q1; have hf1 := bfrozen q1; (try (have hz1 : W.heap.size < x1.heap.size   := (by first | exact alloc_lt q1 | exact alloc_lt' q1))); have hB' := (by first | exact hB.thenCall hB.size q1 | exact (hB.alloc hB.size _).thenCall (hB.alloc hB.size _).size q1 | exact (((Below.refl _ _).alloc (Nat.le_refl _) _).drew).thenCall (Nat.le_of_lt (alloc_lt0 _ _)) q1 : Below W.heap.size W x1); clear hB; have hB := hB'; clear hB'; have hq1 := hB.size))
           | (go_at_call 53; ((with_reducible refine (with_any x1 (withF L a1 a2) b1 b2 _ v1 hs1 (by first | exact Below.refl _ _ | exact Fg.below1 _ _) (by omega)).mono ?_); rintro _ x2 ⟨v2, rfl, hs2, q2⟩; have hc2 := bcell q2; have hf2 := bfrozen q2; (try (have hz2 : x1.heap.size < x2.heap.size := alloc_lt q2)); (try (have hz3 : W.heap.size < x2.heap.size := Nat.lt_of_lt_of_le hz1 q2.size)); have hB' := (by first | exact hB.thenCall hB.size q2 | exact (hB.alloc hB.size _).thenCall (hB.alloc hB.size _).size q2 : Below W.heap.size W x2); clear hB; have hB := hB'; clear hB'; have hs2s := hs2; obtain ⟨A2, cap2, rfl, -⟩ := hs2s)))
      all_goals
        go_wp2_with fail
        go_meet
        first
          | exact ⟨_, _, rfl, fin_new hs2 (by assumption)⟩
          | exact ⟨_, _, rfl, fin_set ((q2.block _ (by simp)).trans (heap_alloc_new x1 _)) (fun n h => by cases h) hs2 (by assumption) hq1⟩
          | exact ⟨_, _, rfl, fin_set ((q2.block _ hz1).trans ((q1.block _ (by simp)).trans (heap_alloc_new W.drew _))) (fun n h => by cases h) hs2 (by assumption) (Nat.le_refl _)⟩
          | exact ⟨_, _, rfl, fin_set ((q2.block _ hz1).trans ((q1.block _ (alloc_lt0 _ _)).trans (heap_alloc_new W _))) (fun n h => by cases h) hs2 (by assumption) (Nat.le_refl _)⟩
          | fail
    case rest =>
      obtain ⟨gg, vg, rfl, hgg, hsg, hbg⟩ := hcut
      obtain ⟨W2, hW2⟩ : ∃ W2, W2 = wc := ⟨_, rfl⟩
      rw [← hW2] at hgg hsg hbg ⊢
      clear hW2
      have k5 := (hbg.block _ (Array.getElem?_eq_some_iff.1 k0).1).trans k0
      have k6 := (hbg.block _ (Array.getElem?_eq_some_iff.1 k1).1).trans k1
      have k7 := (hbg.block _ (Array.getElem?_eq_some_iff.1 k4).1).trans k4
      have hvf2 := hvfW.below hbg (Nat.le_refl _)
      have hbw2 := hbwW.thenCall hbwW.size hbg
      clear k0 k1 k4 hbg hvfW hbwW
      have hsgs := hsg
      obtain ⟨Ag, capg, rfl, -⟩ := hsgs
      go_upto_region 7 with fail
      go_cut [9] (fun s9 wx => ∃ (gh : Nat) (v : Value), s9 = .pointer (some ⟨gh, 0, none⟩) ∧ wx.heap[gh]? = some (.cells #[v] 84 (0, 0)) ∧ PkSl wx v (withF (withF L b1 b2) a1 a2) ∧ Below W2.heap.size W2 wx)
      case first =>
        have MS : Hid (∀ x, Below W2.heap.size W2 x → (fun w' => Below W2.heap.size W2 w' ∧ w'.cell? ⟨gf, 0, none⟩ = some (.slice Af L.length capf) ∧ w'.cell? ⟨w.heap.size, 0, none⟩ = some (.int .i64 a1) ∧ w'.cell? ⟨w.heap.size, 1, none⟩ = some (.int .i64 a2) ∧ w'.cell? ⟨w.heap.size + 1, 0, none⟩ = some (.int .i64 b1) ∧ w'.cell? ⟨w.heap.size + 1, 1, none⟩ = some (.int .i64 b2)) x) := Lib.hid (fun x hx => by
          have c0 := cellp ((hx.block _ (Array.getElem?_eq_some_iff.1 k5).1).trans k5)
          have c1 := cellp ((hx.block _ (Array.getElem?_eq_some_iff.1 k6).1).trans k6)
          exact ⟨hx, cell2 ((hx.block _ (Array.getElem?_eq_some_iff.1 k7).1).trans k7), c0.1, c0.2, c1.1, c1.2⟩)
        have C1 := fun x (h : Below W2.heap.size W2 x) => Lib.hid (with_any W2 L b1 b2 x _ hvf2 h (by omega))
        have hwl := withF_len L b1 b2
        have hB : Below W2.heap.size W2 W2.drew := (Below.refl _ _).drew
        clear k5 k6 k7 hgg hsg
        go_region_held3 (fun w' => Below W2.heap.size W2 w' ∧ w'.cell? ⟨gf, 0, none⟩ = some (.slice Af L.length capf) ∧ w'.cell? ⟨w.heap.size, 0, none⟩ = some (.int .i64 a1) ∧ w'.cell? ⟨w.heap.size, 1, none⟩ = some (.int .i64 a2) ∧ w'.cell? ⟨w.heap.size + 1, 0, none⟩ = some (.int .i64 b1) ∧ w'.cell? ⟨w.heap.size + 1, 1, none⟩ = some (.int .i64 b2))
            (first | exact MS.out _ hB | exact MS.out _ (hB.alloc hB.size _) | exact MS.out _ (hB.setCell hq1 _) | exact MS.out _ (hB.setCell (Nat.le_refl _) _) | exact MS.out _ ((hB.alloc hB.size _).setCell hB.size _))
            (first
             | (go_at_call 53; ((with_reducible refine (C1 _ (by first | exact hB | exact hB.alloc hB.size _ | exact ((Below.refl _ _).alloc (Nat.le_refl _) _).drew)).out.mono ?_); rintro _ x1 ⟨v1, rfl, hs1, q1⟩; have hc1 := bcell q1; have hf1 := bfrozen q1; (try (have hz1 : W2.heap.size < x1.heap.size   := (by first | exact alloc_lt q1 | exact alloc_lt' q1))); have hB' := (by first | exact hB.thenCall hB.size q1 | exact (hB.alloc hB.size _).thenCall (hB.alloc hB.size _).size q1 | exact (((Below.refl _ _).alloc (Nat.le_refl _) _).drew).thenCall (Nat.le_of_lt (alloc_lt0 _ _)) q1 : Below W2.heap.size W2 x1); clear hB; have hB := hB'; clear hB'; have hq1 := hB.size))
             | (go_at_call 53; ((with_reducible refine (with_any x1 (withF L b1 b2) a1 a2 _ v1 hs1 (by first | exact Below.refl _ _ | exact Fg.below1 _ _) (by omega)).mono ?_); rintro _ x2 ⟨v2, rfl, hs2, q2⟩; have hc2 := bcell q2; have hf2 := bfrozen q2; (try (have hz2 : x1.heap.size < x2.heap.size := alloc_lt q2)); (try (have hz3 : W2.heap.size < x2.heap.size := Nat.lt_of_lt_of_le hz1 q2.size)); have hB' := (by first | exact hB.thenCall hB.size q2 | exact (hB.alloc hB.size _).thenCall (hB.alloc hB.size _).size q2 : Below W2.heap.size W2 x2); clear hB; have hB := hB'; clear hB'; have hs2s := hs2; obtain ⟨A2, cap2, rfl, -⟩ := hs2s)))
        all_goals
          go_wp2_with fail
          go_meet
        · exact ⟨_, _, rfl, fin_new hs2 (by assumption)⟩
        · exact ⟨_, _, rfl, fin_set ((q2.block _ (by simp)).trans (heap_alloc_new x1 _)) (fun n h => by cases h) hs2 (by assumption) hq1⟩
        · exact ⟨_, _, rfl, fin_set ((q2.block _ hz1).trans ((q1.block _ (alloc_lt0 _ _)).trans (heap_alloc_new W2 _))) (fun n h => by cases h) hs2 (by assumption) (Nat.le_refl _)⟩
      case rest =>
        obtain ⟨gh, vh, rfl, hgh, hsh, hbh⟩ := hcut
        obtain ⟨W3, hW3⟩ : ∃ W3, W3 = wc := ⟨_, rfl⟩
        rw [← hW3] at hgh hsh hbh ⊢
        clear hW3
        have k0 := (hbh.block _ (Array.getElem?_eq_some_iff.1 k5).1).trans k5
        have k1 := (hbh.block _ (Array.getElem?_eq_some_iff.1 k6).1).trans k6
        have k2 := (hbh.block _ (Array.getElem?_eq_some_iff.1 k7).1).trans k7
        have k3 := (hbh.block _ (Array.getElem?_eq_some_iff.1 hgg).1).trans hgg
        have hvf := hvf2.below hbh (Nat.le_refl _)
        have hvg := hsg.below hbh (Nat.le_refl _)
        have hbw := hbw2.thenCall hbw2.size hbh
        clear k5 k6 k7 hgg hbh hvf2 hsg hbw2
        have hshs := hsh
        obtain ⟨Ah, caph, rfl, -⟩ := hshs
        have eG : Hid (Inc L → ∀ p ∈ L, p ∈ withF (withF L a1 a2) b1 b2) := Lib.hid (fun _ p hp => by rw [withF_ins, withF_ins]; exact mem_ins _ _ _ _ (mem_ins _ _ _ _ hp))
        have iG : Inc (withF (withF L a1 a2) b1 b2) := by rw [withF_ins, withF_ins]; exact ins_inc _ _ _ (ins_inc _ _ _ hI)
        have lG : (withF (withF L a1 a2) b1 b2).length ≤ L.length + 2 := by
          have h1 := withF_len L a1 a2
          have h2 := withF_len (withF L a1 a2) b1 b2
          omega
        have gGet : Hid (getF (withF L a1 a2) a1 = if (getF L a1).2 then getF L a1 else (a2, true)) := Lib.hid (by rw [withF_ins]; exact get_ins L a1 a2)
        have eGH : Hid (¬ a1 = b1 → decide (withF (withF L a1 a2) b1 b2 = withF (withF L b1 b2) a1 a2) = true) := Lib.hid (fun h => by
          rw [decide_eq_true_iff, withF_ins, withF_ins, withF_ins, withF_ins]
          exact ins_swap a2 b2 h L)
        have hOf : Hid (ofF L = L) := Lib.hid (ofF_inc L hI)
        have CWith := fun x (h : Below W3.heap.size W3 x) => Lib.hid (with_any W3 L a1 a2 x _ hvf h (by omega))
        have CGet := fun x (h : Below W3.heap.size W3 x) => Lib.hid (get_any W3 L a1 x _ hvf h)
        have CGH := fun x (h : Below W3.heap.size W3 x) => Lib.hid (same_any W3 _ _ x _ _ hvg hsh h)
        have CWi := fun x (h : Below W3.heap.size W3 x) => Lib.hid (within_any W3 _ _ x _ _ hvf hvg h)
        have CCl := fun x (h : Below W3.heap.size W3 x) => Lib.hid (clash_any W3 _ _ x _ _ hvf hvg h)
        have CPk := fun x (h : Below W3.heap.size W3 x) => Lib.hid (picks_any W3 x _ L hvf h)
        have xf : Hid (∀ x, Below W3.heap.size W3 x → PkSl x (.slice Af L.length capf) L) := Lib.hid (fun x h => hvf.below h (Nat.le_refl _))
        rw [(Fg.within_iff iG).2 (eG.out hI)] at CWi
        rw [within_clash hI iG (eG.out hI)] at CCl
        clear eG
        generalize hG : withF (withF L a1 a2) b1 b2 = G at *
        generalize hH : withF (withF L b1 b2) a1 a2 = H at *
        clear hG hH
        have CLg := fun x (h : Below W3.heap.size W3 x) => Lib.hid (len_any x Ag G.length capg)
        have CLf := fun x (h : Below W3.heap.size W3 x) => Lib.hid (len_any x Af L.length capf)
        have MS : Hid (∀ x, Below W3.heap.size W3 x → (fun w' => Below W3.heap.size W3 w' ∧ w'.cell? ⟨gf, 0, none⟩ = some (.slice Af L.length capf) ∧ w'.cell? ⟨gg, 0, none⟩ = some (.slice Ag G.length capg) ∧ w'.cell? ⟨gh, 0, none⟩ = some (.slice Ah H.length caph) ∧ w'.cell? ⟨w.heap.size, 0, none⟩ = some (.int .i64 a1) ∧ w'.cell? ⟨w.heap.size, 1, none⟩ = some (.int .i64 a2) ∧ w'.cell? ⟨w.heap.size + 1, 0, none⟩ = some (.int .i64 b1) ∧ w'.cell? ⟨w.heap.size + 1, 1, none⟩ = some (.int .i64 b2)) x) := Lib.hid (fun x hx => by
          have c0 := cellp ((hx.block _ (Array.getElem?_eq_some_iff.1 k0).1).trans k0)
          have c1 := cellp ((hx.block _ (Array.getElem?_eq_some_iff.1 k1).1).trans k1)
          exact ⟨hx, cell2 ((hx.block _ (Array.getElem?_eq_some_iff.1 k2).1).trans k2), cell2 ((hx.block _ (Array.getElem?_eq_some_iff.1 k3).1).trans k3), cell2 ((hx.block _ (Array.getElem?_eq_some_iff.1 hgh).1).trans hgh), c0.1, c0.2, c1.1, c1.2⟩)
        have hB0 : Below W3.heap.size W3 W3.drew := (Below.refl _ _).drew
        clear k0 k1 k2 k3 hgh hvf hvg hsh iG hI
        go_upto_region 8 with fail
        go_region_held3 (fun w' => Below W3.heap.size W3 w' ∧ w'.cell? ⟨gf, 0, none⟩ = some (.slice Af L.length capf) ∧ w'.cell? ⟨gg, 0, none⟩ = some (.slice Ag G.length capg) ∧ w'.cell? ⟨gh, 0, none⟩ = some (.slice Ah H.length caph) ∧ w'.cell? ⟨w.heap.size, 0, none⟩ = some (.int .i64 a1) ∧ w'.cell? ⟨w.heap.size, 1, none⟩ = some (.int .i64 a2) ∧ w'.cell? ⟨w.heap.size + 1, 0, none⟩ = some (.int .i64 b1) ∧ w'.cell? ⟨w.heap.size + 1, 1, none⟩ = some (.int .i64 b2))
          (first | exact MS.out _ hB2 | exact MS.out _ hB1 | exact MS.out _ hB0)
          (first
           | (go_at_call 53; ((with_reducible refine (CWith _ hB0).out.mono ?_); rintro _ x1 ⟨v1, rfl, hs1, q1⟩; have hB1 := hB0.thenCall hB0.size q1))
           | (go_at_call 51; ((with_reducible refine (get_any x1 (withF L a1 a2) a1 x1 v1 hs1 (Below.refl _ _)).mono ?_); rintro _ x2 ⟨rfl, q2⟩; have hB2 := hB1.thenCall hB1.size q2)))
        obtain ⟨_, mf, mg, mh, ma1, ma2, mb1, mb2⟩ := MS.out _ hB2
        rw [gGet.out]
        clear hs1 q1 q2 gGet CWith hB1 hB0
        generalize getF L a1 = q at *
        obtain ⟨old, had⟩ := q
        dsimp only at *
        cases had
        all_goals
          simp only [Bool.false_eq_true, if_false, if_true]
          go_wp2_with fail
          refine (CGet _ hB2).out.mono ?_
          rintro _ x3 ⟨rfl, q3⟩
          have hB3 := hB2.thenCall hB2.size q3
          clear mf mg mh ma1 ma2 mb1 mb2
          obtain ⟨_, mf, mg, mh, ma1, ma2, mb1, mb2⟩ := MS.out _ hB3
          clear hB2 q3
          go_wp2_with fail
          clear mf mg mh ma1 ma2 mb1 mb2
          have hB0 : Below W3.heap.size W3 x3.drew := hB3.drew
          have lG2 : (G.length : Int) ≤ (L.length : Int) + 2 := by omega
          have lW : IntKind.i64.wrap ((L.length : Int) + 2) = (L.length : Int) + 2 := IntWalk.i64_in _ (by omega)
          by_cases hab : a1 = b1
          · have hq : (a1 == b1) = true := by simp [hab]
            clear hab eGH lG
            refine wp_region_held_drew (S := (fun w' => Below W3.heap.size W3 w' ∧ w'.cell? ⟨gf, 0, none⟩ = some (.slice Af L.length capf) ∧ w'.cell? ⟨gg, 0, none⟩ = some (.slice Ag G.length capg) ∧ w'.cell? ⟨gh, 0, none⟩ = some (.slice Ah H.length caph) ∧ w'.cell? ⟨w.heap.size, 0, none⟩ = some (.int .i64 a1) ∧ w'.cell? ⟨w.heap.size, 1, none⟩ = some (.int .i64 a2) ∧ w'.cell? ⟨w.heap.size + 1, 0, none⟩ = some (.int .i64 b1) ∧ w'.cell? ⟨w.heap.size + 1, 1, none⟩ = some (.int .i64 b2))) (by kernel_rfl) (MS.out _ hB0) (fun hHeld => ?_)
            try dsimp only at hHeld
            (refine wpAnyH_take (i := 0) (oi := ?_) (v := ?_) ?_ (by kernel_rfl) (by kernel_rfl) (by kernel_rfl) ?_ ?_ (by assumption) ?_; rotate_left 2; (simp only [List.getElem?_toArray, List.getElem?_cons_succ, List.getElem?_cons_zero]; rfl); (exact fun _ _ _ h => h); (refine Or.inl ⟨by rfl, ?_⟩; intro w hSw; (try dsimp only at hSw); go_simp; try with_reducible rfl); try simp only [Act.put, List.setIfInBounds_toArray, List.set_cons_zero, List.set_cons_succ])
            (refine wpAnyH_take (i := 1) (oi := ?_) (v := ?_) ?_ (by kernel_rfl) (by kernel_rfl) (by kernel_rfl) ?_ ?_ (by assumption) ?_; rotate_left 2; (simp only [List.getElem?_toArray, List.getElem?_cons_succ, List.getElem?_cons_zero]; rfl); (exact fun _ _ _ h => h); (refine Or.inl ⟨by rfl, ?_⟩; intro w hSw; (try dsimp only at hSw); go_simp; try with_reducible rfl); try simp only [Act.put, List.setIfInBounds_toArray, List.set_cons_zero, List.set_cons_succ])
            (refine wpAnyH_take (i := 2) (oi := ?_) (v := ?_) ?_ (by kernel_rfl) (by kernel_rfl) (by kernel_rfl) ?_ ?_ (by assumption) ?_; rotate_left 2; (simp only [List.getElem?_toArray, List.getElem?_cons_succ, List.getElem?_cons_zero]; rfl); (exact fun _ _ _ h => h); (refine Or.inl ⟨by rfl, ?_⟩; intro w hSw; (try dsimp only at hSw); go_simp; try with_reducible rfl); try simp only [Act.put, List.setIfInBounds_toArray, List.set_cons_zero, List.set_cons_succ])
            (refine wpAnyH_take (i := 3) (oi := ?_) (v := ?_) ?_ (by kernel_rfl) (by kernel_rfl) (by kernel_rfl) ?_ ?_ (by assumption) ?_; rotate_left 2; (simp only [List.getElem?_toArray, List.getElem?_cons_succ, List.getElem?_cons_zero]; rfl); (exact fun _ _ _ h => h); (refine Or.inl ⟨by rfl, ?_⟩; intro w hSw; (try dsimp only at hSw); go_simp; try with_reducible rfl); try simp only [Act.put, List.setIfInBounds_toArray, List.set_cons_zero, List.set_cons_succ])
            (refine wpAnyH_take (i := 4) (oi := ?_) (v := ?_) ?_ (by kernel_rfl) (by kernel_rfl) (by kernel_rfl) ?_ ?_ (by assumption) ?_; rotate_left 2; (simp only [List.getElem?_toArray, List.getElem?_cons_succ, List.getElem?_cons_zero]; rfl); (exact fun _ _ _ h => h); (refine Or.inl ⟨by rfl, ?_⟩; intro w hSw; (try dsimp only at hSw); go_simp; try with_reducible rfl); try simp only [Act.put, List.setIfInBounds_toArray, List.set_cons_zero, List.set_cons_succ])
            (refine wpAnyH_take (i := 5) (oi := ?_) (v := ?_) ?_ (by kernel_rfl) (by kernel_rfl) (by kernel_rfl) ?_ ?_ (by assumption) ?_; rotate_left 2; (simp only [List.getElem?_toArray, List.getElem?_cons_succ, List.getElem?_cons_zero]; rfl); (exact fun _ _ _ h => h); (refine Or.inl ⟨by rfl, ?_⟩; intro w hSw; (try dsimp only at hSw); go_simp; try with_reducible rfl); try simp only [Act.put, List.setIfInBounds_toArray, List.set_cons_zero, List.set_cons_succ])
            (refine wpAnyH_take (i := 6) (oi := ?_) (v := undef) ?_ (by kernel_rfl) (by kernel_rfl) (by kernel_rfl) ?_ ?_ (by assumption) ?_; rotate_left 1; (simp only [List.getElem?_toArray, List.getElem?_cons_succ, List.getElem?_cons_zero]; rfl); (exact fun _ _ _ h => h); (exact Or.inr ⟨by rfl, rfl⟩); try simp only [Act.put, List.setIfInBounds_toArray, List.set_cons_zero, List.set_cons_succ])
            (refine wpAnyH_take (i := 7) (oi := ?_) (v := undef) ?_ (by kernel_rfl) (by kernel_rfl) (by kernel_rfl) ?_ ?_ (by assumption) ?_; rotate_left 1; (simp only [List.getElem?_toArray, List.getElem?_cons_succ, List.getElem?_cons_zero]; rfl); (exact fun _ _ _ h => h); (exact Or.inr ⟨by rfl, rfl⟩); try simp only [Act.put, List.setIfInBounds_toArray, List.set_cons_zero, List.set_cons_succ])
            (refine wpAnyH_take (i := 8) (oi := ?_) (v := undef) ?_ (by kernel_rfl) (by kernel_rfl) (by kernel_rfl) ?_ ?_ (by assumption) ?_; rotate_left 1; (simp only [List.getElem?_toArray, List.getElem?_cons_succ, List.getElem?_cons_zero]; rfl); (exact fun _ _ _ h => h); (exact Or.inr ⟨by rfl, rfl⟩); try simp only [Act.put, List.setIfInBounds_toArray, List.set_cons_zero, List.set_cons_succ])
            (refine wpAnyH_take (i := 9) (oi := ?_) (v := ?_) ?_ (by kernel_rfl) (by kernel_rfl) (by kernel_rfl) ?_ ?_ (by assumption) ?_; rotate_left 2; (simp only [List.getElem?_toArray, List.getElem?_cons_succ, List.getElem?_cons_zero]; rfl); (exact fun _ _ _ h => h); (refine Or.inl ⟨by rfl, ?_⟩; intro w hSw; (try dsimp only at hSw); go_simp; try with_reducible rfl); try simp only [Act.put, List.setIfInBounds_toArray, List.set_cons_zero, List.set_cons_succ])
            (refine wpAnyH_take (i := 10) (oi := ?_) (v := ?_) ?_ (by kernel_rfl) (by kernel_rfl) (by kernel_rfl) ?_ ?_ (by assumption) ?_; rotate_left 2; (simp only [List.getElem?_toArray, List.getElem?_cons_succ, List.getElem?_cons_zero]; rfl); (exact fun _ _ _ h => h); (refine Or.inl ⟨by rfl, ?_⟩; intro w hSw; (try dsimp only at hSw); go_simp; try with_reducible rfl); try simp only [Act.put, List.setIfInBounds_toArray, List.set_cons_zero, List.set_cons_succ])
            (refine wpAnyH_take (i := 11) (oi := ?_) (v := ?_) ?_ (by kernel_rfl) (by kernel_rfl) (by kernel_rfl) ?_ ?_ (by assumption) ?_; rotate_left 2; (simp only [List.getElem?_toArray, List.getElem?_cons_succ, List.getElem?_cons_zero]; rfl); (exact fun _ _ _ h => h); (refine Or.inl ⟨by rfl, ?_⟩; intro w hSw; (try dsimp only at hSw); go_simp; try with_reducible rfl); try simp only [Act.put, List.setIfInBounds_toArray, List.set_cons_zero, List.set_cons_succ])
            (refine wpAnyH_take (i := 12) (oi := ?_) (v := ?_) ?_ (by kernel_rfl) (by kernel_rfl) (by kernel_rfl) ?_ ?_ (by assumption) ?_; rotate_left 2; (simp only [List.getElem?_toArray, List.getElem?_cons_succ, List.getElem?_cons_zero]; rfl); (exact fun _ _ _ h => h); (refine Or.inl ⟨by rfl, ?_⟩; intro w hSw; (try dsimp only at hSw); go_simp; try with_reducible rfl); try simp only [Act.put, List.setIfInBounds_toArray, List.set_cons_zero, List.set_cons_succ])
            refine wpAnyH_ready (rs := [13]) (by kernel_rfl) (by simp) ?_
            refine AllReadyH.cons (o := ?_) ?_ (fun K hK => ?_) AllReadyH.nil
            rotate_left 1
            (simp only [List.getElem?_toArray, List.getElem?_cons_succ, List.getElem?_cons_zero]; rfl)
            go_simp
            go_at_call 65
            refine (CWi _ hB0).out.mono ?_
            rintro _ y0 ⟨rfl, q0⟩
            have hB1 := hB0.thenCall hB0.size q0
            have hNew := MS.out _ hB1
            try go_wp2_with fail
            clear hHeld
            refine hK.out _ _ hNew (fun hHeld => ?_)
            clear hK K hNew
            try simp only [Act.put, List.setIfInBounds_toArray, List.set_cons_zero, List.set_cons_succ]
            (refine wpAnyH_take (i := 14) (oi := ?_) (v := ?_) ?_ (by kernel_rfl) (by kernel_rfl) (by kernel_rfl) ?_ ?_ (by assumption) ?_; rotate_left 2; (simp only [List.getElem?_toArray, List.getElem?_cons_succ, List.getElem?_cons_zero]; rfl); (exact fun _ _ _ h => h); (refine Or.inl ⟨by rfl, ?_⟩; intro w hSw; (try dsimp only at hSw); go_simp; try with_reducible rfl); try simp only [Act.put, List.setIfInBounds_toArray, List.set_cons_zero, List.set_cons_succ])
            (refine wpAnyH_take (i := 15) (oi := ?_) (v := ?_) ?_ (by kernel_rfl) (by kernel_rfl) (by kernel_rfl) ?_ ?_ (by assumption) ?_; rotate_left 2; (simp only [List.getElem?_toArray, List.getElem?_cons_succ, List.getElem?_cons_zero]; rfl); (exact fun _ _ _ h => h); (refine Or.inl ⟨by rfl, ?_⟩; intro w hSw; (try dsimp only at hSw); go_simp; try with_reducible rfl); try simp only [Act.put, List.setIfInBounds_toArray, List.set_cons_zero, List.set_cons_succ])
            (refine wpAnyH_take (i := 16) (oi := ?_) (v := ?_) ?_ (by kernel_rfl) (by kernel_rfl) (by kernel_rfl) ?_ ?_ (by assumption) ?_; rotate_left 2; (simp only [List.getElem?_toArray, List.getElem?_cons_succ, List.getElem?_cons_zero]; rfl); (exact fun _ _ _ h => h); (refine Or.inl ⟨by rfl, ?_⟩; intro w hSw; (try dsimp only at hSw); go_simp; try with_reducible rfl); try simp only [Act.put, List.setIfInBounds_toArray, List.set_cons_zero, List.set_cons_succ])
            (refine wpAnyH_take (i := 17) (oi := ?_) (v := ?_) ?_ (by kernel_rfl) (by kernel_rfl) (by kernel_rfl) ?_ ?_ (by assumption) ?_; rotate_left 2; (simp only [List.getElem?_toArray, List.getElem?_cons_succ, List.getElem?_cons_zero]; rfl); (exact fun _ _ _ h => h); (refine Or.inl ⟨by rfl, ?_⟩; intro w hSw; (try dsimp only at hSw); go_simp; try with_reducible rfl); try simp only [Act.put, List.setIfInBounds_toArray, List.set_cons_zero, List.set_cons_succ])
            refine wpAnyH_ready (rs := [18]) (by kernel_rfl) (by simp) ?_
            refine AllReadyH.cons (o := ?_) ?_ (fun K hK => ?_) AllReadyH.nil
            rotate_left 1
            (simp only [List.getElem?_toArray, List.getElem?_cons_succ, List.getElem?_cons_zero]; rfl)
            go_simp
            go_at_call 64
            refine (CCl _ hB1).out.mono ?_
            rintro _ y1 ⟨rfl, q1⟩
            have hB2 := hB1.thenCall hB1.size q1
            have hNew := MS.out _ hB2
            try go_wp2_with fail
            clear hHeld
            refine hK.out _ _ hNew (fun hHeld => ?_)
            clear hK K hNew
            try simp only [Act.put, List.setIfInBounds_toArray, List.set_cons_zero, List.set_cons_succ]
            (refine wpAnyH_take (i := 19) (oi := ?_) (v := ?_) ?_ (by kernel_rfl) (by kernel_rfl) (by kernel_rfl) ?_ ?_ (by assumption) ?_; rotate_left 2; (simp only [List.getElem?_toArray, List.getElem?_cons_succ, List.getElem?_cons_zero]; rfl); (exact fun _ _ _ h => h); (refine Or.inl ⟨by rfl, ?_⟩; intro w hSw; (try dsimp only at hSw); go_simp; try with_reducible rfl); try simp only [Act.put, List.setIfInBounds_toArray, List.set_cons_zero, List.set_cons_succ])
            (refine wpAnyH_take (i := 20) (oi := ?_) (v := ?_) ?_ (by kernel_rfl) (by kernel_rfl) (by kernel_rfl) ?_ ?_ (by assumption) ?_; rotate_left 2; (simp only [List.getElem?_toArray, List.getElem?_cons_succ, List.getElem?_cons_zero]; rfl); (exact fun _ _ _ h => h); (refine Or.inl ⟨by rfl, ?_⟩; intro w hSw; (try dsimp only at hSw); go_simp; try with_reducible rfl); try simp only [Act.put, List.setIfInBounds_toArray, List.set_cons_zero, List.set_cons_succ])
            (refine wpAnyH_take (i := 21) (oi := ?_) (v := ?_) ?_ (by kernel_rfl) (by kernel_rfl) (by kernel_rfl) ?_ ?_ (by assumption) ?_; rotate_left 2; (simp only [List.getElem?_toArray, List.getElem?_cons_succ, List.getElem?_cons_zero]; rfl); (exact fun _ _ _ h => h); (refine Or.inl ⟨by rfl, ?_⟩; intro w hSw; (try dsimp only at hSw); go_simp; try with_reducible rfl); try simp only [Act.put, List.setIfInBounds_toArray, List.set_cons_zero, List.set_cons_succ])
            (refine wpAnyH_take (i := 22) (oi := ?_) (v := ?_) ?_ (by kernel_rfl) (by kernel_rfl) (by kernel_rfl) ?_ ?_ (by assumption) ?_; rotate_left 2; (simp only [List.getElem?_toArray, List.getElem?_cons_succ, List.getElem?_cons_zero]; rfl); (exact fun _ _ _ h => h); (refine Or.inl ⟨by rfl, ?_⟩; intro w hSw; (try dsimp only at hSw); go_simp; try with_reducible rfl); try simp only [Act.put, List.setIfInBounds_toArray, List.set_cons_zero, List.set_cons_succ])
            (refine wpAnyH_take (i := 24) (oi := ?_) (v := ?_) ?_ (by kernel_rfl) (by kernel_rfl) (by kernel_rfl) ?_ ?_ (by assumption) ?_; rotate_left 2; (simp only [List.getElem?_toArray, List.getElem?_cons_succ, List.getElem?_cons_zero]; rfl); (exact fun _ _ _ h => h); (refine Or.inl ⟨by rfl, ?_⟩; intro w hSw; (try dsimp only at hSw); go_simp; try with_reducible rfl); try simp only [Act.put, List.setIfInBounds_toArray, List.set_cons_zero, List.set_cons_succ])
            refine wpAnyH_ready (rs := [23]) (by kernel_rfl) (by simp) ?_
            refine AllReadyH.cons (o := ?_) ?_ (fun K hK => ?_) AllReadyH.nil
            rotate_left 1
            (simp only [List.getElem?_toArray, List.getElem?_cons_succ, List.getElem?_cons_zero]; rfl)
            go_simp
            go_at_call 59
            refine (CLg _ hB2).out.mono ?_
            rintro _ y2 ⟨rfl, q2⟩
            have hB3 := hB2.thenCall hB2.size q2
            have hNew := MS.out _ hB3
            try go_wp2_with fail
            clear hHeld
            refine hK.out _ _ hNew (fun hHeld => ?_)
            clear hK K hNew
            try simp only [Act.put, List.setIfInBounds_toArray, List.set_cons_zero, List.set_cons_succ]
            refine wpAnyH_ready (rs := [25]) (by kernel_rfl) (by simp) ?_
            refine AllReadyH.cons (o := ?_) ?_ (fun K hK => ?_) AllReadyH.nil
            rotate_left 1
            (simp only [List.getElem?_toArray, List.getElem?_cons_succ, List.getElem?_cons_zero]; rfl)
            go_simp
            go_at_call 59
            refine (CLf _ hB3).out.mono ?_
            rintro _ y3 ⟨rfl, q3⟩
            have hB4 := hB3.thenCall hB3.size q3
            have hNew := MS.out _ hB4
            try go_wp2_with fail
            clear hHeld
            refine hK.out _ _ hNew (fun hHeld => ?_)
            clear hK K hNew
            try simp only [Act.put, List.setIfInBounds_toArray, List.set_cons_zero, List.set_cons_succ]
            (refine wpAnyH_take (i := 26) (oi := ?_) (v := ?_) ?_ (by kernel_rfl) (by kernel_rfl) (by kernel_rfl) ?_ ?_ (by assumption) ?_; rotate_left 2; (simp only [List.getElem?_toArray, List.getElem?_cons_succ, List.getElem?_cons_zero]; rfl); (exact fun _ _ _ h => h); (refine Or.inl ⟨by rfl, ?_⟩; intro w hSw; (try dsimp only at hSw); go_simp; try with_reducible rfl); try simp only [Act.put, List.setIfInBounds_toArray, List.set_cons_zero, List.set_cons_succ])
            (refine wpAnyH_take (i := 27) (oi := ?_) (v := ?_) ?_ (by kernel_rfl) (by kernel_rfl) (by kernel_rfl) ?_ ?_ (by assumption) ?_; rotate_left 2; (simp only [List.getElem?_toArray, List.getElem?_cons_succ, List.getElem?_cons_zero]; rfl); (exact fun _ _ _ h => h); (refine Or.inl ⟨by rfl, ?_⟩; intro w hSw; (try dsimp only at hSw); go_simp; try with_reducible rfl); try simp only [Act.put, List.setIfInBounds_toArray, List.set_cons_zero, List.set_cons_succ])
            (refine wpAnyH_take (i := 28) (oi := ?_) (v := ?_) ?_ (by kernel_rfl) (by kernel_rfl) (by kernel_rfl) ?_ ?_ (by assumption) ?_; rotate_left 2; (simp only [List.getElem?_toArray, List.getElem?_cons_succ, List.getElem?_cons_zero]; rfl); (exact fun _ _ _ h => h); (refine Or.inl ⟨by rfl, ?_⟩; intro w hSw; (try dsimp only at hSw); go_simp; try with_reducible rfl); try simp only [Act.put, List.setIfInBounds_toArray, List.set_cons_zero, List.set_cons_succ])
            (refine wpAnyH_take (i := 29) (oi := ?_) (v := ?_) ?_ (by kernel_rfl) (by kernel_rfl) (by kernel_rfl) ?_ ?_ (by assumption) ?_; rotate_left 2; (simp only [List.getElem?_toArray, List.getElem?_cons_succ, List.getElem?_cons_zero]; rfl); (exact fun _ _ _ h => h); (refine Or.inl ⟨by rfl, ?_⟩; intro w hSw; (try dsimp only at hSw); go_simp; try with_reducible rfl); try simp only [Act.put, List.setIfInBounds_toArray, List.set_cons_zero, List.set_cons_succ])
            (refine wpAnyH_take (i := 30) (oi := ?_) (v := ?_) ?_ (by kernel_rfl) (by kernel_rfl) (by kernel_rfl) ?_ ?_ (by assumption) ?_; rotate_left 2; (simp only [List.getElem?_toArray, List.getElem?_cons_succ, List.getElem?_cons_zero]; rfl); (exact fun _ _ _ h => h); (refine Or.inl ⟨by rfl, ?_⟩; intro w hSw; (try dsimp only at hSw); go_simp; try with_reducible rfl); try simp only [Act.put, List.setIfInBounds_toArray, List.set_cons_zero, List.set_cons_succ])
            (refine wpAnyH_take (i := 33) (oi := ?_) (v := ?_) ?_ (by kernel_rfl) (by kernel_rfl) (by kernel_rfl) ?_ ?_ (by assumption) ?_; rotate_left 2; (simp only [List.getElem?_toArray, List.getElem?_cons_succ, List.getElem?_cons_zero]; rfl); (exact fun _ _ _ h => h); (refine Or.inl ⟨by rfl, ?_⟩; intro w hSw; (try dsimp only at hSw); go_simp; try with_reducible rfl); try simp only [Act.put, List.setIfInBounds_toArray, List.set_cons_zero, List.set_cons_succ])
            refine wpAnyH_ready (rs := [31]) (by kernel_rfl) (by simp) ?_
            refine AllReadyH.cons (o := ?_) ?_ (fun K hK => ?_) AllReadyH.nil
            rotate_left 1
            (simp only [List.getElem?_toArray, List.getElem?_cons_succ, List.getElem?_cons_zero]; rfl)
            go_simp
            go_at_call 54
            refine (CPk _ hB4).out.mono ?_
            rintro _ y4 ⟨vp, rfl, hvp, q4⟩
            have hvp2 := hvp.sl hLm
            have hbp := q4
            have hB5 := hB4.thenCall hB4.size q4
            have hNew := MS.out _ hB5
            try go_wp2_with fail
            clear hHeld
            refine hK.out _ _ hNew (fun hHeld => ?_)
            clear hK K hNew
            try simp only [Act.put, List.setIfInBounds_toArray, List.set_cons_zero, List.set_cons_succ]
            refine wpAnyH_ready (rs := [32]) (by kernel_rfl) (by simp) ?_
            refine AllReadyH.cons (o := ?_) ?_ (fun K hK => ?_) AllReadyH.nil
            rotate_left 1
            (simp only [List.getElem?_toArray, List.getElem?_cons_succ, List.getElem?_cons_zero]; rfl)
            go_simp
            go_at_call 49
            refine (of_any y4 L y4 vp hvp2 (Below.refl _ _) (by omega)).mono ?_
            rintro _ y5 ⟨vq, rfl, hvq, q5⟩
            rw [hOf.out] at hvq
            have hB6 := hB5.thenCall hB5.size q5
            have hNew := MS.out _ hB6
            try go_wp2_with fail
            clear hHeld
            refine hK.out _ _ hNew (fun hHeld => ?_)
            clear hK K hNew
            try simp only [Act.put, List.setIfInBounds_toArray, List.set_cons_zero, List.set_cons_succ]
            refine wpAnyH_ready (rs := [34]) (by kernel_rfl) (by simp) ?_
            refine AllReadyH.cons (o := ?_) ?_ (fun K hK => ?_) AllReadyH.nil
            rotate_left 1
            (simp only [List.getElem?_toArray, List.getElem?_cons_succ, List.getElem?_cons_zero]; rfl)
            go_simp
            go_at_call 63
            refine (same_any y5 L L y5 vq _ hvq (xf.out _ hB6) (Below.refl _ _)).mono ?_
            rw [show decide (L = L) = true by simp]
            rintro _ y6 ⟨rfl, q6⟩
            have hB7 := hB6.thenCall hB6.size q6
            have hNew := MS.out _ hB7
            try go_wp2_with fail
            clear hHeld
            refine hK.out _ _ hNew (fun hHeld => ?_)
            clear hK K hNew
            try simp only [Act.put, List.setIfInBounds_toArray, List.set_cons_zero, List.set_cons_succ]
            (refine wpAnyH_take (i := 35) (oi := ?_) (v := ?_) ?_ (by kernel_rfl) (by kernel_rfl) (by kernel_rfl) ?_ ?_ (by assumption) ?_; rotate_left 2; (simp only [List.getElem?_toArray, List.getElem?_cons_succ, List.getElem?_cons_zero]; rfl); (exact fun _ _ _ h => h); (refine Or.inl ⟨by rfl, ?_⟩; intro w hSw; (try dsimp only at hSw); go_simp; try with_reducible rfl); try simp only [Act.put, List.setIfInBounds_toArray, List.set_cons_zero, List.set_cons_succ])
            (refine wpAnyH_take (i := 36) (oi := ?_) (v := ?_) ?_ (by kernel_rfl) (by kernel_rfl) (by kernel_rfl) ?_ ?_ (by assumption) ?_; rotate_left 2; (simp only [List.getElem?_toArray, List.getElem?_cons_succ, List.getElem?_cons_zero]; rfl); (exact fun _ _ _ h => h); (refine Or.inl ⟨by rfl, ?_⟩; intro w hSw; (try dsimp only at hSw); go_simp; try with_reducible rfl); try simp only [Act.put, List.setIfInBounds_toArray, List.set_cons_zero, List.set_cons_succ])
            refine wpAnyH_done (by kernel_rfl) ?_ _
            go_wp2_with fail
            go_ret
            exact ⟨rfl, hbw.thenCall hbw.size hB7⟩
          · have hq : (a1 == b1) = false := by simp [hab]
            rw [eGH.out hab] at CGH
            clear hab eGH lG
            refine wp_region_held_drew (S := (fun w' => Below W3.heap.size W3 w' ∧ w'.cell? ⟨gf, 0, none⟩ = some (.slice Af L.length capf) ∧ w'.cell? ⟨gg, 0, none⟩ = some (.slice Ag G.length capg) ∧ w'.cell? ⟨gh, 0, none⟩ = some (.slice Ah H.length caph) ∧ w'.cell? ⟨w.heap.size, 0, none⟩ = some (.int .i64 a1) ∧ w'.cell? ⟨w.heap.size, 1, none⟩ = some (.int .i64 a2) ∧ w'.cell? ⟨w.heap.size + 1, 0, none⟩ = some (.int .i64 b1) ∧ w'.cell? ⟨w.heap.size + 1, 1, none⟩ = some (.int .i64 b2))) (by kernel_rfl) (MS.out _ hB0) (fun hHeld => ?_)
            try dsimp only at hHeld
            (refine wpAnyH_take (i := 0) (oi := ?_) (v := ?_) ?_ (by kernel_rfl) (by kernel_rfl) (by kernel_rfl) ?_ ?_ (by assumption) ?_; rotate_left 2; (simp only [List.getElem?_toArray, List.getElem?_cons_succ, List.getElem?_cons_zero]; rfl); (exact fun _ _ _ h => h); (refine Or.inl ⟨by rfl, ?_⟩; intro w hSw; (try dsimp only at hSw); go_simp; try with_reducible rfl); try simp only [Act.put, List.setIfInBounds_toArray, List.set_cons_zero, List.set_cons_succ])
            (refine wpAnyH_take (i := 1) (oi := ?_) (v := ?_) ?_ (by kernel_rfl) (by kernel_rfl) (by kernel_rfl) ?_ ?_ (by assumption) ?_; rotate_left 2; (simp only [List.getElem?_toArray, List.getElem?_cons_succ, List.getElem?_cons_zero]; rfl); (exact fun _ _ _ h => h); (refine Or.inl ⟨by rfl, ?_⟩; intro w hSw; (try dsimp only at hSw); go_simp; try with_reducible rfl); try simp only [Act.put, List.setIfInBounds_toArray, List.set_cons_zero, List.set_cons_succ])
            (refine wpAnyH_take (i := 2) (oi := ?_) (v := ?_) ?_ (by kernel_rfl) (by kernel_rfl) (by kernel_rfl) ?_ ?_ (by assumption) ?_; rotate_left 2; (simp only [List.getElem?_toArray, List.getElem?_cons_succ, List.getElem?_cons_zero]; rfl); (exact fun _ _ _ h => h); (refine Or.inl ⟨by rfl, ?_⟩; intro w hSw; (try dsimp only at hSw); go_simp; try with_reducible rfl); try simp only [Act.put, List.setIfInBounds_toArray, List.set_cons_zero, List.set_cons_succ])
            (refine wpAnyH_take (i := 3) (oi := ?_) (v := ?_) ?_ (by kernel_rfl) (by kernel_rfl) (by kernel_rfl) ?_ ?_ (by assumption) ?_; rotate_left 2; (simp only [List.getElem?_toArray, List.getElem?_cons_succ, List.getElem?_cons_zero]; rfl); (exact fun _ _ _ h => h); (refine Or.inl ⟨by rfl, ?_⟩; intro w hSw; (try dsimp only at hSw); go_simp; try with_reducible rfl); try simp only [Act.put, List.setIfInBounds_toArray, List.set_cons_zero, List.set_cons_succ])
            (refine wpAnyH_take (i := 4) (oi := ?_) (v := ?_) ?_ (by kernel_rfl) (by kernel_rfl) (by kernel_rfl) ?_ ?_ (by assumption) ?_; rotate_left 2; (simp only [List.getElem?_toArray, List.getElem?_cons_succ, List.getElem?_cons_zero]; rfl); (exact fun _ _ _ h => h); (refine Or.inl ⟨by rfl, ?_⟩; intro w hSw; (try dsimp only at hSw); go_simp; try with_reducible rfl); try simp only [Act.put, List.setIfInBounds_toArray, List.set_cons_zero, List.set_cons_succ])
            (refine wpAnyH_take (i := 5) (oi := ?_) (v := ?_) ?_ (by kernel_rfl) (by kernel_rfl) (by kernel_rfl) ?_ ?_ (by assumption) ?_; rotate_left 2; (simp only [List.getElem?_toArray, List.getElem?_cons_succ, List.getElem?_cons_zero]; rfl); (exact fun _ _ _ h => h); (refine Or.inl ⟨by rfl, ?_⟩; intro w hSw; (try dsimp only at hSw); go_simp; try with_reducible rfl); try simp only [Act.put, List.setIfInBounds_toArray, List.set_cons_zero, List.set_cons_succ])
            (refine wpAnyH_take (i := 6) (oi := ?_) (v := ?_) ?_ (by kernel_rfl) (by kernel_rfl) (by kernel_rfl) ?_ ?_ (by assumption) ?_; rotate_left 2; (simp only [List.getElem?_toArray, List.getElem?_cons_succ, List.getElem?_cons_zero]; rfl); (exact fun _ _ _ h => h); (refine Or.inl ⟨by rfl, ?_⟩; intro w hSw; (try dsimp only at hSw); go_simp; try with_reducible rfl); try simp only [Act.put, List.setIfInBounds_toArray, List.set_cons_zero, List.set_cons_succ])
            (refine wpAnyH_take (i := 7) (oi := ?_) (v := ?_) ?_ (by kernel_rfl) (by kernel_rfl) (by kernel_rfl) ?_ ?_ (by assumption) ?_; rotate_left 2; (simp only [List.getElem?_toArray, List.getElem?_cons_succ, List.getElem?_cons_zero]; rfl); (exact fun _ _ _ h => h); (refine Or.inl ⟨by rfl, ?_⟩; intro w hSw; (try dsimp only at hSw); go_simp; try with_reducible rfl); try simp only [Act.put, List.setIfInBounds_toArray, List.set_cons_zero, List.set_cons_succ])
            refine wpAnyH_ready (rs := [8]) (by kernel_rfl) (by simp) ?_
            refine AllReadyH.cons (o := ?_) ?_ (fun K hK => ?_) AllReadyH.nil
            rotate_left 1
            (simp only [List.getElem?_toArray, List.getElem?_cons_succ, List.getElem?_cons_zero]; rfl)
            go_simp
            go_at_call 63
            refine (CGH _ hB0).out.mono ?_
            rintro _ y0 ⟨rfl, q0⟩
            have hB1 := hB0.thenCall hB0.size q0
            have hNew := MS.out _ hB1
            try go_wp2_with fail
            clear hHeld
            refine hK.out _ _ hNew (fun hHeld => ?_)
            clear hK K hNew
            try simp only [Act.put, List.setIfInBounds_toArray, List.set_cons_zero, List.set_cons_succ]
            (refine wpAnyH_take (i := 9) (oi := ?_) (v := ?_) ?_ (by kernel_rfl) (by kernel_rfl) (by kernel_rfl) ?_ ?_ (by assumption) ?_; rotate_left 2; (simp only [List.getElem?_toArray, List.getElem?_cons_succ, List.getElem?_cons_zero]; rfl); (exact fun _ _ _ h => h); (refine Or.inl ⟨by rfl, ?_⟩; intro w hSw; (try dsimp only at hSw); go_simp; try with_reducible rfl); try simp only [Act.put, List.setIfInBounds_toArray, List.set_cons_zero, List.set_cons_succ])
            (refine wpAnyH_take (i := 10) (oi := ?_) (v := ?_) ?_ (by kernel_rfl) (by kernel_rfl) (by kernel_rfl) ?_ ?_ (by assumption) ?_; rotate_left 2; (simp only [List.getElem?_toArray, List.getElem?_cons_succ, List.getElem?_cons_zero]; rfl); (exact fun _ _ _ h => h); (refine Or.inl ⟨by rfl, ?_⟩; intro w hSw; (try dsimp only at hSw); go_simp; try with_reducible rfl); try simp only [Act.put, List.setIfInBounds_toArray, List.set_cons_zero, List.set_cons_succ])
            (refine wpAnyH_take (i := 11) (oi := ?_) (v := ?_) ?_ (by kernel_rfl) (by kernel_rfl) (by kernel_rfl) ?_ ?_ (by assumption) ?_; rotate_left 2; (simp only [List.getElem?_toArray, List.getElem?_cons_succ, List.getElem?_cons_zero]; rfl); (exact fun _ _ _ h => h); (refine Or.inl ⟨by rfl, ?_⟩; intro w hSw; (try dsimp only at hSw); go_simp; try with_reducible rfl); try simp only [Act.put, List.setIfInBounds_toArray, List.set_cons_zero, List.set_cons_succ])
            (refine wpAnyH_take (i := 12) (oi := ?_) (v := ?_) ?_ (by kernel_rfl) (by kernel_rfl) (by kernel_rfl) ?_ ?_ (by assumption) ?_; rotate_left 2; (simp only [List.getElem?_toArray, List.getElem?_cons_succ, List.getElem?_cons_zero]; rfl); (exact fun _ _ _ h => h); (refine Or.inl ⟨by rfl, ?_⟩; intro w hSw; (try dsimp only at hSw); go_simp; try with_reducible rfl); try simp only [Act.put, List.setIfInBounds_toArray, List.set_cons_zero, List.set_cons_succ])
            refine wpAnyH_ready (rs := [13]) (by kernel_rfl) (by simp) ?_
            refine AllReadyH.cons (o := ?_) ?_ (fun K hK => ?_) AllReadyH.nil
            rotate_left 1
            (simp only [List.getElem?_toArray, List.getElem?_cons_succ, List.getElem?_cons_zero]; rfl)
            go_simp
            go_at_call 65
            refine (CWi _ hB1).out.mono ?_
            rintro _ y1 ⟨rfl, q1⟩
            have hB2 := hB1.thenCall hB1.size q1
            have hNew := MS.out _ hB2
            try go_wp2_with fail
            clear hHeld
            refine hK.out _ _ hNew (fun hHeld => ?_)
            clear hK K hNew
            try simp only [Act.put, List.setIfInBounds_toArray, List.set_cons_zero, List.set_cons_succ]
            (refine wpAnyH_take (i := 14) (oi := ?_) (v := ?_) ?_ (by kernel_rfl) (by kernel_rfl) (by kernel_rfl) ?_ ?_ (by assumption) ?_; rotate_left 2; (simp only [List.getElem?_toArray, List.getElem?_cons_succ, List.getElem?_cons_zero]; rfl); (exact fun _ _ _ h => h); (refine Or.inl ⟨by rfl, ?_⟩; intro w hSw; (try dsimp only at hSw); go_simp; try with_reducible rfl); try simp only [Act.put, List.setIfInBounds_toArray, List.set_cons_zero, List.set_cons_succ])
            (refine wpAnyH_take (i := 15) (oi := ?_) (v := ?_) ?_ (by kernel_rfl) (by kernel_rfl) (by kernel_rfl) ?_ ?_ (by assumption) ?_; rotate_left 2; (simp only [List.getElem?_toArray, List.getElem?_cons_succ, List.getElem?_cons_zero]; rfl); (exact fun _ _ _ h => h); (refine Or.inl ⟨by rfl, ?_⟩; intro w hSw; (try dsimp only at hSw); go_simp; try with_reducible rfl); try simp only [Act.put, List.setIfInBounds_toArray, List.set_cons_zero, List.set_cons_succ])
            (refine wpAnyH_take (i := 16) (oi := ?_) (v := ?_) ?_ (by kernel_rfl) (by kernel_rfl) (by kernel_rfl) ?_ ?_ (by assumption) ?_; rotate_left 2; (simp only [List.getElem?_toArray, List.getElem?_cons_succ, List.getElem?_cons_zero]; rfl); (exact fun _ _ _ h => h); (refine Or.inl ⟨by rfl, ?_⟩; intro w hSw; (try dsimp only at hSw); go_simp; try with_reducible rfl); try simp only [Act.put, List.setIfInBounds_toArray, List.set_cons_zero, List.set_cons_succ])
            (refine wpAnyH_take (i := 17) (oi := ?_) (v := ?_) ?_ (by kernel_rfl) (by kernel_rfl) (by kernel_rfl) ?_ ?_ (by assumption) ?_; rotate_left 2; (simp only [List.getElem?_toArray, List.getElem?_cons_succ, List.getElem?_cons_zero]; rfl); (exact fun _ _ _ h => h); (refine Or.inl ⟨by rfl, ?_⟩; intro w hSw; (try dsimp only at hSw); go_simp; try with_reducible rfl); try simp only [Act.put, List.setIfInBounds_toArray, List.set_cons_zero, List.set_cons_succ])
            refine wpAnyH_ready (rs := [18]) (by kernel_rfl) (by simp) ?_
            refine AllReadyH.cons (o := ?_) ?_ (fun K hK => ?_) AllReadyH.nil
            rotate_left 1
            (simp only [List.getElem?_toArray, List.getElem?_cons_succ, List.getElem?_cons_zero]; rfl)
            go_simp
            go_at_call 64
            refine (CCl _ hB2).out.mono ?_
            rintro _ y2 ⟨rfl, q2⟩
            have hB3 := hB2.thenCall hB2.size q2
            have hNew := MS.out _ hB3
            try go_wp2_with fail
            clear hHeld
            refine hK.out _ _ hNew (fun hHeld => ?_)
            clear hK K hNew
            try simp only [Act.put, List.setIfInBounds_toArray, List.set_cons_zero, List.set_cons_succ]
            (refine wpAnyH_take (i := 19) (oi := ?_) (v := ?_) ?_ (by kernel_rfl) (by kernel_rfl) (by kernel_rfl) ?_ ?_ (by assumption) ?_; rotate_left 2; (simp only [List.getElem?_toArray, List.getElem?_cons_succ, List.getElem?_cons_zero]; rfl); (exact fun _ _ _ h => h); (refine Or.inl ⟨by rfl, ?_⟩; intro w hSw; (try dsimp only at hSw); go_simp; try with_reducible rfl); try simp only [Act.put, List.setIfInBounds_toArray, List.set_cons_zero, List.set_cons_succ])
            (refine wpAnyH_take (i := 20) (oi := ?_) (v := ?_) ?_ (by kernel_rfl) (by kernel_rfl) (by kernel_rfl) ?_ ?_ (by assumption) ?_; rotate_left 2; (simp only [List.getElem?_toArray, List.getElem?_cons_succ, List.getElem?_cons_zero]; rfl); (exact fun _ _ _ h => h); (refine Or.inl ⟨by rfl, ?_⟩; intro w hSw; (try dsimp only at hSw); go_simp; try with_reducible rfl); try simp only [Act.put, List.setIfInBounds_toArray, List.set_cons_zero, List.set_cons_succ])
            (refine wpAnyH_take (i := 21) (oi := ?_) (v := ?_) ?_ (by kernel_rfl) (by kernel_rfl) (by kernel_rfl) ?_ ?_ (by assumption) ?_; rotate_left 2; (simp only [List.getElem?_toArray, List.getElem?_cons_succ, List.getElem?_cons_zero]; rfl); (exact fun _ _ _ h => h); (refine Or.inl ⟨by rfl, ?_⟩; intro w hSw; (try dsimp only at hSw); go_simp; try with_reducible rfl); try simp only [Act.put, List.setIfInBounds_toArray, List.set_cons_zero, List.set_cons_succ])
            (refine wpAnyH_take (i := 22) (oi := ?_) (v := ?_) ?_ (by kernel_rfl) (by kernel_rfl) (by kernel_rfl) ?_ ?_ (by assumption) ?_; rotate_left 2; (simp only [List.getElem?_toArray, List.getElem?_cons_succ, List.getElem?_cons_zero]; rfl); (exact fun _ _ _ h => h); (refine Or.inl ⟨by rfl, ?_⟩; intro w hSw; (try dsimp only at hSw); go_simp; try with_reducible rfl); try simp only [Act.put, List.setIfInBounds_toArray, List.set_cons_zero, List.set_cons_succ])
            (refine wpAnyH_take (i := 24) (oi := ?_) (v := ?_) ?_ (by kernel_rfl) (by kernel_rfl) (by kernel_rfl) ?_ ?_ (by assumption) ?_; rotate_left 2; (simp only [List.getElem?_toArray, List.getElem?_cons_succ, List.getElem?_cons_zero]; rfl); (exact fun _ _ _ h => h); (refine Or.inl ⟨by rfl, ?_⟩; intro w hSw; (try dsimp only at hSw); go_simp; try with_reducible rfl); try simp only [Act.put, List.setIfInBounds_toArray, List.set_cons_zero, List.set_cons_succ])
            refine wpAnyH_ready (rs := [23]) (by kernel_rfl) (by simp) ?_
            refine AllReadyH.cons (o := ?_) ?_ (fun K hK => ?_) AllReadyH.nil
            rotate_left 1
            (simp only [List.getElem?_toArray, List.getElem?_cons_succ, List.getElem?_cons_zero]; rfl)
            go_simp
            go_at_call 59
            refine (CLg _ hB3).out.mono ?_
            rintro _ y3 ⟨rfl, q3⟩
            have hB4 := hB3.thenCall hB3.size q3
            have hNew := MS.out _ hB4
            try go_wp2_with fail
            clear hHeld
            refine hK.out _ _ hNew (fun hHeld => ?_)
            clear hK K hNew
            try simp only [Act.put, List.setIfInBounds_toArray, List.set_cons_zero, List.set_cons_succ]
            refine wpAnyH_ready (rs := [25]) (by kernel_rfl) (by simp) ?_
            refine AllReadyH.cons (o := ?_) ?_ (fun K hK => ?_) AllReadyH.nil
            rotate_left 1
            (simp only [List.getElem?_toArray, List.getElem?_cons_succ, List.getElem?_cons_zero]; rfl)
            go_simp
            go_at_call 59
            refine (CLf _ hB4).out.mono ?_
            rintro _ y4 ⟨rfl, q4⟩
            have hB5 := hB4.thenCall hB4.size q4
            have hNew := MS.out _ hB5
            try go_wp2_with fail
            clear hHeld
            refine hK.out _ _ hNew (fun hHeld => ?_)
            clear hK K hNew
            try simp only [Act.put, List.setIfInBounds_toArray, List.set_cons_zero, List.set_cons_succ]
            (refine wpAnyH_take (i := 26) (oi := ?_) (v := ?_) ?_ (by kernel_rfl) (by kernel_rfl) (by kernel_rfl) ?_ ?_ (by assumption) ?_; rotate_left 2; (simp only [List.getElem?_toArray, List.getElem?_cons_succ, List.getElem?_cons_zero]; rfl); (exact fun _ _ _ h => h); (refine Or.inl ⟨by rfl, ?_⟩; intro w hSw; (try dsimp only at hSw); go_simp; try with_reducible rfl); try simp only [Act.put, List.setIfInBounds_toArray, List.set_cons_zero, List.set_cons_succ])
            (refine wpAnyH_take (i := 27) (oi := ?_) (v := ?_) ?_ (by kernel_rfl) (by kernel_rfl) (by kernel_rfl) ?_ ?_ (by assumption) ?_; rotate_left 2; (simp only [List.getElem?_toArray, List.getElem?_cons_succ, List.getElem?_cons_zero]; rfl); (exact fun _ _ _ h => h); (refine Or.inl ⟨by rfl, ?_⟩; intro w hSw; (try dsimp only at hSw); go_simp; try with_reducible rfl); try simp only [Act.put, List.setIfInBounds_toArray, List.set_cons_zero, List.set_cons_succ])
            (refine wpAnyH_take (i := 28) (oi := ?_) (v := ?_) ?_ (by kernel_rfl) (by kernel_rfl) (by kernel_rfl) ?_ ?_ (by assumption) ?_; rotate_left 2; (simp only [List.getElem?_toArray, List.getElem?_cons_succ, List.getElem?_cons_zero]; rfl); (exact fun _ _ _ h => h); (refine Or.inl ⟨by rfl, ?_⟩; intro w hSw; (try dsimp only at hSw); go_simp; try with_reducible rfl); try simp only [Act.put, List.setIfInBounds_toArray, List.set_cons_zero, List.set_cons_succ])
            (refine wpAnyH_take (i := 29) (oi := ?_) (v := ?_) ?_ (by kernel_rfl) (by kernel_rfl) (by kernel_rfl) ?_ ?_ (by assumption) ?_; rotate_left 2; (simp only [List.getElem?_toArray, List.getElem?_cons_succ, List.getElem?_cons_zero]; rfl); (exact fun _ _ _ h => h); (refine Or.inl ⟨by rfl, ?_⟩; intro w hSw; (try dsimp only at hSw); go_simp; try with_reducible rfl); try simp only [Act.put, List.setIfInBounds_toArray, List.set_cons_zero, List.set_cons_succ])
            (refine wpAnyH_take (i := 30) (oi := ?_) (v := ?_) ?_ (by kernel_rfl) (by kernel_rfl) (by kernel_rfl) ?_ ?_ (by assumption) ?_; rotate_left 2; (simp only [List.getElem?_toArray, List.getElem?_cons_succ, List.getElem?_cons_zero]; rfl); (exact fun _ _ _ h => h); (refine Or.inl ⟨by rfl, ?_⟩; intro w hSw; (try dsimp only at hSw); go_simp; try with_reducible rfl); try simp only [Act.put, List.setIfInBounds_toArray, List.set_cons_zero, List.set_cons_succ])
            (refine wpAnyH_take (i := 33) (oi := ?_) (v := ?_) ?_ (by kernel_rfl) (by kernel_rfl) (by kernel_rfl) ?_ ?_ (by assumption) ?_; rotate_left 2; (simp only [List.getElem?_toArray, List.getElem?_cons_succ, List.getElem?_cons_zero]; rfl); (exact fun _ _ _ h => h); (refine Or.inl ⟨by rfl, ?_⟩; intro w hSw; (try dsimp only at hSw); go_simp; try with_reducible rfl); try simp only [Act.put, List.setIfInBounds_toArray, List.set_cons_zero, List.set_cons_succ])
            refine wpAnyH_ready (rs := [31]) (by kernel_rfl) (by simp) ?_
            refine AllReadyH.cons (o := ?_) ?_ (fun K hK => ?_) AllReadyH.nil
            rotate_left 1
            (simp only [List.getElem?_toArray, List.getElem?_cons_succ, List.getElem?_cons_zero]; rfl)
            go_simp
            go_at_call 54
            refine (CPk _ hB5).out.mono ?_
            rintro _ y5 ⟨vp, rfl, hvp, q5⟩
            have hvp2 := hvp.sl hLm
            have hbp := q5
            have hB6 := hB5.thenCall hB5.size q5
            have hNew := MS.out _ hB6
            try go_wp2_with fail
            clear hHeld
            refine hK.out _ _ hNew (fun hHeld => ?_)
            clear hK K hNew
            try simp only [Act.put, List.setIfInBounds_toArray, List.set_cons_zero, List.set_cons_succ]
            refine wpAnyH_ready (rs := [32]) (by kernel_rfl) (by simp) ?_
            refine AllReadyH.cons (o := ?_) ?_ (fun K hK => ?_) AllReadyH.nil
            rotate_left 1
            (simp only [List.getElem?_toArray, List.getElem?_cons_succ, List.getElem?_cons_zero]; rfl)
            go_simp
            go_at_call 49
            refine (of_any y5 L y5 vp hvp2 (Below.refl _ _) (by omega)).mono ?_
            rintro _ y6 ⟨vq, rfl, hvq, q6⟩
            rw [hOf.out] at hvq
            have hB7 := hB6.thenCall hB6.size q6
            have hNew := MS.out _ hB7
            try go_wp2_with fail
            clear hHeld
            refine hK.out _ _ hNew (fun hHeld => ?_)
            clear hK K hNew
            try simp only [Act.put, List.setIfInBounds_toArray, List.set_cons_zero, List.set_cons_succ]
            refine wpAnyH_ready (rs := [34]) (by kernel_rfl) (by simp) ?_
            refine AllReadyH.cons (o := ?_) ?_ (fun K hK => ?_) AllReadyH.nil
            rotate_left 1
            (simp only [List.getElem?_toArray, List.getElem?_cons_succ, List.getElem?_cons_zero]; rfl)
            go_simp
            go_at_call 63
            refine (same_any y6 L L y6 vq _ hvq (xf.out _ hB7) (Below.refl _ _)).mono ?_
            rw [show decide (L = L) = true by simp]
            rintro _ y7 ⟨rfl, q7⟩
            have hB8 := hB7.thenCall hB7.size q7
            have hNew := MS.out _ hB8
            try go_wp2_with fail
            clear hHeld
            refine hK.out _ _ hNew (fun hHeld => ?_)
            clear hK K hNew
            try simp only [Act.put, List.setIfInBounds_toArray, List.set_cons_zero, List.set_cons_succ]
            (refine wpAnyH_take (i := 35) (oi := ?_) (v := ?_) ?_ (by kernel_rfl) (by kernel_rfl) (by kernel_rfl) ?_ ?_ (by assumption) ?_; rotate_left 2; (simp only [List.getElem?_toArray, List.getElem?_cons_succ, List.getElem?_cons_zero]; rfl); (exact fun _ _ _ h => h); (refine Or.inl ⟨by rfl, ?_⟩; intro w hSw; (try dsimp only at hSw); go_simp; try with_reducible rfl); try simp only [Act.put, List.setIfInBounds_toArray, List.set_cons_zero, List.set_cons_succ])
            (refine wpAnyH_take (i := 36) (oi := ?_) (v := ?_) ?_ (by kernel_rfl) (by kernel_rfl) (by kernel_rfl) ?_ ?_ (by assumption) ?_; rotate_left 2; (simp only [List.getElem?_toArray, List.getElem?_cons_succ, List.getElem?_cons_zero]; rfl); (exact fun _ _ _ h => h); (refine Or.inl ⟨by rfl, ?_⟩; intro w hSw; (try dsimp only at hSw); go_simp; try with_reducible rfl); try simp only [Act.put, List.setIfInBounds_toArray, List.set_cons_zero, List.set_cons_succ])
            refine wpAnyH_done (by kernel_rfl) ?_ _
            go_wp2_with fail
            go_ret
            exact ⟨rfl, hbw.thenCall hbw.size hB8⟩
  · exact few w l a b v hl h1
end Go.Proofs.Ytccknhhjkkbadaa.fingerOrder
