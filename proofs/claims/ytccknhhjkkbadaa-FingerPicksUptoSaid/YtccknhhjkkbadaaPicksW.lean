/- The walk of FingerPicks: it returns true. -/
import Derived.Test.YtccknhhjkkbadaaAw25
import Derived.Deep.RegionHeld3
import Derived.Deep.DeepCutAuto
namespace Go.Proofs.Ytccknhhjkkbadaa.fingerPicks
open Go.ChangeShapes Go.WideShapes Go.ChangeAt Go.RowKit Go.Proofs.Ytccknhhjkkbadaa.Lift Go.Proofs.Ytccknhhjkkbadaa.Fg Go.Proofs.Ytccknhhjkkbadaa.Dig
set_option linter.unusedVariables false
set_option linter.unusedSimpArgs false
theorem showF_snoc (l : List Pk) (p : Pk) : showF (l ++ [p]) = if l = [] then digS p.1 ++ 58 :: digS p.2 else showF l ++ 32 :: (digS p.1 ++ 58 :: digS p.2) := by
  cases l with
  | nil => simp [showF, Lib.join]
  | cons q r =>
    rw [if_neg (by simp)]
    unfold showF
    rw [List.cons_append, List.map_cons, List.map_cons, Lib.join_cons, Lib.join_cons]
    simp [Lib.joinTail]
theorem showF_take {l : List Pk} {k : Nat} (h : k < l.length) : showF (l.take (k + 1)) = if k = 0 then digS l[k].1 ++ 58 :: digS l[k].2 else showF (l.take k) ++ 32 :: (digS l[k].1 ++ 58 :: digS l[k].2) := by
  rw [List.take_succ_eq_append_getElem h, showF_snoc]
  by_cases hk : k = 0
  · subst hk; simp
  · rw [if_neg hk, if_neg]
    intro h2
    have := congrArg List.length h2
    rw [List.length_take] at this
    simp at this
    rcases this with h3 | h3
    · exact hk h3
    · subst h3; simp at h
theorem cell2 {w : World} {g : Nat} {v : Value} (h : w.heap[g]? = some (.cells #[v] 84 (0, 0))) : w.cell? ⟨g, 0, none⟩ = some v := by simp [World.cell?, h]
theorem pkwf_ins (id a : Int) (hi : I64 id ∧ I64 a) (l : List Pk) (h : PkWf l) : PkWf (ins id a l) := fun x hx => by
  rcases ins_mem l id a x hx with rfl | hx
  · exact hi
  · exact h x hx
theorem pkwf_of : ∀ (l acc : List Pk), PkWf l → PkWf acc → PkWf (l.foldl (fun f p => withF f p.1 p.2) acc)
  | [], acc, _, h => h
  | p :: r, acc, hl, h => by
    rw [List.foldl_cons, withF_ins]
    exact pkwf_of r _ (fun x hx => hl x (by simp [hx])) (pkwf_ins _ _ (hl p (by simp)) _ h)
set_option maxRecDepth 100000 in
theorem few (w : World) (l : List Pk) (id a : Int) (v : Value) (hl : PkSl w v l) (h : ¬ l.length ≤ 40) :
    Calls Try.prog 10 #[v, .int .i64 id, .int .i64 a] w fun r w' => r = .returned (.bool true) ∧ Below w.heap.size w w' := by
  obtain ⟨A, cap, rfl, -⟩ := hl
  have hd : decide (l.length ≤ 40) = false := by simpa using h
  have HF := fun w => Lib.hid (fewPk_any w A l.length cap)
  rw [hd] at HF
  clear hd h
  go_enter Try.func10, Try.ntmps10
  go_wp2_with fail
  refine (awake25_any _).mono ?_
  rintro _ w1 ⟨rfl, hb1⟩
  go_wp2_with (go_at_call 56; refine (HF _).out.mono ?_; rintro _ w2 ⟨rfl, rfl⟩)
  go_ret
  exact ⟨rfl, hb1⟩
set_option maxRecDepth 100000 in
set_option maxHeartbeats 8000000 in
theorem walk (w : World) (l : List Pk) (id a : Int) (v : Value) (hl : PkSl w v l) (hwl : PkWf l) :
    Calls Try.prog 10 #[v, .int .i64 id, .int .i64 a] w fun r w' => r = .returned (.bool true) ∧ Below w.heap.size w w' := by
  by_cases h1 : l.length ≤ 40
  · have hX : Inc (picksR l) := picks_inc l
    have hwX : PkWf (picksR l) := by rw [← ofF_picks]; exact pkwf_of l [] hwl (fun x hx => by simp at hx)
    have hlen : (picksR l).length ≤ 40 := Nat.le_trans (picksR_len l) h1
    have HF := fun w A cap => Lib.hid (fewPk_any w A l.length cap)
    rw [show decide (l.length ≤ 40) = true by simpa using h1] at HF
    have HO := fun w1 (h : Below w.heap.size w w1) => Lib.hid (of_any w l w1 v hl h (by omega))
    have HP := fun w1 (h : Below w.heap.size w w1) => Lib.hid (refPicks_any w l w1 v hl h (by omega))
    rw [ofF_picks] at HO
    obtain ⟨A, cap, rfl, -⟩ := hl
    have hlm : (picksR l).length ≤ 4194304 := by omega
    clear h1 hwl
    generalize picksR l = X at *
    have eW : Hid (withR X id a = withF X id a) := Lib.hid (by rw [withF_ins, withR_ins X id a hX])
    have eG : Hid (getR X id = getF X id) := Lib.hid (getF_getR X id hX).symm
    clear hX
    go_enter Try.func10, Try.ntmps10
    go_wp2_with fail
    refine (awake25_any _).mono ?_
    rintro _ w1 ⟨rfl, hb1⟩
    go_wp2_with fail
    refine (HF _ _ _).out.mono ?_
    rintro _ w2 ⟨rfl, rfl⟩
    go_wp2_with fail
    refine (HO _ hb1).out.mono ?_
    rintro _ w2 ⟨vf, rfl, hvf, hb2⟩
    have hb02 := hb1.thenCall hb1.size hb2
    go_wp2_with fail
    refine (HP _ hb02).out.mono ?_
    rintro _ w3 ⟨vx, rfl, hvx, hb3⟩
    have hb03 := hb02.thenCall hb02.size hb3
    have hvf3 := hvf.below hb3 (Nat.le_refl _)
    have hvfs := hvf3
    have hvxs := hvx
    obtain ⟨Af, capf, rfl, -⟩ := hvfs
    obtain ⟨Ax, capx, rfl, b1, b2, b3, b4, b5⟩ := hvxs
    clear HF HO HP hb1 hb2 hb02 hb3 hvf
    go_wp2_with fail
    obtain ⟨W, hW⟩ : ∃ W, W = w3.alloc (.cells #[.slice Af X.length capf] 84) := ⟨_, rfl⟩
    obtain ⟨gf, hgf⟩ : ∃ gf, gf = w3.heap.size := ⟨_, rfl⟩
    have hbW : Below w3.heap.size w3 W := by rw [hW]; exact Fg.below1 _ _
    have k0 : W.heap[gf]? = some (.cells #[.slice Af X.length capf] 84 (0, 0)) := by rw [hW, hgf]; exact heap_alloc_new w3 _
    have hf := hvf3.below hbW (Nat.le_refl _)
    have hx := hvx.below hbW (Nat.le_refl _)
    have hb0 := hb03.thenCall hb03.size hbW
    rw [← hW, ← hgf]
    clear hW hgf hvf3 hvx hb03
    have b5' := b5.below hbW (Nat.le_refl _)
    clear b5 hbW
    have CGet := fun x (h : Below W.heap.size W x) => Lib.hid (get_any W X id x _ hf h)
    have CGetR := fun x (h : Below W.heap.size W x) => Lib.hid (refGet_any W X id x _ hx h)
    have CWith := fun x (h : Below W.heap.size W x) => Lib.hid (with_any W X id a x _ hf h (by omega))
    have CWithR := fun x (h : Below W.heap.size W x) => Lib.hid (refWith_any W X id a x _ hx h (by omega))
    have CLen := fun x => Lib.hid (len_any x Af X.length capf)
    have CPk := fun x (h : Below W.heap.size W x) => Lib.hid (picks_any W x _ X hf h)
    have CShow := fun x (h : Below W.heap.size W x) => Lib.hid (show_any W X x _ hf hwX h)
    have hxx : Hid (∀ x, Below W.heap.size W x → PkSl x (.slice Ax X.length capx) X) := Lib.hid (fun x h => hx.below h (Nat.le_refl _))
    rw [eG.out] at CGetR
    rw [eW.out] at CWithR
    have hlw := withF_len X id a
    have k0' := cell2 k0
    clear eW hf hx eG
    generalize getF X id = q at *
    generalize withF X id a = G at *
    obtain ⟨n, is⟩ := q
    dsimp only at *
    go_wp2_with fail
    refine (CGet _ (Below.refl _ _)).out.mono ?_
    rintro _ x1 ⟨rfl, q1⟩
    go_wp2_with fail
    refine (CGetR _ q1).out.mono ?_
    rintro _ x2 ⟨rfl, q2⟩
    have hq2 := q1.thenCall q1.size q2
    have k2 := cell2 ((hq2.block _ (Array.getElem?_eq_some_iff.1 k0).1).trans k0)
    clear q1 q2 k0'
    go_wp2_with fail
    refine (CWith _ hq2).out.mono ?_
    rintro _ x3 ⟨vg, rfl, hvg, q3⟩
    have hvgs := hvg
    obtain ⟨Ag, capg, rfl, -⟩ := hvgs
    have hq3 := hq2.thenCall hq2.size q3
    clear k2 q3 hq2
    go_wp2_with fail
    obtain ⟨V, hV⟩ : ∃ V, V = x3.alloc (.cells #[.slice Ag G.length capg] 84) := ⟨_, rfl⟩
    obtain ⟨gg, hgg⟩ : ∃ gg, gg = x3.heap.size := ⟨_, rfl⟩
    have hbV : Below x3.heap.size x3 V := by rw [hV]; exact Fg.below1 _ _
    have k1 : V.heap[gg]? = some (.cells #[.slice Ag G.length capg] 84 (0, 0)) := by rw [hV, hgg]; exact heap_alloc_new x3 _
    have hgV := hvg.below hbV (Nat.le_refl _)
    have hqV := hq3.thenCall hq3.size hbV
    rw [← hV, ← hgg]
    clear hV hgg hvg hq3 hbV
    go_loopw [14, 44] (fun s i wr => ∃ (k : Nat), i = .int .i64 k ∧ k ≤ X.length ∧ s = .string ⟨(showF (X.take k)).toArray⟩ ∧ Below V.heap.size V wr) (fun _ i _ => X.length - (intOf i).toNat)
    case atStart => exact ⟨0, rfl, Nat.zero_le _, by simp [showF, Lib.join], Below.refl _ _⟩
    case round =>
      obtain ⟨k, rfl, hk, rfl, hbr⟩ := hrel
      by_cases hlt : k < X.length
      · obtain ⟨bb, o, rfl, hbl, c1, c2⟩ := pk_cell b5' k hlt
        have hbWr := hqV.thenCall hqV.size hbr
        have x1 := (hbWr.cell (p := ⟨bb, o + k * 2, none⟩) hbl).trans c1
        have x2 := (hbWr.cell (p := ⟨bb, o + k * 2 + 1, none⟩) hbl).trans c2
        have HT := showF_take hlt
        have hwf := hwX X[k] (List.getElem_mem hlt)
        have D1 := fun w => Lib.hid (refDigits_any X[k].1 w hwf.1.1 hwf.1.2)
        have D2 := fun w => Lib.hid (refDigits_any X[k].2 w hwf.2.1 hwf.2.2)
        have L1 := digS_len hwf.1
        have L2 := digS_len hwf.2
        have L3 : (showF (X.take k)).length ≤ 1800 := by
          have := showF_len (l := X.take k) (fun x hx => hwX x (List.mem_of_mem_take hx))
          have h2 : (X.take k).length ≤ k := List.length_take_le _ _
          omega
        clear b5' c1 c2 hwf hwX CGet CGetR CWith CWithR CLen CPk CShow
        generalize X[k] = y at *
        obtain ⟨y1, y2⟩ := y
        dsimp only at *
        generalize digS y1 = d1 at *
        generalize digS y2 = d2 at *
        generalize ht0 : showF (X.take k) = t at *
        have ht0 := ht0.symm
        have t1 : d1.length ≤ 9223372036854775806 := by omega
        have t2 : d1.length + 1 + d2.length ≤ 9223372036854775807 := by omega
        have t3 : ¬ 9223372036854775807 < d1.length + 1 := by omega
        have t4 : ¬ 9223372036854775807 < d1.length + 1 + d2.length := by omega
        have t5 : ¬ 9223372036854775807 < t.length + (d1.length + 1 + d2.length) := by omega
        have t6 : ¬ 9223372036854775807 < t.length + 1 + (d1.length + 1 + d2.length) := by omega
        have hbY : Below V.heap.size V (wr.alloc (.cells #[.int .i64 y1, .int .i64 y2] 95)) := hbr.alloc hbr.size _
        have hcY := heap_alloc_new wr (.cells #[.int .i64 y1, .int .i64 y2] 95)
        obtain ⟨Y, hY⟩ : ∃ Y, Hid (Y = wr.alloc (.cells #[.int .i64 y1, .int .i64 y2] 95)) := ⟨_, Lib.hid rfl⟩
        rw [← hY.out] at hbY hcY
        have MS : Hid (∀ x, Below Y.heap.size Y x → (fun w' => Below Y.heap.size Y w' ∧ w'.cell? ⟨wr.heap.size, 0, none⟩ = some (.int .i64 y1) ∧ w'.cell? ⟨wr.heap.size, 1, none⟩ = some (.int .i64 y2)) x) := Lib.hid (by
          intro x hx
          have := (hx.block _ (Array.getElem?_eq_some_iff.1 hcY).1).trans hcY
          exact ⟨hx, by simp [World.cell?, this], by simp [World.cell?, this]⟩)
        have hB0 : Below Y.heap.size Y Y.drew := (Below.refl _ _).drew
        clear hcY
        by_cases hk0 : k = 0
        · have hz1 : ¬ ((0 : Int) < k) := by omega
          have HT0 : Hid (t = []) := Lib.hid (by rw [ht0, hk0]; simp [showF, Lib.join])
          rw [if_pos hk0] at HT
          have HT := Lib.hid HT
          clear hk0 ht0
          go_wp2_with fail
          rw [← hY.out]
          go_region_held3 (fun w' => Below Y.heap.size Y w' ∧ w'.cell? ⟨wr.heap.size, 0, none⟩ = some (.int .i64 y1) ∧ w'.cell? ⟨wr.heap.size, 1, none⟩ = some (.int .i64 y2))
            (first | exact MS.out _ hB2 | exact MS.out _ hB1 | exact MS.out _ hB0)
            (first
             | (go_at_call 43; ((with_reducible refine (D1 _).out.mono ?_); rintro _ z1 ⟨rfl, q1⟩; have hB1 := hB0.thenCall hB0.size q1))
             | (go_at_call 43; ((with_reducible refine (D2 _).out.mono ?_); rintro _ z2 ⟨rfl, q2⟩; have hB2 := hB1.thenCall hB1.size q2)))
          go_wp2_with fail
          refine ⟨⟨k + 1, by go_num, by omega, ?_, hbY.thenCall hbY.size hB2⟩, by simp [intOf]; omega⟩
          rw [HT.out, HT0.out]
          refine congrArg Value.string ?_
          rw [ba_app, ba_app, ba_app]
          exact congrArg ByteArray.mk (by simp)
        · have hz1 : (0 : Int) < k := by omega
          rw [if_neg hk0] at HT
          have HT := Lib.hid HT
          clear hk0 ht0
          go_wp2_with fail
          rw [← hY.out]
          go_region_held3 (fun w' => Below Y.heap.size Y w' ∧ w'.cell? ⟨wr.heap.size, 0, none⟩ = some (.int .i64 y1) ∧ w'.cell? ⟨wr.heap.size, 1, none⟩ = some (.int .i64 y2))
            (first | exact MS.out _ hB2 | exact MS.out _ hB1 | exact MS.out _ hB0)
            (first
             | (go_at_call 43; ((with_reducible refine (D1 _).out.mono ?_); rintro _ z1 ⟨rfl, q1⟩; have hB1 := hB0.thenCall hB0.size q1))
             | (go_at_call 43; ((with_reducible refine (D2 _).out.mono ?_); rintro _ z2 ⟨rfl, q2⟩; have hB2 := hB1.thenCall hB1.size q2)))
          go_wp2_with fail
          refine ⟨⟨k + 1, by go_num, by omega, ?_, hbY.thenCall hbY.size hB2⟩, by simp [intOf]; omega⟩
          rw [HT.out]
          refine congrArg Value.string ?_
          rw [ba_app, ba_app, ba_app, ba_app]
          exact congrArg ByteArray.mk (by simp)
      · obtain rfl : k = X.length := by omega
        rw [List.take_length]
        have hqr := hqV.thenCall hqV.size hbr
        have k3 := cell2 ((hqr.block _ (Array.getElem?_eq_some_iff.1 k0).1).trans k0)
        have k4 := cell2 ((hbr.block _ (Array.getElem?_eq_some_iff.1 k1).1).trans k1)
        generalize hsh : showF X = t at *
        clear hsh b5'
        go_wp2_with fail
        refine (CLen _).out.mono ?_
        rintro _ z0 ⟨rfl, p0⟩
        have hb0' := hbr.thenCall hbr.size p0
        have hq0' := hqV.thenCall hqV.size hb0'
        clear k3 k4 p0 hbr hqr
        have k3 := cell2 ((hq0'.block _ (Array.getElem?_eq_some_iff.1 k0).1).trans k0)
        go_wp2_with fail
        refine (CPk _ hq0').out.mono ?_
        rintro _ z1 ⟨vp, rfl, hvp, p1⟩
        have hvp2 := hvp.sl hlm
        have hb1' := hb0'.thenCall hb0'.size p1
        have hq1' := hqV.thenCall hqV.size hb1'
        have CS := Lib.hid (samePicks_any z1 X X z1 vp _ hvp2 (hxx.out _ hq1') (Below.refl _ _))
        rw [show decide (X = X) = true by simp] at CS
        clear k3 p1 hb0' hq0' hvp hvp2
        go_wp2_with fail
        refine CS.out.mono ?_
        rintro _ z2 ⟨rfl, p2⟩
        have hb2' := hb1'.thenCall hb1'.size p2
        have hq2' := hqV.thenCall hqV.size hb2'
        clear p2 hb1' hq1' CS
        have k3 := cell2 ((hq2'.block _ (Array.getElem?_eq_some_iff.1 k0).1).trans k0)
        go_wp2_with fail
        refine (CShow _ hq2').out.mono ?_
        rintro _ z3 ⟨rfl, p3⟩
        have hb3' := hb2'.thenCall hb2'.size p3
        have hq3' := hqV.thenCall hqV.size hb3'
        clear p3 hb2' hq2' k3
        have k4 := cell2 ((hb3'.block _ (Array.getElem?_eq_some_iff.1 k1).1).trans k1)
        have hgz := hgV.below hb3' (Nat.le_refl _)
        have hlG : G.length ≤ 4194304 := by omega
        go_wp2_with fail
        refine (picks_any z3 z3 _ G hgz (Below.refl _ _)).mono ?_
        rintro _ z4 ⟨vp, rfl, hvp, p4⟩
        have hvp2 := hvp.sl hlG
        have hb4' := hb3'.thenCall hb3'.size p4
        have hq4' := hqV.thenCall hqV.size hb4'
        clear p4 hb3' hq3' k4 hgz hvp
        go_wp2_with fail
        refine (CWithR _ hq4').out.mono ?_
        rintro _ z5 ⟨vr, rfl, hvr, p5⟩
        have hb5' := hb4'.thenCall hb4'.size p5
        have hq5' := hqV.thenCall hqV.size hb5'
        have CS := Lib.hid (samePicks_any z5 G G z5 vp vr (hvp2.below p5 (Nat.le_refl _)) hvr (Below.refl _ _))
        rw [show decide (G = G) = true by simp] at CS
        clear p5 hb4' hq4' hvp2 hvr
        go_wp2_with fail
        refine CS.out.mono ?_
        rintro _ z6 ⟨rfl, p6⟩
        have hq6' := hq5'.thenCall hq5'.size p6
        go_wp2_with fail
        go_ret
        exact ⟨rfl, hb0.thenCall hb0.size hq6'⟩
  · exact few w l id a v hl h1
end Go.Proofs.Ytccknhhjkkbadaa.fingerPicks
