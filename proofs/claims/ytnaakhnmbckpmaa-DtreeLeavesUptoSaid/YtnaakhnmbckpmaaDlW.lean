/- DtreeLeaves is true of all rules whose bulk is at most 1048576: the walk. -/
import Derived.Test.YtnaakhnmbckpmaaAw16
import Derived.Test.YtnaakhnmbckpmaaKnB
import Derived.Test.YtnaakhnmbckpmaaSelB
import Derived.Deep.DeepCutAuto
namespace Go.Proofs.Ytnaakhnmbckpmaa.Pats
open Go.ChangeShapes Go.WideShapes Go.ChangeAt Go.RowKit Go.Proofs.Ytnaakhnmbckpmaa.Lift Go.Proofs.Ytnaakhnmbckpmaa.Data Go.Proofs.Ytnaakhnmbckpmaa.Refs Go.Proofs.Ytnaakhnmbckpmaa.Strs
set_option linter.unusedVariables false
set_option linter.unusedSimpArgs false
theorem fewEx_200 {l : List Ex} (h : fewEx l = true) : ExSize l ≤ 200 := by
  simp only [fewEx, Bool.and_eq_true, decide_eq_true_eq] at h
  exact h.1
theorem tree_ors {mk : List ByteArray} {rules : List (List Ex)} {T : Ct} (h : TreeOf mk rules T) : orsC T < max rules.length 1 := by
  rcases h with ⟨rfl, rfl⟩ | ⟨_, h⟩
  · simp [failT, orsC, orsCs]
  · have := ors_build h
    rwa [upto_len] at this
theorem tree_size {mk : List ByteArray} {rules : List (List Ex)} {T : Ct} (h : TreeOf mk rules T) (h200 : ∀ l ∈ rules, ExSize l ≤ 200) (hn : rules.length ≤ 8) : T.size ≤ 4000 := by
  rcases h with ⟨rfl, rfl⟩ | ⟨hne, h⟩
  · simp [failT, Ct.size, CtSize]
  · have h1 := size_build h (by intro e; have := upto_len rules.length; rw [e] at this; exact hne (List.eq_nil_of_length_eq_zero this.symm))
    have h2 := mu_first rules (rules.getD 0 []).length h200 (upto rules.length)
    rw [upto_len] at h2
    omega
theorem tree_none {mk : List ByteArray} {T : Ct} (h : TreeOf mk [] T) : T = failT := by
  rcases h with ⟨_, rfl⟩ | ⟨h, _⟩
  · rfl
  · exact absurd rfl h
theorem tree_names {mk : List ByteArray} {names : List ByteArray} {T : Ct} (h : TreeOf mk [namesR names] T) : T = leafT 0 := by
  rcases h with ⟨h, _⟩ | ⟨_, h⟩
  · cases h
  · refine build_leaf (rules := [namesR names]) (s0 := 0) h fun p hp => ?_
    simp only [firstP, List.mem_map, List.mem_range] at hp
    obtain ⟨k, _, rfl⟩ := hp
    exact names_no names k
theorem names_size : ∀ names : List ByteArray, ExSize (namesR names) = names.length
  | [] => by simp [namesR, ExSize]
  | s :: r => by
    have := names_size r
    unfold namesR at this ⊢
    simp only [List.map_cons, ExSize, Ex.size, List.length_cons]
    omega
/-- the cells of names as expressions. -/
def nameCells (names : List ByteArray) : List Value := names.flatMap fun s => [.int .i64 1, .string s, .int .i64 0, .slice none 0 0, .int .i64 0, .int .i64 0]
theorem nameCells_ok (w : World) : ∀ names : List ByteArray, ExCells w (namesR names) (nameCells names)
  | [] => by simp [namesR, nameCells, ExCells]
  | s :: r => by
    have := nameCells_ok w r
    unfold namesR nameCells at this ⊢
    simp only [List.map_cons, List.flatMap_cons, ExCells]
    exact ⟨_, _, rfl, exCs_leaf _ _ _ _ _ _, this⟩
theorem nameCells_succ {names : List ByteArray} {j : Nat} (h : j < names.length) : nameCells (names.take (j + 1)) = nameCells (names.take j) ++ [.int .i64 1, .string names[j], .int .i64 0, .slice none 0 0, .int .i64 0, .int .i64 0] := by
  unfold nameCells
  rw [List.take_succ_eq_append_getElem h, List.flatMap_append]
  simp
theorem leaf_depth (s : Int) : depC (leafT s) = 1 := by simp [leafT, depC, depCs]
theorem fail_leaves : failT.leaves = [] := by simp [failT, Ct.leaves, CtLeaves]
theorem memB_take_succ {l : List Int} {j : Nat} (h : j < l.length) (x : Int) : decide (x ∈ l.take (j + 1)) = (decide (x ∈ l.take j) || l[j] == x) := by
  rw [List.take_succ_eq_append_getElem h, ← Bool.coe_iff_coe]
  simp only [List.mem_append, List.mem_singleton, decide_eq_true_eq, Bool.or_eq_true, beq_iff_eq]
  constructor
  · rintro (h | h)
    · exact .inl h
    · exact .inr h.symm
  · rintro (h | h)
    · exact .inl h
    · exact .inr h.symm
set_option maxRecDepth 100000 in
set_option maxHeartbeats 2000000 in
theorem leaves_walk (w : World) (mv rv av nv : Value) (makers : List ByteArray) (rules : List (List Ex)) (args : List Tm) (names : List ByteArray) (hM : StrSl w mv makers) (hR : RS w rv rules) (hA : Tm.Sl w av args) (hN : StrSl w nv names) (hm : ∀ l ∈ rules, ExSize l ≤ 1048576) (hma : TmSize args ≤ 1048576) :
    Calls Try.prog 9 #[mv, rv, av, nv] w fun r w' => r = .returned (.bool true) ∧ Below w.heap.size w w' := by
  have HF := fun W hb => Lib.hid (fewR_any w W rv rules hR hm hb)
  have HT := fun W hb => Lib.hid (fewTm_any w args W av hA hma hb)
  have HK := fun W hb => Lib.hid (known_any w W mv rv makers rules hM hR hm hb)
  have HB := fun W hb h1 h2 => Lib.hid (build_any w W mv rv makers rules hM hR h1 h2 hb)
  have HM := Lib.hid hM
  have HA := Lib.hid hA
  obtain ⟨Am, cm, rfl, -⟩ := hM
  obtain ⟨Ar, cr, xr, rfl, -⟩ := hR
  obtain ⟨Aa, ca, rfl, -⟩ := hA
  obtain ⟨An, cn, rfl, n1, n2, n3, n4, n5⟩ := hN
  go_enter Try.func9, Try.ntmps9
  go_wp2_with fail
  refine (awake16_any _).mono ?_
  rintro _ w1 ⟨rfl, hb1⟩
  by_cases h20 : ¬ makers.length ≤ 20
  · have hg : (20 : Int) < makers.length := by omega
    go_wp2_with fail
    go_ret
    exact ⟨rfl, hb1⟩
  have h20' : makers.length ≤ 20 := Classical.not_not.1 h20
  clear h20
  have hg : ¬ (20 : Int) < makers.length := by omega
  go_wp2_with fail
  refine ((HF _ hb1).out).mono ?_
  rintro _ w2 ⟨b2, rfl, hfew, hb2⟩
  have hbw2 := hb1.thenCall hb1.size hb2
  clear HF
  cases b2 with
  | false =>
    go_wp2_with fail
    go_ret
    exact ⟨rfl, hbw2⟩
  | true =>
  obtain ⟨hr8, hrok⟩ := hfew rfl
  clear hfew
  have h200 : Hid (∀ l ∈ rules, ExSize l ≤ 200) := Lib.hid fun l hl => fewEx_200 (hrok l hl).1
  clear hrok
  go_wp2_with fail
  refine ((HT _ hbw2).out).mono ?_
  rintro _ w3 ⟨rfl, hb3⟩
  have hbw3 := hbw2.thenCall hbw2.size hb3
  clear HT
  cases hfa : fewTm args with
  | false =>
    go_wp2_with fail
    go_ret
    exact ⟨rfl, hbw3⟩
  | true =>
  clear hfa
  go_wp2_with fail
  refine ((HK _ hbw3).out).mono ?_
  rintro _ w4 ⟨b4, rfl, hkn, hb4⟩
  have hbw4 := hbw3.thenCall hbw3.size hb4
  clear HK hkn
  cases b4 with
  | false =>
    go_wp2_with fail
    go_ret
    exact ⟨rfl, hbw4⟩
  | true =>
  by_cases h8 : ¬ names.length ≤ 8
  · have hg8 : (8 : Int) < names.length := by omega
    go_wp2_with fail
    go_ret
    exact ⟨rfl, hbw4⟩
  have h8' : names.length ≤ 8 := Classical.not_not.1 h8
  clear h8
  have hg8 : ¬ (8 : Int) < names.length := by omega
  go_wp2_with fail
  refine ((HB _ hbw4 h200.out hr8).out).mono ?_
  rintro _ w5 ⟨T, vT, rfl, hTo, hTr, hb5⟩
  have hbw5 := hbw4.thenCall hbw4.size hb5
  clear HB
  have hors := tree_ors hTo
  have hTs := tree_size hTo h200.out hr8
  clear hTo
  have hslv := Lib.hid (sel_leaves makers args T)
  have hol := ors_le T
  obtain ⟨Tp, tl, tc, TA, tcap, rfl⟩ := hTr.form
  have HO := fun W hb => Lib.hid (ors_any T.size w5 T W _ (Nat.le_refl _) (by omega) hTr hb)
  have HL := fun W hb => Lib.hid (leaves_any T.size w5 T W _ (Nat.le_refl _) (by omega) hTr hb)
  have HS := fun W hb => Lib.hid (select_any w5 T W _ _ _ makers args (by omega) hTr (HA.out.below hbw5 (Nat.le_refl _)) (Data.StrSl.sub HM.out (Sub.of_below hbw5)) hb)
  have hlle := leaves_le T
  have hsle := sel_le makers args T
  clear hTr
  generalize orsC T = nT at *
  generalize T.leaves = lv at *
  generalize selS makers args T = sv at *
  generalize T.size = Tz at *
  generalize T.kind = Tk at *
  generalize T.rule = Tr' at *
  generalize T.cs.length = Tc at *
  have hbx := heap_alloc_new w5 (.cells #[.int .i64 Tk, .int .i64 Tr', .slice Tp tl tc, .slice TA Tc tcap] 74)
  have hb5a := below1 w5 (.cells #[.int .i64 Tk, .int .i64 Tr', .slice Tp tl tc, .slice TA Tc tcap] 74)
  have hV1s : (w5.alloc (.cells #[.int .i64 Tk, .int .i64 Tr', .slice Tp tl tc, .slice TA Tc tcap] 74)).heap.size = w5.heap.size + 1 := by simp
  have hbV := hbw5.thenCall hbw5.size hb5a
  have HL1 := HL _ hb5a
  clear HL
  go_wp2_with fail
  generalize hV : w5.alloc (.cells #[.int .i64 Tk, .int .i64 Tr', .slice Tp tl tc, .slice TA Tc tcap] 74) = V at *
  clear hV
  refine HL1.out.mono ?_
  clear HL1
  rintro _ w6 ⟨v6, rfl, hown6, hb6⟩
  have hb56 := hb5a.thenCall hb5a.size hb6
  have hbw6 := hbw5.thenCall hbw5.size hb56
  obtain ⟨p0, p1, p2, p3⟩ := row4 ((hb6.block _ (by omega)).trans hbx)
  have hz6 := hb6.size
  have hlt6 : w5.heap.size < w6.heap.size := by omega
  have HS1 := HS _ hb56
  clear HS
  unfold IntOwn at hown6
  obtain ⟨A6, c6, rfl, hc61, hc62⟩ := own_form hown6
  go_wp2_with fail
  refine HS1.out.mono ?_
  clear HS1
  rintro _ w7 ⟨v7, rfl, hown7, hb7⟩
  have hb57 := hb56.thenCall hb56.size hb7
  have hbw7 := hbw6.thenCall hbw6.size hb7
  unfold IntOwn at hown7
  obtain ⟨A7, c7, rfl, hc71, hc72⟩ := own_form hown7
  have hown6' := own_below hown6 hb7 (Nat.le_refl _)
  have hbx7 := (hb7.block _ hlt6).trans ((hb6.block _ (by omega)).trans hbx)
  have hz7 := hb7.size
  clear hown6 p0 p1 p2 p3
  have hsrc7 := Src.of_own hown7
  have hsrc6 := Src.of_own hown6'
  have HSR7 := Lib.hid hsrc7
  have HSR6 := Lib.hid hsrc6
  clear hsrc7 hsrc6 hown7 hown6'
  go_wp2_with fail
  obtain ⟨i26, hi26, hz26a, hz26b, hz26c⟩ := info_parts info26
  go_loopw [57] (fun i wr => ∃ j : Nat, i = .int .i64 j ∧ j ≤ sv.length ∧ w7 = wr) (fun i _ => sv.length - (intOf i).toNat)
  case atStart => exact ⟨0, rfl, Nat.zero_le _, rfl⟩
  case round =>
    obtain ⟨j, rfl, hj, rfl⟩ := hrel
    by_cases hlt : j < sv.length
    · obtain ⟨b, o, rfl, hbl, hc⟩ := IS_cell HSR7.out j hlt
      have hmem := Lib.hid (hslv.out _ (List.getElem_mem hlt))
      generalize sv[j] = r at *
      go_wp2_with fail
      go_loopw [13, 63] (fun t i wr => ∃ k : Nat, i = .int .i64 k ∧ k ≤ lv.length ∧ t = .bool (decide (r ∈ lv.take k)) ∧ w7 = wr) (fun _ i _ => lv.length - (intOf i).toNat)
      case atStart => exact ⟨0, rfl, Nat.zero_le _, by simp, rfl⟩
      case round =>
        obtain ⟨k, rfl, hk, rfl, rfl⟩ := hrel
        by_cases hltk : k < lv.length
        · obtain ⟨b', o', rfl, hbl', hc'⟩ := IS_cell HSR6.out k hltk
          have hS := Lib.hid (memB_take_succ hltk r)
          generalize lv[k] = y at *
          cases hq : decide (r ∈ lv.take k) with
          | true =>
            rw [hq] at hS
            go_wp2_with fail
            exact ⟨⟨k + 1, by go_num, by omega, by rw [hS.out]; rfl, trivial⟩, by simp [intOf]; omega⟩
          | false =>
            rw [hq] at hS
            go_wp2_with fail
            exact ⟨⟨k + 1, by go_num, by omega, by rw [hS.out]; rfl, trivial⟩, by simp [intOf]; omega⟩
        · rw [List.take_of_length_le (by omega), decide_eq_true hmem.out]
          go_wp2_with fail
          exact ⟨⟨j + 1, by go_num, by omega, trivial⟩, by simp [intOf]; omega⟩
    · clear HSR7 HSR6 hslv
      go_wp2_with fail
      go_loopw [16, 79] (fun t i wr => ∃ k : Nat, i = .int .i64 k ∧ k ≤ names.length ∧ wr.ownsRow w7.heap.size 26 6 t k (nameCells (names.take k)) ∧ Below w7.heap.size w7 wr) (fun _ i _ => names.length - (intOf i).toNat)
      case atStart => exact ⟨0, rfl, Nat.zero_le _, World.ownsRow_nil _ _ _ _, Below.refl _ _⟩
      case round =>
        obtain ⟨k, rfl, hk, hown, hb⟩ := hrel
        have hzr := hb.size
        by_cases hltk : k < names.length
        · obtain ⟨b', o', rfl, hbl', hc'⟩ := StrSl.cell n5 k hltk
          have hc2 := cellB (hbw7.thenCall hbw7.size hb) (Nat.le_refl _) hc'
          have hb2l := World.block_lt_of_cell? _ _ hc2
          simp only at hb2l
          have hS := Lib.hid (nameCells_succ hltk)
          generalize names[k] = s at *
          generalize nameCells (names.take k) = xs at *
          have hbz := fun oo => below1 wr oo
          have hg1 : k + 1 ≤ maxLen := by unfold maxLen; omega
          have hg2 : (k + 1) * 72 ≤ 140737488355328 := by omega
          clear hc'
          go_wp2_with (at_builtin; refine wpList_append_src rfl (.tmp 83) (.tmp 86) 22 rfl w7.heap.size 26 i26 _ 6 72 Try.underlying22 hi26 hz26a hz26b hz26c rfl (by omega) u16 k xs rfl (own_below hown (hbz _) (Nat.le_refl _)) (some ⟨wr.heap.size, 0, none⟩) 1 1 [.int .i64 1, .string s, .int .i64 0, .slice none 0 0, .int .i64 0, .int .i64 0] rfl (Src.of_own (own_new wr 26 6 1 #[.int .i64 1, .string s, .int .i64 0, .slice none 0 0, .int .i64 0, .int .i64 0] rfl (by omega))) (fun h => by cases h) (by simp [Value.oneCell']) hg1 hg2 (Nat.le_trans hzr (hbz _).size) ?_; intro v2 w2 hown2 hgr2)
          have hb2 := below_grown (own_below hown (hbz _) (Nat.le_refl _)) hgr2 (Nat.le_trans hzr (hbz _).size)
          exact ⟨⟨k + 1, by go_num, by omega, by rw [hS.out]; exact hown2, (hb.thenCall hb.size (hbz _)).trans hb2⟩, by simp [intOf]; omega⟩
        · obtain rfl : k = names.length := by omega
          rw [List.take_length] at hown
          obtain ⟨A16, c16, rfl, h161, h162⟩ := own_form hown
          have hnl : (namesR names).length = names.length := by simp [namesR]
          have hslN : Ex.Sl wr (.slice A16 names.length c16) (namesR names) := by
            have := Ex.Sl.of_own (es := namesR names) (by rw [hnl]; exact hown) (nameCells_ok wr names) (by rw [hnl]; omega)
            exact this
          have hbr := hbw7.thenCall hbw7.size hb
          have hx5 := (hb.block _ (Nat.lt_of_lt_of_le hlt6 hz7)).trans hbx7
          have hb5r := hb57.trans (hb.mono hb57.size)
          have hRS : RS (wr.alloc (.cells #[.slice A16 names.length c16] 22)) (.slice (some ⟨wr.heap.size, 0, none⟩) 1 1) [namesR names] := by
            refine ⟨_, 1, [.slice A16 names.length c16], rfl, by simp, by omega, by simp, (fun h => by cases h), Src.of_own (own_new wr 22 1 1 #[.slice A16 names.length c16] rfl (by omega)), ?_⟩
            simp only [RCells]
            exact ⟨_, _, rfl, hslN.below ((Below.refl _ _).alloc (Nat.le_refl _) _) (Nat.le_refl _), rfl⟩
          have hbA := below1 wr (.cells #[.slice A16 names.length c16] 22)
          have HB1 := Lib.hid (build_any (wr.alloc (.cells #[.slice A16 names.length c16] 22)) (wr.alloc (.cells #[.slice A16 names.length c16] 22)) _ _ makers [namesR names] (Data.StrSl.sub HM.out (Sub.of_below (hbr.thenCall hbr.size hbA))) hRS (by simp [names_size]; omega) (by simp) (Below.refl _ _))
          clear hRS hslN hown hbr
          go_wp2_with fail
          refine HB1.out.mono ?_
          clear HB1
          rintro _ w8 ⟨T1, v1, rfl, hTo1, hTr1, hb8⟩
          obtain rfl := tree_names hTo1
          clear hTo1
          have hb8c := Below.call1 hb8
          have hb58 := hb5r.trans (hb8c.mono hb5r.size)
          have hx58 := (hb8c.block _ (by have := hb.size; omega)).trans hx5
          obtain ⟨P1, l1, c1, B1, cp1, rfl⟩ := hTr1.form
          have HD1 := fun W hb => Lib.hid (depth_any (leafT 0).size w8 (leafT 0) W _ (Nat.le_refl _) (by simp [leafT, Ct.size, CtSize]) hTr1 hb)
          rw [leaf_depth, show ((1 : Nat) : Int) = 1 from rfl] at HD1
          clear hTr1
          simp only [leafT, Ct.kind, Ct.rule, Ct.cs, List.length_nil] at HD1 ⊢
          have hbY := heap_alloc_new w8 (.cells #[.int .i64 1, .int .i64 0, .slice P1 l1 c1, .slice B1 0 cp1] 74)
          have hbYb := below1 w8 (.cells #[.int .i64 1, .int .i64 0, .slice P1 l1 c1, .slice B1 0 cp1] 74)
          have hYs : (w8.alloc (.cells #[.int .i64 1, .int .i64 0, .slice P1 l1 c1, .slice B1 0 cp1] 74)).heap.size = w8.heap.size + 1 := by simp
          have hbw8 := (hbw7.thenCall hbw7.size hb).thenCall (hbw7.thenCall hbw7.size hb).size hb8c
          go_wp2_with fail
          generalize w8.alloc (.cells #[.int .i64 1, .int .i64 0, .slice P1 l1 c1, .slice B1 0 cp1] 74) = Y at *
          have hbwY := hbw8.thenCall hbw8.size hbYb
          have HB2 := Lib.hid (build_any Y Y _ (.slice none 0 0) makers [] (Data.StrSl.sub HM.out (Sub.of_below hbwY)) ⟨none, 0, [], rfl, by simp, by omega, by simp, fun _ => rfl, ⟨by simp, .inl rfl⟩, by rw [RCells]⟩ (by simp) (by simp) (Below.refl _ _))
          refine HB2.out.mono ?_
          clear HB2
          rintro _ w9 ⟨T2, v2, rfl, hTo2, hTr2, hb9⟩
          obtain rfl := tree_none hTo2
          clear hTo2
          obtain ⟨P2, l2, c2, B2, cp2, rfl⟩ := hTr2.form
          have HL2 := fun W hb => Lib.hid (leaves_any failT.size w9 failT W _ (Nat.le_refl _) (by simp [failT, Ct.size, CtSize]) hTr2 hb)
          rw [fail_leaves] at HL2
          clear hTr2
          simp only [failT, Ct.kind, Ct.rule, Ct.cs, List.length_nil] at HL2 ⊢
          have hbZ := heap_alloc_new w9 (.cells #[.int .i64 0, .int .i64 0, .slice P2 l2 c2, .slice B2 0 cp2] 74)
          have hbZb := below1 w9 (.cells #[.int .i64 0, .int .i64 0, .slice P2 l2 c2, .slice B2 0 cp2] 74)
          have hZs : (w9.alloc (.cells #[.int .i64 0, .int .i64 0, .slice P2 l2 c2, .slice B2 0 cp2] 74)).heap.size = w9.heap.size + 1 := by simp
          have hb8Z := hbYb.trans ((hb9.thenCall hb9.size hbZb).mono hbYb.size)
          have hz8 := hb8c.size
          have hz9 := hb9.size
          have hbwZ := hbwY.thenCall hbwY.size (hb9.thenCall hb9.size hbZb)
          have hb5Z := hb58.trans (hb8Z.mono hb58.size)
          have hzr := hb.size
          have y1 := row4 ((hbZb.block _ (by omega)).trans ((hb9.block _ (by omega)).trans hbY))
          have y2 := row4 hbZ
          have y5 := row4 ((hb8Z.block _ (by omega)).trans hx58)
          have HD2 := HD1 _ hb8Z
          clear HD1
          have hl8 : w8.heap.size < (w9.alloc (.cells #[.int .i64 0, .int .i64 0, .slice P2 l2 c2, .slice B2 0 cp2] 74)).heap.size := by omega
          have hl9 : w9.heap.size < (w9.alloc (.cells #[.int .i64 0, .int .i64 0, .slice P2 l2 c2, .slice B2 0 cp2] 74)).heap.size := by omega
          have hl5 : w5.heap.size < (w9.alloc (.cells #[.int .i64 0, .int .i64 0, .slice P2 l2 c2, .slice B2 0 cp2] 74)).heap.size := by omega
          obtain ⟨Z, hZ⟩ : ∃ Z, Z = w9.alloc (.cells #[.int .i64 0, .int .i64 0, .slice P2 l2 c2, .slice B2 0 cp2] 74) := ⟨_, rfl⟩
          rw [← hZ] at HD2 y1 y2 y5 hl8 hl9 hl5 hbwZ hb5Z hb8Z hbZb hbZ
          have HZ := Lib.hid hZ
          clear hZ hZs
          obtain ⟨p0, p1, p2, p3⟩ := y1
          obtain ⟨q0, q1, q2, q3⟩ := y2
          obtain ⟨s0, s1, s2, s3⟩ := y5
          go_upto_region 27 with fail
          rw [← HZ.out]
          clear HZ
          have hmx : Hid (nT < max rules.length 1) := Lib.hid hors
          by_cases hr1 : (rules.length : Int) < 1
          · have hlt : (nT : Int) < 1 := by have := hmx.out; omega
            clear hors hmx
            go_wp2_with fail
            refine HD2.out.mono ?_
            clear HD2
            rintro _ w10 ⟨rfl, hb10⟩
            have r0 := cellB hb10 (Nat.le_refl _) q0
            have r1 := cellB hb10 (Nat.le_refl _) q1
            have r2 := cellB hb10 (Nat.le_refl _) q2
            have r3 := cellB hb10 (Nat.le_refl _) q3
            have t0 := cellB hb10 (Nat.le_refl _) s0
            have t1 := cellB hb10 (Nat.le_refl _) s1
            have t2 := cellB hb10 (Nat.le_refl _) s2
            have t3 := cellB hb10 (Nat.le_refl _) s3
            have hz10 := hb10.size
            have hl10 : w9.heap.size < w10.heap.size := by omega
            have hl11 : w5.heap.size < w10.heap.size := by omega
            have HL3 := HL2 _ (hbZb.thenCall hbZb.size hb10)
            have HO3 := fun W hb => HO W ((hb5Z.thenCall hb5Z.size hb10).thenCall (hb5Z.thenCall hb5Z.size hb10).size hb)
            have hbw10 := hbwZ.thenCall hbwZ.size hb10
            clear HL2 HO p0 p1 p2 p3 q0 q1 q2 q3 s0 s1 s2 s3 hl8 hl9 hl5
            go_wp2_with fail
            refine HL3.out.mono ?_
            clear HL3
            rintro _ w11 ⟨v11, rfl, hown11, hb11⟩
            unfold IntOwn at hown11
            obtain ⟨A11, c11, rfl, hc111, hc112⟩ := own_form hown11
            have q0 := cellB hb11 (Nat.le_refl _) t0
            have q1 := cellB hb11 (Nat.le_refl _) t1
            have q2 := cellB hb11 (Nat.le_refl _) t2
            have q3 := cellB hb11 (Nat.le_refl _) t3
            have hz11 := hb11.size
            have hl12 : w5.heap.size < w11.heap.size := by omega
            have HO4 := HO3 _ hb11
            have hbw11 := hbw10.thenCall hbw10.size hb11
            rw [List.length_nil] at *
            clear HO3 hown11 t0 t1 t2 t3 r0 r1 r2 r3 hl10 hl11
            go_wp2_with fail
            refine HO4.out.mono ?_
            rintro _ w12 ⟨rfl, hb12⟩
            go_wp2_with fail
            go_ret
            exact ⟨rfl, hbw11.thenCall hbw11.size hb12⟩
          · have hlt : (nT : Int) < rules.length := by have := hmx.out; omega
            clear hors hmx
            go_wp2_with fail
            refine HD2.out.mono ?_
            clear HD2
            rintro _ w10 ⟨rfl, hb10⟩
            have r0 := cellB hb10 (Nat.le_refl _) q0
            have r1 := cellB hb10 (Nat.le_refl _) q1
            have r2 := cellB hb10 (Nat.le_refl _) q2
            have r3 := cellB hb10 (Nat.le_refl _) q3
            have t0 := cellB hb10 (Nat.le_refl _) s0
            have t1 := cellB hb10 (Nat.le_refl _) s1
            have t2 := cellB hb10 (Nat.le_refl _) s2
            have t3 := cellB hb10 (Nat.le_refl _) s3
            have hz10 := hb10.size
            have hl10 : w9.heap.size < w10.heap.size := by omega
            have hl11 : w5.heap.size < w10.heap.size := by omega
            have HL3 := HL2 _ (hbZb.thenCall hbZb.size hb10)
            have HO3 := fun W hb => HO W ((hb5Z.thenCall hb5Z.size hb10).thenCall (hb5Z.thenCall hb5Z.size hb10).size hb)
            have hbw10 := hbwZ.thenCall hbwZ.size hb10
            clear HL2 HO p0 p1 p2 p3 q0 q1 q2 q3 s0 s1 s2 s3 hl8 hl9 hl5
            go_wp2_with fail
            refine HL3.out.mono ?_
            clear HL3
            rintro _ w11 ⟨v11, rfl, hown11, hb11⟩
            unfold IntOwn at hown11
            obtain ⟨A11, c11, rfl, hc111, hc112⟩ := own_form hown11
            have q0 := cellB hb11 (Nat.le_refl _) t0
            have q1 := cellB hb11 (Nat.le_refl _) t1
            have q2 := cellB hb11 (Nat.le_refl _) t2
            have q3 := cellB hb11 (Nat.le_refl _) t3
            have hz11 := hb11.size
            have hl12 : w5.heap.size < w11.heap.size := by omega
            have HO4 := HO3 _ hb11
            have hbw11 := hbw10.thenCall hbw10.size hb11
            rw [List.length_nil] at *
            clear HO3 hown11 t0 t1 t2 t3 r0 r1 r2 r3 hl10 hl11
            go_wp2_with fail
            refine HO4.out.mono ?_
            rintro _ w12 ⟨rfl, hb12⟩
            go_wp2_with fail
            go_ret
            exact ⟨rfl, hbw11.thenCall hbw11.size hb12⟩
end Go.Proofs.Ytnaakhnmbckpmaa.Pats
