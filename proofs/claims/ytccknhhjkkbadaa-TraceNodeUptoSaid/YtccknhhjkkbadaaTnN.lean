/- Contract: trace.Node. -/
import Derived.Test.YtccknhhjkkbadaaTnA
import Derived.Test.YtccknhhjkkbadaaWord
import Derived.Test.YtccknhhjkkbadaaGr
import Derived.Deep.DeepCutAuto
namespace Go.Proofs.Ytccknhhjkkbadaa.Tn
open Go.ChangeShapes Go.WideShapes Go.ChangeAt Go.RowKit Go.Proofs.Ytccknhhjkkbadaa.Lift Go.Proofs.Ytccknhhjkkbadaa.Arn Go.Proofs.Ytccknhhjkkbadaa.ArnN Go.Proofs.Ytccknhhjkkbadaa.Gr Go.Proofs.Ytccknhhjkkbadaa.Dig
set_option linter.unusedVariables false
set_option linter.unusedSimpArgs false
theorem tl_ne' {p : ByteArray} (h : p ≠ ⟨#[]⟩) : ¬ p.toList = [] ∧ p.toList.isEmpty = false := by
  have h0 : ¬ p.toList = [] := fun e => h (by rw [ByteArray.toList_eq] at e; exact Go.WideShapes.bytes_inj (b := ⟨#[]⟩) e)
  exact ⟨h0, by simpa using h0⟩
open Classical in
/-- a kind's word. -/
noncomputable def wrd (k : Int) : ByteArray := if wordOf k = ⟨#[]⟩ then ⟨#[63]⟩ else wordOf k
theorem wrd_len (k : Int) : (wrd k).data.toList.length ≤ 10 := by
  unfold wrd
  by_cases h : wordOf k = ⟨#[]⟩
  · rw [if_pos h]; decide
  · rw [if_neg h]
    unfold wordOf
    by_cases h0 : k < 0
    · rw [if_pos h0]; decide
    · rw [if_neg h0]
      by_cases h1 : k.toNat < wordsL.length
      · have : ∀ x ∈ wordsL, x.length ≤ 10 := by decide
        have := this _ (List.getElem_mem h1)
        simpa [List.getD, List.getElem?_eq_getElem h1] using this
      · simp [List.getD, List.getElem?_eq_none (Nat.le_of_not_lt h1)]
@[reducible] def dg (a : Int) : ByteArray := ⟨(digS a).toArray⟩
theorem box43 {V z : World} {b : Nat} {v0 v1 v2 : Value} (h : V.heap[b]? = some (.cells #[v0, v1, v2] 43)) (hz : Below V.heap.size V z) :
    z.cell? ⟨b, 0, none⟩ = some v0 ∧ z.cell? ⟨b, 1, none⟩ = some v1 ∧ z.cell? ⟨b, 2, none⟩ = some v2 := by
  have := (hz.block _ (Array.getElem?_eq_some_iff.1 h).1).trans h
  refine ⟨?_, ?_, ?_⟩ <;> simp [World.cell?, this]
/-- the words of a node's line. -/
noncomputable def nodeWs (i k n : Int) (l : List Int) : List ByteArray := (dg i ++ ⟨#[58]⟩) :: wrd k :: ((if numB k then [dg n] else []) ++ l.map dg)
noncomputable def nodeS (i k n : Int) (l : List Int) : List UInt8 := Lib.join ((nodeWs i k n l).map (·.data.toList)) [32]
theorem i64_of {n : Int} (h : W64 n) : -9223372036854775808 ≤ n ∧ n ≤ 9223372036854775807 := by
  unfold W64 Lit.wf at h
  simp [IntKind.min, IntKind.max, IntKind.bits, IntKind.signed] at h
  omega
theorem words_own {w : World} {B : Nat} {xs : List ByteArray} {k Lb : Nat} (h : WordsAt w B Lb k (xs.map Value.string)) (hk : k = xs.length) (h0 : 0 < k) : ∃ g cv, w.cell? ⟨Lb, 0, none⟩ = some (.slice (some ⟨g, 0, none⟩) xs.length cv) ∧ (∀ (j : Nat) x, xs[j]? = some x → w.cell? ⟨g, 0 + j, none⟩ = some (.string x)) ∧ g < w.heap.size ∧ xs.length ≤ cv := by
  subst hk
  obtain ⟨Av, cv, h1, h2⟩ := h
  rcases h2.2 with ⟨_, e⟩ | ⟨g, cap, cur, hv, a2, a3, a4, a5, a6, a7⟩
  · omega
  · injection hv with e1 e2 e3
    subst e1 e3
    refine ⟨g, cv, cellOf2 h1, fun j x hx => ?_, (Array.getElem?_eq_some_iff.1 a3).1, a4⟩
    have hj := (List.getElem?_eq_some_iff.1 hx).1
    have := h2.cellAt j (by omega)
    rw [Nat.zero_add, this, List.getElem?_map, hx]
    rfl
section
variable {w : World} {F : Nat → Prop} {gg g : Nat} {xs : List Nd} {us : List Bool} {low most : Nat}
set_option maxRecDepth 100000 in
set_option maxHeartbeats 4000000 in
theorem node_any (i : Int) (hi : W64 i) (l : List Int) (h : Gr w F gg g xs us low most) (ha : Args w (getX xs us i) l) (hp : W64s (getX xs us i).n l) : Calls Try.prog 45 #[.pointer (some ⟨gg, 0, none⟩), .int .i64 i] w fun e w' => e = .returned (.string ⟨(nodeS i (getX xs us i).k (getX xs us i).n l).toArray⟩) ∧ Below w.heap.size w w' := by
  have HG := gget_any i l h ha
  generalize getX xs us i = x at *
  generalize hasB us i = bb at *
  obtain ⟨k, n, xA, xl, xc⟩ := x
  dsimp only at *
  have hl := ha.2.2.1
  have HG := Lib.hid HG
  have HI := i64_of hi
  have HN := i64_of hp.1
  have HP := Lib.hid hp
  have HD := Lib.hid (fun y => digits_any i y HI.1 HI.2)
  have HW := Lib.hid (fun y => word_any k y)
  have HNb := Lib.hid (fun y => numbered_any k y)
  have L1 := Fg.digS_len (n := i) HI
  have hwl := wrd_len k
  have HJL : Hid (∀ ws : List ByteArray, (∀ x ∈ ws, x.data.toList.length ≤ 22) → ws.length ≤ 1048580 → (Lib.join (ws.map (·.data.toList)) [32]).length ≤ 140737488355328) := Lib.hid (fun ws h1 h2 => by
    cases ws with
    | nil => simp [Lib.join]
    | cons a r =>
      rw [List.map_cons, Lib.join_length, ← List.map_cons (f := fun b : ByteArray => b.data.toList)]
      have := Fg.lens_le (fun b : ByteArray => b.data.toList) 22 (a :: r) h1
      simp only [List.length_cons, List.length_nil, List.length_map] at this h2 ⊢
      omega)
  clear h ha hi hp
  go_enter Try.func45, Try.ntmps45
  go_wp2_with fail
  refine HG.out.mono ?_
  rintro _ w1 ⟨A', cap', rfl, a2, bl2, q1⟩
  have hal := (Below.refl w1.heap.size w1).alloc (Nat.le_refl _) (.cells #[.int .i64 k, .int .i64 n, .slice A' l.length cap'] 43)
  have hn1 := heap_alloc_new w1 (.cells #[.int .i64 k, .int .i64 n, .slice A' l.length cap'] 43)
  have ha1 := a2.below hal
  have hq1 := q1.thenCall q1.size hal
  obtain ⟨W1, hW1⟩ : ∃ W1, W1 = w1.alloc (.cells #[.int .i64 k, .int .i64 n, .slice A' l.length cap'] 43) := ⟨_, rfl⟩
  rw [← hW1] at hn1 ha1 hq1
  have HW1 := Lib.hid hW1
  have hz1 := (Array.getElem?_eq_some_iff.1 hn1).1
  have CB := Lib.hid (fun y (hy : Below W1.heap.size W1 y) => box43 hn1 hy)
  clear hW1 hal a2 bl2 q1 HG hn1
  go_wp2_with fail
  rw [← HW1.out]
  obtain ⟨k0, k1, k2⟩ := CB.out W1 (Below.refl _ _)
  go_wp2_with fail
  refine (HW.out W1).mono ?_
  rintro _ w2 ⟨rfl, q2⟩
  clear k0 k1 k2
  have HW1s := hq1.size
  by_cases hwd : wordOf k = ⟨#[]⟩
  · have HWD : Hid (wrd k = ⟨#[63]⟩) := Lib.hid (by unfold wrd; rw [if_pos hwd])
    rw [hwd]
    clear hwd
    go_wp2_with fail
    refine (HD.out _).mono ?_
    rintro _ w3 ⟨rfl, q3⟩
    have q23 := q2.thenCall q2.size q3
    have t1 : (digS i).length ≤ 9223372036854775806 := by omega
    obtain ⟨s1, HS1⟩ : ∃ s1 : ByteArray, Hid (s1 = (⟨(digS i).toArray⟩ ++ ⟨#[58]⟩ : ByteArray)) := ⟨_, Lib.hid rfl⟩
    have hWA : WordsAt ((w3.alloc (.cells #[.string s1, .string (⟨#[63]⟩ : ByteArray)] 9)).alloc (.cells #[.slice (some ⟨w3.heap.size, 0, none⟩) 2 2] 61)) w3.heap.size (w3.heap.size + 1) 2 ([s1, (⟨#[63]⟩ : ByteArray)].map Value.string) := by
      refine ⟨some ⟨w3.heap.size, 0, none⟩, 2, ?_, ?_⟩
      · have := heap_alloc_new (w3.alloc (.cells #[.string s1, .string (⟨#[63]⟩ : ByteArray)] 9)) (.cells #[.slice (some ⟨w3.heap.size, 0, none⟩) 2 2] 61)
        rwa [World.size_alloc] at this
      · exact own_below (own_new w3 9 1 2 #[.string s1, .string (⟨#[63]⟩ : ByteArray)] rfl (by omega)) ((Below.refl _ _).alloc (Nat.le_refl _) _) (Nat.le_refl _)
    have hb4 : Below w3.heap.size w3 ((w3.alloc (.cells #[.string s1, .string (⟨#[63]⟩ : ByteArray)] 9)).alloc (.cells #[.slice (some ⟨w3.heap.size, 0, none⟩) 2 2] 61)) := ((Below.refl _ _).alloc (Nat.le_refl _) _).alloc (by simp) _
    obtain ⟨W4, hW4⟩ : ∃ W4, W4 = (w3.alloc (.cells #[.string s1, .string (⟨#[63]⟩ : ByteArray)] 9)).alloc (.cells #[.slice (some ⟨w3.heap.size, 0, none⟩) 2 2] 61) := ⟨_, rfl⟩
    rw [← hW4] at hWA hb4
    have HW4 := Lib.hid hW4
    have HWA := Lib.hid hWA
    have q14 := q23.thenCall q23.size hb4
    clear hW4 hWA
    go_upto_region 7 with fail
    rw [← HS1.out, ← HW4.out]
    obtain ⟨k0, k1, k2⟩ := CB.out W4 q14
    go_wp2_with fail
    refine (HNb.out W4).mono ?_
    rintro _ w5 ⟨rfl, rfl⟩
    have hLb : w3.heap.size ≤ w3.heap.size + 1 := Nat.le_succ _
    cases hnb : numB k with
    | false =>
      have HFW : Hid (nodeWs i k n l = [s1, (⟨#[63]⟩ : ByteArray)] ++ l.map dg) := Lib.hid (by unfold nodeWs; rw [hnb, HWD.out, HS1.out]; rfl)
      clear hnb
      go_wp2_with fail
      have HLEN : Hid (∀ x, (x = s1 ∨ x = (⟨#[63]⟩ : ByteArray)) ∨ (∃ a ∈ l, dg a = x) → x.data.toList.length ≤ 22) := Lib.hid (fun x hx => by
        rcases hx with (rfl | rfl) | ⟨a, h1, rfl⟩
        · rw [HS1.out, ba_app]; simp; omega
        · rw [HWD.out] at hwl; omega
        · have := Fg.digS_len (i64_of (HP.out.2 a h1)); simp; omega)
      go_loopw [39] (fun c wr => ∃ j : Nat, c = .int .i64 j ∧ j ≤ l.length ∧ Hid (WordsAt wr w3.heap.size (w3.heap.size + 1) (2 + j) (([s1, (⟨#[63]⟩ : ByteArray)] ++ (l.take j).map dg).map Value.string)) ∧ Below w3.heap.size w3 wr) (fun c _ => l.length - (intOf c).toNat)
      case atStart => exact ⟨0, rfl, Nat.zero_le _, Lib.hid (by have := HWA.out; simpa using this), hb4⟩
      case round =>
        obtain ⟨j, rfl, hj, hWr, hbr⟩ := hrel
        have q1r : Below W1.heap.size W1 wr := q23.trans (hbr.mono q23.size)
        by_cases hlt : j < l.length
        · obtain ⟨b, o, rfl, hbl, hc⟩ := ha1.2.1 j hlt
          have hcr := (q1r.cell (p := ⟨b, o + j, none⟩) hbl).trans hc
          rw [show l.getD j 0 = l[j] by simp [List.getD, List.getElem?_eq_getElem hlt]] at hcr
          have HT : Hid (([s1, (⟨#[63]⟩ : ByteArray)] ++ (l.take (j + 1)).map dg).map Value.string = ([s1, (⟨#[63]⟩ : ByteArray)] ++ (l.take j).map dg).map Value.string ++ [.string (dg l[j])]) := Lib.hid (by rw [List.take_succ_eq_append_getElem hlt, List.map_append, List.map_append, List.map_append, List.map_append, List.append_assoc]; rfl)
          have HB := i64_of (HP.out.2 l[j] (List.getElem_mem hlt))
          have HA2 := Lib.hid (add_any l[j] wr w3.heap.size (w3.heap.size + 1) (2 + j) _ HB.1 HB.2 hWr.out (by omega) hLb)
          clear hc k0 k1 k2
          generalize l[j] = z at *
          go_wp2_with (go_at_call 92; refine HA2.out.mono ?_; rintro e7 w7 ⟨⟨v7, rfl⟩, hWA7, q7, z7⟩)
          exact ⟨⟨j + 1, by go_num, by omega, Lib.hid (by rw [HT.out]; exact hWA7), hbr.trans q7⟩, by simp [intOf]; omega⟩
        · have hE := hWr.out
          rw [List.take_of_length_le (by omega), ← HFW.out] at hE
          have hjl : 2 + j = (nodeWs i k n l).length := by rw [HFW.out]; simp; omega
          obtain ⟨g9, c9, z1, z2, z3, z4⟩ := words_own hE hjl (by omega)
          have HJ := Lib.hid (Try.strings_Join g9 0 c9 (nodeWs i k n l) ⟨#[32]⟩ wr z2 z3 (by rw [← hjl]; omega) z4 (HJL.out _ (fun x hx => by
            rw [HFW.out] at hx
            simp only [List.mem_append, List.mem_cons, List.not_mem_nil, or_false, List.mem_map] at hx
            exact HLEN.out x hx) (by rw [← hjl]; omega)))
          clear hE z2 z3 z4 hWr k0 k1 k2
          generalize (nodeWs i k n l).length = nl at *
          go_wp2_with fail
          refine HJ.out.mono ?_
          rintro _ w9 ⟨rfl, q9⟩
          go_wp2_with fail
          go_ret
          exact ⟨rfl, (hq1.thenCall hq1.size q1r).thenCall (Nat.le_trans hq1.size q1r.size) q9⟩
    | true =>
      have HFW : Hid (nodeWs i k n l = [s1, (⟨#[63]⟩ : ByteArray), dg n] ++ l.map dg) := Lib.hid (by unfold nodeWs; rw [hnb, HWD.out, HS1.out]; rfl)
      have HA := Lib.hid (add_any n W4 w3.heap.size (w3.heap.size + 1) 2 _ HN.1 HN.2 HWA.out (by omega) hLb)
      clear hnb
      go_wp2_with fail
      refine HA.out.mono ?_
      rintro e5 w6 ⟨⟨v6, rfl⟩, hWA6, q6, z6⟩
      have HWA6 : Hid (WordsAt w6 w3.heap.size (w3.heap.size + 1) 3 ([s1, (⟨#[63]⟩ : ByteArray), dg n].map Value.string)) := Lib.hid hWA6
      have hb6 : Below w3.heap.size w3 w6 := hb4.trans q6
      have q16 : Below W1.heap.size W1 w6 := q23.trans (hb6.mono q23.size)
      clear hWA6 k0 k1 k2
      obtain ⟨k0, k1, k2⟩ := CB.out w6 q16
      go_wp2_with fail
      have HLEN : Hid (∀ x, (x = s1 ∨ x = (⟨#[63]⟩ : ByteArray) ∨ x = dg n) ∨ (∃ a ∈ l, dg a = x) → x.data.toList.length ≤ 22) := Lib.hid (fun x hx => by
        rcases hx with (rfl | rfl | rfl) | ⟨a, h1, rfl⟩
        · rw [HS1.out, ba_app]; simp; omega
        · rw [HWD.out] at hwl; omega
        · have := Fg.digS_len HN; simp; omega
        · have := Fg.digS_len (i64_of (HP.out.2 a h1)); simp; omega)
      go_loopw [39] (fun c wr => ∃ j : Nat, c = .int .i64 j ∧ j ≤ l.length ∧ Hid (WordsAt wr w3.heap.size (w3.heap.size + 1) (3 + j) (([s1, (⟨#[63]⟩ : ByteArray), dg n] ++ (l.take j).map dg).map Value.string)) ∧ Below w3.heap.size w3 wr) (fun c _ => l.length - (intOf c).toNat)
      case atStart => exact ⟨0, rfl, Nat.zero_le _, Lib.hid (by have := HWA6.out; simpa using this), hb6⟩
      case round =>
        obtain ⟨j, rfl, hj, hWr, hbr⟩ := hrel
        have q1r : Below W1.heap.size W1 wr := q23.trans (hbr.mono q23.size)
        by_cases hlt : j < l.length
        · obtain ⟨b, o, rfl, hbl, hc⟩ := ha1.2.1 j hlt
          have hcr := (q1r.cell (p := ⟨b, o + j, none⟩) hbl).trans hc
          rw [show l.getD j 0 = l[j] by simp [List.getD, List.getElem?_eq_getElem hlt]] at hcr
          have HT : Hid (([s1, (⟨#[63]⟩ : ByteArray), dg n] ++ (l.take (j + 1)).map dg).map Value.string = ([s1, (⟨#[63]⟩ : ByteArray), dg n] ++ (l.take j).map dg).map Value.string ++ [.string (dg l[j])]) := Lib.hid (by rw [List.take_succ_eq_append_getElem hlt, List.map_append, List.map_append, List.map_append, List.map_append, List.append_assoc]; rfl)
          have HB := i64_of (HP.out.2 l[j] (List.getElem_mem hlt))
          have HA2 := Lib.hid (add_any l[j] wr w3.heap.size (w3.heap.size + 1) (3 + j) _ HB.1 HB.2 hWr.out (by omega) hLb)
          clear hc k0 k1 k2
          generalize l[j] = z at *
          go_wp2_with (go_at_call 92; refine HA2.out.mono ?_; rintro e7 w7 ⟨⟨v7, rfl⟩, hWA7, q7, z7⟩)
          exact ⟨⟨j + 1, by go_num, by omega, Lib.hid (by rw [HT.out]; exact hWA7), hbr.trans q7⟩, by simp [intOf]; omega⟩
        · have hE := hWr.out
          rw [List.take_of_length_le (by omega), ← HFW.out] at hE
          have hjl : 3 + j = (nodeWs i k n l).length := by rw [HFW.out]; simp; omega
          obtain ⟨g9, c9, z1, z2, z3, z4⟩ := words_own hE hjl (by omega)
          have HJ := Lib.hid (Try.strings_Join g9 0 c9 (nodeWs i k n l) ⟨#[32]⟩ wr z2 z3 (by rw [← hjl]; omega) z4 (HJL.out _ (fun x hx => by
            rw [HFW.out] at hx
            simp only [List.mem_append, List.mem_cons, List.not_mem_nil, or_false, List.mem_map] at hx
            exact HLEN.out x hx) (by rw [← hjl]; omega)))
          clear hE z2 z3 z4 hWr k0 k1 k2
          generalize (nodeWs i k n l).length = nl at *
          go_wp2_with fail
          refine HJ.out.mono ?_
          rintro _ w9 ⟨rfl, q9⟩
          go_wp2_with fail
          go_ret
          exact ⟨rfl, (hq1.thenCall hq1.size q1r).thenCall (Nat.le_trans hq1.size q1r.size) q9⟩
  · have HWD : Hid (wrd k = wordOf k) := Lib.hid (by unfold wrd; rw [if_neg hwd])
    obtain ⟨u0, u1⟩ := tl_ne' hwd
    clear hwd
    generalize wordOf k = p at *
    go_wp2_with fail
    refine (HD.out _).mono ?_
    rintro _ w3 ⟨rfl, q3⟩
    have q23 := q2.thenCall q2.size q3
    have t1 : (digS i).length ≤ 9223372036854775806 := by omega
    obtain ⟨s1, HS1⟩ : ∃ s1 : ByteArray, Hid (s1 = (⟨(digS i).toArray⟩ ++ ⟨#[58]⟩ : ByteArray)) := ⟨_, Lib.hid rfl⟩
    have hWA : WordsAt ((w3.alloc (.cells #[.string s1, .string p] 9)).alloc (.cells #[.slice (some ⟨w3.heap.size, 0, none⟩) 2 2] 61)) w3.heap.size (w3.heap.size + 1) 2 ([s1, p].map Value.string) := by
      refine ⟨some ⟨w3.heap.size, 0, none⟩, 2, ?_, ?_⟩
      · have := heap_alloc_new (w3.alloc (.cells #[.string s1, .string p] 9)) (.cells #[.slice (some ⟨w3.heap.size, 0, none⟩) 2 2] 61)
        rwa [World.size_alloc] at this
      · exact own_below (own_new w3 9 1 2 #[.string s1, .string p] rfl (by omega)) ((Below.refl _ _).alloc (Nat.le_refl _) _) (Nat.le_refl _)
    have hb4 : Below w3.heap.size w3 ((w3.alloc (.cells #[.string s1, .string p] 9)).alloc (.cells #[.slice (some ⟨w3.heap.size, 0, none⟩) 2 2] 61)) := ((Below.refl _ _).alloc (Nat.le_refl _) _).alloc (by simp) _
    obtain ⟨W4, hW4⟩ : ∃ W4, W4 = (w3.alloc (.cells #[.string s1, .string p] 9)).alloc (.cells #[.slice (some ⟨w3.heap.size, 0, none⟩) 2 2] 61) := ⟨_, rfl⟩
    rw [← hW4] at hWA hb4
    have HW4 := Lib.hid hW4
    have HWA := Lib.hid hWA
    have q14 := q23.thenCall q23.size hb4
    clear hW4 hWA
    go_upto_region 7 with fail
    rw [← HS1.out, ← HW4.out]
    obtain ⟨k0, k1, k2⟩ := CB.out W4 q14
    go_wp2_with fail
    refine (HNb.out W4).mono ?_
    rintro _ w5 ⟨rfl, rfl⟩
    have hLb : w3.heap.size ≤ w3.heap.size + 1 := Nat.le_succ _
    cases hnb : numB k with
    | false =>
      have HFW : Hid (nodeWs i k n l = [s1, p] ++ l.map dg) := Lib.hid (by unfold nodeWs; rw [hnb, HWD.out, HS1.out]; rfl)
      clear hnb
      go_wp2_with fail
      have HLEN : Hid (∀ x, (x = s1 ∨ x = p) ∨ (∃ a ∈ l, dg a = x) → x.data.toList.length ≤ 22) := Lib.hid (fun x hx => by
        rcases hx with (rfl | rfl) | ⟨a, h1, rfl⟩
        · rw [HS1.out, ba_app]; simp; omega
        · rw [HWD.out] at hwl; omega
        · have := Fg.digS_len (i64_of (HP.out.2 a h1)); simp; omega)
      go_loopw [39] (fun c wr => ∃ j : Nat, c = .int .i64 j ∧ j ≤ l.length ∧ Hid (WordsAt wr w3.heap.size (w3.heap.size + 1) (2 + j) (([s1, p] ++ (l.take j).map dg).map Value.string)) ∧ Below w3.heap.size w3 wr) (fun c _ => l.length - (intOf c).toNat)
      case atStart => exact ⟨0, rfl, Nat.zero_le _, Lib.hid (by have := HWA.out; simpa using this), hb4⟩
      case round =>
        obtain ⟨j, rfl, hj, hWr, hbr⟩ := hrel
        have q1r : Below W1.heap.size W1 wr := q23.trans (hbr.mono q23.size)
        by_cases hlt : j < l.length
        · obtain ⟨b, o, rfl, hbl, hc⟩ := ha1.2.1 j hlt
          have hcr := (q1r.cell (p := ⟨b, o + j, none⟩) hbl).trans hc
          rw [show l.getD j 0 = l[j] by simp [List.getD, List.getElem?_eq_getElem hlt]] at hcr
          have HT : Hid (([s1, p] ++ (l.take (j + 1)).map dg).map Value.string = ([s1, p] ++ (l.take j).map dg).map Value.string ++ [.string (dg l[j])]) := Lib.hid (by rw [List.take_succ_eq_append_getElem hlt, List.map_append, List.map_append, List.map_append, List.map_append, List.append_assoc]; rfl)
          have HB := i64_of (HP.out.2 l[j] (List.getElem_mem hlt))
          have HA2 := Lib.hid (add_any l[j] wr w3.heap.size (w3.heap.size + 1) (2 + j) _ HB.1 HB.2 hWr.out (by omega) hLb)
          clear hc k0 k1 k2
          generalize l[j] = z at *
          go_wp2_with (go_at_call 92; refine HA2.out.mono ?_; rintro e7 w7 ⟨⟨v7, rfl⟩, hWA7, q7, z7⟩)
          exact ⟨⟨j + 1, by go_num, by omega, Lib.hid (by rw [HT.out]; exact hWA7), hbr.trans q7⟩, by simp [intOf]; omega⟩
        · have hE := hWr.out
          rw [List.take_of_length_le (by omega), ← HFW.out] at hE
          have hjl : 2 + j = (nodeWs i k n l).length := by rw [HFW.out]; simp; omega
          obtain ⟨g9, c9, z1, z2, z3, z4⟩ := words_own hE hjl (by omega)
          have HJ := Lib.hid (Try.strings_Join g9 0 c9 (nodeWs i k n l) ⟨#[32]⟩ wr z2 z3 (by rw [← hjl]; omega) z4 (HJL.out _ (fun x hx => by
            rw [HFW.out] at hx
            simp only [List.mem_append, List.mem_cons, List.not_mem_nil, or_false, List.mem_map] at hx
            exact HLEN.out x hx) (by rw [← hjl]; omega)))
          clear hE z2 z3 z4 hWr k0 k1 k2
          generalize (nodeWs i k n l).length = nl at *
          go_wp2_with fail
          refine HJ.out.mono ?_
          rintro _ w9 ⟨rfl, q9⟩
          go_wp2_with fail
          go_ret
          exact ⟨rfl, (hq1.thenCall hq1.size q1r).thenCall (Nat.le_trans hq1.size q1r.size) q9⟩
    | true =>
      have HFW : Hid (nodeWs i k n l = [s1, p, dg n] ++ l.map dg) := Lib.hid (by unfold nodeWs; rw [hnb, HWD.out, HS1.out]; rfl)
      have HA := Lib.hid (add_any n W4 w3.heap.size (w3.heap.size + 1) 2 _ HN.1 HN.2 HWA.out (by omega) hLb)
      clear hnb
      go_wp2_with fail
      refine HA.out.mono ?_
      rintro e5 w6 ⟨⟨v6, rfl⟩, hWA6, q6, z6⟩
      have HWA6 : Hid (WordsAt w6 w3.heap.size (w3.heap.size + 1) 3 ([s1, p, dg n].map Value.string)) := Lib.hid hWA6
      have hb6 : Below w3.heap.size w3 w6 := hb4.trans q6
      have q16 : Below W1.heap.size W1 w6 := q23.trans (hb6.mono q23.size)
      clear hWA6 k0 k1 k2
      obtain ⟨k0, k1, k2⟩ := CB.out w6 q16
      go_wp2_with fail
      have HLEN : Hid (∀ x, (x = s1 ∨ x = p ∨ x = dg n) ∨ (∃ a ∈ l, dg a = x) → x.data.toList.length ≤ 22) := Lib.hid (fun x hx => by
        rcases hx with (rfl | rfl | rfl) | ⟨a, h1, rfl⟩
        · rw [HS1.out, ba_app]; simp; omega
        · rw [HWD.out] at hwl; omega
        · have := Fg.digS_len HN; simp; omega
        · have := Fg.digS_len (i64_of (HP.out.2 a h1)); simp; omega)
      go_loopw [39] (fun c wr => ∃ j : Nat, c = .int .i64 j ∧ j ≤ l.length ∧ Hid (WordsAt wr w3.heap.size (w3.heap.size + 1) (3 + j) (([s1, p, dg n] ++ (l.take j).map dg).map Value.string)) ∧ Below w3.heap.size w3 wr) (fun c _ => l.length - (intOf c).toNat)
      case atStart => exact ⟨0, rfl, Nat.zero_le _, Lib.hid (by have := HWA6.out; simpa using this), hb6⟩
      case round =>
        obtain ⟨j, rfl, hj, hWr, hbr⟩ := hrel
        have q1r : Below W1.heap.size W1 wr := q23.trans (hbr.mono q23.size)
        by_cases hlt : j < l.length
        · obtain ⟨b, o, rfl, hbl, hc⟩ := ha1.2.1 j hlt
          have hcr := (q1r.cell (p := ⟨b, o + j, none⟩) hbl).trans hc
          rw [show l.getD j 0 = l[j] by simp [List.getD, List.getElem?_eq_getElem hlt]] at hcr
          have HT : Hid (([s1, p, dg n] ++ (l.take (j + 1)).map dg).map Value.string = ([s1, p, dg n] ++ (l.take j).map dg).map Value.string ++ [.string (dg l[j])]) := Lib.hid (by rw [List.take_succ_eq_append_getElem hlt, List.map_append, List.map_append, List.map_append, List.map_append, List.append_assoc]; rfl)
          have HB := i64_of (HP.out.2 l[j] (List.getElem_mem hlt))
          have HA2 := Lib.hid (add_any l[j] wr w3.heap.size (w3.heap.size + 1) (3 + j) _ HB.1 HB.2 hWr.out (by omega) hLb)
          clear hc k0 k1 k2
          generalize l[j] = z at *
          go_wp2_with (go_at_call 92; refine HA2.out.mono ?_; rintro e7 w7 ⟨⟨v7, rfl⟩, hWA7, q7, z7⟩)
          exact ⟨⟨j + 1, by go_num, by omega, Lib.hid (by rw [HT.out]; exact hWA7), hbr.trans q7⟩, by simp [intOf]; omega⟩
        · have hE := hWr.out
          rw [List.take_of_length_le (by omega), ← HFW.out] at hE
          have hjl : 3 + j = (nodeWs i k n l).length := by rw [HFW.out]; simp; omega
          obtain ⟨g9, c9, z1, z2, z3, z4⟩ := words_own hE hjl (by omega)
          have HJ := Lib.hid (Try.strings_Join g9 0 c9 (nodeWs i k n l) ⟨#[32]⟩ wr z2 z3 (by rw [← hjl]; omega) z4 (HJL.out _ (fun x hx => by
            rw [HFW.out] at hx
            simp only [List.mem_append, List.mem_cons, List.not_mem_nil, or_false, List.mem_map] at hx
            exact HLEN.out x hx) (by rw [← hjl]; omega)))
          clear hE z2 z3 z4 hWr k0 k1 k2
          generalize (nodeWs i k n l).length = nl at *
          go_wp2_with fail
          refine HJ.out.mono ?_
          rintro _ w9 ⟨rfl, q9⟩
          go_wp2_with fail
          go_ret
          exact ⟨rfl, (hq1.thenCall hq1.size q1r).thenCall (Nat.le_trans hq1.size q1r.size) q9⟩
end
end Go.Proofs.Ytccknhhjkkbadaa.Tn
