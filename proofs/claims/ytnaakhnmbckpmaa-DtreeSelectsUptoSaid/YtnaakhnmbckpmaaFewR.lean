/- Contract: whether rules are few. -/
import Derived.Test.YtnaakhnmbckpmaaCt
import Derived.Test.YtnaakhnmbckpmaaPtn
namespace Go.Proofs.Ytnaakhnmbckpmaa.Pats
open Go.ChangeShapes Go.WideShapes Go.ChangeAt Go.RowKit Go.Proofs.Ytnaakhnmbckpmaa.Lift Go.Proofs.Ytnaakhnmbckpmaa.Data Go.Proofs.Ytnaakhnmbckpmaa.Refs Go.Proofs.Ytnaakhnmbckpmaa.Strs
set_option linter.unusedVariables false
set_option linter.unusedSimpArgs false
/-- what is known of a rule that is few. -/
def RuleOk (n : Nat) (l : List Ex) : Prop := fewEx l = true ∧ l.length ≤ 4 ∧ l.length = n ∧ patsS l = true
theorem all_take_succ {α : Type} {P : α → Prop} {ls : List α} {j : Nat} (h : j < ls.length) (h1 : ∀ l ∈ ls.take j, P l) (h2 : P ls[j]) : ∀ l ∈ ls.take (j + 1), P l := by
  intro l hl
  rw [List.take_succ_eq_append_getElem h, List.mem_append, List.mem_singleton] at hl
  rcases hl with hl | rfl
  · exact h1 l hl
  · exact h2
theorem patsS_all : ∀ {l : List Ex}, (∀ e ∈ l, patS e = true) → patsS l = true
  | [], _ => by rw [patsS]
  | e :: r, h => by rw [patsS, h e (List.mem_cons_self ..), patsS_all (fun x hx => h x (List.mem_cons_of_mem _ hx))]; rfl
set_option maxRecDepth 100000 in
set_option maxHeartbeats 4000000 in
theorem fewR_any (w0 w : World) (rv : Value) (rules : List (List Ex)) (hR : RS w0 rv rules) (hm : ∀ l ∈ rules, ExSize l ≤ 1048576) (h0 : Below w0.heap.size w0 w) :
    Calls Try.prog 38 #[rv] w fun r w' => ∃ b : Bool, r = .returned (.bool b) ∧ (b = true → rules.length ≤ 8 ∧ ∀ l ∈ rules, RuleOk (rules.getD 0 []).length l) ∧ Below w.heap.size w w' := by
  obtain ⟨A, cap, xs, rfl, r1, r2, r3, r4, r5, r6⟩ := hR
  go_enter Try.func38, Try.ntmps38
  go_wp2_with fail
  go_loopw [9] (fun i wr => ∃ j : Nat, i = .int .i64 j ∧ j ≤ rules.length ∧ Hid (∀ l ∈ rules.take j, RuleOk (rules.getD 0 []).length l) ∧ Below w.heap.size w wr) (fun i _ => rules.length - (intOf i).toNat)
  case atStart => exact ⟨0, rfl, Nat.zero_le _, Lib.hid (by simp), Below.refl _ _⟩
  case round =>
    obtain ⟨j, rfl, hj, hok, hb⟩ := hrel
    by_cases hlt : j < rules.length
    · obtain ⟨b, o, lv, rfl, hbl, hc, hsl⟩ := RS_get r5 r6 j hlt
      obtain ⟨b', o', lv0, e9, hbl0, hc0, hsl0⟩ := RS_get r5 r6 0 (by omega)
      cases e9
      have hb0 := h0.trans (hb.mono h0.size)
      have d0 := cellB hb0 (Nat.le_refl _) hc
      have d1 := cellB hb0 (Nat.le_refl _) hc0
      rw [Nat.add_zero] at d1
      have HSL := Lib.hid hsl
      have HNX : Hid (RuleOk (rules.getD 0 []).length rules[j] → ∀ l ∈ rules.take (j + 1), RuleOk (rules.getD 0 []).length l) := Lib.hid (fun h => all_take_succ hlt hok.out h)
      have hn0 : (rules.getD 0 []).length = rules[0].length := by simp [List.getD, List.getElem?_eq_getElem (show 0 < rules.length by omega)]
      rw [hn0] at HNX
      have hml := hm rules[j] (List.getElem_mem hlt)
      obtain ⟨A0, cap0, rfl, -⟩ := hsl0
      generalize rules[0].length = n0 at *
      have HN0 := Lib.hid hn0
      clear hn0
      generalize rules[j] = l at *
      obtain ⟨Al, capl, rfl, ⟨l1, l2, l3, l4⟩, hs⟩ := hsl
      have HF := Lib.hid (fewEx_any w0 l wr _ HSL.out hml hb0)
      have hpos : (0 : Int) < rules.length := by omega
      clear hc hc0
      cases hf : fewEx l with
      | false =>
        rw [hf] at HF
        go_wp2_with fail
        refine HF.out.mono ?_
        rintro _ w1 ⟨rfl, hb1⟩
        go_wp2_with fail
        go_ret
        exact ⟨_, rfl, (fun h => by cases h), hb.thenCall hb.size hb1⟩
      | true =>
        rw [hf] at HF
        by_cases h4n : ¬ (l.length ≤ 4)
        · have hg4 : (4 : Int) < l.length := by omega
          go_wp2_with fail
          refine HF.out.mono ?_
          rintro _ w1 ⟨rfl, hb1⟩
          have d1' := cellB hb1 (Nat.le_refl _) d1
          have hbl1 := World.block_lt_of_cell? _ _ d1'
          simp only at hbl1
          go_wp2_with fail
          go_ret
          exact ⟨_, rfl, (fun h => by cases h), hb.thenCall hb.size hb1⟩
        have h4 : l.length ≤ 4 := Classical.not_not.1 h4n
        clear h4n
        by_cases hnn : ¬ (l.length = n0)
        · have hbneq : ((l.length : Int) != n0) = true := by rw [bne_iff_ne]; omega
          have hbeq : ((l.length : Int) == n0) = false := by rw [beq_eq_false_iff_ne]; omega
          have hg4 : ¬ ((4 : Int) < l.length) := by omega
          go_wp2_with fail
          refine HF.out.mono ?_
          rintro _ w1 ⟨rfl, hb1⟩
          have d1' := cellB hb1 (Nat.le_refl _) d1
          have hbl1 := World.block_lt_of_cell? _ _ d1'
          simp only at hbl1
          go_wp2_with fail
          go_ret
          exact ⟨_, rfl, (fun h => by cases h), hb.thenCall hb.size hb1⟩
        have hn : l.length = n0 := Classical.not_not.1 hnn
        clear hnn
        subst hn
        have hg4 : ¬ ((4 : Int) < l.length) := by omega
        go_wp2_with fail
        refine HF.out.mono ?_
        rintro _ w1 ⟨rfl, hb1⟩
        have hbw1 := hb.thenCall hb.size hb1
        have hb01 := h0.trans (hbw1.mono h0.size)
        have d1' := cellB hb1 (Nat.le_refl _) d1
        have hbl1 := World.block_lt_of_cell? _ _ d1'
        simp only at hbl1
        go_wp2_with fail
        go_loopw [32] (fun i wr' => ∃ q : Nat, i = .int .i64 q ∧ q ≤ l.length ∧ Hid (∀ e ∈ l.take q, patS e = true) ∧ Below w.heap.size w wr') (fun i _ => l.length - (intOf i).toNat)
        case atStart => exact ⟨0, rfl, Nat.zero_le _, Lib.hid (by simp), hbw1⟩
        case round =>
          obtain ⟨q, rfl, hq, hokq, hbq⟩ := hrel
          have hb0q := h0.trans (hbq.mono h0.size)
          by_cases hltq : q < l.length
          · obtain ⟨be, oe, rfl, hat⟩ := hs.get q hltq
            have hNQ : Hid (patS l[q] = true → ∀ e ∈ l.take (q + 1), patS e = true) := Lib.hid (fun h => all_take_succ hltq hokq.out h)
            have hsz := ExSize_get hltq
            generalize l[q] = y at *
            cases y with
            | mk k' s' n' ys' l' c' =>
            obtain ⟨A', cap', c0, c1, c2, c3, c4, c5, hv'⟩ := Ex.At.both hat hb0q (Nat.le_refl _)
            have hble := World.block_lt_of_cell? _ _ c0
            simp only at hble
            have HP := fun oo => Lib.hid (pattern_any _ w0 _ (wr.alloc oo) _ (Nat.le_refl _) hv' (hb0q.alloc hb0q.size oo))
            have HFl := fun W h => Lib.hid (flatEx_any _ w0 _ W _ (Nat.le_refl _) (by omega) hv' h)
            clear hat hs
            cases hp : patS (.mk k' s' n' ys' l' c') with
            | false =>
              rw [hp] at HP
              go_wp2_with fail
              refine ((HP _).out).mono ?_
              rintro _ w2 ⟨rfl, hb2⟩
              go_wp2_with fail
              go_ret
              exact ⟨_, rfl, (fun h => by cases h), hbq.thenCall hbq.size (Below.call1 hb2)⟩
            | true =>
              rw [hp] at HP
              have HNQ := Lib.hid (hNQ.out hp)
              clear hp hNQ
              generalize (Ex.mk k' s' n' ys' l' c').flat = fl at *
              go_wp2_with fail
              refine ((HP _).out).mono ?_
              rintro _ w2 ⟨rfl, hb2⟩
              have hb2c := Below.call1 hb2
              have hbq2 := hbq.thenCall hbq.size hb2c
              have hbx := (hb2.block _ (by simp)).trans (heap_alloc_new wr (.cells #[.int .i64 k', .string s', .int .i64 n', .slice A' ys'.length cap', .int .i64 l', .int .i64 c'] 26))
              obtain ⟨p0, p1, p2, p3, p4, p5, -⟩ := row6 hbx
              have HF2 := HFl w2 (h0.trans (hbq2.mono h0.size))
              clear HFl
              by_cases h12 : fl.length ≤ 12
              · have hg12 : ¬ ((12 : Int) < fl.length) := by omega
                go_wp2_with fail
                refine HF2.out.mono ?_
                rintro _ w3 ⟨A3, cap3, xs3, rfl, hown3, hcells3, hb3⟩
                go_wp2_with fail
                exact ⟨⟨q + 1, by go_num, by omega, HNQ, hbq2.thenCall hbq2.size hb3⟩, by simp [intOf]; omega⟩
              · have hg12 : (12 : Int) < fl.length := by omega
                go_wp2_with fail
                refine HF2.out.mono ?_
                rintro _ w3 ⟨A3, cap3, xs3, rfl, hown3, hcells3, hb3⟩
                go_wp2_with fail
                go_ret
                exact ⟨_, rfl, (fun h => by cases h), hbq2.thenCall hbq2.size hb3⟩
          · have HPA : Hid (patsS l = true) := Lib.hid (patsS_all (by have := hokq.out; rwa [List.take_of_length_le (by omega)] at this))
            have HN2 := Lib.hid (HNX.out ⟨hf, h4, rfl, HPA.out⟩)
            go_wp2_with fail
            exact ⟨⟨j + 1, by go_num, by omega, Lib.hid (by rw [HN0.out]; exact HN2.out), hbq⟩, by simp [intOf]; omega⟩
    · have HOK := Lib.hid hok.out
      rw [List.take_of_length_le (by omega)] at HOK
      by_cases h8 : rules.length ≤ 8
      · go_wp2_with fail
        go_ret
        exact ⟨true, by simp; omega, fun _ => ⟨h8, HOK.out⟩, hb⟩
      · go_wp2_with fail
        go_ret
        exact ⟨false, by simp; omega, (fun h => by cases h), hb⟩
end Go.Proofs.Ytnaakhnmbckpmaa.Pats
