/- Contract: whimbrellaw16.known. -/
import Derived.Test.YtnaakhnmbckpmaaKnA
import Derived.Test.YtnaakhnmbckpmaaFewR
namespace Go.Proofs.Ytnaakhnmbckpmaa.Pats
open Go.ChangeShapes Go.WideShapes Go.ChangeAt Go.RowKit Go.Proofs.Ytnaakhnmbckpmaa.Lift Go.Proofs.Ytnaakhnmbckpmaa.Data Go.Proofs.Ytnaakhnmbckpmaa.Refs Go.Proofs.Ytnaakhnmbckpmaa.Strs
set_option linter.unusedVariables false
set_option linter.unusedSimpArgs false
/-- whether a constructor is known. -/
def KnE (makers : List ByteArray) (e : Ex) : Prop := e.k = 2 → 0 ≤ idxS makers e.s
def KnP (makers : List ByteArray) (p : Ex) : Prop := ∀ e ∈ p.flat, KnE makers e
def KnL (makers : List ByteArray) (l : List Ex) : Prop := ∀ p ∈ l, KnP makers p
set_option maxRecDepth 100000 in
set_option maxHeartbeats 4000000 in
theorem known_any (w0 w : World) (mv rv : Value) (makers : List ByteArray) (rules : List (List Ex)) (hM : StrSl w0 mv makers) (hR : RS w0 rv rules) (hm : ∀ l ∈ rules, ExSize l ≤ 1048576) (h0 : Below w0.heap.size w0 w) :
    Calls Try.prog 40 #[mv, rv] w fun r w' => ∃ b : Bool, r = .returned (.bool b) ∧ (b = true → ∀ l ∈ rules, KnL makers l) ∧ Below w.heap.size w w' := by
  have HPl := fun W s h => Lib.hid (place_any W mv makers s (Data.StrSl.sub hM (Sub.of_below (w' := W) h)))
  obtain ⟨Am, cm, rfl, -⟩ := hM
  obtain ⟨A, cap, xs, rfl, r1, r2, r3, r4, r5, r6⟩ := hR
  go_enter Try.func40, Try.ntmps40
  go_wp2_with fail
  go_loopw [13] (fun i wr => ∃ j : Nat, i = .int .i64 j ∧ j ≤ rules.length ∧ Hid (∀ l ∈ rules.take j, KnL makers l) ∧ Below w.heap.size w wr) (fun i _ => rules.length - (intOf i).toNat)
  case atStart => exact ⟨0, rfl, Nat.zero_le _, Lib.hid (by simp), Below.refl _ _⟩
  case round =>
    obtain ⟨j, rfl, hj, hok, hb⟩ := hrel
    by_cases hlt : j < rules.length
    · obtain ⟨b, o, lv, rfl, hbl, hc, hsl⟩ := RS_get r5 r6 j hlt
      have hb0 := h0.trans (hb.mono h0.size)
      have d0 := cellB hb0 (Nat.le_refl _) hc
      have HNX : Hid (KnL makers rules[j] → ∀ l ∈ rules.take (j + 1), KnL makers l) := Lib.hid (fun h => all_take_succ hlt hok.out h)
      have hml := hm rules[j] (List.getElem_mem hlt)
      generalize rules[j] = l at *
      obtain ⟨Al, capl, rfl, ⟨l1, l2, l3, l4⟩, hs⟩ := hsl
      clear hc hok
      go_wp2_with fail
      go_loopw [19] (fun i wr' => ∃ q : Nat, i = .int .i64 q ∧ q ≤ l.length ∧ Hid (∀ e ∈ l.take q, KnP makers e) ∧ Below w.heap.size w wr') (fun i _ => l.length - (intOf i).toNat)
      case atStart => exact ⟨0, rfl, Nat.zero_le _, Lib.hid (by simp), hb⟩
      case round =>
        obtain ⟨q, rfl, hq, hokq, hbq⟩ := hrel
        have hb0q := h0.trans (hbq.mono h0.size)
        by_cases hltq : q < l.length
        · obtain ⟨be, oe, rfl, hat⟩ := hs.get q hltq
          have hNQ : Hid (KnP makers l[q] → ∀ e ∈ l.take (q + 1), KnP makers e) := Lib.hid (fun h => all_take_succ hltq hokq.out h)
          have hsz := ExSize_get hltq
          generalize l[q] = y at *
          have hKP : Hid (∀ e : Ex, KnP makers y ↔ ∀ e ∈ y.flat, KnE makers e) := Lib.hid (fun _ => Iff.rfl)
          have hfl := Ex.flat_len y
          cases y with
          | mk k' s' n' ys' l' c' =>
          obtain ⟨A', cap', c0, c1, c2, c3, c4, c5, hv'⟩ := Ex.At.both hat hb0q (Nat.le_refl _)
          have hble := World.block_lt_of_cell? _ _ c0
          simp only at hble
          have HFl := fun oo => Lib.hid (allEx_any _ w0 _ (wr.alloc oo) _ (Nat.le_refl _) (by omega) hv' (hb0q.alloc hb0q.size oo))
          clear hat hs
          have hfl2 : (Ex.mk k' s' n' ys' l' c').flat.length ≤ 1048576 := by omega
          generalize (Ex.mk k' s' n' ys' l' c').flat = fl at *
          clear hfl
          go_wp2_with fail
          refine ((HFl _).out).mono ?_
          rintro _ w2 ⟨A2, cap2, xs2, rfl, hown2, hcells2, hb2⟩
          have hbw2 := hbq.thenCall hbq.size (Below.call1 hb2)
          have hslF := Ex.Sl.of_own hown2 (hcells2.below (h0.trans (hbw2.mono h0.size)) (Nat.le_refl _)) hfl2
          clear hown2 hcells2 HFl
          obtain ⟨_, _, e9, ⟨m1, m2, m3, m4⟩, hsF⟩ := hslF
          cases e9
          go_wp2_with fail
          go_loopw [26] (fun i wr' => ∃ u : Nat, i = .int .i64 u ∧ u ≤ fl.length ∧ Hid (∀ e ∈ fl.take u, KnE makers e) ∧ Below w2.heap.size w2 wr') (fun i _ => fl.length - (intOf i).toNat)
          case atStart => exact ⟨0, rfl, Nat.zero_le _, Lib.hid (by simp), Below.refl _ _⟩
          case round =>
            obtain ⟨u, rfl, hu, hoku, hbu⟩ := hrel
            have hbwu := hbw2.thenCall hbw2.size hbu
            by_cases hltu : u < fl.length
            · obtain ⟨bf, of, rfl, hatF⟩ := hsF.get u hltu
              have hNU : Hid (KnE makers fl[u] → ∀ e ∈ fl.take (u + 1), KnE makers e) := Lib.hid (fun h => all_take_succ hltu hoku.out h)
              generalize fl[u] = z at *
              cases z with
              | mk k5 s5 n5 ys5 l5 c5' =>
              obtain ⟨A5, cap5, e0, e1, e2, e3, e4, e5, -⟩ := Ex.At.both hatF hbu (Nat.le_refl _)
              have hblf := World.block_lt_of_cell? _ _ e0
              simp only at hblf
              have HPI := fun oo => HPl (wr.alloc oo) s5 ((h0.trans (hbwu.mono h0.size)).alloc (h0.trans (hbwu.mono h0.size)).size oo)
              clear hatF hsF
              by_cases hk : k5 = 2
              · subst hk
                by_cases hi : idxS makers s5 < 0
                · generalize idxS makers s5 = ix at *
                  go_wp2_with (go_at_call 39; refine ((HPI _).out).mono ?_; rintro _ w3 ⟨rfl, rfl⟩)
                  go_ret
                  exact ⟨_, rfl, (fun h => by cases h), hbwu.alloc hbwu.size _⟩
                · have HU := Lib.hid (hNU.out (fun _ => by simp only [Ex.s]; omega))
                  clear hNU
                  generalize idxS makers s5 = ix at *
                  go_wp2_with (go_at_call 39; refine ((HPI _).out).mono ?_; rintro _ w3 ⟨rfl, rfl⟩)
                  exact ⟨⟨u + 1, by go_num, by omega, HU, hbu.alloc hbu.size _⟩, by simp [intOf]; omega⟩
              · have hkb : (k5 == 2) = false := by simp [hk]
                have HU := Lib.hid (hNU.out (fun h => absurd h hk))
                clear hNU hk
                go_wp2_with fail
                exact ⟨⟨u + 1, by go_num, by omega, HU, hbu.alloc hbu.size _⟩, by simp [intOf]; omega⟩
            · have HQ := Lib.hid (hNQ.out ((hKP.out (.mk 0 ⟨#[]⟩ 0 [] 0 0)).2 (by have := hoku.out; rwa [List.take_of_length_le (by omega)] at this)))
              go_wp2_with fail
              exact ⟨⟨q + 1, by go_num, by omega, HQ, hbwu⟩, by simp [intOf]; omega⟩
        · have HN := Lib.hid (HNX.out (by have := hokq.out; rwa [List.take_of_length_le (by omega)] at this))
          go_wp2_with fail
          exact ⟨⟨j + 1, by go_num, by omega, HN, hbq⟩, by simp [intOf]; omega⟩
    · have HOK := Lib.hid hok.out
      rw [List.take_of_length_le (by omega)] at HOK
      go_wp2_with fail
      go_ret
      exact ⟨true, rfl, fun _ => HOK.out, hb⟩
end Go.Proofs.Ytnaakhnmbckpmaa.Pats
