/- Contracts: whimbrellaw16.all; whimbrelref09.Place. -/
import Derived.Test.YtnaakhnmbckpmaaRefs
import Derived.Test.YtnaakhnmbckpmaaStrs
namespace Go.Proofs.Ytnaakhnmbckpmaa.Refs
open Go.ChangeShapes Go.WideShapes Go.ChangeAt Go.RowKit Go.Proofs.Ytnaakhnmbckpmaa.Lift Go.Proofs.Ytnaakhnmbckpmaa.Data
set_option linter.unusedVariables false
set_option linter.unusedSimpArgs false
set_option maxRecDepth 100000 in
theorem allEx_any (N : Nat) (w0 : World) : ∀ (e : Ex) (w : World) (v : Value), e.size ≤ N → e.size ≤ 1048576 → e.Val w0 v → Below w0.heap.size w0 w →
    Calls Try.prog 62 #[v] w (NewEx w0 w.heap.size e.flat w) := by
  induction N with
  | zero => intro e w v h; cases e; rw [Ex.size] at h; omega
  | succ N ih =>
    intro e w v hN hB hv h0
    cases e with
    | mk k s n ys l c =>
    obtain ⟨A, cap, rfl, ⟨hd1, hd2, hd3, hd4⟩, hs⟩ := hv
    rw [Ex.size_mk] at hN hB
    rw [Ex.flat]
    have hlen := ExSize_len ys
    obtain ⟨i0, hi, hz0, hz1, hz2⟩ := info_parts info26
    have hcs : (Ex.mk k s n ys l c).Cs w0 [.int .i64 k, .string s, .int .i64 n, .slice A ys.length cap, .int .i64 l, .int .i64 c] := ⟨A, cap, rfl, ⟨hd1, hd2, hd3, hd4⟩, hs⟩
    go_enter Try.func62, Try.ntmps62
    go_wp2_with fail
    go_loopw [3, 11] (fun t i wr => FlatExRel w0 w.heap.size (Ex.mk k s n ys l c) ys w t i wr) (fun _ i _ => ys.length - (intOf i).toNat)
    case atStart =>
      have hb0 : Below w.heap.size w ((w.alloc (.cells #[.int .i64 k, .string s, .int .i64 n, .slice A ys.length cap, .int .i64 l, .int .i64 c] 26)).alloc (.cells #[.int .i64 k, .string s, .int .i64 n, .slice A ys.length cap, .int .i64 l, .int .i64 c] 26)) := ((Below.refl _ _).alloc (Nat.le_refl _) _).alloc (by simp) _
      exact ⟨0, _, rfl, Nat.zero_le _, own_new2 _ _ 26 6 1 _ rfl (by omega), ExCells.single hcs, hb0⟩
    case round =>
      obtain ⟨j, xs, rfl, hj, hown, hcells, hb⟩ := hrel
      by_cases hlt : j < ys.length
      · obtain ⟨b, o, rfl, hat⟩ := hs.get j hlt
        have hsz := ExSize_get hlt
        have hb0 := h0.trans (hb.mono h0.size)
        have HT := Lib.hid (ExFlats_take hlt)
        have HS := ExSize_take hlt
        have hle2 := ExSize_take_le (ys := ys) (j := j + 1)
        have hf1 := ExFlats_len (ys.take j)
        generalize ys[j] = y at *
        cases y with
        | mk k' s' n' ys' l' c' =>
        obtain ⟨A', cap', c0, c1, c2, c3, c4, c5, hv'⟩ := Ex.At.both hat hb0 (Nat.le_refl _)
        clear hat hs hcs
        have HC := Lib.hid (fun o => ih _ (wr.alloc o) _ (Nat.le_trans hsz (Nat.le_of_succ_le_succ hN)) (by omega) hv' (hb0.alloc hb0.size o))
        have hf2 := Ex.flat_len (Ex.mk k' s' n' ys' l' c')
        have hL : (Ex.mk k s n ys l c :: ExFlats (ys.take j)).length = 1 + ExSize (ys.take j) := by rw [List.length_cons, hf1]; omega
        have hg4 : (Ex.mk k s n ys l c :: ExFlats (ys.take j)).length + (Ex.mk k' s' n' ys' l' c').flat.length ≤ maxLen := by unfold maxLen; omega
        have hg5 : ((Ex.mk k s n ys l c :: ExFlats (ys.take j)).length + (Ex.mk k' s' n' ys' l' c').flat.length) * 72 ≤ 140737488355328 := by omega
        clear hf1 hf2 hL HS
        generalize (Ex.mk k' s' n' ys' l' c').flat = fs at *
        generalize hE : (Ex.mk k s n ys l c :: ExFlats (ys.take j)) = es at *
        have HE := Lib.hid hE
        clear hE
        go_wp2_with (first | (go_at_call 62; refine (HC.out _).mono ?_; rintro e w1 ⟨A1, cap1, xs1, rfl, hown1, hcells1, hb1⟩; have hbc := Below.call1 hb1; have hbn := hb.thenCall hb.size hbc; have hown' := own_below hown hbc (Nat.le_refl _); have hsrc := Src.of_own hown1; have hcp := own_cap hown1; have hone1 := hcells1.one; clear hown1 hb1) | (at_builtin; refine wpList_append_src rfl (.tmp 15) (.tmp 17) 22 rfl w.heap.size 26 i0 _ 6 72 Try.underlying22 hi hz0 hz1 hz2 rfl (by omega) u3 es.length xs rfl hown' A1 fs.length cap1 xs1 rfl hsrc hcp hone1 hg4 hg5 hbn.size ?_; intro v2 w2 hown2 hg2))
        have hb2 := below_grown hown' hg2 hbn.size
        refine ⟨⟨j + 1, xs ++ xs1, by go_num, by omega, ?_, ?_, hbn.trans hb2⟩, by simp [intOf]; omega⟩
        · rw [HT.out, ← List.cons_append, HE.out, List.length_append]; exact hown2
        · rw [HT.out, ← List.cons_append, HE.out]; exact hcells.append hcells1
      · go_wp2_with fail
        go_ret
        obtain ⟨A1, cap1, rfl, _, _⟩ := own_form hown
        rw [List.take_of_length_le (by omega)] at hown hcells ⊢
        exact ⟨A1, cap1, xs, rfl, hown, hcells, hb⟩

end Go.Proofs.Ytnaakhnmbckpmaa.Refs
namespace Go.Proofs.Ytnaakhnmbckpmaa.Strs
open Go.ChangeShapes Go.WideShapes Go.ChangeAt Go.RowKit Go.Proofs.Ytnaakhnmbckpmaa.Lift
set_option linter.unusedVariables false
set_option linter.unusedSimpArgs false
theorem place_any (w : World) (v : Value) (l : List ByteArray) (s : ByteArray) (hv : StrSl w v l) :
    Calls Try.prog 39 #[v, .string s] w fun r w' => r = .returned (.int .i64 (idxS l s)) ∧ w = w' := by
  obtain ⟨A, cap, rfl, h1, h2, h3, h4, h5⟩ := hv
  go_enter Try.func39, Try.ntmps39
  go_wp2_with fail
  go_loop [9] (fun i => ∃ k : Nat, i = .int .i64 k ∧ k ≤ l.length ∧ Hid (∀ j (hj : j < l.length), j < k → ¬ s.toList = (l[j]).toList)) (fun i => l.length - (intOf i).toNat)
  case atStart => exact ⟨0, rfl, Nat.zero_le _, fun _ _ h => absurd h (Nat.not_lt_zero _)⟩
  case round =>
    obtain ⟨k, rfl, hk, hm⟩ := hrel
    by_cases hlt : k < l.length
    · obtain ⟨b, o, rfl, hbl, hc⟩ := StrSl.cell h5 k hlt
      clear h5
      by_cases he : s.toList = (l[k]).toList
      · have HI := Lib.hid (idxS_hit hlt he hm.out)
        generalize l[k] = x at *
        have he' := he.symm
        clear he
        go_wp2_with fail
        go_ret
        exact ⟨by rw [HI.out]; rfl, rfl⟩
      · have HM : Hid (∀ j (hj : j < l.length), j < k + 1 → ¬ s.toList = (l[j]).toList) := by
          intro j hj h
          by_cases e : j = k
          · subst e; exact he
          · exact hm.out j hj (by omega)
        clear hm
        generalize l[k] = x at *
        have he' : (x.toList == s.toList) = false := by simpa using fun h => he h.symm
        clear he
        go_wp2_with fail
        exact ⟨⟨k + 1, by go_num, by omega, HM⟩, by simp [intOf]; omega⟩
    · have HI := Lib.hid (idxS_miss (fun j hj => hm.out j hj (by omega)))
      go_wp2_with fail
      go_ret
      exact ⟨by rw [HI.out]; rfl, rfl⟩
end Go.Proofs.Ytnaakhnmbckpmaa.Strs
