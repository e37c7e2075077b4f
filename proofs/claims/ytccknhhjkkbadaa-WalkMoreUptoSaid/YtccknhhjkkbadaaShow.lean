/- Contract: finger.Show. -/
import Derived.Test.YtccknhhjkkbadaaDig
import Derived.Test.YtccknhhjkkbadaaFgL
import Derived.Test.YtccknhhjkkbadaaShelf
import Derived.IntWalk
namespace Go.Proofs.Ytccknhhjkkbadaa.Fg
open Go.ChangeShapes Go.WideShapes Go.ChangeAt Go.RowKit Go.Proofs.Ytccknhhjkkbadaa.Lift Go.Proofs.Ytccknhhjkkbadaa.Dig
set_option linter.unusedVariables false
set_option linter.unusedSimpArgs false
def I64 (n : Int) : Prop := -9223372036854775808 ≤ n ∧ n ≤ 9223372036854775807
/-- its numbers are numbers of 64 bits. -/
def PkWf (l : List Pk) : Prop := ∀ x ∈ l, I64 x.1 ∧ I64 x.2
theorem digS_len {n : Int} (h : I64 n) : (digS n).length ≤ 21 := by
  obtain ⟨h0, h1⟩ := h
  unfold digS
  split
  · have := revd_len 19 (-n).toNat (by omega)
    simp only [List.length_cons, List.length_reverse]
    omega
  · have := revd_len 19 n.toNat (by omega)
    simp only [List.length_reverse]
    omega
/-- a pick as a text. -/
def textF (p : Pk) : ByteArray := (⟨(digS p.1).toArray⟩ ++ ⟨#[58]⟩) ++ ⟨(digS p.2).toArray⟩
theorem textF_eq (p : Pk) : textF p = ⟨(digS p.1 ++ [58] ++ digS p.2).toArray⟩ := by
  unfold textF
  rw [ba_app, ba_app]
  exact congrArg ByteArray.mk (by simp)
/-- a finger as a text. -/
def showF (l : List Pk) : List UInt8 := Lib.join (l.map fun p => digS p.1 ++ 58 :: digS p.2) [32]
def strs (l : List Pk) : List Value := l.map fun p => .string (textF p)
theorem strs_take {l : List Pk} {k : Nat} (h : k < l.length) : strs (l.take (k + 1)) = strs (l.take k) ++ [.string (textF l[k])] := by
  unfold strs
  rw [List.take_succ_eq_append_getElem h, List.map_append, List.map_singleton]
theorem info9 : (Try.prog.info? 9).map (fun i => (i.zero, i.size, i.bytes)) = some (some (.string ⟨#[]⟩), 1, 16) := by kernel_rfl
theorem lens_le {α : Type} (f : α → List UInt8) (k : Nat) : ∀ (l : List α), (∀ x ∈ l, (f x).length ≤ k) → Lib.lens (l.map f) ≤ k * l.length
  | [], _ => by simp [Lib.lens]
  | x :: r, h => by
    have h1 := h x (by simp)
    have h2 := lens_le f k r (fun y hy => h y (by simp [hy]))
    simp only [List.map_cons, List.length_cons]
    have e : Lib.lens (f x :: r.map f) = (f x).length + Lib.lens (r.map f) := by simp [Lib.lens]
    rw [e, Nat.mul_add]
    omega
theorem showF_len {l : List Pk} (h : PkWf l) : (showF l).length ≤ 45 * l.length := by
  unfold showF
  cases l with
  | nil => simp [Lib.join]
  | cons p r =>
    rw [List.map_cons, Lib.join_length, ← List.map_cons (f := fun p : Pk => digS p.1 ++ 58 :: digS p.2)]
    have := lens_le (fun p : Pk => digS p.1 ++ 58 :: digS p.2) 43 (p :: r) (fun x hx => by
      have h1 := digS_len (h x hx).1
      have h2 := digS_len (h x hx).2
      simp only [List.length_append, List.length_cons, List.length_nil]
      omega)
    simp only [List.length_cons, List.length_nil, List.length_map] at this ⊢
    omega
set_option maxRecDepth 100000 in
set_option maxHeartbeats 1000000 in
theorem show_any (w0 : World) (l : List Pk) (w : World) (v : Value) (hv : PkSl w0 v l) (hw : PkWf l) (h0 : Below w0.heap.size w0 w) :
    Calls Try.prog 61 #[.agg #[v]] w fun r w' => r = .returned (.string ⟨(showF l).toArray⟩) ∧ Below w.heap.size w w' := by
  obtain ⟨A, cap, rfl, a1, a2, a3, a4, a5⟩ := hv
  obtain ⟨i0, hi, hz0, hz1, hz2⟩ := info_parts info9
  go_enter Try.func61, Try.ntmps61
  go_wp2_with fail
  go_loopw [3, 9] (fun t i wr => ∃ (k : Nat), i = .int .i64 k ∧ k ≤ l.length ∧ wr.ownsRow w.heap.size 9 1 t k (strs (l.take k)) ∧ Below w.heap.size w wr) (fun _ i _ => l.length - (intOf i).toNat)
  case atStart => exact ⟨0, rfl, Nat.zero_le _, World.ownsRow_nil _ _ _ _, below1 w _⟩
  case round =>
    obtain ⟨k, rfl, hk, hown, hb⟩ := hrel
    by_cases hlt : k < l.length
    · obtain ⟨b, o, rfl, hbl, c1, c2⟩ := pk_cell a5 k hlt
      have hb0 := h0.trans (hb.mono h0.size)
      have x1 := (hb0.cell (p := ⟨b, o + k * 2, none⟩) hbl).trans c1
      have x2 := (hb0.cell (p := ⟨b, o + k * 2 + 1, none⟩) hbl).trans c2
      have HT := Lib.hid (strs_take hlt)
      have hwf := hw l[k] (List.getElem_mem hlt)
      have D1 := fun w => Lib.hid (digits_any l[k].1 w hwf.1.1 hwf.1.2)
      have D2 := fun w => Lib.hid (digits_any l[k].2 w hwf.2.1 hwf.2.2)
      have L1 := digS_len hwf.1
      have L2 := digS_len hwf.2
      have hTX : Hid (textF l[k] = (⟨(digS l[k].1).toArray⟩ ++ ⟨#[58]⟩) ++ ⟨(digS l[k].2).toArray⟩) := Lib.hid rfl
      clear a5 c1 c2 hb0 h0 hwf hw
      generalize l[k] = y at *
      obtain ⟨y1, y2⟩ := y
      dsimp only at *
      generalize digS y1 = d1 at *
      generalize digS y2 = d2 at *
      go_wp2_with fail
      obtain ⟨W, hW⟩ : ∃ W, W = wr.alloc (.cells #[.int .i64 y1, .int .i64 y2] 95) := ⟨_, rfl⟩
      have hbW : Below wr.heap.size wr W := by rw [hW]; exact below1 _ _
      have hc0 : W.heap[wr.heap.size]? = some (.cells #[.int .i64 y1, .int .i64 y2] 95 (0, 0)) := by rw [hW]; exact heap_alloc_new wr _
      rw [← hW]
      clear hW x1 x2
      have MS : Hid (∀ x, Below W.heap.size W x → (fun w' => Below w.heap.size w w' ∧ w'.cell? ⟨wr.heap.size, 0, none⟩ = some (.int .i64 y1) ∧ w'.cell? ⟨wr.heap.size, 1, none⟩ = some (.int .i64 y2)) x) := Lib.hid (by
        intro x hx
        have := (hx.block _ (Array.getElem?_eq_some_iff.1 hc0).1).trans hc0
        exact ⟨(hb.thenCall hb.size hbW).thenCall (Nat.le_trans hb.size hbW.size) hx, by simp [World.cell?, this], by simp [World.cell?, this]⟩)
      have hB0 : Below W.heap.size W W.drew := (Below.refl _ _).drew
      have HOW : Hid (∀ x, Below W.heap.size W x → x.ownsRow w.heap.size 9 1 u3 k (strs (l.take k)) ∧ w.heap.size ≤ x.heap.size) := Lib.hid (fun x hx => ⟨own_below hown (hbW.thenCall hbW.size hx) (Nat.le_refl _), Nat.le_trans hb.size (hbW.thenCall hbW.size hx).size⟩)
      have MS3 : Hid (∀ x y, Below W.heap.size W x → x.grownBy y u3.ownBlock → (fun w' => Below w.heap.size w w' ∧ w'.cell? ⟨wr.heap.size, 0, none⟩ = some (.int .i64 y1) ∧ w'.cell? ⟨wr.heap.size, 1, none⟩ = some (.int .i64 y2)) y) := Lib.hid (by
        intro x y hx hy
        have hP := HOW.out x hx
        have hB := below_grown hP.1 hy hP.2
        have h1 := (hx.block _ (Array.getElem?_eq_some_iff.1 hc0).1).trans hc0
        have h2 := (hy.block wr.heap.size (Array.getElem?_eq_some_iff.1 h1).1 (fun e => by have := (own_block_lt hown e.symm).2; omega)).trans h1
        exact ⟨((hb.thenCall hb.size hbW).thenCall (Nat.le_trans hb.size hbW.size) hx).trans hB, by simp [World.cell?, h2], by simp [World.cell?, h2]⟩)
      have hg1 : k + 1 ≤ maxLen := by unfold maxLen; omega
      have hg2 : (k + 1) * 16 ≤ 140737488355328 := by omega
      have t1 : d1.length ≤ 9223372036854775806 := by omega
      have t3 : ¬ 9223372036854775807 < d1.length + 1 := by omega
      have t4 : ¬ 9223372036854775807 < d1.length + 1 + d2.length := by omega
      have t2 : d1.length + 1 + d2.length ≤ 9223372036854775807 := by omega
      obtain ⟨tx, HX⟩ : ∃ tx : ByteArray, Hid (tx = (⟨d1.toArray⟩ ++ ⟨#[58]⟩) ++ ⟨d2.toArray⟩) := ⟨_, Lib.hid rfl⟩
      have hone : ∀ u ∈ [Value.string tx], u.oneCell' = true := by simp [Value.oneCell']
      clear hc0 hown
      go_region_held3 (fun w' => Below w.heap.size w w' ∧ w'.cell? ⟨wr.heap.size, 0, none⟩ = some (.int .i64 y1) ∧ w'.cell? ⟨wr.heap.size, 1, none⟩ = some (.int .i64 y2))
        (first | exact MS3.out _ _ (hB2.alloc hB2.size _) hg3 | exact MS.out _ (hB2.alloc hB2.size _) | exact MS.out _ hB2 | exact MS.out _ hB1 | exact MS.out _ hB0)
        (first
         | (go_at_call 90; ((with_reducible refine (D1 _).out.mono ?_); rintro _ x1 ⟨rfl, q1⟩; have hB1 := hB0.thenCall hB0.size q1))
         | (go_at_call 90; ((with_reducible refine (D2 _).out.mono ?_); rintro _ x2 ⟨rfl, q2⟩; have hB2 := hB1.thenCall hB1.size q2))
         | (rw [← HX.out]; have hP := HOW.out _ (hB2.alloc hB2.size (.cells #[.string tx] 9)); have hsr : Lift.Src (x2.alloc (.cells #[.string tx] 9)) 1 (some ⟨x2.heap.size, 0, none⟩) 1 [.string tx] := Lift.Src.of_own (own_new x2 9 1 1 #[.string tx] rfl (by omega)); refine step_append_where (by rfl) (.tmp 13) (.tmp 22) 61 rfl w.heap.size 9 i0 _ 1 16 Try.underlying61 hi hz0 hz1 hz2 rfl Nat.one_pos u3 k _ rfl hP.1 (some ⟨x2.heap.size, 0, none⟩) 1 1 [.string tx] rfl hsr (fun h => nomatch h) hone hg1 hg2 hP.2 ?_; intro v3 x3 hO3 hg3 hf3))
      have hS3 := MS3.out _ _ (hB2.alloc hB2.size _) hg3
      have hT2 : strs (l.take (k + 1)) = strs (l.take k) ++ [.string tx] := by rw [HT.out, hTX.out, HX.out]
      go_wp2_with fail
      exact ⟨⟨k + 1, by go_num, by omega, by rw [hT2]; exact hO3, hS3.1⟩, by simp [intOf]; omega⟩
    · obtain rfl : k = l.length := by omega
      rw [List.take_length] at hown
      have hLn := showF_len hw
      rcases Nat.eq_zero_or_pos l.length with h0' | h0'
      · have hl0 : l = [] := List.eq_nil_of_length_eq_zero h0'
        subst hl0
        obtain ⟨A3, cap3, rfl, _, _⟩ := own_form hown
        have HJ := fun w => Lib.hid (Try.strings_Join_none A3 cap3 ⟨#[32]⟩ w)
        clear hown
        go_wp2_with (go_at_call 94; refine (HJ _).out.mono ?_; rintro e w1 ⟨rfl, rfl⟩)
        go_ret
        exact ⟨rfl, hb⟩
      · rcases hown.2 with ⟨_, h0''⟩ | ⟨g, cap3, cur, rfl, h2, h3, h4, h5, h6, h7⟩
        · omega
        · have hxs : (l.map textF).length = l.length := by simp
          have hmm : (l.map textF).map (·.data.toList) = l.map fun p => digS p.1 ++ 58 :: digS p.2 := by
            rw [List.map_map]
            refine List.map_congr_left fun p _ => ?_
            simp [textF_eq]
          have HJ := Lib.hid (Try.strings_Join g 0 cap3 (l.map textF) ⟨#[32]⟩ wr (fun j x hx => by
            have hj : j < l.length := by have := (List.getElem?_eq_some_iff.1 hx).1; simpa using this
            have h8 := hown.cells (g := g) rfl j (.string x) (by
              unfold strs
              rw [List.getElem?_map] at hx ⊢
              rw [List.getElem?_eq_getElem hj] at hx ⊢
              simp only [Option.map_some, Option.some.injEq] at hx ⊢
              rw [hx])
            rwa [add_plain0] at h8) (Array.getElem?_eq_some_iff.1 h3).1 (by rw [hxs]; omega) (by rw [hxs]; exact h4)
            (by rw [hmm]; show (showF l).length ≤ _; omega))
          rw [hxs, hmm] at HJ
          clear hown h3 h7 h6 hmm hxs
          go_wp2_with (go_at_call 94; refine HJ.out.mono ?_; rintro e w1 ⟨rfl, hb1⟩)
          go_ret
          exact ⟨rfl, hb.thenCall hb.size hb1⟩
end Go.Proofs.Ytccknhhjkkbadaa.Fg
