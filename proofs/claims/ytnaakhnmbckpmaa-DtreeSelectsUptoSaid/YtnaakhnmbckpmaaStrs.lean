/- Contracts: slices of strings: slices.Index, slices.Contains, slices.Clone, the references' In and Texts, ast.with. -/
import Derived.Test.YtnaakhnmbckpmaaWhere
import Derived.WalkSpells
namespace Go.Proofs.Ytnaakhnmbckpmaa.Strs
open Go.ChangeShapes Go.WideShapes Go.ChangeAt Go.RowKit Go.Proofs.Ytnaakhnmbckpmaa.Lift
set_option linter.unusedVariables false
set_option linter.unusedSimpArgs false
/-- a slice of strings that is read. -/
def StrSl (w : World) (v : Value) (l : List ByteArray) : Prop :=
  ∃ (A : Option Addr) (cap : Nat), v = .slice A l.length cap ∧ l.length ≤ cap ∧ cap ≤ 9223372036854775807 ∧ l.length ≤ 4194304 ∧ (A = none → cap = 0) ∧ Src w 1 A l.length (l.map Value.string)
theorem StrSl.below {w w' : World} {B : Nat} {v : Value} {l : List ByteArray} (h : StrSl w v l) (hb : Below B w w') (hB : w.heap.size ≤ B) : StrSl w' v l := by
  obtain ⟨A, cap, h1, h2, h3, h4, h5, h6⟩ := h
  exact ⟨A, cap, h1, h2, h3, h4, h5, h6.below hb hB⟩
theorem StrSl.cell {w : World} {A : Option Addr} {l : List ByteArray} (h : Src w 1 A l.length (l.map Value.string)) (j : Nat) (hj : j < l.length) : ∃ b o, A = some ⟨b, o, none⟩ ∧ b < w.heap.size ∧ w.cell? ⟨b, o + j, none⟩ = some (.string l[j]) := by
  rcases h.2 with h0 | ⟨b, o, e, hc⟩
  · omega
  · have := hc j (.string l[j]) (by simp [List.getElem?_map, List.getElem?_eq_getElem hj])
    exact ⟨b, o, e, World.block_lt_of_cell? _ _ this, this⟩
theorem StrSl.nil (w : World) : StrSl w (.slice none 0 0) [] := ⟨none, 0, rfl, Nat.le_refl _, by omega, by simp, fun _ => rfl, by simp, .inl rfl⟩
theorem StrSl.of_own {w : World} {base e : Nat} {v : Value} {l : List ByteArray} (h : w.ownsRow base e 1 v l.length (l.map Value.string)) (hm : l.length ≤ 4194304) : StrSl w v l := by
  obtain ⟨A, cap, rfl, h1, h2⟩ := own_form h
  exact ⟨A, cap, rfl, h1, h2, hm, own_cap h, Src.of_own h⟩
/-- where a string is in a list. -/
def idxS (l : List ByteArray) (s : ByteArray) : Int := match l.findIdx? (fun x => decide (s.toList = x.toList)) with | some i => (i : Int) | none => -1
def memS (l : List ByteArray) (s : ByteArray) : Bool := l.any fun x => decide (s.toList = x.toList)
theorem idxS_hit {l : List ByteArray} {s : ByteArray} {k : Nat} (hk : k < l.length) (h : s.toList = (l[k]).toList) (hm : ∀ j (hj : j < l.length), j < k → ¬ s.toList = (l[j]).toList) : idxS l s = k := by
  have : l.findIdx? (fun x => decide (s.toList = x.toList)) = some k := by
    rw [List.findIdx?_eq_some_iff_getElem]
    exact ⟨hk, by simpa using h, fun j hj => by simpa using hm j (by omega) hj⟩
  simp [idxS, this]
theorem idxS_miss {l : List ByteArray} {s : ByteArray} (hm : ∀ j (hj : j < l.length), ¬ s.toList = (l[j]).toList) : idxS l s = -1 := by
  have : l.findIdx? (fun x => decide (s.toList = x.toList)) = none := by
    rw [List.findIdx?_eq_none_iff]
    intro x hx
    obtain ⟨j, hj, rfl⟩ := List.getElem_of_mem hx
    simpa using hm j hj
  simp [idxS, this]
theorem memS_hit {l : List ByteArray} {s : ByteArray} {k : Nat} (hk : k < l.length) (h : s.toList = (l[k]).toList) : memS l s = true := by
  rw [memS, List.any_eq_true]
  exact ⟨_, List.getElem_mem hk, by simpa using h⟩
theorem memS_miss {l : List ByteArray} {s : ByteArray} (hm : ∀ j (hj : j < l.length), ¬ s.toList = (l[j]).toList) : memS l s = false := by
  rw [Bool.eq_false_iff, memS, Ne, List.any_eq_true]
  rintro ⟨x, hx, h⟩
  obtain ⟨j, hj, rfl⟩ := List.getElem_of_mem hx
  exact hm j hj (by simpa using h)
theorem memS_idx (l : List ByteArray) (s : ByteArray) : decide (0 ≤ idxS l s) = memS l s := by
  unfold idxS memS
  cases h : l.findIdx? (fun x => decide (s.toList = x.toList)) with
  | none =>
    rw [List.findIdx?_eq_none_iff] at h
    have : (l.any fun x => decide (s.toList = x.toList)) = false := by
      rw [Bool.eq_false_iff, Ne, List.any_eq_true]
      rintro ⟨x, hx, h2⟩
      rw [h x hx] at h2
      cases h2
    rw [this]
    rfl
  | some i =>
    obtain ⟨h1, h2, _⟩ := List.findIdx?_eq_some_iff_getElem.1 h
    have : (l.any fun x => decide (s.toList = x.toList)) = true := List.any_eq_true.2 ⟨_, List.getElem_mem h1, h2⟩
    rw [this]
    simp
theorem index_any (w : World) (v : Value) (l : List ByteArray) (s : ByteArray) (hv : StrSl w v l) :
    Calls Try.prog 86 #[v, .string s] w fun r w' => r = .returned (.int .i64 (idxS l s)) ∧ w = w' := by
  obtain ⟨A, cap, rfl, h1, h2, h3, h4, h5⟩ := hv
  go_enter Try.func86, Try.ntmps86
  go_wp2_with fail
  go_loop [8] (fun i => ∃ k : Nat, i = .int .i64 k ∧ k ≤ l.length ∧ Hid (∀ j (hj : j < l.length), j < k → ¬ s.toList = (l[j]).toList)) (fun i => l.length - (intOf i).toNat)
  case atStart => exact ⟨0, rfl, Nat.zero_le _, fun _ _ h => absurd h (Nat.not_lt_zero _)⟩
  case round =>
    obtain ⟨k, rfl, hk, hm⟩ := hrel
    by_cases hlt : k < l.length
    · obtain ⟨b, o, rfl, hbl, hc⟩ := StrSl.cell h5 k hlt
      clear h5
      by_cases he : s.toList = (l[k]).toList
      · have HI := Lib.hid (idxS_hit hlt he hm.out)
        generalize l[k] = x at *
        go_wp2_with fail
        go_ret
        exact ⟨by rw [HI.out]; rfl, rfl⟩
      · have HM : Hid (∀ j (hj : j < l.length), j < k + 1 → ¬ s.toList = (l[j]).toList) := by
          intro j hj h
          by_cases e : j = k
          · subst e; exact he
          · exact hm.out j hj (by omega)
        clear hm
        generalize l[k] = x at *
        have he' : (s.toList == x.toList) = false := by simpa using he
        clear he
        go_wp2_with fail
        exact ⟨⟨k + 1, by go_num, by omega, HM⟩, by simp [intOf]; omega⟩
    · have HI := Lib.hid (idxS_miss (fun j hj => hm.out j hj (by omega)))
      go_wp2_with fail
      go_ret
      exact ⟨by rw [HI.out]; rfl, rfl⟩
theorem contains_any (w : World) (v : Value) (l : List ByteArray) (s : ByteArray) (hv : StrSl w v l) :
    Calls Try.prog 71 #[v, .string s] w fun r w' => r = .returned (.bool (memS l s)) ∧ w = w' := by
  have H := Lib.hid (index_any w v l s hv)
  have HM := Lib.hid (memS_idx l s)
  go_enter Try.func71, Try.ntmps71
  go_wp2_with (go_at_call 86; refine H.out.mono ?_; rintro e w' ⟨rfl, rfl⟩)
  go_ret
  exact ⟨by rw [← HM.out]; rfl, rfl⟩
theorem in_any (w : World) (v : Value) (l : List ByteArray) (s : ByteArray) (hv : StrSl w v l) :
    Calls Try.prog 25 #[v, .string s] w fun r w' => r = .returned (.bool (memS l s)) ∧ w = w' := by
  obtain ⟨A, cap, rfl, h1, h2, h3, h4, h5⟩ := hv
  go_enter Try.func25, Try.ntmps25
  go_wp2_with fail
  go_loop [9] (fun i => ∃ k : Nat, i = .int .i64 k ∧ k ≤ l.length ∧ Hid (∀ j (hj : j < l.length), j < k → ¬ s.toList = (l[j]).toList)) (fun i => l.length - (intOf i).toNat)
  case atStart => exact ⟨0, rfl, Nat.zero_le _, fun _ _ h => absurd h (Nat.not_lt_zero _)⟩
  case round =>
    obtain ⟨k, rfl, hk, hm⟩ := hrel
    by_cases hlt : k < l.length
    · obtain ⟨b, o, rfl, hbl, hc⟩ := StrSl.cell h5 k hlt
      clear h5
      by_cases he : s.toList = (l[k]).toList
      · have HI := Lib.hid (memS_hit hlt he)
        generalize l[k] = x at *
        have he' := he.symm
        clear he
        go_wp2_with fail
        go_ret
        exact ⟨by rw [HI.out]; rfl, rfl⟩
      · have HM : Hid (∀ j (hj : j < l.length), j < k + 1 → ¬ s.toList = (l[j]).toList) := by
          intro j hj h
          by_cases e : j = k
          · subst e; exact he
          · exact hm.out j hj (by omega)
        clear hm
        generalize l[k] = x at *
        have he' : (x.toList == s.toList) = false := by simpa using fun h => he h.symm
        clear he
        go_wp2_with fail
        exact ⟨⟨k + 1, by go_num, by omega, HM⟩, by simp [intOf]; omega⟩
    · have HI := Lib.hid (memS_miss (fun j hj => hm.out j hj (by omega)))
      go_wp2_with fail
      go_ret
      exact ⟨by rw [HI.out]; rfl, rfl⟩
theorem info9 : (Try.prog.info? 9).map (fun i => (i.zero, i.size, i.bytes)) = some (some (.string ⟨#[]⟩), 1, 16) := by kernel_rfl
theorem one_strings (l : List ByteArray) : ∀ u ∈ l.map Value.string, u.oneCell' = true := by
  intro u hu
  obtain ⟨s, _, rfl⟩ := List.mem_map.1 hu
  rfl
/-- a row of strings of the call's own. -/
def StrOwn (w : World) (B : Nat) (v : Value) (l : List ByteArray) : Prop := w.ownsRow B 9 1 v l.length (l.map Value.string)
theorem clone_any (w : World) (v : Value) (l : List ByteArray) (hv : StrSl w v l) :
    Calls Try.prog 73 #[v] w fun r w' => ∃ v', r = .returned v' ∧ StrOwn w' w.heap.size v' l ∧ Below w.heap.size w w' := by
  obtain ⟨A, cap, rfl, h1, h2, h3, h4, h5⟩ := hv
  cases A with
  | none =>
    have hc := h4 rfl
    subst hc
    obtain rfl : l = [] := List.eq_nil_of_length_eq_zero (by omega)
    have he := fun (w : World) => Lib.run_eql_slice_nil (P := Try.prog) w 51 9 none 0 0 0 0 Try.underlying51
    go_enter Try.func73, Try.ntmps73
    go_wp2_with fail
    go_ret
    exact ⟨_, rfl, World.ownsRow_nil _ _ _ _, Below.refl _ _⟩
  | some a =>
    have he := fun (w : World) => Lib.run_eql_slice_nil (P := Try.prog) w 51 9 (some a) l.length cap 0 0 Try.underlying51
    obtain ⟨i0, hi, hz0, hz1, hz2⟩ := info_parts info9
    have hone := one_strings l
    have hb1 : Below w.heap.size w (w.alloc (.cells #[] 9)) := (Below.refl _ _).alloc (Nat.le_refl _) _
    have hown := own_new w 9 1 0 #[] rfl (by omega)
    have hs1 := h5.below hb1 (Nat.le_refl _)
    have hcap : some a = none → cap = 0 := fun h => by cases h
    clear h4 h5
    go_enter Try.func73, Try.ntmps73
    go_wp2_with (at_builtin; refine wpList_append_src rfl (.tmp 5) (.tmp 6) 51 rfl w.heap.size 9 i0 _ 1 16 Try.underlying51 hi hz0 hz1 hz2 rfl (by omega) _ 0 [] rfl hown (some a) l.length cap _ rfl hs1 hcap hone (by unfold maxLen; omega) (by omega) hb1.size ?_; intro v2 w2 hown2 hg2)
    go_ret
    have hb2 := below_grown hown hg2 hb1.size
    rw [Nat.zero_add] at hown2
    exact ⟨_, rfl, by simpa [StrOwn] using hown2, hb1.trans hb2⟩
def withS (l : List ByteArray) (s : ByteArray) : List ByteArray := if memS l s then l else l ++ [s]
/-- a row of the call's own that may have become longer. -/
def StrGrew (w : World) (B : Nat) (v : Value) (l' : List ByteArray) (e : Ending) (w' : World) : Prop :=
  ∃ v', e = .returned v' ∧ StrOwn w' B v' l' ∧ w.grownBy w' v.ownBlock ∧ Fresh w v v'
set_option maxRecDepth 100000 in
theorem with_any (w : World) (B : Nat) (v : Value) (l : List ByteArray) (s : ByteArray) (hv : StrOwn w B v l) (hm : l.length + 1 ≤ 4194304) (hB : B ≤ w.heap.size) :
    Calls Try.prog 72 #[v, .string s] w (StrGrew w B v (withS l s)) := by
  have HC := Lib.hid (contains_any w v l s (StrSl.of_own hv (by omega)))
  unfold StrOwn at hv
  unfold withS
  cases hs : memS l s with
  | true =>
    rw [hs] at HC
    go_enter Try.func72, Try.ntmps72
    go_wp2_with (go_at_call 71; refine HC.out.mono ?_; rintro e w' ⟨rfl, rfl⟩)
    go_ret
    exact ⟨_, rfl, by simpa [StrOwn] using hv, grown_refl _ _, Fresh.refl _ _⟩
  | false =>
    rw [hs] at HC
    obtain ⟨i0, hi, hz0, hz1, hz2⟩ := info_parts info9
    have hown' := hv.alloc (Obj.cells #[.string s] 9)
    have hg1 : l.length + 1 ≤ maxLen := by unfold maxLen; omega
    have hg2 : (l.length + 1) * 16 ≤ 140737488355328 := by omega
    have hsrc : Src (w.alloc (Obj.cells #[.string s] 9)) 1 (some ⟨w.heap.size, 0, none⟩) 1 [.string s] := Src.of_own (own_new w 9 1 1 #[.string s] rfl (by omega))
    have hbase : B ≤ (w.alloc (Obj.cells #[.string s] 9)).heap.size := by simp; omega
    have hb1 : Below w.heap.size w (w.alloc (Obj.cells #[.string s] 9)) := (Below.refl _ _).alloc (Nat.le_refl _) _
    go_enter Try.func72, Try.ntmps72
    go_wp2_with (first | (go_at_call 71; refine HC.out.mono ?_; rintro e w' ⟨rfl, rfl⟩) | (at_builtin; refine wpList_append_where rfl (.tmp 9) (.tmp 11) 51 rfl B 9 i0 _ 1 16 Try.underlying51 hi hz0 hz1 hz2 rfl (by omega) v _ _ rfl hown' (some ⟨w.heap.size, 0, none⟩) 1 1 [.string s] rfl hsrc (fun h => by cases h) (by simp [Value.oneCell']) hg1 hg2 hbase ?_; intro v2 w2 hown2 hg3 hf))
    go_ret
    refine ⟨_, rfl, ?_, grown_after hb1 hg3, ?_⟩
    · simpa [StrOwn] using hown2
    · rcases hf with hf | ⟨g, h1, h2⟩
      · exact .inl hf
      · exact .inr ⟨g, h1, by simp at h2; omega⟩
theorem texts_any (w : World) (l : List ByteArray) (v u : Value) (hv : StrSl w v l) (hu : StrSl w u l) :
    Calls Try.prog 51 #[v, u] w fun r w' => r = .returned (.bool true) ∧ Below w.heap.size w w' := by
  obtain ⟨A, cap, rfl, h1, h2, h3, h4, h5⟩ := hv
  obtain ⟨A2, cap2, rfl, g1, g2, g3, g4, g5⟩ := hu
  go_enter Try.func51, Try.ntmps51
  go_wp2_with fail
  go_loopw [13] (fun i wr => ∃ k : Nat, i = .int .i64 k ∧ k ≤ l.length ∧ ∃ n, wr = w.drewN n) (fun i _ => l.length - (intOf i).toNat)
  case atStart => exact ⟨0, rfl, Nat.zero_le _, 0, rfl⟩
  case round =>
    obtain ⟨k, rfl, hk, n, rfl⟩ := hrel
    by_cases hlt : k < l.length
    · obtain ⟨b, o, rfl, hbl, hc⟩ := StrSl.cell h5 k hlt
      obtain ⟨b2, o2, rfl, hbl2, hc2⟩ := StrSl.cell g5 k hlt
      clear h5 g5
      generalize l[k] = x at *
      go_wp2_with fail
      go_quiet (fail)
      go_wp2_with fail
      exact ⟨⟨k + 1, by go_num, by omega, _, rfl⟩, by simp [intOf]; omega⟩
    · go_wp2_with fail
      go_ret
      exact ⟨rfl, by repeat (first | exact Below.refl _ _ | apply below_drewN)⟩
end Go.Proofs.Ytnaakhnmbckpmaa.Strs
