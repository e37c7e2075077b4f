/- Rows of integers, rows of such rows; slices.Clone at integers; the places of names, plain. -/
import Derived.Test.YtnaakhnmbckpmaaHeadSub
namespace Go.Proofs.Ytnaakhnmbckpmaa.Data
open Go.ChangeShapes Go.WideShapes Go.ChangeAt Go.RowKit Go.Proofs.Ytnaakhnmbckpmaa.Lift
set_option linter.unusedVariables false
set_option linter.unusedSimpArgs false
/-- a slice of integers. -/
def IS (w : World) (v : Value) (l : List Int) : Prop :=
  ∃ (A : Option Addr) (cap : Nat), v = .slice A l.length cap ∧ l.length ≤ cap ∧ cap ≤ 9223372036854775807 ∧ l.length ≤ 4194304 ∧ (A = none → cap = 0) ∧ Src w 1 A l.length (l.map (Value.int .i64))
theorem IS.sub {w w' : World} {v : Value} {l : List Int} (h : IS w v l) (hb : Sub w w') : IS w' v l := by
  obtain ⟨A, cap, h0, h1, h2, h3, h4, h5⟩ := h
  exact ⟨A, cap, h0, h1, h2, h3, h4, Src_sub h5 hb⟩
theorem IS.nil (w : World) : IS w (.slice none 0 0) [] := ⟨none, 0, rfl, Nat.le_refl _, by omega, by simp, fun _ => rfl, by simp, .inl rfl⟩
theorem IS.of_own {w : World} {base e : Nat} {v : Value} {l : List Int} (h : w.ownsRow base e 1 v l.length (l.map (Value.int .i64))) (hm : l.length ≤ 4194304) : IS w v l := by
  obtain ⟨A, cap, rfl, h1, h2⟩ := own_form h
  exact ⟨A, cap, rfl, h1, h2, hm, own_cap h, Src.of_own h⟩
theorem IS_cell {w : World} {A : Option Addr} {l : List Int} (h : Src w 1 A l.length (l.map (Value.int .i64))) (j : Nat) (hj : j < l.length) : ∃ b o, A = some ⟨b, o, none⟩ ∧ b < w.heap.size ∧ w.cell? ⟨b, o + j, none⟩ = some (.int .i64 l[j]) := by
  rcases h.2 with h0 | ⟨b, o, rfl, hc⟩
  · omega
  · have := hc j (.int .i64 l[j]) (by simp [hj])
    exact ⟨b, o, rfl, World.block_lt_of_cell? _ _ this, this⟩
theorem one_ints (l : List Int) : ∀ u ∈ l.map (Value.int .i64), u.oneCell' = true := by
  intro u hu
  obtain ⟨s, _, rfl⟩ := List.mem_map.1 hu
  rfl
/-- the cells of a row of such slices. -/
def PCells (w : World) : List (List Int) → List Value → Prop
  | [], xs => xs = []
  | l :: r, xs => ∃ v rest, xs = v :: rest ∧ IS w v l ∧ PCells w r rest
theorem PCells.sub {w w' : World} (hb : Sub w w') : ∀ {ls : List (List Int)} {xs : List Value}, PCells w ls xs → PCells w' ls xs
  | [], xs, h => by rw [PCells] at h ⊢; exact h
  | e :: r, xs, h => by
    rw [PCells] at h ⊢
    obtain ⟨c, rest, h0, h1, h2⟩ := h
    exact ⟨c, rest, h0, h1.sub hb, h2.sub hb⟩
theorem PCells.append {w : World} : ∀ {es fs : List (List Int)} {xs zs : List Value}, PCells w es xs → PCells w fs zs → PCells w (es ++ fs) (xs ++ zs)
  | [], fs, xs, zs, h, g => by rw [PCells] at h; subst h; exact g
  | e :: r, fs, xs, zs, h, g => by
    rw [PCells] at h
    obtain ⟨c, rest, rfl, h1, h2⟩ := h
    rw [List.cons_append, PCells]
    exact ⟨c, rest ++ zs, rfl, h1, h2.append g⟩
theorem PCells.single {w : World} {e : List Int} {v : Value} (h : IS w v e) : PCells w [e] [v] := by
  rw [PCells]
  exact ⟨v, [], rfl, h, by rw [PCells]⟩
theorem PCells.len {w : World} : ∀ {es : List (List Int)} {xs : List Value}, PCells w es xs → xs.length = es.length
  | [], xs, h => by rw [PCells] at h; subst h; simp
  | e :: r, xs, h => by
    rw [PCells] at h
    obtain ⟨c, rest, rfl, h1, h2⟩ := h
    rw [List.length_cons, h2.len, List.length_cons]
theorem PCells.one {w : World} : ∀ {es : List (List Int)} {xs : List Value}, PCells w es xs → ∀ u ∈ xs, u.oneCell' = true
  | [], xs, h => by rw [PCells] at h; subst h; simp
  | e :: r, xs, h => by
    rw [PCells] at h
    obtain ⟨c, rest, rfl, h1, h2⟩ := h
    intro u hu
    rcases List.mem_cons.1 hu with rfl | hu
    · obtain ⟨A, cap, rfl, _⟩ := h1; rfl
    · exact h2.one u hu
theorem PCells.get {w : World} : ∀ {es : List (List Int)} {xs : List Value}, PCells w es xs → ∀ (j : Nat) (h : j < es.length), ∃ v, xs[j]? = some v ∧ IS w v es[j]
  | [], xs, _, j, h => by simp at h
  | e :: r, xs, h, 0, _ => by
    rw [PCells] at h
    obtain ⟨c, rest, rfl, h1, h2⟩ := h
    exact ⟨c, rfl, h1⟩
  | e :: r, xs, h, j + 1, hj => by
    rw [PCells] at h
    obtain ⟨c, rest, rfl, h1, h2⟩ := h
    simpa using h2.get j (by simpa using hj)
/-- a slice of such slices. -/
def PS (w : World) (v : Value) (ls : List (List Int)) : Prop :=
  ∃ (A : Option Addr) (cap : Nat) (xs : List Value), v = .slice A ls.length cap ∧ ls.length ≤ cap ∧ cap ≤ 9223372036854775807 ∧ ls.length ≤ 4194304 ∧ (A = none → cap = 0) ∧ Src w 1 A ls.length xs ∧ PCells w ls xs
theorem PS.sub {w w' : World} {v : Value} {l : List (List Int)} (h : PS w v l) (hb : Sub w w') : PS w' v l := by
  obtain ⟨A, cap, xs, h0, h1, h2, h3, h4, h5, h6⟩ := h
  exact ⟨A, cap, xs, h0, h1, h2, h3, h4, Src_sub h5 hb, h6.sub hb⟩
theorem PS_get {w : World} {A : Option Addr} {ls : List (List Int)} {xs : List Value} (h : Src w 1 A ls.length xs) (hc : PCells w ls xs) (j : Nat) (hj : j < ls.length) : ∃ b o v, A = some ⟨b, o, none⟩ ∧ b < w.heap.size ∧ w.cell? ⟨b, o + j, none⟩ = some v ∧ IS w v ls[j] := by
  obtain ⟨v, h1, h2⟩ := hc.get j hj
  rcases h.2 with h0 | ⟨b, o, rfl, hc'⟩
  · omega
  · have := hc' j v h1
    exact ⟨b, o, v, rfl, World.block_lt_of_cell? _ _ this, this, h2⟩
end Go.Proofs.Ytnaakhnmbckpmaa.Data
namespace Go.Proofs.Ytnaakhnmbckpmaa.Pats
open Go.ChangeShapes Go.WideShapes Go.ChangeAt Go.RowKit Go.Proofs.Ytnaakhnmbckpmaa.Lift Go.Proofs.Ytnaakhnmbckpmaa.Data Go.Proofs.Ytnaakhnmbckpmaa.Refs
set_option linter.unusedVariables false
set_option linter.unusedSimpArgs false
theorem PS.of_own {w : World} {base e n : Nat} {v : Value} {l : List (List Int)} {xs : List Value} (hn : n = l.length) (h : w.ownsRow base e 1 v n xs) (hc : PCells w l xs) (hm : l.length ≤ 4194304) : PS w v l := by
  subst hn
  obtain ⟨A, cap, rfl, h1, h2⟩ := own_form h
  exact ⟨A, cap, xs, rfl, h1, h2, hm, own_cap h, Src.of_own h, hc⟩
/-- a row of its own, seen in a part that has its block. -/
theorem IS_part {w : World} {base e : Nat} {v : Value} {l : List Int} {S : Nat → Bool} (h : w.ownsRow base e 1 v l.length (l.map (Value.int .i64))) (hm : l.length ≤ 4194304) (hS : ∀ k, base ≤ k → S k = true) : IS (part w S) v l := by
  obtain ⟨A, cap, rfl, h1, h2⟩ := own_form h
  exact ⟨A, cap, rfl, h1, h2, hm, own_cap h, src_part h hS⟩
theorem info3 : (Try.prog.info? 3).map (fun i => (i.zero, i.size, i.bytes)) = some (some (.int .i64 0), 1, 8) := by kernel_rfl
theorem info58 : (Try.prog.info? 58).map (fun i => (i.zero, i.size, i.bytes)) = some (some (.slice none 0 0), 1, 24) := by kernel_rfl
def IntOwn (w : World) (B : Nat) (v : Value) (l : List Int) : Prop := w.ownsRow B 3 1 v l.length (l.map (Value.int .i64))
theorem cloneInt_any (w : World) (v : Value) (l : List Int) (hv : IS w v l) :
    Calls Try.prog 75 #[v] w fun r w' => ∃ v', r = .returned v' ∧ IntOwn w' w.heap.size v' l ∧ Below w.heap.size w w' := by
  obtain ⟨A, cap, rfl, h1, h2, h3, h4, h5⟩ := hv
  cases A with
  | none =>
    have hc := h4 rfl
    subst hc
    obtain rfl : l = [] := List.eq_nil_of_length_eq_zero (by omega)
    have he := fun (w : World) => Lib.run_eql_slice_nil (P := Try.prog) w 58 3 none 0 0 0 0 Try.underlying58
    go_enter Try.func75, Try.ntmps75
    go_wp2_with fail
    go_ret
    exact ⟨_, rfl, World.ownsRow_nil _ _ _ _, Below.refl _ _⟩
  | some a =>
    have he := fun (w : World) => Lib.run_eql_slice_nil (P := Try.prog) w 58 3 (some a) l.length cap 0 0 Try.underlying58
    obtain ⟨i0, hi, hz0, hz1, hz2⟩ := info_parts info3
    have hone := one_ints l
    have hb1 : Below w.heap.size w (w.alloc (.cells #[] 3)) := (Below.refl _ _).alloc (Nat.le_refl _) _
    have hown := own_new w 3 1 0 #[] rfl (by omega)
    have hs1 := h5.below hb1 (Nat.le_refl _)
    have hcap : some a = none → cap = 0 := fun h => by cases h
    clear h4 h5
    go_enter Try.func75, Try.ntmps75
    go_wp2_with (at_builtin; refine wpList_append_src rfl (.tmp 5) (.tmp 6) 58 rfl w.heap.size 3 i0 _ 1 8 Try.underlying58 hi hz0 hz1 hz2 rfl (by omega) _ 0 [] rfl hown (some a) l.length cap _ rfl hs1 hcap hone (by unfold maxLen; omega) (by omega) hb1.size ?_; intro v2 w2 hown2 hg2)
    go_ret
    have hb2 := below_grown hown hg2 hb1.size
    rw [Nat.zero_add] at hown2
    exact ⟨_, rfl, by simpa [IntOwn] using hown2, hb1.trans hb2⟩
mutual
/-- where names stand in a pattern that stands there. -/
def placeS : Ex → List Int → List (List Int)
  | .mk k s n ys l c, here => if k = 1 then [here] else if k = 4 then (match ys with | [] => [] | y :: r => placesS r here 0) else []
def placesS : List Ex → List Int → Nat → List (List Int)
  | [], _, _ => []
  | e :: r, path, i => placeS e (path ++ [(i : Int)]) ++ placesS r path (i + 1)
end
theorem placeS_def (e : Ex) (here : List Int) : placeS e here = if e.k = 1 then [here] else placesS (headS e).2 here 0 := by
  cases e with
  | mk k s n ys l c =>
  rw [placeS.eq_def]
  simp only [Ex.k]
  by_cases h1 : k = 1
  · simp [h1]
  by_cases h4 : k = 4
  · subst h4
    cases ys with
    | nil => simp [headS, placesS]
    | cons y r => simp [headS]
  simp [h1, h4, headS, placesS]
theorem placesS_append : ∀ (a b : List Ex) (path : List Int) (i : Nat), placesS (a ++ b) path i = placesS a path i ++ placesS b path (i + a.length)
  | [], b, path, i => by simp [placesS]
  | e :: r, b, path, i => by
    simp only [List.cons_append, placesS]
    rw [placesS_append r b, List.append_assoc, List.length_cons, show i + 1 + r.length = i + (r.length + 1) by omega]
theorem placesS_take {ps : List Ex} {j : Nat} (h : j < ps.length) (path : List Int) : placesS (ps.take (j + 1)) path 0 = placesS (ps.take j) path 0 ++ placeS ps[j] (path ++ [(j : Int)]) := by
  rw [List.take_succ_eq_append_getElem h, placesS_append]
  have : (ps.take j).length = j := by rw [List.length_take]; omega
  rw [this]
  simp [placesS]
mutual
theorem placeS_le : ∀ (e : Ex) (x : List Int), (placeS e x).length ≤ e.size
  | .mk k s n ys l c, x => by
    rw [placeS.eq_def, Ex.size_mk]
    dsimp only
    split
    · simp
    split
    · cases ys with
      | nil => simp
      | cons y r =>
        have := placesS_le r x 0
        simp only [ExSize]
        omega
    · simp
theorem placesS_le : ∀ (ps : List Ex) (x : List Int) (i : Nat), (placesS ps x i).length ≤ ExSize ps
  | [], x, i => by simp [placesS]
  | e :: r, x, i => by
    have h1 := placeS_le e (x ++ [(i : Int)])
    have h2 := placesS_le r x (i + 1)
    simp only [placesS, ExSize, List.length_append]
    omega
end
end Go.Proofs.Ytnaakhnmbckpmaa.Pats
