/- Contracts: pats.Reach and pats.At. -/
import Derived.Test.YtnaakhnmbckpmaaPlaces
import Derived.Test.YtnaakhnmbckpmaaCmp
import Derived.Test.YtnaakhnmbckpmaaTermT
import Derived.Deep.RegionHeld3
namespace Go.Proofs.Ytnaakhnmbckpmaa.Data
open Go.ChangeShapes Go.WideShapes Go.ChangeAt Go.RowKit Go.Proofs.Ytnaakhnmbckpmaa.Lift
set_option linter.unusedVariables false
set_option linter.unusedSimpArgs false
theorem Tm.At.boths {w w' : World} {b o : Nat} {k : Int} {s : ByteArray} {n : Int} {ys : List Tm} (h : (Tm.mk k s n ys).At w b o) (hb : Sub w w') :
    ∃ (A : Option Addr) (cap : Nat), w'.cell? ⟨b, o, none⟩ = some (.int .i64 k) ∧ w'.cell? ⟨b, o + 1, none⟩ = some (.string s) ∧ w'.cell? ⟨b, o + 2, none⟩ = some (.int .i64 n) ∧ w'.cell? ⟨b, o + 3, none⟩ = some (.slice A ys.length cap) ∧
      (Tm.mk k s n ys).Val w (.agg #[.int .i64 k, .string s, .int .i64 n, .slice A ys.length cap]) := by
  rw [Tm.At] at h
  obtain ⟨A, cap, c0, c1, c2, c3, hh, hr⟩ := h
  exact ⟨A, cap, hb _ _ _ c0, hb _ _ _ c1, hb _ _ _ c2, hb _ _ _ c3, A, cap, rfl, hh, hr⟩
theorem IS_tail {w : World} {b o cap : Nat} {y : Int} {r : List Int} (h1 : r.length + 1 ≤ cap) (h2 : cap ≤ 9223372036854775807) (h3 : r.length + 1 ≤ 4194304) (hs : Src w 1 (some ⟨b, o, none⟩) (r.length + 1) ((y :: r).map (Value.int .i64))) :
    IS w (.slice (if cap = 1 then some ⟨b, o, none⟩ else some ⟨b, o + 1, none⟩) r.length (cap - 1)) r := by
  refine ⟨_, cap - 1, rfl, by omega, by omega, by omega, fun h => ?_, ?_⟩
  · split at h <;> cases h
  · by_cases hc : cap = 1
    · have : r = [] := List.eq_nil_of_length_eq_zero (by omega)
      subst this
      exact ⟨by simp, .inl rfl⟩
    · rw [if_neg hc]
      refine ⟨by simp, .inr ⟨b, o + 1, rfl, fun j u hu => ?_⟩⟩
      rcases hs.2 with hs | ⟨b', o', e, hs⟩
      · omega
      · injection e with e
        injection e with e1 e2
        subst e1 e2
        have := hs (j + 1) u (by simpa using hu)
        rw [show o + 1 + j = o + (j + 1) by omega]
        exact this
end Go.Proofs.Ytnaakhnmbckpmaa.Data
namespace Go.Proofs.Ytnaakhnmbckpmaa.Pats
open Go.ChangeShapes Go.WideShapes Go.ChangeAt Go.RowKit Go.Proofs.Ytnaakhnmbckpmaa.Lift Go.Proofs.Ytnaakhnmbckpmaa.Data Go.Proofs.Ytnaakhnmbckpmaa.Refs
set_option linter.unusedVariables false
set_option linter.unusedSimpArgs false
/-- the pattern at a path. -/
def atS : List Ex → List Int → Option Ex
  | _, [] => none
  | l, [k] => if k < 0 then none else l[k.toNat]?
  | l, k :: r => if k < 0 then none else match l[k.toNat]? with | none => none | some e => atS (headS e).2 r
def reachS : List Tm → List Int → Option Tm
  | _, [] => none
  | l, [k] => if k < 0 then none else l[k.toNat]?
  | l, k :: r => if k < 0 then none else match l[k.toNat]? with | none => none | some e => reachS e.ys r
def exZero : Value := .agg #[.int .i64 0, .string ⟨#[]⟩, .int .i64 0, .slice none 0 0, .int .i64 0, .int .i64 0]
def tmZero : Value := .agg #[.int .i64 0, .string ⟨#[]⟩, .int .i64 0, .slice none 0 0]
theorem headS_short (k : Int) (s : ByteArray) (n : Int) (ys : List Ex) (l c : Int) : (headS (.mk k s n ys l c)).2.length ≤ ys.length := by
  simp only [headS]
  split
  · cases ys <;> simp
  · simp
/-- what can be read in the later one is in the elder one's blocks, or behind one. -/
def Old (w0 : World) (B : Nat) (w1 : World) : Prop := ∀ b o v, w1.cell? ⟨b, o, none⟩ = some v → (∃ o' v', w0.cell? ⟨b, o', none⟩ = some v') ∨ B < b
def AtRes (w0 : World) (m : Option Ex) (w : World) (e : Ending) (w' : World) : Prop :=
  ∃ v b, e = .returned (.tuple #[v, .bool b]) ∧ Below w.heap.size w w' ∧ (match m with | none => b = false ∧ v = exZero | some x => b = true ∧ ∃ w1, x.Val w1 v ∧ Data.Sub w1 w' ∧ Old w0 w.heap.size w1)
open Classical in
noncomputable def oldS (w0 : World) (B : Nat) (b : Nat) : Bool := decide ((∃ o v, w0.cell? ⟨b, o, none⟩ = some v) ∨ B < b)
theorem oldS_iff {w0 : World} {B b : Nat} : oldS w0 B b = true ↔ (∃ o v, w0.cell? ⟨b, o, none⟩ = some v) ∨ B < b := by simp [oldS]
theorem sub_oldS {w0 w' : World} {B : Nat} (h : Data.Sub w0 w') : Data.Sub w0 (part w' (oldS w0 B)) := by
  intro b o v hv
  rw [part_cell, if_pos (oldS_iff.2 (.inl ⟨o, v, hv⟩))]
  exact h b o v hv
theorem old_of_part {w0 w' : World} {B : Nat} : Old w0 B (part w' (oldS w0 B)) := by
  intro b o v hv
  rw [part_cell] at hv
  split at hv
  · rename_i hs
    exact oldS_iff.1 hs
  · cases hv
theorem Old.refl (w0 : World) (B : Nat) : Old w0 B w0 := fun b o v hv => .inl ⟨o, v, hv⟩
theorem Old.trans {w0 w1 w2 : World} {B B' : Nat} (h : Old w0 B w1) (g : Old w1 B' w2) (hB : B ≤ B') : Old w0 B w2 := by
  intro b o v hv
  rcases g b o v hv with ⟨o', v', h1⟩ | h1
  · exact h b o' v' h1
  · exact .inr (by omega)
/-- a store into a block that it does not have. -/
theorem Old.setCell {w0 w1 w' : World} {B o : Nat} {u : Value} (h : Old w0 B w1) (hs : Data.Sub w1 w') (hB : ∀ o' v', w0.cell? ⟨B, o', none⟩ ≠ some v') : Data.Sub w1 (w'.setCell ⟨B, o, none⟩ u) := by
  intro b o2 v hv
  have hne : b ≠ B := by
    rintro rfl
    rcases h _ _ _ hv with ⟨o', v', h1⟩ | h1
    · exact hB _ _ h1
    · omega
  have h2 := hs _ _ _ hv
  unfold World.cell? at h2 ⊢
  simp only at h2 ⊢
  rw [Below.heap_setCell _ _ _ _ hne]
  exact h2
def ReachRes (w0 : World) (m : Option Tm) (w : World) (e : Ending) (w' : World) : Prop :=
  ∃ v b, e = .returned (.tuple #[v, .bool b]) ∧ Below w.heap.size w w' ∧ (match m with | none => b = false ∧ v = tmZero | some x => b = true ∧ x.Val w0 v)
set_option maxRecDepth 100000 in
set_option maxHeartbeats 4000000 in
theorem at_any : ∀ (path : List Int) (w0 : World) (ps : List Ex) (w : World) (v u : Value), Ex.Sl w0 v ps → IS w0 u path → Sub w0 w → Calls Try.prog 33 #[v, u] w (AtRes w0 (atS ps path) w) := by
  intro path
  induction path with
  | nil =>
    intro w0 ps w v u hv hu h0
    obtain ⟨A, cap, rfl, hd, hs⟩ := hv
    obtain ⟨A2, cap2, rfl, g1, g2, g3, g4, g5⟩ := hu
    rw [atS]
    simp only [List.length_nil]
    go_enter Try.func33, Try.ntmps33
    go_wp2_with fail
    exact bodyPost_ret (v := .tuple #[exZero, .bool false]) (by simp [results, Try.results33, go_sem, exZero]) rfl ⟨_, _, rfl, (Below.refl _ _).alloc (Nat.le_refl _) _, rfl, rfl⟩
  | cons k r ih =>
    intro w0 ps w v u hv hu h0
    obtain ⟨A, cap, rfl, ⟨hd1, hd2, hd3, hd4⟩, hs⟩ := hv
    obtain ⟨A2, cap2, rfl, g1, g2, g3, g4, g5⟩ := hu
    obtain ⟨b2, o2, rfl, hbl2, hc2⟩ := IS_cell g5 0 (by simp)
    have hk0 := h0 _ _ _ hc2
    simp only [List.getElem_cons_zero, Nat.add_zero] at hk0
    rw [List.length_cons] at *
    have hbl := World.block_lt_of_cell? _ _ hk0
    have hne0 : ((r.length : Int) + 1 == 0) = false := by rw [beq_eq_false_iff_ne]; omega
    by_cases hneg : k < 0
    · have hat : atS ps (k :: r) = none := by cases r <;> simp [atS, hneg]
      rw [hat]
      go_enter Try.func33, Try.ntmps33
      go_wp2_with fail
      exact bodyPost_ret (v := .tuple #[exZero, .bool false]) (by simp [results, Try.results33, go_sem, exZero]) rfl ⟨_, _, rfl, (Below.refl _ _).alloc (Nat.le_refl _) _, rfl, rfl⟩
    obtain ⟨m, rfl⟩ := Int.eq_ofNat_of_zero_le (Int.not_lt.1 hneg)
    clear hneg
    by_cases hm : ps.length ≤ m
    · have hat : atS ps ((m : Int) :: r) = none := by
        cases r <;> simp [atS, List.getElem?_eq_none hm] <;> omega
      rw [hat]
      go_enter Try.func33, Try.ntmps33
      go_wp2_with fail
      exact bodyPost_ret (v := .tuple #[exZero, .bool false]) (by simp [results, Try.results33, go_sem, exZero]) rfl ⟨_, _, rfl, (Below.refl _ _).alloc (Nat.le_refl _) _, rfl, rfl⟩
    have hlt : m < ps.length := by omega
    clear hm
    obtain ⟨b, o, rfl, hat⟩ := hs.get m hlt
    have hge : ps[m]? = some ps[m] := List.getElem?_eq_getElem hlt
    have hAT : atS ps ((m : Int) :: r) = (if r = [] then some ps[m] else atS (headS ps[m]).2 r) := by
      cases r <;> simp [atS, hge] <;> omega
    rw [hAT]
    clear hAT hge
    generalize ps[m] = y at *
    have HY := Lib.hid (fun W v hv h => head_sub w0 y W v hv h)
    cases y with
    | mk k' s' n' ys' l' c' =>
    obtain ⟨A', cap', c0, c1, c2, c3, c4, c5, hv'⟩ := Ex.At.boths hat h0
    have hblb := World.block_lt_of_cell? _ _ c0
    have hno : ∀ o' v', w0.cell? ⟨w.heap.size, o', none⟩ ≠ some v' := fun o' v' h => by have := World.block_lt_of_cell? _ _ (h0 _ _ _ h); simp only at this; omega
    by_cases hr : r = []
    · subst hr
      rw [if_pos rfl]
      simp only [List.length_nil, Nat.zero_add] at *
      go_enter Try.func33, Try.ntmps33
      go_wp2_with fail
      exact bodyPost_ret (v := .tuple #[.agg #[.int .i64 k', .string s', .int .i64 n', .slice A' ys'.length cap', .int .i64 l', .int .i64 c'], .bool true]) (by simp [results, Try.results33, go_sem]) rfl ⟨_, _, rfl, below2 w _ _, rfl, w0, hv', (h0.alloc _).alloc _, Old.refl _ _⟩
    · rw [if_neg hr]
      have hr1 : 0 < r.length := List.length_pos_iff.2 hr
      have hne1 : ((r.length : Int) + 1 == 1) = false := by rw [beq_eq_false_iff_ne]; omega
      have hx1 : (1 : Int) ≤ (r.length : Int) + 1 := by omega
      have hal : (headS (.mk k' s' n' ys' l' c')).2.length ≤ 1048576 := Nat.le_trans (headS_short ..) (by obtain ⟨_, _, _, hd7, _⟩ := hv'; exact hd7.2.2.1)
      have hcap : ¬ cap2 = 1 := by omega
      have hist := IS_tail g1 g2 g3 g5
      rw [if_neg hcap] at hist
      generalize headS (.mk k' s' n' ys' l' c') = hq at *
      obtain ⟨⟨k2, s2, n2, ys2, l2, c2'⟩, args⟩ := hq
      simp only at HY ⊢
      have HH := fun W h => Lib.hid (HY.out W _ hv' h)
      clear HY
      go_enter Try.func33, Try.ntmps33
      go_wp2_with fail
      refine ((HH _ ((h0.alloc _).alloc _)).out).mono ?_
      rintro e w1 ⟨v1, A3, cap3, xs3, rfl, hv1, hown3, hcells3, hb3⟩
      obtain ⟨A5, cap5, rfl, hd5, hs5⟩ := hv1
      have hsub1 := ((h0.alloc (.cells #[.int .i64 0, .string ⟨#[]⟩, .int .i64 0, .slice none 0 0, .int .i64 0, .int .i64 0] 26)).alloc (.cells #[.int .i64 k', .string s', .int .i64 n', .slice A' ys'.length cap', .int .i64 l', .int .i64 c'] 26)).then hb3
      have hcap3 := own_cap hown3
      have hsl : Ex.Sl (part w1 (oldS w0 w.heap.size)) (.slice A3 args.length cap3) args := by
        have hsrc := src_part (S := oldS w0 w.heap.size) hown3 (fun k hk => oldS_iff.2 (.inr (by simp only [World.size_alloc] at hk; omega)))
        obtain ⟨_, _, e4, hf4, hf5⟩ := own_form hown3
        injection e4 with _ _ e4
        subst e4
        exact ⟨A3, cap3, rfl, ⟨hf4, hf5, hal, hcap3⟩, Exs.of_src hsrc (hcells3.sub (sub_oldS hsub1))⟩
      have HI := fun o => Lib.hid (ih (part w1 (oldS w0 w.heap.size)) args (w1.alloc o) _ _ hsl (hist.sub (sub_oldS hsub1)) ((sub_part_of _ _).alloc o))
      have hf0 : w1.heap[w.heap.size]? = some (.cells #[.int .i64 0, .string ⟨#[]⟩, .int .i64 0, .slice none 0 0, .int .i64 0, .int .i64 0] 26 (0, 0)) := (hb3.block _ (by simp; omega)).trans (heap2' w _ _ _)
      have hz1 := hb3.size
      simp only [World.size_alloc] at hz1
      have hbw1 : Below w.heap.size w w1 := (below2 w _ _).trans (hb3.mono (by simp; omega))
      clear hsl hsub1 hist hown3 hcells3 ih
      go_wp2_with fail
      refine ((HI _).out).mono ?_
      rintro e w3 ⟨v3, bb, rfl, hb4, hm4⟩
      have hf1 := (hb4.block _ (by simp; omega)).trans ((heap_alloc_old w1 _ (by omega)).trans hf0)
      obtain ⟨q0, q1, q2, q3, q4, q5, z0, z1, z2, z3, z4, z5⟩ := row6 hf1
      have hz2 := hb4.size
      simp only [World.size_alloc] at hz2
      have hwl3 : w.heap.size < w3.heap.size := by omega
      have hbw3 : Below w.heap.size w w3 := hbw1.trans ((Below.call1 hb4).mono (by omega))
      cases hat2 : atS args r with
      | none =>
        rw [hat2] at hm4
        obtain ⟨rfl, rfl⟩ := hm4
        unfold exZero
        go_wp2_with fail
        refine bodyPost_ret (v := .tuple #[exZero, .bool false]) (by simp [results, Try.results33, go_sem, exZero, q0, q1, q2, q3, q4, q5]) rfl ⟨_, _, rfl, ?_, by rw [hat2]; exact ⟨rfl, rfl⟩⟩
        iterate 6 refine Below.setCell ?_ (by simp only; omega) _
        exact hbw3
      | some x =>
        rw [hat2] at hm4
        obtain ⟨rfl, w4, hvx, hsx, hox⟩ := hm4
        have hold := Old.trans (old_of_part (w0 := w0) (w' := w1) (B := w.heap.size)) hox (by simp; omega)
        clear hox
        cases x with
        | mk k6 s6 n6 ys6 l6 c6 =>
        have HVX := Lib.hid hvx
        obtain ⟨A6, cap6, rfl, _, _⟩ := hvx
        go_wp2_with fail
        refine bodyPost_ret (v := .tuple #[.agg #[.int .i64 k6, .string s6, .int .i64 n6, .slice A6 ys6.length cap6, .int .i64 l6, .int .i64 c6], .bool true]) (by simp [results, Try.results33, go_sem, q0, q1, q2, q3, q4, q5]) rfl ⟨_, _, rfl, ?_, by rw [hat2]; refine ⟨rfl, w4, HVX.out, ?_, hold⟩; (iterate 6 refine Old.setCell hold ?_ hno); exact hsx⟩
        · iterate 6 refine Below.setCell ?_ (by simp only; omega) _
          exact hbw3
set_option maxRecDepth 100000 in
set_option maxHeartbeats 4000000 in
theorem reach_any : ∀ (path : List Int) (w0 : World) (ts : List Tm) (w : World) (v u : Value), Tm.Sl w0 v ts → IS w0 u path → Below w0.heap.size w0 w → Calls Try.prog 32 #[v, u] w (ReachRes w0 (reachS ts path) w) := by
  intro path
  induction path with
  | nil =>
    intro w0 ts w v u hv hu h0
    obtain ⟨A, cap, rfl, hd, hs⟩ := hv
    obtain ⟨A2, cap2, rfl, g1, g2, g3, g4, g5⟩ := hu
    rw [reachS]
    simp only [List.length_nil]
    go_enter Try.func32, Try.ntmps32
    go_wp2_with fail
    exact bodyPost_ret (v := .tuple #[tmZero, .bool false]) (by simp [results, Try.results32, go_sem, tmZero]) rfl ⟨_, _, rfl, (Below.refl _ _).alloc (Nat.le_refl _) _, rfl, rfl⟩
  | cons k r ih =>
    intro w0 ts w v u hv hu h0
    obtain ⟨A, cap, rfl, ⟨hd1, hd2, hd3, hd4⟩, hs⟩ := hv
    obtain ⟨A2, cap2, rfl, g1, g2, g3, g4, g5⟩ := hu
    obtain ⟨b2, o2, rfl, hbl2, hc2⟩ := IS_cell g5 0 (by simp)
    have hk0 := cellB h0 (Nat.le_refl _) hc2
    simp only [List.getElem_cons_zero, Nat.add_zero] at hk0
    rw [List.length_cons] at *
    have hbl := World.block_lt_of_cell? _ _ hk0
    have hne0 : ((r.length : Int) + 1 == 0) = false := by rw [beq_eq_false_iff_ne]; omega
    by_cases hneg : k < 0
    · have hat : reachS ts (k :: r) = none := by cases r <;> simp [reachS, hneg]
      rw [hat]
      go_enter Try.func32, Try.ntmps32
      go_wp2_with fail
      exact bodyPost_ret (v := .tuple #[tmZero, .bool false]) (by simp [results, Try.results32, go_sem, tmZero]) rfl ⟨_, _, rfl, (Below.refl _ _).alloc (Nat.le_refl _) _, rfl, rfl⟩
    obtain ⟨m, rfl⟩ := Int.eq_ofNat_of_zero_le (Int.not_lt.1 hneg)
    clear hneg
    by_cases hm : ts.length ≤ m
    · have hat : reachS ts ((m : Int) :: r) = none := by
        cases r <;> simp [reachS, List.getElem?_eq_none hm] <;> omega
      rw [hat]
      go_enter Try.func32, Try.ntmps32
      go_wp2_with fail
      exact bodyPost_ret (v := .tuple #[tmZero, .bool false]) (by simp [results, Try.results32, go_sem, tmZero]) rfl ⟨_, _, rfl, (Below.refl _ _).alloc (Nat.le_refl _) _, rfl, rfl⟩
    have hlt : m < ts.length := by omega
    clear hm
    obtain ⟨b, o, rfl, hat⟩ := hs.get m hlt
    have hge : ts[m]? = some ts[m] := List.getElem?_eq_getElem hlt
    have hAT : reachS ts ((m : Int) :: r) = (if r = [] then some ts[m] else reachS ts[m].ys r) := by
      cases r <;> simp [reachS, hge] <;> omega
    rw [hAT]
    clear hAT hge
    generalize ts[m] = y at *
    cases y with
    | mk k' s' n' ys' =>
    obtain ⟨A', cap', c0, c1, c2, c3, hv'⟩ := Tm.At.both hat h0 (Nat.le_refl _)
    have hblb := World.block_lt_of_cell? _ _ c0
    by_cases hr : r = []
    · subst hr
      rw [if_pos rfl]
      simp only [List.length_nil, Nat.zero_add] at *
      go_enter Try.func32, Try.ntmps32
      go_wp2_with fail
      exact bodyPost_ret (v := .tuple #[.agg #[.int .i64 k', .string s', .int .i64 n', .slice A' ys'.length cap'], .bool true]) (by simp [results, Try.results32, go_sem]) rfl ⟨_, _, rfl, below2 w _ _, rfl, hv'⟩
    · rw [if_neg hr]
      have hr1 : 0 < r.length := List.length_pos_iff.2 hr
      have hne1 : ((r.length : Int) + 1 == 1) = false := by rw [beq_eq_false_iff_ne]; omega
      have hx1 : (1 : Int) ≤ (r.length : Int) + 1 := by omega
      have hcap : ¬ cap2 = 1 := by omega
      have hist := IS_tail g1 g2 g3 g5
      rw [if_neg hcap] at hist
      have hsl : Tm.Sl w0 (.slice A' ys'.length cap') ys' := by
        obtain ⟨_, _, e5, hd5, hs5⟩ := hv'
        cases e5
        exact ⟨A', cap', rfl, hd5, hs5⟩
      have HI := fun W h => Lib.hid (ih w0 ys' W _ _ hsl hist h)
      have hcap' : A' = none → cap' = 0 := by
        obtain ⟨_, _, e5, hd5, hs5⟩ := hv'
        cases e5
        exact hd5.2.2.2
      simp only [Tm.ys]
      clear ih hsl hist hat hs g5 hv' hc2
      go_enter Try.func32, Try.ntmps32
      go_wp2_with fail
      have hb2 := below2 w (.cells #[.int .i64 0, .string ⟨#[]⟩, .int .i64 0, .slice none 0 0] 29) (.cells #[.int .i64 k', .string s', .int .i64 n', .slice A' ys'.length cap'] 29)
      have hf0 := heap2' w (.cells #[.int .i64 k', .string s', .int .i64 n', .slice A' ys'.length cap'] 29) #[.int .i64 0, .string ⟨#[]⟩, .int .i64 0, .slice none 0 0] 29
      have hf6 := heap2 w (.cells #[.int .i64 0, .string ⟨#[]⟩, .int .i64 0, .slice none 0 0] 29) #[.int .i64 k', .string s', .int .i64 n', .slice A' ys'.length cap'] 29
      obtain ⟨W, hW⟩ : ∃ W, W = ((w.alloc (.cells #[.int .i64 0, .string ⟨#[]⟩, .int .i64 0, .slice none 0 0] 29)).alloc (.cells #[.int .i64 k', .string s', .int .i64 n', .slice A' ys'.length cap'] 29)) := ⟨_, rfl⟩
      have hWs : W.heap.size = w.heap.size + 2 := by rw [hW]; simp
      rw [← hW] at hb2 hf0 hf6 ⊢
      clear hW
      have h02 := h0.trans (hb2.mono h0.size)
      have e3 := (row4 hf6).2.2.2
      have HI2 := HI _ h02.drew
      have hc1 : ¬ cap2 < r.length + 1 := by omega
      have hwl0 : w.heap.size < W.heap.size := by omega
      have hwl1 : w.heap.size + 1 < W.heap.size := by omega
      clear HI hWs hf6 c0 c1 c2 c3 hk0
      cases hrs : reachS ys' r with
      | none =>
        rw [hrs] at HI2
        go_region_held3 (fun w' => w'.cell? ⟨w.heap.size + 1, 3, none⟩ = some (.slice A' ys'.length cap'))
          (first | go_keep | exact e3 | exact k3)
          ((go_at_call 32; refine HI2.out.mono ?_; rintro e w1 ⟨v3, bb, rfl, hb1, hm1⟩; have hbW : Below W.heap.size W w1 := ((Below.refl _ _).drew).trans hb1; have k3 := (hbW.cell (p := ⟨w.heap.size + 1, 3, none⟩) hwl1).trans e3; have hf3 := (hbW.block _ hwl0).trans hf0; obtain ⟨q0, q1, q2, q3, z0, z1, z2, z3⟩ := row4f hf3; obtain ⟨rfl, rfl⟩ : bb = false ∧ v3 = .agg #[.int .i64 0, .string ⟨#[]⟩, .int .i64 0, .slice none 0 0] := hm1))
        have hbn : Below w.heap.size w w1 := hb2.thenCall hb2.size hbW
        go_wp2_with fail
        refine bodyPost_ret (v := .tuple #[tmZero, .bool false]) (by simp [results, Try.results32, go_sem, tmZero, q0, q1, q2, q3]) rfl ⟨_, _, rfl, ?_, by rw [hrs]; exact ⟨rfl, rfl⟩⟩
        iterate 4 refine Below.setCell ?_ (by simp only; omega) _
        exact hbn
      | some x =>
        rw [hrs] at HI2
        cases x with
        | mk k6 s6 n6 ys6 =>
        go_region_held3 (fun w' => w'.cell? ⟨w.heap.size + 1, 3, none⟩ = some (.slice A' ys'.length cap'))
          (first | go_keep | exact e3 | exact k3)
          ((go_at_call 32; refine HI2.out.mono ?_; rintro e w1 ⟨v3, bb, rfl, hb1, hm1⟩; have hbW : Below W.heap.size W w1 := ((Below.refl _ _).drew).trans hb1; have k3 := (hbW.cell (p := ⟨w.heap.size + 1, 3, none⟩) hwl1).trans e3; have hf3 := (hbW.block _ hwl0).trans hf0; obtain ⟨q0, q1, q2, q3, z0, z1, z2, z3⟩ := row4f hf3; obtain ⟨rfl, hvx⟩ := hm1; have HVX := Lib.hid hvx; obtain ⟨A6, cap6, rfl, _, _⟩ := hvx))
        have hbn : Below w.heap.size w w1 := hb2.thenCall hb2.size hbW
        go_wp2_with fail
        refine bodyPost_ret (v := .tuple #[.agg #[.int .i64 k6, .string s6, .int .i64 n6, .slice A6 ys6.length cap6], .bool true]) (by simp [results, Try.results32, go_sem, q0, q1, q2, q3]) rfl ⟨_, _, rfl, ?_, by rw [hrs]; exact ⟨rfl, HVX.out⟩⟩
        iterate 4 refine Below.setCell ?_ (by simp only; omega) _
        exact hbn
end Go.Proofs.Ytnaakhnmbckpmaa.Pats
