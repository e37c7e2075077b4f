/- Contracts: node.own, Graph.Get and Put: what is handed back, and what is kept, is a row of its own. -/
import Derived.Test.YtccknhhjkkbadaaCpN
namespace Go.Proofs.Ytccknhhjkkbadaa.Gr
open Go.ChangeShapes Go.WideShapes Go.ChangeAt Go.RowKit Go.Proofs.Ytccknhhjkkbadaa.Lift Go.Proofs.Ytccknhhjkkbadaa.Arn Go.Proofs.Ytccknhhjkkbadaa.ArnN
set_option linter.unusedVariables false
set_option linter.unusedSimpArgs false
/-- a row of integers of one's own. -/
def OwnR (w : World) (B : Nat) (A : Option Addr) (cap : Nat) (l : List Int) : Prop := w.ownsRow B 3 1 (.slice A l.length cap) l.length (l.map (Value.int .i64))
theorem OwnR.below {w w' : World} {B cap : Nat} {A : Option Addr} {l : List Int} (h : OwnR w B A cap l) (hb : Below w.heap.size w w') : OwnR w' B A cap l := own_below h hb (Nat.le_refl _)
theorem OwnR.less {w : World} {B B' cap : Nat} {A : Option Addr} {l : List Int} (h : OwnR w B A cap l) (hb : B' ≤ B) : OwnR w B' A cap l := own_less h hb
theorem OwnR.block {w : World} {B cap : Nat} {A : Option Addr} {l : List Int} (h : OwnR w B A cap l) : ∀ a, A = some a → B ≤ a.block ∧ a.block < w.heap.size := fun a ha => own_block_lt h (by rw [ha]; rfl)
theorem OwnR.set {w : World} {B cap : Nat} {A : Option Addr} {l : List Int} (h : OwnR w B A cap l) {p : Addr} (v : Value) (hne : ∀ a, A = some a → a.block ≠ p.block) : OwnR (w.setCell p v) B A cap l :=
  own_of_heap h fun g cur hg hh => by
    cases A with
    | none => cases hg
    | some a =>
      rw [Below.heap_setCell _ _ _ _ (fun e => hne a rfl ((Option.some.inj hg).trans e))]
      exact hh
theorem OwnR.args {w : World} {B cap : Nat} {A : Option Addr} {l : List Int} {k n : Int} (h : OwnR w B A cap l) (hm : l.length ≤ 1048576) : Args w ⟨k, n, A, l.length, cap⟩ l := by
  refine ⟨rfl, fun j hj => ?_, hm, own_cap h⟩
  rcases h.2 with ⟨_, h0⟩ | ⟨g, cap2, cur, hv, h2, h3, h4, h5, h6, h7⟩
  · omega
  · injection hv with e1 e2 e3
    subst e1 e3
    refine ⟨g, 0, rfl, (Array.getElem?_eq_some_iff.1 h3).1, ?_⟩
    have := World.ownsRow.cellAt h j (by omega)
    rw [Nat.zero_add, this, List.getElem?_map, List.getElem?_eq_getElem hj]
    simp [List.getD, List.getElem?_eq_getElem hj]
/-- the first of such a row. -/
theorem OwnR.first {w : World} {B cap : Nat} {A : Option Addr} {z : Int} {l : List Int} (h : OwnR w B A cap (z :: l)) : ∃ g cur, A = some ⟨g, 0, none⟩ ∧ B ≤ g ∧ w.heap[g]? = some (.cells cur 3 (0, 0)) ∧ w.cell? ⟨g, 0, none⟩ = some (.int .i64 z) ∧ w.frozen? ⟨g, 0, none⟩ = false := by
  rcases h.2 with ⟨_, h0⟩ | ⟨g, cap2, cur, hv, h2, h3, h4, h5, h6, h7⟩
  · simp at h0
  · injection hv with e1 e2 e3
    subst e1 e3
    have := World.ownsRow.cellAt h 0 (by simp)
    exact ⟨g, cur, rfl, h2, h3, by simpa using this, by simp [World.frozen?, h3]⟩
theorem clone2_any (w : World) (A : Option Addr) (cap : Nat) (l : List Int) (ha : IntsAt w A l) (hm : l.length ≤ 1048576) (hn : A = none → cap = 0) :
    Calls Try.prog 72 #[.slice A l.length cap] w fun e w' => ∃ A' cap', e = .returned (.slice A' l.length cap') ∧ OwnR w' w.heap.size A' cap' l ∧ Below w.heap.size w w' := by
  cases A with
  | none =>
    have h0 : l = [] := by
      rcases Nat.eq_zero_or_pos l.length with h | h
      · exact List.eq_nil_of_length_eq_zero h
      · obtain ⟨b, o, e, _⟩ := ha 0 h
        cases e
    subst h0
    refine (Try.slices_Clone_int_nil _ _ w).mono ?_
    rintro e w' ⟨rfl, rfl⟩
    exact ⟨none, 0, rfl, World.ownsRow_nil _ _ _ _, Below.refl _ _⟩
  | some a =>
    rcases Nat.eq_zero_or_pos l.length with h | h
    · have h0 := List.eq_nil_of_length_eq_zero h
      subst h0
      refine (Try.slices_Clone_int_zero a cap w).mono ?_
      rintro e w' ⟨v', rfl, hown, hne, hb⟩
      obtain ⟨A', cap', rfl, _, _⟩ := own_form hown
      exact ⟨A', cap', rfl, hown, hb⟩
    · obtain ⟨b, o, e, hbl, _⟩ := ha 0 h
      injection e with e
      subst e
      refine (Try.slices_Clone_int b o l.length cap l w (Nat.le_refl _) (by omega) (fun j hj => by
        obtain ⟨b', o', e', _, hc⟩ := ha j hj
        have e2 := Option.some.inj e'
        have e3 : b = b' ∧ o = o' := by
          injection e2 with a1 a2
          exact ⟨a1, a2⟩
        obtain ⟨rfl, rfl⟩ := e3
        exact hc)).mono ?_
      rintro e w' ⟨v', rfl, hown, hne, hb⟩
      rw [List.take_length] at hown
      obtain ⟨A', cap', rfl, _, _⟩ := own_form hown
      exact ⟨A', cap', rfl, hown, hb⟩
theorem own2_any (w : World) (x : Nd) (l : List Int) (ha : Args w x l) :
    Calls Try.prog 77 #[enc x] w fun e w' => ∃ A' cap', e = .returned (enc ⟨x.k, x.n, A', l.length, cap'⟩) ∧ OwnR w' w.heap.size A' cap' l ∧ Below w.heap.size w w' := by
  obtain ⟨xk, xn, xA, xl, xc⟩ := x
  obtain ⟨h1, h2, h3, h4⟩ := ha
  dsimp only at h1 h2 h4 ⊢
  subst h1
  have hbb : Below w.heap.size w ((w.alloc (.cells #[.int .i64 xk, .int .i64 xn, .slice xA l.length xc] 43)).alloc (.cells #[.int .i64 0, .int .i64 0, .slice none 0 0] 43)) := ((Below.refl _ _).alloc (Nat.le_refl _) _).alloc (by simp) _
  have HC := Lib.hid (clone2_any _ xA xc l (h2.below hbb (Nat.le_refl _)) h3 h4)
  have hb0 : ((w.alloc (.cells #[.int .i64 xk, .int .i64 xn, .slice xA l.length xc] 43)).alloc (.cells #[.int .i64 0, .int .i64 0, .slice none 0 0] 43)).heap[w.heap.size]? = some (.cells #[.int .i64 xk, .int .i64 xn, .slice xA l.length xc] 43) := by
    rw [Below.heap_alloc _ _ _ (by simp)]
    exact heap_alloc_new w _
  have hb1 : ((w.alloc (.cells #[.int .i64 xk, .int .i64 xn, .slice xA l.length xc] 43)).alloc (.cells #[.int .i64 0, .int .i64 0, .slice none 0 0] 43)).heap[w.heap.size + 1]? = some (.cells #[.int .i64 0, .int .i64 0, .slice none 0 0] 43) := by
    have := heap_alloc_new (w.alloc (.cells #[.int .i64 xk, .int .i64 xn, .slice xA l.length xc] 43)) (.cells #[.int .i64 0, .int .i64 0, .slice none 0 0] 43)
    rwa [World.size_alloc] at this
  unfold enc
  dsimp only
  go_enter Try.func77, Try.ntmps77
  go_wp2_with fail
  refine HC.out.mono ?_
  rintro _ w1 ⟨A', cap', rfl, hi, hb⟩
  have hbl := hi.block
  have k0 := (hb.block _ (Array.getElem?_eq_some_iff.1 hb0).1).trans hb0
  have k1 := (hb.block _ (Array.getElem?_eq_some_iff.1 hb1).1).trans hb1
  have d0 : w1.cell? ⟨w.heap.size, 0, none⟩ = some (.int .i64 xk) := by simp [World.cell?, k0]
  have d1 : w1.cell? ⟨w.heap.size, 1, none⟩ = some (.int .i64 xn) := by simp [World.cell?, k0]
  have d2 : w1.cell? ⟨w.heap.size, 2, none⟩ = some (.slice xA l.length xc) := by simp [World.cell?, k0]
  have f0 : w1.frozen? ⟨w.heap.size, 2, none⟩ = false := by simp [World.frozen?, k0]
  have g0 : w1.cell? ⟨w.heap.size + 1, 0, none⟩ = some (.int .i64 0) := by simp [World.cell?, k1]
  have g1 : w1.cell? ⟨w.heap.size + 1, 1, none⟩ = some (.int .i64 0) := by simp [World.cell?, k1]
  have g2 : w1.cell? ⟨w.heap.size + 1, 2, none⟩ = some (.slice none 0 0) := by simp [World.cell?, k1]
  have f1 : ∀ j, w1.frozen? ⟨w.heap.size + 1, j, none⟩ = false := fun j => by simp [World.frozen?, k1]
  have f10 := f1 0
  have f11 := f1 1
  have f12 := f1 2
  clear f1
  go_wp2_with fail
  have hz : w.heap.size + 1 < w1.heap.size := (Array.getElem?_eq_some_iff.1 k1).1
  refine bodyPost_ret (v := .agg #[.int .i64 xk, .int .i64 xn, .slice A' l.length cap']) (by simp [results, Try.results77, go_sem, g0, g1, g2]) rfl ⟨A', cap', rfl, ?_, ?_⟩
  · have hne : ∀ a, A' = some a → a.block ≠ w.heap.size ∧ a.block ≠ w.heap.size + 1 := fun a ha => by
      have := (hbl a ha).1
      simp only [World.size_alloc] at this
      omega
    exact OwnR.less ((((hi.set _ (fun a ha => (hne a ha).1)).set _ (fun a ha => (hne a ha).2)).set _ (fun a ha => (hne a ha).2)).set _ (fun a ha => (hne a ha).2)) hbb.size
  · exact (((((hbb.thenCall hbb.size hb)).setCell (Nat.le_refl _) _).setCell (Nat.le_succ _) _).setCell (Nat.le_succ _) _).setCell (Nat.le_succ _) _
section
variable {w : World} {F : Nat → Prop} {gg g : Nat} {xs : List Nd} {us : List Bool} {low most : Nat}
set_option maxRecDepth 100000 in
set_option maxHeartbeats 2000000 in
theorem gget2_any (i : Int) (l : List Int) (h : Gr w F gg g xs us low most) (ha : Args w (getX xs us i) l) : Calls Try.prog 30 #[.pointer (some ⟨gg, 0, none⟩), .int .i64 i] w fun e w' => ∃ A' cap', e = .returned (.tuple #[enc ⟨(getX xs us i).k, (getX xs us i).n, A', l.length, cap'⟩, .bool (hasB us i)]) ∧ OwnR w' w.heap.size A' cap' l ∧ Below w.heap.size w w' := by
  obtain ⟨W, hW⟩ : ∃ W, W = w.alloc (.cells #[.int .i64 0, .int .i64 0, .slice none 0 0] 43) := ⟨_, rfl⟩
  have hb : Below w.heap.size w W := by rw [hW]; exact (Below.refl _ _).alloc (Nat.le_refl _) _
  have hx : W.heap[w.heap.size]? = some (.cells #[.int .i64 0, .int .i64 0, .slice none 0 0] 43) := by rw [hW]; exact heap_alloc_new w _
  have HP := Lib.hid (places_any W gg g (h.below hb).1)
  have HG := Lib.hid (get_any i (h.below hb).2.1)
  have hA := ha.below hb
  have HW := Lib.hid hW
  clear hW h ha
  generalize getX xs us i = x at *
  generalize hasB us i = bb at *
  have HO := fun y (hy : Below W.heap.size W y) => Lib.hid (own2_any y x l (hA.below hy))
  obtain ⟨xk, xn, xA, xl, xc⟩ := x
  unfold enc at *
  dsimp only at *
  clear hA
  go_enter Try.func30, Try.ntmps30
  go_wp2_with fail
  rw [← HW.out]
  go_wp2_with fail
  refine HP.out.mono ?_
  rintro _ w0 ⟨rfl, rfl⟩
  go_wp2_with fail
  refine HG.out.mono ?_
  rintro _ w1 ⟨rfl, hb1⟩
  have k0 := (hb1.block _ (Array.getElem?_eq_some_iff.1 hx).1).trans hx
  have hzz := (Array.getElem?_eq_some_iff.1 hx).1
  have hb2 : Below W.heap.size W (w1.alloc (.cells #[.int .i64 xk, .int .i64 xn, .slice xA xl xc] 43)) := hb1.alloc hb1.size _
  go_wp2_with fail
  refine (HO _ hb2).out.mono ?_
  rintro _ w2 ⟨A', cap', rfl, hA', hb3⟩
  have hbl := hA'.block
  have hb4 := hb2.thenCall hb2.size hb3
  have k1 := (hb4.block _ (Array.getElem?_eq_some_iff.1 hx).1).trans hx
  have g0 : w2.cell? ⟨w.heap.size, 0, none⟩ = some (.int .i64 0) := by simp [World.cell?, k1]
  have g1 : w2.cell? ⟨w.heap.size, 1, none⟩ = some (.int .i64 0) := by simp [World.cell?, k1]
  have g2 : w2.cell? ⟨w.heap.size, 2, none⟩ = some (.slice none 0 0) := by simp [World.cell?, k1]
  have f1 : ∀ j, w2.frozen? ⟨w.heap.size, j, none⟩ = false := fun j => by simp [World.frozen?, k1]
  have f10 := f1 0
  have f11 := f1 1
  have f12 := f1 2
  clear f1
  go_wp2_with fail
  have hz1 : w.heap.size < w2.heap.size := (Array.getElem?_eq_some_iff.1 k1).1
  have hz2 : W.heap.size ≤ w1.heap.size := hb1.size
  refine bodyPost_ret (v := .tuple #[.agg #[.int .i64 xk, .int .i64 xn, .slice A' l.length cap'], .bool bb]) (by simp [results, Try.results30, go_sem, g0, g1, g2]) rfl ⟨A', cap', rfl, ?_, ?_⟩
  · have hne : ∀ a, A' = some a → a.block ≠ w.heap.size := fun a ha => by
      have := (hbl a ha).1
      simp only [World.size_alloc] at this
      have := hb.size
      omega
    exact OwnR.less (((hA'.set _ (fun a ha => hne a ha)).set _ (fun a ha => hne a ha)).set _ (fun a ha => hne a ha)) (Nat.le_trans hb.size hb2.size)
  · exact (((hb.thenCall hb.size hb4).setCell (Nat.le_refl _) _).setCell (Nat.le_refl _) _).setCell (Nat.le_refl _) _
/-- what a put leaves. -/
def PutPost2 (w : World) (F : Nat → Prop) (gg g : Nat) (xs : List Nd) (us : List Bool) (most : Nat) (x : Nd) (l : List Int) (e : Ending) (w' : World) : Prop :=
  e = .returned (.tuple #[.int .i64 (firstF us), .bool true]) ∧ ∃ (F' : Nat → Prop) (x' : Nd), Gr w' F' gg g (setX xs us x') (setU us) (firstF us) most ∧ x'.k = x.k ∧ x'.n = x.n ∧ Args w' x' l ∧ Out F' x' ∧ Grows F F' w w' ∧ Turn F w w' ∧ ∀ a, x'.A = some a → w.heap.size ≤ a.block
set_option maxRecDepth 100000 in
set_option maxHeartbeats 2000000 in
theorem gput2_room (x : Nd) (l : List Int) (h : Gr w F gg g xs us low most) (hc : us.count true < most) (ha : Args w x l) : Calls Try.prog 27 #[.pointer (some ⟨gg, 0, none⟩), enc x] w (PutPost2 w F gg g xs us most x l) := by
  obtain ⟨W, hW⟩ : ∃ W, W = w.alloc (.cells #[.int .i64 x.k, .int .i64 x.n, .slice x.A x.len x.cap] 43) := ⟨_, rfl⟩
  have hb : Below w.heap.size w W := by rw [hW]; exact (Below.refl _ _).alloc (Nat.le_refl _) _
  have hx : W.heap[w.heap.size]? = some (.cells #[.int .i64 x.k, .int .i64 x.n, .slice x.A x.len x.cap] 43) := by rw [hW]; exact heap_alloc_new w _
  have hG := h.below hb
  have hA := ha.below hb
  have hFw := h.2.2.2
  have HW := Lib.hid hW
  have HO := fun y (hy : Below W.heap.size W y) => Lib.hid (own_any y x l (hA.below hy))
  have HPl := fun y (hy : Below W.heap.size W y) => Lib.hid (places_any y gg g (hG.below hy).1)
  have HGr : Hid (∀ y, Below W.heap.size W y → Gr y F gg g xs us low most) := Lib.hid (fun y hy => hG.below hy)
  have HC := Lib.hid hc
  have MS : Hid (∀ y, Below W.heap.size W y → (fun w' => w'.cell? ⟨w.heap.size, 0, none⟩ = some (.int .i64 x.k) ∧ w'.cell? ⟨w.heap.size, 1, none⟩ = some (.int .i64 x.n) ∧ w'.cell? ⟨w.heap.size, 2, none⟩ = some (.slice x.A x.len x.cap)) y) := Lib.hid (fun y hy => by
    have := (hy.block _ (Array.getElem?_eq_some_iff.1 hx).1).trans hx
    refine ⟨?_, ?_, ?_⟩ <;> simp [World.cell?, this])
  have MT : Hid (∀ y z, Below W.heap.size W y → Turn F y z → (fun w' => w'.cell? ⟨w.heap.size, 0, none⟩ = some (.int .i64 x.k) ∧ w'.cell? ⟨w.heap.size, 1, none⟩ = some (.int .i64 x.n) ∧ w'.cell? ⟨w.heap.size, 2, none⟩ = some (.slice x.A x.len x.cap)) z) := Lib.hid (fun y z hy hz => by
    have h1 := (hy.block _ (Array.getElem?_eq_some_iff.1 hx).1).trans hx
    have h2 := (hz.block _ (Array.getElem?_eq_some_iff.1 h1).1 (fun e => by have := hFw _ e; omega)).trans h1
    refine ⟨?_, ?_, ?_⟩ <;> simp [World.cell?, h2])
  have HFin : Hid (∀ y z x', Below W.heap.size W y → Args y x' l → x'.k = x.k → x'.n = x.n → (∀ a, x'.A = some a → W.heap.size ≤ a.block ∧ a.block < y.heap.size) → Ar z (fun b => F b ∨ y.heap.size ≤ b) g (setX xs us x') (setU us) (firstF us) most → Turn F y z → PutPost2 w F gg g xs us most x l (.returned (.tuple #[.int .i64 (firstF us), .bool true])) z) := Lib.hid (fun y z x' hy hA' hk hn hbl hAr hT => by
    have hGy := hG.below hy
    have hzs := hT.size
    have hys := hy.size
    have hws := hb.size
    refine ⟨rfl, fun b => (F b ∨ y.heap.size ≤ b) ∧ b < z.heap.size, x', ⟨(hT.block _ (Array.getElem?_eq_some_iff.1 hGy.1).1 hGy.2.2.1).trans hGy.1, hAr.tight, fun e => ?_, fun b hb => hb.2⟩, hk, hn, ⟨hA'.1, ?_, hA'.2.2⟩, fun a ha e => ?_, fun b hb => ?_, ?_, fun a ha => Nat.le_trans hws (hbl a ha).1⟩
    · rcases e.1 with e | e
      · exact hGy.2.2.1 e
      · have := (Array.getElem?_eq_some_iff.1 hGy.1).1; omega
    · intro k hk'
      obtain ⟨b, o, e1, e2, e3⟩ := hA'.2.1 k hk'
      have h4 := hbl _ e1
      have hne : ¬ F b := fun e => by have := hFw _ e; simp only at h4; omega
      exact ⟨b, o, e1, Nat.lt_of_lt_of_le e2 hzs, (World.cell?_of_block (a := ⟨b, o + k, none⟩) (hT.block b e2 hne)).trans e3⟩
    · have h4 := hbl _ ha
      rcases e.1 with e | e
      · have := hFw _ e; omega
      · omega
    · rcases hb.1 with e | e
      · exact .inl e
      · exact .inr ⟨by omega, hb.2⟩
    · exact ((Turn.of_below (F := F) hb).trans (Turn.of_below hy)).trans (hT.mono (fun b e => .inl e)))
  obtain ⟨xk, xn, xA, xl, xc⟩ := x
  unfold enc
  dsimp only at *
  have hB0 : Below W.heap.size W W.drew := (Below.refl _ _).drew
  clear hW hG hA hx h ha hc hFw
  go_enter Try.func27, Try.ntmps27
  go_wp2_with fail
  rw [← HW.out]
  go_region_held3 (fun w' => w'.cell? ⟨w.heap.size, 0, none⟩ = some (.int .i64 xk) ∧ w'.cell? ⟨w.heap.size, 1, none⟩ = some (.int .i64 xn) ∧ w'.cell? ⟨w.heap.size, 2, none⟩ = some (.slice xA xl xc))
    (first | exact MT.out _ _ hB1 hT | exact MS.out _ hB1 | exact MS.out _ hB0)
    (first
     | (go_at_call 75; ((with_reducible refine (HPl _ hB0).out.mono ?_); rintro _ y0 ⟨rfl, rfl⟩))
     | (go_at_call 77; ((with_reducible refine (HO _ hB0).out.mono ?_); rintro _ y1 ⟨A', cap', rfl, hA', hbl, q1⟩; have hB1 := hB0.thenCall hB0.size q1))
     | (go_at_call 76; (have hp := put_room ⟨xk, xn, A', l.length, cap'⟩ (HGr.out _ hB1).2.1 HC.out; refine hp.mono ?_; rintro _ y2 ⟨rfl, hAr, hT⟩; clear hp)))
  go_wp2_with fail
  go_ret2
  exact HFin.out _ _ _ hB1 hA' rfl rfl hbl hAr hT
end
end Go.Proofs.Ytccknhhjkkbadaa.Gr
