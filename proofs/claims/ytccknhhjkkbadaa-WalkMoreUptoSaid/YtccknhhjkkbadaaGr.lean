/- Contracts: the methods of node.Graph. -/
import Derived.Test.YtccknhhjkkbadaaOwn
import Derived.Deep.RegionHeld3
namespace Go.Proofs.Ytccknhhjkkbadaa.Gr
open Go.ChangeShapes Go.WideShapes Go.ChangeAt Go.RowKit Go.Proofs.Ytccknhhjkkbadaa.Lift Go.Proofs.Ytccknhhjkkbadaa.Arn Go.Proofs.Ytccknhhjkkbadaa.ArnN
set_option linter.unusedVariables false
set_option linter.unusedSimpArgs false
/-- a graph: its block, its arena; F: the arena's blocks. -/
def Gr (w : World) (F : Nat → Prop) (gg g : Nat) (xs : List Nd) (us : List Bool) (low most : Nat) : Prop :=
  w.heap[gg]? = some (.cells #[.pointer (some ⟨g, 0, none⟩)] 115 (0, 0)) ∧ Ar w F g xs us low most ∧ ¬ F gg ∧ ∀ b, F b → b < w.heap.size
/-- more blocks are the arena's: new ones alone. -/
def Grows (F F' : Nat → Prop) (w w' : World) : Prop := ∀ b, F' b → F b ∨ (w.heap.size ≤ b ∧ b < w'.heap.size)
def Out (F : Nat → Prop) (x : Nd) : Prop := ∀ a, x.A = some a → ¬ F a.block
theorem Gr.below {w w' : World} {F : Nat → Prop} {gg g : Nat} {xs : List Nd} {us : List Bool} {low most : Nat} (h : Gr w F gg g xs us low most) (hb : Below w.heap.size w w') : Gr w' F gg g xs us low most :=
  ⟨(hb.block _ (Array.getElem?_eq_some_iff.1 h.1).1).trans h.1, h.2.1.below hb, h.2.2.1, fun b hF => Nat.lt_of_lt_of_le (h.2.2.2 b hF) hb.size⟩
theorem Grows.refl (F : Nat → Prop) (w w' : World) : Grows F F w w' := fun _ h => .inl h
theorem Grows.trans {F G H : Nat → Prop} {a b c : World} (h : Grows F G a b) (k : Grows G H b c) (hab : a.heap.size ≤ b.heap.size) (hbc : b.heap.size ≤ c.heap.size) : Grows F H a c := fun x hx => by
  rcases k x hx with e | e
  · rcases h x e with e | e
    · exact .inl e
    · exact .inr (by omega)
  · exact .inr (by omega)
theorem Grows.turn {F G : Nat → Prop} {a b c : World} (hg : Grows F G a b) (h : Turn F a b) (k : Turn G b c) : Turn F a c :=
  h.trans (k.mono (fun x hx => (hg x hx).elim .inl (fun e => .inr e.1)))
section
variable {w : World} {F : Nat → Prop} {gg g : Nat} {xs : List Nd} {us : List Bool} {low most : Nat}
theorem glen_any (h : Gr w F gg g xs us low most) : Calls Try.prog 34 #[.pointer (some ⟨gg, 0, none⟩)] w fun e w' => e = .returned (.int .i64 (us.count true : Nat)) ∧ w = w' := by
  have H1 := Lib.hid (places_any w gg g h.1)
  have H2 := Lib.hid (len_any h.2.1)
  clear h
  go_enter Try.func34, Try.ntmps34
  go_wp2_with (first | (go_at_call 75; refine H1.out.mono ?_; rintro _ w1 ⟨rfl, rfl⟩) | (go_at_call 82; refine H2.out.mono ?_; rintro _ w1 ⟨rfl, rfl⟩))
  go_ret
  exact ⟨rfl, rfl⟩
theorem gmost_any (h : Gr w F gg g xs us low most) : Calls Try.prog 28 #[.pointer (some ⟨gg, 0, none⟩)] w fun e w' => e = .returned (.int .i64 (most : Nat)) ∧ w = w' := by
  have H1 := Lib.hid (places_any w gg g h.1)
  have H2 := Lib.hid (most_any h.2.1)
  clear h
  go_enter Try.func28, Try.ntmps28
  go_wp2_with (first | (go_at_call 75; refine H1.out.mono ?_; rintro _ w1 ⟨rfl, rfl⟩) | (go_at_call 78; refine H2.out.mono ?_; rintro _ w1 ⟨rfl, rfl⟩))
  go_ret
  exact ⟨rfl, rfl⟩
theorem gfree_any (i : Int) (h : Gr w F gg g xs us low most) : Calls Try.prog 33 #[.pointer (some ⟨gg, 0, none⟩), .int .i64 i] w fun e w' => e = .returned (.bool (hasB us i)) ∧
    Gr w' F gg g (if hasB us i then xs.set i.toNat nd0 else xs) (if hasB us i then us.set i.toNat false else us) (if hasB us i then min low i.toNat else low) most ∧ Turn F w w' := by
  have H1 := Lib.hid (places_any w gg g h.1)
  have H2 := free_any i h.2.1
  generalize (if hasB us i then xs.set i.toNat nd0 else xs) = X' at *
  generalize (if hasB us i then us.set i.toNat false else us) = U' at *
  generalize (if hasB us i then min low i.toNat else low) = l' at *
  generalize hasB us i = bb at *
  have H2 := Lib.hid H2
  have H3 := Lib.hid h
  clear h
  go_enter Try.func33, Try.ntmps33
  go_wp2_with (first | (go_at_call 75; refine H1.out.mono ?_; rintro _ w1 ⟨rfl, rfl⟩) | (go_at_call 81; refine H2.out.mono ?_; rintro _ w1 ⟨rfl, hA, hT⟩))
  go_ret
  have h := H3.out
  exact ⟨rfl, ⟨(hT.block _ (Array.getElem?_eq_some_iff.1 h.1).1 h.2.2.1).trans h.1, hA, h.2.2.1, fun b hb => Nat.lt_of_lt_of_le (h.2.2.2 b hb) hT.size⟩, hT⟩
theorem tight_end {F F' : Nat → Prop} {w w' : World} (h : ∀ b, F b → b < w.heap.size) (hg : Grows F F' w w') (hs : w.heap.size ≤ w'.heap.size) : ∀ b, F' b → b < w'.heap.size := fun b hb => by
  rcases hg b hb with e | e
  · exact Nat.lt_of_lt_of_le (h b e) hs
  · exact e.2
/-- what a put leaves. -/
def PutPost (w : World) (F : Nat → Prop) (gg g : Nat) (xs : List Nd) (us : List Bool) (most : Nat) (x : Nd) (l : List Int) (e : Ending) (w' : World) : Prop :=
  e = .returned (.tuple #[.int .i64 (firstF us), .bool true]) ∧ ∃ (F' : Nat → Prop) (x' : Nd), Gr w' F' gg g (setX xs us x') (setU us) (firstF us) most ∧ x'.k = x.k ∧ x'.n = x.n ∧ Args w' x' l ∧ Out F' x' ∧ Grows F F' w w' ∧ Turn F w w'
set_option maxRecDepth 100000 in
set_option maxHeartbeats 2000000 in
theorem gput_room (x : Nd) (l : List Int) (h : Gr w F gg g xs us low most) (hc : us.count true < most) (ha : Args w x l) : Calls Try.prog 27 #[.pointer (some ⟨gg, 0, none⟩), enc x] w (PutPost w F gg g xs us most x l) := by
  obtain ⟨W, hW⟩ : ∃ W, W = w.alloc (.cells #[.int .i64 x.k, .int .i64 x.n, .slice x.A x.len x.cap] 43) := ⟨_, rfl⟩
  have hb : Below w.heap.size w W := by rw [hW]; exact (Below.refl _ _).alloc (Nat.le_refl _) _
  have hx : W.heap[w.heap.size]? = some (.cells #[.int .i64 x.k, .int .i64 x.n, .slice x.A x.len x.cap] 43) := by rw [hW]; exact heap_alloc_new w _
  have hG := h.below hb
  have hA := ha.below hb
  have hFw := h.2.2.2
  have HW := Lib.hid hW
  have HO := fun y (hy : Below W.heap.size W y) => Lib.hid (own_any y x l (hA.below hy))
  have HPl := fun y (hy : Below W.heap.size W y) => Lib.hid (places_any y gg g (hG.below hy).1)
  have HGr : Hid (∀ y, Below W.heap.size W y → Gr y F gg g xs us low most) := Lib.hid (fun y hy => hG.below hy)
  have HC := Lib.hid hc
  have MS : Hid (∀ y, Below W.heap.size W y → (fun w' => w'.cell? ⟨w.heap.size, 0, none⟩ = some (.int .i64 x.k) ∧ w'.cell? ⟨w.heap.size, 1, none⟩ = some (.int .i64 x.n) ∧ w'.cell? ⟨w.heap.size, 2, none⟩ = some (.slice x.A x.len x.cap)) y) := Lib.hid (fun y hy => by
    have := (hy.block _ (Array.getElem?_eq_some_iff.1 hx).1).trans hx
    refine ⟨?_, ?_, ?_⟩ <;> simp [World.cell?, this])
  have MT : Hid (∀ y z, Below W.heap.size W y → Turn F y z → (fun w' => w'.cell? ⟨w.heap.size, 0, none⟩ = some (.int .i64 x.k) ∧ w'.cell? ⟨w.heap.size, 1, none⟩ = some (.int .i64 x.n) ∧ w'.cell? ⟨w.heap.size, 2, none⟩ = some (.slice x.A x.len x.cap)) z) := Lib.hid (fun y z hy hz => by
    have h1 := (hy.block _ (Array.getElem?_eq_some_iff.1 hx).1).trans hx
    have h2 := (hz.block _ (Array.getElem?_eq_some_iff.1 h1).1 (fun e => by have := hFw _ e; omega)).trans h1
    refine ⟨?_, ?_, ?_⟩ <;> simp [World.cell?, h2])
  have HFin : Hid (∀ y z x', Below W.heap.size W y → Args y x' l → x'.k = x.k → x'.n = x.n → (∀ a, x'.A = some a → W.heap.size ≤ a.block ∧ a.block < y.heap.size) → Ar z (fun b => F b ∨ y.heap.size ≤ b) g (setX xs us x') (setU us) (firstF us) most → Turn F y z → PutPost w F gg g xs us most x l (.returned (.tuple #[.int .i64 (firstF us), .bool true])) z) := Lib.hid (fun y z x' hy hA' hk hn hbl hAr hT => by
    have hGy := hG.below hy
    have hzs := hT.size
    have hys := hy.size
    have hws := hb.size
    refine ⟨rfl, fun b => (F b ∨ y.heap.size ≤ b) ∧ b < z.heap.size, x', ⟨(hT.block _ (Array.getElem?_eq_some_iff.1 hGy.1).1 hGy.2.2.1).trans hGy.1, hAr.tight, fun e => ?_, fun b hb => hb.2⟩, hk, hn, ⟨hA'.1, ?_, hA'.2.2⟩, fun a ha e => ?_, fun b hb => ?_, ?_⟩
    · rcases e.1 with e | e
      · exact hGy.2.2.1 e
      · have := (Array.getElem?_eq_some_iff.1 hGy.1).1; omega
    · intro k hk'
      obtain ⟨b, o, e1, e2, e3⟩ := hA'.2.1 k hk'
      have h4 := hbl _ e1
      have hne : ¬ F b := fun e => by have := hFw _ e; simp only at h4; omega
      exact ⟨b, o, e1, Nat.lt_of_lt_of_le e2 hzs, (World.cell?_of_block (a := ⟨b, o + k, none⟩) (hT.block b e2 hne)).trans e3⟩
    · have h4 := hbl _ ha
      rcases e.1 with e | e
      · have := hFw _ e; omega
      · omega
    · rcases hb.1 with e | e
      · exact .inl e
      · exact .inr ⟨by omega, hb.2⟩
    · exact ((Turn.of_below (F := F) hb).trans (Turn.of_below hy)).trans (hT.mono (fun b e => .inl e)))
  obtain ⟨xk, xn, xA, xl, xc⟩ := x
  unfold enc
  dsimp only at *
  have hB0 : Below W.heap.size W W.drew := (Below.refl _ _).drew
  clear hW hG hA hx h ha hc hFw
  go_enter Try.func27, Try.ntmps27
  go_wp2_with fail
  rw [← HW.out]
  go_region_held3 (fun w' => w'.cell? ⟨w.heap.size, 0, none⟩ = some (.int .i64 xk) ∧ w'.cell? ⟨w.heap.size, 1, none⟩ = some (.int .i64 xn) ∧ w'.cell? ⟨w.heap.size, 2, none⟩ = some (.slice xA xl xc))
    (first | exact MT.out _ _ hB1 hT | exact MS.out _ hB1 | exact MS.out _ hB0)
    (first
     | (go_at_call 75; ((with_reducible refine (HPl _ hB0).out.mono ?_); rintro _ y0 ⟨rfl, rfl⟩))
     | (go_at_call 77; ((with_reducible refine (HO _ hB0).out.mono ?_); rintro _ y1 ⟨A', cap', rfl, hA', hbl, q1⟩; have hB1 := hB0.thenCall hB0.size q1))
     | (go_at_call 76; (have hp := put_room ⟨xk, xn, A', l.length, cap'⟩ (HGr.out _ hB1).2.1 HC.out; refine hp.mono ?_; rintro _ y2 ⟨rfl, hAr, hT⟩; clear hp)))
  go_wp2_with fail
  go_ret2
  exact HFin.out _ _ _ hB1 hA' rfl rfl hbl hAr hT
set_option maxRecDepth 100000 in
set_option maxHeartbeats 2000000 in
theorem gput_full (x : Nd) (l : List Int) (h : Gr w F gg g xs us low most) (hc : us.count true = most) (ha : Args w x l) : Calls Try.prog 27 #[.pointer (some ⟨gg, 0, none⟩), enc x] w fun e w' => e = .returned (.tuple #[.int .i64 0, .bool false]) ∧ Below w.heap.size w w' := by
  obtain ⟨W, hW⟩ : ∃ W, W = w.alloc (.cells #[.int .i64 x.k, .int .i64 x.n, .slice x.A x.len x.cap] 43) := ⟨_, rfl⟩
  have hb : Below w.heap.size w W := by rw [hW]; exact (Below.refl _ _).alloc (Nat.le_refl _) _
  have hx : W.heap[w.heap.size]? = some (.cells #[.int .i64 x.k, .int .i64 x.n, .slice x.A x.len x.cap] 43) := by rw [hW]; exact heap_alloc_new w _
  have hG := h.below hb
  have hA := ha.below hb
  have HW := Lib.hid hW
  have HO := fun y (hy : Below W.heap.size W y) => Lib.hid (own_any y x l (hA.below hy))
  have HPl := fun y (hy : Below W.heap.size W y) => Lib.hid (places_any y gg g (hG.below hy).1)
  have HGr : Hid (∀ y, Below W.heap.size W y → Gr y F gg g xs us low most) := Lib.hid (fun y hy => hG.below hy)
  have HC := Lib.hid hc
  have MS : Hid (∀ y, Below W.heap.size W y → (fun w' => w'.cell? ⟨w.heap.size, 0, none⟩ = some (.int .i64 x.k) ∧ w'.cell? ⟨w.heap.size, 1, none⟩ = some (.int .i64 x.n) ∧ w'.cell? ⟨w.heap.size, 2, none⟩ = some (.slice x.A x.len x.cap)) y) := Lib.hid (fun y hy => by
    have := (hy.block _ (Array.getElem?_eq_some_iff.1 hx).1).trans hx
    refine ⟨?_, ?_, ?_⟩ <;> simp [World.cell?, this])
  obtain ⟨xk, xn, xA, xl, xc⟩ := x
  unfold enc
  dsimp only at *
  have hB0 : Below W.heap.size W W.drew := (Below.refl _ _).drew
  clear hW hG hA hx h ha hc
  go_enter Try.func27, Try.ntmps27
  go_wp2_with fail
  rw [← HW.out]
  go_region_held3 (fun w' => w'.cell? ⟨w.heap.size, 0, none⟩ = some (.int .i64 xk) ∧ w'.cell? ⟨w.heap.size, 1, none⟩ = some (.int .i64 xn) ∧ w'.cell? ⟨w.heap.size, 2, none⟩ = some (.slice xA xl xc))
    (first | exact MS.out _ hB2 | exact MS.out _ hB1 | exact MS.out _ hB0)
    (first
     | (go_at_call 75; ((with_reducible refine (HPl _ hB0).out.mono ?_); rintro _ y0 ⟨rfl, rfl⟩))
     | (go_at_call 77; ((with_reducible refine (HO _ hB0).out.mono ?_); rintro _ y1 ⟨A', cap', rfl, hA', hbl, q1⟩; have hB1 := hB0.thenCall hB0.size q1))
     | (go_at_call 76; (have hp := put_full ⟨xk, xn, A', l.length, cap'⟩ (HGr.out _ hB1).2.1 HC.out; refine hp.mono ?_; rintro _ y2 ⟨rfl, q2⟩; clear hp; have hB2 := hB1.thenCall hB1.size q2)))
  go_wp2_with fail
  go_ret2
  exact ⟨rfl, hb.thenCall hb.size hB2⟩
/-- what a set leaves. -/
def SetPost (w : World) (F : Nat → Prop) (gg g : Nat) (xs : List Nd) (us : List Bool) (low most : Nat) (i : Int) (x : Nd) (l : List Int) (e : Ending) (w' : World) : Prop :=
  e = .returned (.bool (hasB us i)) ∧ ∃ x' : Nd, Gr w' F gg g (if hasB us i then xs.set i.toNat x' else xs) us low most ∧ x'.k = x.k ∧ x'.n = x.n ∧ Args w' x' l ∧ Out F x' ∧ Turn F w w'
set_option maxRecDepth 100000 in
set_option maxHeartbeats 2000000 in
theorem gset_any (i : Int) (x : Nd) (l : List Int) (h : Gr w F gg g xs us low most) (ha : Args w x l) : Calls Try.prog 32 #[.pointer (some ⟨gg, 0, none⟩), .int .i64 i, enc x] w (SetPost w F gg g xs us low most i x l) := by
  obtain ⟨W, hW⟩ : ∃ W, W = w.alloc (.cells #[.int .i64 x.k, .int .i64 x.n, .slice x.A x.len x.cap] 43) := ⟨_, rfl⟩
  have hb : Below w.heap.size w W := by rw [hW]; exact (Below.refl _ _).alloc (Nat.le_refl _) _
  have hx : W.heap[w.heap.size]? = some (.cells #[.int .i64 x.k, .int .i64 x.n, .slice x.A x.len x.cap] 43) := by rw [hW]; exact heap_alloc_new w _
  have hG := h.below hb
  have hA := ha.below hb
  have hFw := h.2.2.2
  have HW := Lib.hid hW
  have HO := fun y (hy : Below W.heap.size W y) => Lib.hid (own_any y x l (hA.below hy))
  have HPl := fun y (hy : Below W.heap.size W y) => Lib.hid (places_any y gg g (hG.below hy).1)
  have HGr : Hid (∀ y, Below W.heap.size W y → Gr y F gg g xs us low most) := Lib.hid (fun y hy => hG.below hy)
  have MS : Hid (∀ y, Below W.heap.size W y → (fun w' => w'.cell? ⟨w.heap.size, 0, none⟩ = some (.int .i64 x.k) ∧ w'.cell? ⟨w.heap.size, 1, none⟩ = some (.int .i64 x.n) ∧ w'.cell? ⟨w.heap.size, 2, none⟩ = some (.slice x.A x.len x.cap)) y) := Lib.hid (fun y hy => by
    have := (hy.block _ (Array.getElem?_eq_some_iff.1 hx).1).trans hx
    refine ⟨?_, ?_, ?_⟩ <;> simp [World.cell?, this])
  have MT : Hid (∀ y z, Below W.heap.size W y → Turn F y z → (fun w' => w'.cell? ⟨w.heap.size, 0, none⟩ = some (.int .i64 x.k) ∧ w'.cell? ⟨w.heap.size, 1, none⟩ = some (.int .i64 x.n) ∧ w'.cell? ⟨w.heap.size, 2, none⟩ = some (.slice x.A x.len x.cap)) z) := Lib.hid (fun y z hy hz => by
    have h1 := (hy.block _ (Array.getElem?_eq_some_iff.1 hx).1).trans hx
    have h2 := (hz.block _ (Array.getElem?_eq_some_iff.1 h1).1 (fun e => by have := hFw _ e; omega)).trans h1
    refine ⟨?_, ?_, ?_⟩ <;> simp [World.cell?, h2])
  have HFin : Hid (∀ y z x', Below W.heap.size W y → Args y x' l → x'.k = x.k → x'.n = x.n → (∀ a, x'.A = some a → W.heap.size ≤ a.block ∧ a.block < y.heap.size) → Ar z F g (if hasB us i then xs.set i.toNat x' else xs) us low most → Turn F y z → SetPost w F gg g xs us low most i x l (.returned (.bool (hasB us i))) z) := Lib.hid (fun y z x' hy hA' hk hn hbl hAr hT => by
    have hGy := hG.below hy
    have hzs := hT.size
    have hys := hy.size
    have hws := hb.size
    refine ⟨rfl, x', ⟨(hT.block _ (Array.getElem?_eq_some_iff.1 hGy.1).1 hGy.2.2.1).trans hGy.1, hAr, hGy.2.2.1, fun b hb => Nat.lt_of_lt_of_le (hGy.2.2.2 b hb) hzs⟩, hk, hn, ⟨hA'.1, ?_, hA'.2.2⟩, fun a ha e => ?_, ?_⟩
    · intro k hk'
      obtain ⟨b, o, e1, e2, e3⟩ := hA'.2.1 k hk'
      have h4 := hbl _ e1
      have hne : ¬ F b := fun e => by have := hFw _ e; simp only at h4; omega
      exact ⟨b, o, e1, Nat.lt_of_lt_of_le e2 hzs, (World.cell?_of_block (a := ⟨b, o + k, none⟩) (hT.block b e2 hne)).trans e3⟩
    · have h4 := hbl _ ha
      have := hFw _ e
      omega
    · exact ((Turn.of_below (F := F) hb).trans (Turn.of_below hy)).trans (hT.mono (fun b e => .inl e)))
  obtain ⟨xk, xn, xA, xl, xc⟩ := x
  unfold enc
  dsimp only at *
  have hB0 : Below W.heap.size W W.drew := (Below.refl _ _).drew
  clear hW hG hA hx h ha hFw
  have HS : Hid (∀ (y : World) (A' : Option Addr) (cap' : Nat), Below W.heap.size W y → Calls Try.prog 80 #[.pointer (some ⟨g, 0, none⟩), .int .i64 i, enc ⟨xk, xn, A', l.length, cap'⟩] y fun e z => e = .returned (.bool (hasB us i)) ∧ Hid (Ar z F g (if hasB us i then xs.set i.toNat ⟨xk, xn, A', l.length, cap'⟩ else xs) us low most) ∧ Turn F y z) := Lib.hid (fun y A' cap' hy => set_any i ⟨xk, xn, A', l.length, cap'⟩ (HGr.out y hy).2.1)
  generalize hbb : hasB us i = bb at *
  have Hbb := Lib.hid hbb
  clear hbb
  go_enter Try.func32, Try.ntmps32
  go_wp2_with fail
  rw [← HW.out]
  go_region_held3 (fun w' => w'.cell? ⟨w.heap.size, 0, none⟩ = some (.int .i64 xk) ∧ w'.cell? ⟨w.heap.size, 1, none⟩ = some (.int .i64 xn) ∧ w'.cell? ⟨w.heap.size, 2, none⟩ = some (.slice xA xl xc))
    (first | exact MT.out _ _ hB1 hT | exact MS.out _ hB1 | exact MS.out _ hB0)
    (first
     | (go_at_call 75; ((with_reducible refine (HPl _ hB0).out.mono ?_); rintro _ y0 ⟨rfl, rfl⟩))
     | (go_at_call 77; ((with_reducible refine (HO _ hB0).out.mono ?_); rintro _ y1 ⟨A', cap', rfl, hA', hbl, q1⟩; have hB1 := hB0.thenCall hB0.size q1))
     | (go_at_call 80; (refine (HS.out _ A' cap' hB1).mono ?_; rintro _ y2 ⟨rfl, hAr, hT⟩)))
  go_wp2_with fail
  go_ret
  exact HFin.out _ _ _ hB1 hA' rfl rfl hbl hAr.out hT
theorem args_nd0 (w : World) : Args w nd0 [] := ⟨rfl, fun k hk => by simp at hk, by simp, fun _ => rfl⟩
set_option maxRecDepth 100000 in
theorem gget_any (i : Int) (l : List Int) (h : Gr w F gg g xs us low most) (ha : Args w (getX xs us i) l) : Calls Try.prog 30 #[.pointer (some ⟨gg, 0, none⟩), .int .i64 i] w fun e w' => ∃ A' cap', e = .returned (.tuple #[enc ⟨(getX xs us i).k, (getX xs us i).n, A', l.length, cap'⟩, .bool (hasB us i)]) ∧ Args w' ⟨(getX xs us i).k, (getX xs us i).n, A', l.length, cap'⟩ l ∧ (∀ a, A' = some a → w.heap.size ≤ a.block ∧ a.block < w'.heap.size) ∧ Below w.heap.size w w' := by
  obtain ⟨W, hW⟩ : ∃ W, W = w.alloc (.cells #[.int .i64 0, .int .i64 0, .slice none 0 0] 43) := ⟨_, rfl⟩
  have hb : Below w.heap.size w W := by rw [hW]; exact (Below.refl _ _).alloc (Nat.le_refl _) _
  have hx : W.heap[w.heap.size]? = some (.cells #[.int .i64 0, .int .i64 0, .slice none 0 0] 43) := by rw [hW]; exact heap_alloc_new w _
  have HP := Lib.hid (places_any W gg g (h.below hb).1)
  have HG := Lib.hid (get_any i (h.below hb).2.1)
  have hA := ha.below hb
  have HW := Lib.hid hW
  clear hW h ha
  generalize getX xs us i = x at *
  generalize hasB us i = bb at *
  have HO := fun y (hy : Below W.heap.size W y) => Lib.hid (own_any y x l (hA.below hy))
  obtain ⟨xk, xn, xA, xl, xc⟩ := x
  unfold enc at *
  dsimp only at *
  clear hA
  go_enter Try.func30, Try.ntmps30
  go_wp2_with fail
  rw [← HW.out]
  go_wp2_with fail
  refine HP.out.mono ?_
  rintro _ w0 ⟨rfl, rfl⟩
  go_wp2_with fail
  refine HG.out.mono ?_
  rintro _ w1 ⟨rfl, hb1⟩
  have k0 := (hb1.block _ (Array.getElem?_eq_some_iff.1 hx).1).trans hx
  have hzz := (Array.getElem?_eq_some_iff.1 hx).1
  have hb2 : Below W.heap.size W (w1.alloc (.cells #[.int .i64 xk, .int .i64 xn, .slice xA xl xc] 43)) := hb1.alloc hb1.size _
  go_wp2_with fail
  refine (HO _ hb2).out.mono ?_
  rintro _ w2 ⟨A', cap', rfl, hA', hbl, hb3⟩
  have hb4 := hb2.thenCall hb2.size hb3
  have k1 := (hb4.block _ (Array.getElem?_eq_some_iff.1 hx).1).trans hx
  have g0 : w2.cell? ⟨w.heap.size, 0, none⟩ = some (.int .i64 0) := by simp [World.cell?, k1]
  have g1 : w2.cell? ⟨w.heap.size, 1, none⟩ = some (.int .i64 0) := by simp [World.cell?, k1]
  have g2 : w2.cell? ⟨w.heap.size, 2, none⟩ = some (.slice none 0 0) := by simp [World.cell?, k1]
  have f1 : ∀ j, w2.frozen? ⟨w.heap.size, j, none⟩ = false := fun j => by simp [World.frozen?, k1]
  have f10 := f1 0
  have f11 := f1 1
  have f12 := f1 2
  clear f1
  go_wp2_with fail
  have hz1 : w.heap.size < w2.heap.size := (Array.getElem?_eq_some_iff.1 k1).1
  have hz2 : W.heap.size ≤ w1.heap.size := hb1.size
  refine bodyPost_ret (v := .tuple #[.agg #[.int .i64 xk, .int .i64 xn, .slice A' l.length cap'], .bool bb]) (by simp [results, Try.results30, go_sem, g0, g1, g2]) rfl ⟨A', cap', rfl, ⟨rfl, ?_, hA'.2.2⟩, ?_, ?_⟩
  · have hne : ∀ a, A' = some a → a.block ≠ w.heap.size := fun a ha => by
      have := (hbl a ha).1
      simp only [World.size_alloc] at this
      omega
    exact ((hA'.2.1.setCell _ hne).setCell _ hne).setCell _ hne
  · intro a ha
    have := hbl a ha
    have := hb.size
    simp only [World.size_alloc] at *
    simp only [World.setCell, Array.size_modify]
    omega
  · exact ((((hb.thenCall hb.size hb4)).setCell (Nat.le_refl _) _).setCell (Nat.le_refl _) _).setCell (Nat.le_refl _) _
theorem gnew_any (n : Int) (w : World) : Calls Try.prog 74 #[.int .i64 n] w fun e w' => ∃ (F : Nat → Prop) (gg g : Nat), e = .returned (.pointer (some ⟨gg, 0, none⟩)) ∧ Gr w' F gg g [] [] 0 (mostN n) ∧ (∀ b, F b → w.heap.size ≤ b) ∧ w.heap.size ≤ gg ∧ Below w.heap.size w w' := by
  have HN := Lib.hid (new_any n w)
  go_enter Try.func74, Try.ntmps74
  go_wp2_with fail
  refine HN.out.mono ?_
  rintro _ w1 ⟨rfl, hA, hb⟩
  have hb2 : Below w1.heap.size w1 (w1.alloc (.cells #[.pointer (some ⟨w.heap.size, 0, none⟩)] 115)) := (Below.refl _ _).alloc (Nat.le_refl _) _
  have hA2 := hA.tight.below hb2
  go_wp2_with fail
  go_ret
  refine ⟨_, w1.heap.size, w.heap.size, rfl, ⟨heap_alloc_new w1 _, hA2, fun e => by have := e.2; omega, fun b hb => Nat.lt_of_lt_of_le hb.2 hb2.size⟩, fun b hb => hb.1, hb.size, hb.thenCall hb.size hb2⟩
theorem groom_full (h : Gr w F gg g xs us low most) (hc : us.count true = most) : Calls Try.prog 29 #[.pointer (some ⟨gg, 0, none⟩), .int .i64 1] w fun e w' => e = .returned (.bool false) ∧ w = w' := by
  have H1 := Lib.hid (gmost_any h)
  have H2 := glen_any h
  rw [hc] at H2
  have H2 := Lib.hid H2
  have hm : most ≤ 65536 := by obtain ⟨_, ⟨_, _, _, _, h⟩, _⟩ := h; omega
  have hm1 : ¬ ((1 : Int) ≤ (most : Int) - most) := by omega
  clear h hc
  go_enter Try.func29, Try.ntmps29
  go_wp2_with (first | (go_at_call 28; refine H1.out.mono ?_; rintro _ w1 ⟨rfl, rfl⟩) | (go_at_call 34; refine H2.out.mono ?_; rintro _ w1 ⟨rfl, rfl⟩))
  go_ret
  exact ⟨rfl, rfl⟩
set_option maxRecDepth 100000 in
theorem same_yes (a b : Nd) (l : List Int) (w : World) (ha : Args w a l) (hb : Args w b l) (h1 : a.k = b.k) (h2 : a.n = b.n) (hm : l.length ≤ 1000000) : Calls Try.prog 31 #[enc a, enc b] w fun e w' => e = .returned (.bool true) ∧ Below w.heap.size w w' := by
  obtain ⟨ak, an, aA, al, ac⟩ := a
  obtain ⟨bk, bn, bA, bl, bc⟩ := b
  obtain ⟨a1, a2, a3, a4⟩ := ha
  obtain ⟨b1, b2, b3, b4⟩ := hb
  dsimp only at *
  subst h1 h2 a1 b1
  have hbb : Below w.heap.size w ((w.alloc (.cells #[.int .i64 ak, .int .i64 an, .slice aA l.length ac] 43)).alloc (.cells #[.int .i64 ak, .int .i64 an, .slice bA l.length bc] 43)) := ((Below.refl _ _).alloc (Nat.le_refl _) _).alloc (by simp) _
  have HI := RefInts.ints_any ((w.alloc (.cells #[.int .i64 ak, .int .i64 an, .slice aA l.length ac] 43)).alloc (.cells #[.int .i64 ak, .int .i64 an, .slice bA l.length bc] 43)) aA bA ac bc l l (a2.below hbb (Nat.le_refl _)) (b2.below hbb (Nat.le_refl _)) rfl hm
  rw [show (l == l) = true by simp] at HI
  have HI := Lib.hid HI
  unfold enc
  dsimp only
  go_enter Try.func31, Try.ntmps31
  go_wp2_with (go_at_call 23; refine HI.out.mono ?_; rintro _ w1 ⟨rfl, q1⟩)
  go_ret
  exact ⟨rfl, hbb.thenCall hbb.size q1⟩
end
end Go.Proofs.Ytccknhhjkkbadaa.Gr
