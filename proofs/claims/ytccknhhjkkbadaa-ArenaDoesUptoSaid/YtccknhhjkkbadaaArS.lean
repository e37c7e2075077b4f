/- Contracts of arena.Arena at an element of one cell. -/
import Derived.Test.YtccknhhjkkbadaaArL
import Derived.BigRegion
import Derived.Deep.RegionLaw
import Derived.Deep.DeepCutAuto
namespace Go.Proofs.Ytccknhhjkkbadaa.ArnS
open Go.ChangeShapes Go.WideShapes Go.ChangeAt Go.RowKit Go.Proofs.Ytccknhhjkkbadaa.Lift Go.Proofs.Ytccknhhjkkbadaa.Arn
set_option linter.unusedVariables false
set_option linter.unusedSimpArgs false
def enc (x : ByteArray) : Value := .string x
theorem infoE : (Try.prog.info? 9).map (fun i => (i.zero, i.size, i.bytes)) = some (some (enc ⟨#[]⟩), 1, 16) := by kernel_rfl
theorem infoB : (Try.prog.info? 4).map (fun i => (i.zero, i.size, i.bytes)) = some (some (.bool false), 1, 1) := by kernel_rfl
/-- an arena: what it has, which places are used, below which place all are used, how many there may be. -/
def Ar (w : World) (F : Nat → Prop) (g : Nat) (xs : List ByteArray) (us : List Bool) (low most : Nat) : Prop :=
  ∃ Al capl Au capu, F g ∧ w.heap[g]? = some (.cells #[.slice Al xs.length capl, .slice Au us.length capu, .int .i64 (us.count true : Nat), .int .i64 (low : Nat), .int .i64 (most : Nat)] 142 (0, 0)) ∧
    Row w F 9 1 (.slice Al xs.length capl) xs.length (xs.map enc) ∧ Row w F 4 1 (.slice Au us.length capu) us.length (us.map Value.bool) ∧ xs.length = us.length ∧
    low ≤ us.length ∧ (∀ j (hj : j < us.length), j < low → us[j] = true) ∧ us.length ≤ most ∧ most ≤ 65536
theorem cells5 {w : World} {g : Nat} {v0 v1 v2 v3 v4 : Value} {t : TypeId} (h : w.heap[g]? = some (.cells #[v0, v1, v2, v3, v4] t (0, 0))) :
    w.cell? ⟨g, 0, none⟩ = some v0 ∧ w.cell? ⟨g, 1, none⟩ = some v1 ∧ w.cell? ⟨g, 2, none⟩ = some v2 ∧ w.cell? ⟨g, 3, none⟩ = some v3 ∧ w.cell? ⟨g, 4, none⟩ = some v4 := by
  refine ⟨?_, ?_, ?_, ?_, ?_⟩ <;> simp [World.cell?, h]
theorem free5 {w : World} {g : Nat} {cs : Array Value} {t : TypeId} (h : w.heap[g]? = some (.cells cs t (0, 0))) (j : Nat) : w.frozen? ⟨g, j, none⟩ = false := by simp [World.frozen?, h]
theorem Ar.mono {w : World} {F G : Nat → Prop} {g : Nat} {xs : List ByteArray} {us : List Bool} {low most : Nat} (h : Ar w F g xs us low most) (hg : ∀ b, F b → G b) : Ar w G g xs us low most := by
  obtain ⟨Al, capl, Au, capu, h1, h2, h3, h4, h5⟩ := h
  exact ⟨Al, capl, Au, capu, hg _ h1, h2, h3.mono hg, h4.mono hg, h5⟩
theorem Ar.keep {w w' : World} {F G : Nat → Prop} {g : Nat} {xs : List ByteArray} {us : List Bool} {low most : Nat} (h : Ar w F g xs us low most) (ht : Turn G w w') (hd : ∀ b, F b → ¬ G b) : Ar w' F g xs us low most := by
  obtain ⟨Al, capl, Au, capu, h1, h2, h3, h4, h5⟩ := h
  exact ⟨Al, capl, Au, capu, h1, (ht.block g (Array.getElem?_eq_some_iff.1 h2).1 (hd g h1)).trans h2, h3.keep ht hd, h4.keep ht hd, h5⟩
def mostN (n : Int) : Nat := min n.toNat 65536
theorem new_any (n : Int) (w : World) : Calls Try.prog 66 #[.int .i64 n] w fun e w' => e = .returned (.pointer (some ⟨w.heap.size, 0, none⟩)) ∧ Ar w' (fun b => w.heap.size ≤ b) w.heap.size [] [] 0 (mostN n) ∧ Below w.heap.size w w' := by
  have hfin : ∀ m : Nat, m ≤ 65536 → Ar (w.alloc (.cells #[.slice none 0 0, .slice none 0 0, .int .i64 0, .int .i64 0, .int .i64 m] 142)) (fun b => w.heap.size ≤ b) w.heap.size [] [] 0 m := fun m hm =>
    ⟨none, 0, none, 0, Nat.le_refl _, heap_alloc_new w _, ⟨World.ownsRow_nil _ _ _ _, fun b hb => by cases hb⟩, ⟨World.ownsRow_nil _ _ _ _, fun b hb => by cases hb⟩, rfl, Nat.le_refl _, fun j hj => by simp at hj, Nat.zero_le _, hm⟩
  have hb := fun o => (Below.refl w.heap.size w).alloc (Nat.le_refl _) o
  by_cases h1 : n < 0
  · have e : mostN n = 0 := by unfold mostN; omega
    rw [e]
    have hf := hfin 0 (by omega)
    clear hfin e
    go_enter Try.func66, Try.ntmps66
    go_wp2_with fail
    go_ret
    exact ⟨rfl, hf, hb _⟩
  · obtain ⟨k, rfl⟩ : ∃ k : Nat, n = k := ⟨n.toNat, by omega⟩
    by_cases h2 : k ≤ 65536
    · have e : mostN k = k := by unfold mostN; omega
      rw [e]
      have hf := hfin k h2
      clear hfin e
      go_enter Try.func66, Try.ntmps66
      go_wp2_with fail
      go_ret
      exact ⟨rfl, hf, hb _⟩
    · have e : mostN k = 65536 := by unfold mostN; omega
      rw [e]
      have hf := hfin 65536 (Nat.le_refl _)
      clear hfin e
      go_enter Try.func66, Try.ntmps66
      go_wp2_with fail
      go_ret
      exact ⟨rfl, hf, hb _⟩
section
variable {w : World} {F : Nat → Prop} {g : Nat} {xs : List ByteArray} {us : List Bool} {low most : Nat}
theorem len_any (h : Ar w F g xs us low most) : Calls Try.prog 69 #[.pointer (some ⟨g, 0, none⟩)] w fun e w' => e = .returned (.int .i64 (us.count true : Nat)) ∧ w = w' := by
  obtain ⟨Al, capl, Au, capu, h1, h2, -⟩ := h
  obtain ⟨c0, c1, c2, c3, c4⟩ := cells5 h2
  clear h2
  go_enter Try.func69, Try.ntmps69
  go_wp2_with fail
  go_ret
  exact ⟨rfl, rfl⟩
theorem most_any (h : Ar w F g xs us low most) : Calls Try.prog 104 #[.pointer (some ⟨g, 0, none⟩)] w fun e w' => e = .returned (.int .i64 (most : Nat)) ∧ w = w' := by
  obtain ⟨Al, capl, Au, capu, h1, h2, -⟩ := h
  obtain ⟨c0, c1, c2, c3, c4⟩ := cells5 h2
  clear h2
  go_enter Try.func104, Try.ntmps104
  go_wp2_with fail
  go_ret
  exact ⟨rfl, rfl⟩
theorem len_nil (w : World) : Calls Try.prog 69 #[.pointer none] w fun e w' => e = .returned (.int .i64 0) ∧ w = w' := by
  go_enter Try.func69, Try.ntmps69
  go_wp2_with fail
  go_ret
  exact ⟨rfl, rfl⟩
theorem most_nil (w : World) : Calls Try.prog 104 #[.pointer none] w fun e w' => e = .returned (.int .i64 0) ∧ w = w' := by
  go_enter Try.func104, Try.ntmps104
  go_wp2_with fail
  go_ret
  exact ⟨rfl, rfl⟩
theorem has_nil (w : World) (i : Int) : Calls Try.prog 105 #[.pointer none, .int .i64 i] w fun e w' => e = .returned (.bool false) ∧ w = w' := by
  go_enter Try.func105, Try.ntmps105
  go_wp2_with fail
  go_ret
  exact ⟨rfl, rfl⟩
/-- a row of so many is at a block. -/
theorem row_at {w : World} {F : Nat → Prop} {e n : Nat} {A : Option Addr} {cap : Nat} {xs : List Value} (h : Row w F e 1 (.slice A n cap) n xs) (hn : 0 < n) :
    ∃ b cur, A = some ⟨b, 0, none⟩ ∧ F b ∧ n ≤ cap ∧ cap ≤ 9223372036854775807 ∧ w.heap[b]? = some (.cells cur e (0, 0)) ∧ (∀ j, j < n → w.cell? ⟨b, j, none⟩ = xs[j]?) ∧ cur.size = cap := by
  obtain ⟨ho, hF⟩ := h
  rcases ho.2 with ⟨h1, h2⟩ | ⟨b, cap', cur, h1, h2, h3, h4, h5, h6, h7⟩
  · omega
  · injection h1 with e1 e2 e3
    subst e1 e3
    refine ⟨b, cur, rfl, hF b rfl, h4, by unfold maxLen at h5; omega, h3, fun j hj => ?_, by omega⟩
    have := ho.cellAt j (by omega)
    exact this
theorem has_any (i : Int) (h : Ar w F g xs us low most) : Calls Try.prog 105 #[.pointer (some ⟨g, 0, none⟩), .int .i64 i] w fun e w' => e = .returned (.bool (hasB us i)) ∧ w = w' := by
  obtain ⟨Al, capl, Au, capu, h1, h2, h3, h4, -⟩ := h
  obtain ⟨c0, c1, c2, c3, c4⟩ := cells5 h2
  by_cases hi : i < 0
  · have hd : decide (0 ≤ i) = false := decide_eq_false (by omega)
    have HH := Lib.hid (hasB_neg (us := us) hi)
    clear h2 h3 h4
    go_enter Try.func105, Try.ntmps105
    go_wp2_with fail
    go_ret
    rw [HH.out]
    exact ⟨rfl, rfl⟩
  · obtain ⟨j, rfl⟩ : ∃ j : Nat, i = j := ⟨i.toNat, by omega⟩
    by_cases hj : j < us.length
    · obtain ⟨b, cur, rfl, _, hc1, hc2, hb, hcell, _⟩ := row_at h4 (by omega)
      have hc := hcell j hj
      rw [List.getElem?_map, List.getElem?_eq_getElem hj, Option.map_some] at hc
      have HH := Lib.hid (hasB_at hj)
      clear h2 h3 h4 hcell
      generalize us[j] = u at *
      go_enter Try.func105, Try.ntmps105
      go_wp2_with fail
      go_ret
      rw [HH.out]
      exact ⟨rfl, rfl⟩
    · have HH := Lib.hid (hasB_far (us := us) (j := j) (by omega))
      clear h2 h3 h4
      go_enter Try.func105, Try.ntmps105
      go_wp2_with fail
      go_ret
      rw [HH.out]
      exact ⟨rfl, rfl⟩
theorem map_set {α β : Type} (f : α → β) (l : List α) (j : Nat) (x : α) : (l.map f).set j (f x) = (l.set j x).map f := by simp
theorem row_set {w : World} {F : Nat → Prop} {e n : Nat} {b cap j : Nat} {l : List Value} (h : Row w F e 1 (.slice (some ⟨b, 0, none⟩) n cap) n l) (v : Value) : Row (w.setCell ⟨b, j, none⟩ v) F e 1 (.slice (some ⟨b, 0, none⟩) n cap) n (l.set j v) :=
  ⟨(h.1.stored j v).1, h.2⟩
theorem ne_type {w : World} {a b : Nat} {c c' : Array Value} {t t' : TypeId} (h : w.heap[a]? = some (.cells c t (0, 0))) (h' : w.heap[b]? = some (.cells c' t' (0, 0))) (hne : t ≠ t') : a ≠ b := by
  rintro rfl
  rw [h] at h'
  injection h' with h'
  injection h' with _ h'
  exact hne h'
theorem row_other {w : World} {F : Nat → Prop} {e t size n : Nat} {v : Value} {l : List Value} (h : Row w F e size v n l) {a : Addr} {cs : Array Value} (ha : w.heap[a.block]? = some (.cells cs t (0, 0))) (hne : e ≠ t) (u : Value) : Row (w.setCell a u) F e size v n l :=
  ⟨own_set_type h.1 ha hne u, h.2⟩
/-- the arena behind a free. -/
theorem free_any (i : Int) (h : Ar w F g xs us low most) : Calls Try.prog 68 #[.pointer (some ⟨g, 0, none⟩), .int .i64 i] w fun e w' => e = .returned (.bool (hasB us i)) ∧
    Ar w' F g (if hasB us i then xs.set i.toNat ⟨#[]⟩ else xs) (if hasB us i then us.set i.toNat false else us) (if hasB us i then min low i.toNat else low) most ∧ Turn F w w' := by
  have HC1 := Lib.hid (has_any i h)
  have h0 := h
  obtain ⟨Al, capl, Au, capu, h1, h2, h3, h4, h5, h6, h7, h8, h9⟩ := h
  obtain ⟨c0, c1, c2, c3, c4⟩ := cells5 h2
  cases hh : hasB us i with
  | false =>
    rw [hh] at HC1
    have H0 := Lib.hid h0
    clear h2 h3 h4 hh h0
    go_enter Try.func68, Try.ntmps68
    go_wp2_with (go_at_call 105; refine HC1.out.mono ?_; rintro _ w1 ⟨rfl, rfl⟩)
    go_ret
    exact ⟨rfl, H0.out, Turn.refl _ _⟩
  | true =>
    have hi : ¬ i < 0 := fun e => by rw [hasB_neg e] at hh; cases hh
    obtain ⟨j, rfl⟩ : ∃ j : Nat, i = j := ⟨i.toNat, by omega⟩
    have hj : j < us.length := by
      rcases Nat.lt_or_ge j us.length with h | h
      · exact h
      · rw [hasB_far h] at hh; cases hh
    obtain ⟨b, cur, rfl, hFb, hc1, hc2, hb, hcell, _⟩ := row_at h3 (by omega)
    obtain ⟨b', cur', rfl, hFb', hc1', hc2', hb', hcell', _⟩ := row_at h4 (by omega)
    have hjx : j < xs.length := by omega
    have hc := hcell j hjx
    have hc' := hcell' j hj
    rw [List.getElem?_map, List.getElem?_eq_getElem hjx, Option.map_some] at hc
    rw [List.getElem?_map, List.getElem?_eq_getElem hj, Option.map_some] at hc'
    have hf := free5 hb j
    have hf' := free5 hb' j
    have hg := free5 h2
    have g2 := hg 2
    have g3 := hg 3
    have n1 := ne_type hb hb' (by decide)
    have n2 := n1.symm
    have n3 := ne_type h2 hb (by decide)
    have n4 := n3.symm
    have n5 := ne_type h2 hb' (by decide)
    have n6 := n5.symm
    have hlw : (low : Int) ≤ 65536 := by omega
    have hct : us.count true ≤ us.length := List.count_le_length
    have hcs := count_set_false hj (by rw [← hasB_at hj]; exact hh)
    rw [hh] at HC1
    have HU := Lib.hid (h7)
    clear h7 hcell hcell' hg
    have hlast : Hid (∀ c m : Int, c = (us.count true : Nat) - 1 → m = (min low j : Nat) →
        Ar ((((w.setCell ⟨b, j, none⟩ (enc ⟨#[]⟩)).setCell ⟨b', j, none⟩ (.bool false)).setCell ⟨g, 2, none⟩ (.int .i64 c)).setCell ⟨g, 3, none⟩ (.int .i64 m)).drew F g (xs.set j ⟨#[]⟩) (us.set j false) (min low j) most ∧
        Turn F w ((((w.setCell ⟨b, j, none⟩ (enc ⟨#[]⟩)).setCell ⟨b', j, none⟩ (.bool false)).setCell ⟨g, 2, none⟩ (.int .i64 c)).setCell ⟨g, 3, none⟩ (.int .i64 m)).drew) := Lib.hid (by
      rintro c m rfl rfl
      have b1 := heap_set_other (o := j) (enc ⟨#[]⟩) hb' hb (by decide)
      have d1 := heap_set (o := j) (enc ⟨#[]⟩) hb
      have k1 := heap_set_other (o := j) (enc ⟨#[]⟩) h2 hb (by decide)
      have r1 := row_set (j := j) h3 (enc ⟨#[]⟩)
      have s1 := row_other h4 (a := ⟨b, j, none⟩) hb (by decide) (enc ⟨#[]⟩)
      have d2 := heap_set_other (o := j) (.bool false) d1 b1 (by decide)
      have k2 := heap_set_other (o := j) (.bool false) k1 b1 (by decide)
      have r2 := row_other r1 (a := ⟨b', j, none⟩) b1 (by decide) (.bool false)
      have s2 := row_set (j := j) s1 (.bool false)
      have k3 := heap_set (o := 2) (.int .i64 ((us.count true : Nat) - 1 : Int)) k2
      have r3 := row_other r2 (a := ⟨g, 2, none⟩) k2 (by decide) (.int .i64 ((us.count true : Nat) - 1 : Int))
      have s3 := row_other s2 (a := ⟨g, 2, none⟩) k2 (by decide) (.int .i64 ((us.count true : Nat) - 1 : Int))
      have k4 := heap_set (o := 3) (.int .i64 (min low j : Nat)) k3
      have r4 := row_other r3 (a := ⟨g, 3, none⟩) k3 (by decide) (.int .i64 (min low j : Nat))
      have s4 := row_other s3 (a := ⟨g, 3, none⟩) k3 (by decide) (.int .i64 (min low j : Nat))
      refine ⟨⟨some ⟨b, 0, none⟩, capl, some ⟨b', 0, none⟩, capu, h1, ?_, ?_, ?_, by simpa using h5, by rw [List.length_set]; omega, ?_, by rw [List.length_set]; exact h8, h9⟩, ((((((Turn.refl F w).setCell (.inl hFb) _).setCell (.inl hFb') _).setCell (.inl h1) _).setCell (.inl h1) _).drew)⟩
      · rw [List.length_set, List.length_set]
        have e1 : (us.count true : Nat) - 1 = (((us.set j false).count true : Nat) : Int) := by omega
        rw [e1] at k4
        rw [e1]
        simp at k4
        exact k4
      · rw [map_set] at r4
        rw [List.length_set]
        exact r4
      · rw [map_set] at s4
        rw [List.length_set]
        exact s4
      · intro i hi hm
        rw [List.length_set] at hi
        rw [List.getElem_set_ne (by omega)]
        exact HU.out i hi (by omega))
    unfold enc at hc hlast
    clear h2 h3 h4 hh h0 hb hb' h8 h9 hFb hFb' HU
    by_cases hlj : (low : Int) < j
    all_goals
      go_enter Try.func68, Try.ntmps68
      go_wp2_with (go_at_call 105; refine HC1.out.mono ?_; rintro _ w1 ⟨rfl, rfl⟩)
      go_region
      go_wp2_with fail
      all_goals
        go_ret
        exact ⟨rfl, hlast.out _ _ (by omega) (by omega)⟩
theorem put_full (x : ByteArray) (h : Ar w F g xs us low most) (hc : us.count true = most) : Calls Try.prog 67 #[.pointer (some ⟨g, 0, none⟩), enc x] w fun e w' => e = .returned (.tuple #[.int .i64 0, .bool false]) ∧ w = w' := by
  have HL := Lib.hid (len_any h)
  have HM := Lib.hid (most_any h)
  rw [hc] at HL
  clear h hc
  unfold enc
  go_enter Try.func67, Try.ntmps67
  go_wp2_with (first | (go_at_call 69; refine HL.out.mono ?_; rintro _ w1 ⟨rfl, rfl⟩) | (go_at_call 104; refine HM.out.mono ?_; rintro _ w1 ⟨rfl, rfl⟩))
  go_ret2
  exact ⟨rfl, rfl⟩
theorem low_up {l : Nat} (h : Ar w F g xs us l most) (hl : l < us.length) (hu : us[l] = true) : Ar (w.setCell ⟨g, 3, none⟩ (.int .i64 ((l + 1 : Nat) : Int))) F g xs us (l + 1) most := by
  obtain ⟨Al, capl, Au, capu, h1, h2, h3, h4, h5, h6, h7, h8⟩ := h
  refine ⟨Al, capl, Au, capu, h1, ?_, row_other h3 h2 (by decide) _, row_other h4 h2 (by decide) _, h5, hl, fun j hj hm => ?_, h8⟩
  · have := heap_set (o := 3) (.int .i64 ((l + 1 : Nat) : Int)) h2
    simpa using this
  · rcases Nat.lt_or_ge j l with h | h
    · exact h7 j hj h
    · have : j = l := by omega
      subst this
      exact hu
theorem src_one (w : World) (v : Value) (e : TypeId) : Lift.Src (w.alloc (.cells #[v] e)) 1 (some ⟨w.heap.size, 0, none⟩) 1 [v] := Lift.Src.of_own (own_new w e 1 1 #[v] rfl (by omega))
theorem src_d1 (w : World) (v : Value) (e : TypeId) : Lift.Src (w.alloc (.cells #[v] e)).drew 1 (some ⟨w.heap.size, 0, none⟩) 1 [v] := src_one w v e
theorem src_2a (w : World) (v : Value) (e : TypeId) (o : Obj) : Lift.Src ((w.alloc (.cells #[v] e)).alloc o).drew 1 (some ⟨w.heap.size, 0, none⟩) 1 [v] :=
  (src_one w v e).below (B := (w.alloc (.cells #[v] e)).heap.size) (w' := (w.alloc (.cells #[v] e)).alloc o) ((Below.refl _ _).alloc (Nat.le_refl _) o) (Nat.le_refl _)
theorem src_2b (w : World) (v : Value) (e : TypeId) (o : Obj) : Lift.Src ((w.alloc o).alloc (.cells #[v] e)).drew 1 (some ⟨w.heap.size + 1, 0, none⟩) 1 [v] := by
  have := src_d1 (w.alloc o) v e
  rwa [World.size_alloc] at this
theorem bel_1 (w : World) (o : Obj) : Below w.heap.size w (w.alloc o).drew := ((Below.refl _ _).alloc (Nat.le_refl _) _).drew
theorem bel_2 (w : World) (o o' : Obj) : Below w.heap.size w ((w.alloc o).alloc o').drew := (((Below.refl _ _).alloc (Nat.le_refl _) _).alloc (by simp) _).drew
theorem row_type {w : World} {base e size n b : Nat} {v : Value} {l : List Value} (h : w.ownsRow base e size v n l) (hb : v.ownBlock = some b) : ∃ cur, w.heap[b]? = some (.cells cur e (0, 0)) := by
  rcases h.2 with ⟨rfl, _⟩ | ⟨g, cap, cur, rfl, _, h3, _⟩
  · cases hb
  · injection hb with hb
    subst hb
    exact ⟨cur, h3⟩
theorem own_keep {w w' : World} {base e size n : Nat} {v : Value} {l : List Value} {r : Option Nat} (h : w.ownsRow base e size v n l) (hg : w.grownBy w' r) {t : TypeId} (hr : ∀ b, r = some b → ∃ cur, w.heap[b]? = some (.cells cur t (0, 0))) (hne : e ≠ t) : w'.ownsRow base e size v n l :=
  own_grown h hg fun k hk hrk => by
    obtain ⟨c, hc⟩ := row_type h hk
    obtain ⟨c', hc'⟩ := hr k hrk
    exact ne_type hc hc' hne rfl
theorem heap_keep {w w' : World} {g : Nat} {cs : Array Value} {e t : TypeId} {r : Option Nat} (h : w.heap[g]? = some (.cells cs e (0, 0))) (hg : w.grownBy w' r) (hr : ∀ b, r = some b → ∃ cur, w.heap[b]? = some (.cells cur t (0, 0))) (hne : e ≠ t) : w'.heap[g]? = some (.cells cs e (0, 0)) := by
  rw [hg.block g (Array.getElem?_eq_some_iff.1 h).1 (fun e' => by
    obtain ⟨c, hc⟩ := hr g e'.symm
    exact ne_type h hc hne rfl)]
  exact h
theorem aft1 {wr y x1 : World} {g : Nat} {cs : Array Value} {vl vu : Value} {n : Nat} {ls bs : List Value} (h2 : wr.heap[g]? = some (.cells cs 142 (0, 0))) (h3 : wr.ownsRow 0 9 1 vl n ls) (h4 : wr.ownsRow 0 4 1 vu n bs)
    (hy : Below wr.heap.size wr y) (hG : y.grownBy x1 vl.ownBlock) : x1.heap[g]? = some (.cells cs 142 (0, 0)) ∧ x1.ownsRow 0 4 1 vu n bs ∧ wr.heap.size ≤ x1.heap.size := by
  have h2y := (hy.block g (Array.getElem?_eq_some_iff.1 h2).1).trans h2
  have h3y := own_below h3 hy (Nat.le_refl _)
  have h4y := own_below h4 hy (Nat.le_refl _)
  exact ⟨heap_keep h2y hG (fun b hb => row_type h3y hb) (by decide), own_keep h4y hG (fun b hb => row_type h3y hb) (by decide), Nat.le_trans hy.size hG.size⟩
theorem aft2 {x1 y2 x2 : World} {g : Nat} {cs : Array Value} {vu : Value} {n : Nat} {bs : List Value} (k1 : x1.heap[g]? = some (.cells cs 142 (0, 0))) (u1 : x1.ownsRow 0 4 1 vu n bs) (hy2 : Below x1.heap.size x1 y2) (hG2 : y2.grownBy x2 vu.ownBlock) : x2.heap[g]? = some (.cells cs 142 (0, 0)) :=
  heap_keep ((hy2.block g (Array.getElem?_eq_some_iff.1 k1).1).trans k1) hG2 (fun b hb => row_type (own_below u1 hy2 (Nat.le_refl _)) hb) (by decide)
theorem put_fin {w wr : World} {F : Nat → Prop} {g : Nat} {v2 v3 v4 : Value} {vl vu : Value} {n : Nat} {ls bs ls' bs' : List Value} (h1 : F g) (hT : Turn F w wr) (h2 : wr.heap[g]? = some (.cells #[vl, vu, v2, v3, v4] 142 (0, 0)))
    (h3 : Row wr F 9 1 vl n ls) (h4 : Row wr F 4 1 vu n bs) (y x1 y2 x2 : World) (A1 A2 : Option Addr) (cap1 cap2 : Nat) (hy : Below wr.heap.size wr y)
    (hO1 : x1.ownsRow 0 9 1 (.slice A1 (n + 1) cap1) (n + 1) ls') (hG1 : y.grownBy x1 vl.ownBlock) (hf1 : Fresh y vl (.slice A1 (n + 1) cap1)) (hy2 : Below x1.heap.size x1 y2)
    (hO2 : x2.ownsRow 0 4 1 (.slice A2 (n + 1) cap2) (n + 1) bs') (hG2 : y2.grownBy x2 vu.ownBlock) (hf2 : Fresh y2 vu (.slice A2 (n + 1) cap2)) :
    ((x2.setCell ⟨g, 0, none⟩ (.slice A1 (n + 1) cap1)).setCell ⟨g, 1, none⟩ (.slice A2 (n + 1) cap2)).heap[g]? = some (.cells #[.slice A1 (n + 1) cap1, .slice A2 (n + 1) cap2, v2, v3, v4] 142 (0, 0)) ∧
    Row ((x2.setCell ⟨g, 0, none⟩ (.slice A1 (n + 1) cap1)).setCell ⟨g, 1, none⟩ (.slice A2 (n + 1) cap2)) (fun b => F b ∨ w.heap.size ≤ b) 9 1 (.slice A1 (n + 1) cap1) (n + 1) ls' ∧
    Row ((x2.setCell ⟨g, 0, none⟩ (.slice A1 (n + 1) cap1)).setCell ⟨g, 1, none⟩ (.slice A2 (n + 1) cap2)) (fun b => F b ∨ w.heap.size ≤ b) 4 1 (.slice A2 (n + 1) cap2) (n + 1) bs' ∧
    Turn F w ((x2.setCell ⟨g, 0, none⟩ (.slice A1 (n + 1) cap1)).setCell ⟨g, 1, none⟩ (.slice A2 (n + 1) cap2)) := by
  obtain ⟨k1, u1, z1⟩ := aft1 h2 h3.1 h4.1 hy hG1
  have k1y := (hy2.block g (Array.getElem?_eq_some_iff.1 k1).1).trans k1
  have u1y := own_below u1 hy2 (Nat.le_refl _)
  have o1y := own_below hO1 hy2 (Nat.le_refl _)
  have k2 := heap_keep k1y hG2 (fun b hb => row_type u1y hb) (by decide)
  have o1 := own_keep o1y hG2 (fun b hb => row_type u1y hb) (by decide)
  have k3 := heap_set (o := 0) (.slice A1 (n + 1) cap1) k2
  have k4 := heap_set (o := 1) (.slice A2 (n + 1) cap2) k3
  have hTy : Turn F w y := hT.trans (Turn.of_below hy)
  have hT1 : Turn F w x1 := hTy.trans ⟨hG1.os, hG1.tape, hG1.output, hG1.size, fun b hb hn => hG1.block b hb (fun e => hn (.inl (h3.2 b e.symm)))⟩
  have hT2 : Turn F w y2 := hT1.trans (Turn.of_below hy2)
  have hT3 : Turn F w x2 := hT2.trans ⟨hG2.os, hG2.tape, hG2.output, hG2.size, fun b hb hn => hG2.block b hb (fun e => hn (.inl (h4.2 b e.symm)))⟩
  refine ⟨by simpa using k4, ⟨own_set_type (own_set_type o1 (a := ⟨g, 0, none⟩) k2 (by decide) _) (a := ⟨g, 1, none⟩) k3 (by decide) _, ?_⟩, ⟨own_set_type (own_set_type hO2 (a := ⟨g, 0, none⟩) k2 (by decide) _) (a := ⟨g, 1, none⟩) k3 (by decide) _, ?_⟩, (hT3.setCell (.inl h1) _).setCell (.inl h1) _⟩
  · intro b hb
    rcases hf1 with e | ⟨k, e1, e2⟩
    · exact .inl (h3.2 b (by rw [← e]; exact hb))
    · rw [e1] at hb
      injection hb with hb
      have := hTy.size
      exact .inr (by omega)
  · intro b hb
    rcases hf2 with e | ⟨k, e1, e2⟩
    · exact .inl (h4.2 b (by rw [← e]; exact hb))
    · rw [e1] at hb
      injection hb with hb
      have := hT2.size
      exact .inr (by omega)
/-- the places behind a put. -/
def setU (us : List Bool) : List Bool := if firstF us < us.length then us.set (firstF us) true else us ++ [true]
def setX (xs : List ByteArray) (us : List Bool) (x : ByteArray) : List ByteArray := if firstF us < us.length then xs.set (firstF us) x else xs ++ [x]
set_option maxHeartbeats 40000000 in
theorem put_room (x : ByteArray) (h : Ar w F g xs us low most) (hc : us.count true < most) : Calls Try.prog 67 #[.pointer (some ⟨g, 0, none⟩), enc x] w fun e w' => e = .returned (.tuple #[.int .i64 (firstF us), .bool true]) ∧
    Ar w' (fun b => F b ∨ w.heap.size ≤ b) g (setX xs us x) (setU us) (firstF us) most ∧ Turn F w w' := by
  have HL := Lib.hid (len_any h)
  have HM := Lib.hid (most_any h)
  have hne : ((us.count true : Nat) : Int) ≠ most := by omega
  have hne' : (((us.count true : Nat) : Int) == (most : Nat)) = false := by simpa using hne
  have hlow : low ≤ us.length := by obtain ⟨_, _, _, _, h⟩ := h; exact h.2.2.2.2.2.1
  have hm6 : us.length ≤ 65536 := by obtain ⟨_, _, _, _, h⟩ := h; omega
  have HC := Lib.hid hc
  have H := Lib.hid h
  clear h hc hne
  unfold enc
  go_enter Try.func67, Try.ntmps67
  go_wp2_with (first | (go_at_call 69; refine HL.out.mono ?_; rintro _ w1 ⟨rfl, rfl⟩) | (go_at_call 104; refine HM.out.mono ?_; rintro _ w1 ⟨rfl, rfl⟩))
  go_loopg [] (us.length - low) (fun k wr => ∃ l : Nat, low ≤ l ∧ l ≤ us.length ∧ us.length - l ≤ k ∧ Ar wr F g xs us l most ∧ Turn F w wr)
  case atStart => exact ⟨low, Nat.le_refl _, hlow, Nat.le_refl _, H.out, Turn.refl _ _⟩
  case round =>
    obtain ⟨l, hl1, hl2, hl3, hA, hT⟩ := hrel
    have HAS := Lib.hid (has_any (l : Int) hA)
    have hA0 := hA
    obtain ⟨Al, capl, Au, capu, h1, h2, h3, h4, h5, h6, h7, h8, h9⟩ := hA
    obtain ⟨c0, c1, c2, c3, c4⟩ := cells5 h2
    have g3 := free5 h2 3
    by_cases hgo : ∃ h : l < us.length, us[l] = true
    · obtain ⟨hlt, hu⟩ := hgo
      rw [hasB_at hlt, hu] at HAS
      have HN := Lib.hid (low_up hA0 hlt hu)
      clear h2 h3 h4 h5 h7 hA0 hu c0 c1 c2 c4
      go_wp2_with (go_at_call 105; refine HAS.out.mono ?_; rintro _ w1 ⟨rfl, rfl⟩)
      go_roundg (us.length - (l + 1))
      case measure => omega
      case rel => exact ⟨l + 1, by omega, by omega, Nat.le_refl _, HN.out, hT.setCell (.inl h1) _⟩
    · have hF : firstF us = l := firstF_eq hl2 h7 (fun hk => by
        cases e : us[l] with
        | false => rfl
        | true => exact absurd ⟨hk, e⟩ hgo)
      have hhas : hasB us l = false := by
        rcases Nat.lt_or_ge l us.length with h | h
        · rw [hasB_at h]
          cases e : us[l] with
          | false => rfl
          | true => exact absurd ⟨h, e⟩ hgo
        · exact hasB_far h
      rw [hhas] at HAS
      clear hhas hgo
      have hlk : us.length < most ∨ l < us.length := by
        rcases Nat.lt_or_ge l us.length with h | h
        · exact .inr h
        · have h0 := count_first us
          have := HC.out
          exact .inl (by omega)
      have HF := Lib.hid hF
      by_cases hlt : l < us.length
      · have hu : us[l] = false := by have := firstF_at (us := us) (by omega); simpa only [hF] using this
        obtain ⟨b, cur, rfl, hFb, hc1, hc2, hb, hcell, _⟩ := row_at h3 (by omega)
        obtain ⟨b', cur', rfl, hFb', hc1', hc2', hb', hcell', _⟩ := row_at h4 (by omega)
        have hjx : l < xs.length := by omega
        have hc := hcell l hjx
        have hc' := hcell' l hlt
        rw [List.getElem?_map, List.getElem?_eq_getElem hjx, Option.map_some] at hc
        rw [List.getElem?_map, List.getElem?_eq_getElem hlt, Option.map_some] at hc'
        have hf := free5 hb l
        have hf' := free5 hb' l
        have g2 := free5 h2 2
        have n1 := ne_type hb hb' (by decide)
        have n2 := n1.symm
        have n3 := ne_type h2 hb (by decide)
        have n4 := n3.symm
        have n5 := ne_type h2 hb' (by decide)
        have n6 := n5.symm
        have hcs := count_set_true hlt hu
        have hct : us.count true ≤ us.length := List.count_le_length
        have hq : ((l : Int) == us.length) = false := by rw [beq_eq_false_iff_ne]; omega
        have hlast : Hid (∀ c : Int, c = (us.count true : Nat) + 1 →
            Ar (((wr.setCell ⟨b, l, none⟩ (enc x)).setCell ⟨b', l, none⟩ (.bool true)).setCell ⟨g, 2, none⟩ (.int .i64 c)).drew (fun b => F b ∨ w.heap.size ≤ b) g (setX xs us x) (setU us) (firstF us) most ∧
            Turn F w (((wr.setCell ⟨b, l, none⟩ (enc x)).setCell ⟨b', l, none⟩ (.bool true)).setCell ⟨g, 2, none⟩ (.int .i64 c)).drew) := Lib.hid (by
          rintro c rfl
          have b1 := heap_set_other (o := l) (enc x) hb' hb (by decide)
          have k1 := heap_set_other (o := l) (enc x) h2 hb (by decide)
          have r1 := row_set (j := l) h3 (enc x)
          have s1 := row_other h4 (a := ⟨b, l, none⟩) hb (by decide) (enc x)
          have k2 := heap_set_other (o := l) (.bool true) k1 b1 (by decide)
          have r2 := row_other r1 (a := ⟨b', l, none⟩) b1 (by decide) (.bool true)
          have s2 := row_set (j := l) s1 (.bool true)
          have k3 := heap_set (o := 2) (.int .i64 ((us.count true : Nat) + 1 : Int)) k2
          have r3 := row_other r2 (a := ⟨g, 2, none⟩) k2 (by decide) (.int .i64 ((us.count true : Nat) + 1 : Int))
          have s3 := row_other s2 (a := ⟨g, 2, none⟩) k2 (by decide) (.int .i64 ((us.count true : Nat) + 1 : Int))
          unfold setX setU
          rw [hF, if_pos hlt, if_pos hlt]
          refine ⟨Ar.mono (F := F) ⟨some ⟨b, 0, none⟩, capl, some ⟨b', 0, none⟩, capu, h1, ?_, ?_, ?_, by simpa using h5, by rw [List.length_set]; omega, ?_, by rw [List.length_set]; exact h8, h9⟩ (fun b h => .inl h), ((((hT.setCell (.inl hFb) _).setCell (.inl hFb') _).setCell (.inl h1) _).drew)⟩
          · rw [List.length_set, List.length_set]
            have e1 : ((us.count true : Nat) : Int) + 1 = (((us.set l true).count true : Nat) : Int) := by omega
            rw [e1] at k3
            rw [e1]
            simp at k3
            exact k3
          · rw [map_set] at r3
            rw [List.length_set]
            exact r3
          · rw [map_set] at s3
            rw [List.length_set]
            exact s3
          · intro i hi hm
            rw [List.length_set] at hi
            rw [List.getElem_set_ne (by omega)]
            exact h7 i hi hm)
        unfold enc at hc hlast
        clear h2 h3 h4 h5 h7 hA0 hu hb hb' h8 h9 hFb hFb' hcell hcell' hF hlk hcs
        go_wp2_with (go_at_call 105; refine HAS.out.mono ?_; rintro _ w1 ⟨rfl, rfl⟩)
        go_region
        go_wp2_with fail
        go_ret2
        rw [HF.out]
        rw [HF.out] at hlast
        exact ⟨rfl, hlast.out _ (by omega)⟩
      · obtain rfl : l = us.length := by omega
        obtain ⟨i0, hi, hz0, hz1, hz2⟩ := info_parts infoE
        obtain ⟨j0, ji, jz0, jz1, jz2⟩ := info_parts infoB
        have hq : ((us.length : Int) == us.length) = true := by simp
        have hlm : us.length < most := by rcases hlk with h | h <;> omega
        rw [h5] at h2 h3 c0
        have HT := Lib.hid hT
        have hgl := (Array.getElem?_eq_some_iff.1 h2).1
        have gn0 : ¬ g = wr.heap.size := by omega
        have gn1 : ¬ g = wr.heap.size + 1 := by omega
        have gn4 : ¬ wr.heap.size = g := by omega
        have gn5 : ¬ wr.heap.size + 1 = g := by omega
        have HO1 : Hid (∀ y, Below wr.heap.size wr y → y.ownsRow 0 9 1 (.slice Al us.length capl) us.length (xs.map enc)) := Lib.hid (fun y hy => own_below h3.1 hy (Nat.le_refl _))
        have AFT : Hid (∀ y x1 : World, Below wr.heap.size wr y → y.grownBy x1 (Value.slice Al us.length capl).ownBlock → _) := Lib.hid (fun y x1 hy hG => aft1 h2 h3.1 h4.1 hy hG)
        have HR : Hid (∀ k, wr.heap.size ≤ k → ∀ a, some (⟨k, 0, none⟩ : Addr) = some a → (Value.slice Al us.length capl).ownBlock ≠ some a.block) := Lib.hid (fun k hk a ha e => by
          injection ha with ha
          subst ha
          have := (own_block_lt h3.1 e).2
          simp only at this
          omega)
        have hone1 : ∀ u ∈ ([.string x] : List Value), u.oneCell' = true := by simp [Value.oneCell']
        have hone2 : ∀ u ∈ [Value.bool true], u.oneCell' = true := by simp [Value.oneCell']
        have hgl1 : us.length + 1 ≤ maxLen := by unfold maxLen; omega
        have hgl2 : (us.length + 1) * 16 ≤ 140737488355328 := by omega
        have hgl3 : (us.length + 1) * 1 ≤ 140737488355328 := by omega
        go_upto_region 7 with (go_at_call 105; refine HAS.out.mono ?_; rintro _ w1 ⟨rfl, rfl⟩)
        go_cut [] (fun wx => ∃ A1 cap1 A2 cap2, wx.heap[g]? = some (.cells #[.slice A1 (us.length + 1) cap1, .slice A2 (us.length + 1) cap2, .int .i64 (us.count true : Nat), .int .i64 (us.length : Nat), .int .i64 (most : Nat)] 142 (0, 0)) ∧
          Row wx (fun b => F b ∨ w.heap.size ≤ b) 9 1 (.slice A1 (us.length + 1) cap1) (us.length + 1) (xs.map enc ++ [enc x]) ∧ Row wx (fun b => F b ∨ w.heap.size ≤ b) 4 1 (.slice A2 (us.length + 1) cap2) (us.length + 1) (us.map Value.bool ++ [.bool true]) ∧ Turn F w wx)
        case first =>
          have FIN := Lib.hid (put_fin (ls' := xs.map enc ++ [enc x]) (bs' := us.map Value.bool ++ [Value.bool true]) h1 hT h2 h3 h4)
          clear h3 h4 h5 h7 hA0 hT
          go_region_law (first | (refine step_append_where (by rfl) (.tmp 41) (.tmp 43) 61 rfl 0 9 i0 _ 1 16 Try.underlying61 hi hz0 hz1 hz2 rfl Nat.one_pos (.slice Al us.length capl) us.length _ rfl (HO1.out _ (by first | exact bel_1 _ _ | exact bel_2 _ _ _)) _ 1 1 [.string x] rfl (by first | exact src_d1 _ _ _ | exact src_2a _ _ _ _ | exact src_2b _ _ _ _) (fun h => nomatch h) hone1 hgl1 hgl2 (Nat.zero_le _) ?_; intro v1 x1 hO1 hG1 hf1; obtain ⟨A1, cap1, rfl, -, -⟩ := own_form hO1; have K1 := AFT.out _ _ (by first | exact bel_1 _ _ | exact bel_2 _ _ _) hG1; obtain ⟨-, ee1, -, -, -⟩ := cells5 K1.1; have ee5 := fun o => (World.cell?_alloc_lt x1 o ⟨g, 1, none⟩ (Array.getElem?_eq_some_iff.1 K1.1).1).trans ee1) | (refine step_append_where (by rfl) (.tmp 48) (.tmp 49) 105 rfl 0 4 j0 _ 1 1 Try.underlying105 ji jz0 jz1 jz2 rfl Nat.one_pos (.slice Au us.length capu) us.length _ rfl (by first | exact own_below K1.2.1 (bel_1 _ _) (Nat.le_refl _) | exact own_below K1.2.1 ((Below.refl _ _).alloc (Nat.le_refl _) _) (Nat.le_refl _) | exact K1.2.1) _ 1 1 [.bool true] rfl (by first | exact src_d1 _ _ _ | exact src_one _ _ _ | exact src_grown (src_2b _ _ _ _) hG1 (HR.out _ (Nat.le_succ _)) | exact src_grown (src_2a _ _ _ _) hG1 (HR.out _ (Nat.le_refl _))) (fun h => nomatch h) hone2 hgl1 hgl3 (Nat.zero_le _) ?_; intro v2 x2 hO2 hG2 hf2; obtain ⟨A2, cap2, rfl, -, -⟩ := own_form hO2; have K2 := aft2 K1.1 K1.2.1 (by first | exact Below.refl _ _ | exact bel_1 _ _ | exact (Below.refl _ _).alloc (Nat.le_refl _) _) hG2; obtain ⟨ee2, ee3, -, -, -⟩ := cells5 K2; have ff0 := free5 K2 0; have ff1 := free5 K2 1; have FN := FIN.out _ _ _ _ _ _ _ _ (by first | exact bel_1 _ _ | exact bel_2 _ _ _) hO1 hG1 hf1 (by first | exact Below.refl _ _ | exact bel_1 _ _ | exact (Below.refl _ _).alloc (Nat.le_refl _) _) hO2 hG2 hf2))
          all_goals
            go_wp2_with fail
            go_meet
            exact ⟨_, _, _, _, FN⟩
        case rest =>
          obtain ⟨Al', capl', Au', capu', k2, k3, k4, kT⟩ := hcut
          have hxl : xs.length = us.length := h5
          have hU7 : ∀ j (hj : j < us.length), us[j] = true := fun j hj => h7 j hj hj
          clear HO1 AFT HR HAS hA0 h2 h3 h4 h5 h7 c0 c1 c2 c3 c4 g3 HT hT
          obtain ⟨c0, c1, c2, c3, c4⟩ := cells5 k2
          obtain ⟨b, cur, rfl, hFb, hc1, hc2, hb, hcell, _⟩ := row_at k3 (by omega)
          obtain ⟨b', cur', rfl, hFb', hc1', hc2', hb', hcell', _⟩ := row_at k4 (by omega)
          have hc := hcell us.length (by omega)
          have hc' := hcell' us.length (by omega)
          rw [List.getElem?_append_right (by simp [hxl]), List.length_map, hxl, Nat.sub_self, List.getElem?_cons_zero] at hc
          rw [List.getElem?_append_right (by simp), List.length_map, Nat.sub_self, List.getElem?_cons_zero] at hc'
          have hf := free5 hb us.length
          have hf' := free5 hb' us.length
          have g2 := free5 k2 2
          have n1 := ne_type hb hb' (by decide)
          have n2 := n1.symm
          have n3 := ne_type k2 hb (by decide)
          have n4 := n3.symm
          have n5 := ne_type k2 hb' (by decide)
          have n6 := n5.symm
          have hlast : Hid (∀ c : Int, c = (us.count true : Nat) + 1 →
              Ar (((wc.setCell ⟨b, us.length, none⟩ (enc x)).setCell ⟨b', us.length, none⟩ (.bool true)).setCell ⟨g, 2, none⟩ (.int .i64 c)).drew (fun b => F b ∨ w.heap.size ≤ b) g (setX xs us x) (setU us) (firstF us) most ∧
              Turn F w (((wc.setCell ⟨b, us.length, none⟩ (enc x)).setCell ⟨b', us.length, none⟩ (.bool true)).setCell ⟨g, 2, none⟩ (.int .i64 c)).drew) := Lib.hid (by
            rintro c rfl
            have b1 := heap_set_other (o := us.length) (enc x) hb' hb (by decide)
            have k1 := heap_set_other (o := us.length) (enc x) k2 hb (by decide)
            have r1 := row_set (j := us.length) k3 (enc x)
            have s1 := row_other k4 (a := ⟨b, us.length, none⟩) hb (by decide) (enc x)
            have k2' := heap_set_other (o := us.length) (.bool true) k1 b1 (by decide)
            have r2 := row_other r1 (a := ⟨b', us.length, none⟩) b1 (by decide) (.bool true)
            have s2 := row_set (j := us.length) s1 (.bool true)
            have k3' := heap_set (o := 2) (.int .i64 ((us.count true : Nat) + 1 : Int)) k2'
            have r3 := row_other r2 (a := ⟨g, 2, none⟩) k2' (by decide) (.int .i64 ((us.count true : Nat) + 1 : Int))
            have s3 := row_other s2 (a := ⟨g, 2, none⟩) k2' (by decide) (.int .i64 ((us.count true : Nat) + 1 : Int))
            have eX : (xs.map enc ++ [enc x]).set us.length (enc x) = (xs ++ [x]).map enc := by rw [← hxl]; simp
            have eU : (us.map Value.bool ++ [Value.bool true]).set us.length (Value.bool true) = (us ++ [true]).map Value.bool := by simp
            have eC : (us ++ [true]).count true = us.count true + 1 := by simp
            rw [eX] at r3
            rw [eU] at s3
            unfold setX setU
            rw [hF, if_neg (by omega), if_neg (by omega)]
            refine ⟨⟨some ⟨b, 0, none⟩, capl', some ⟨b', 0, none⟩, capu', .inl h1, ?_, ?_, ?_, by simp [hxl], by simp, ?_, by simp; omega, h9⟩, ((((kT.setCell (hFb.elim .inl .inr) _).setCell (hFb'.elim .inl .inr) _).setCell (.inl h1) _).drew)⟩
            · rw [List.length_append, List.length_append, hxl, eC]
              simp at k3' ⊢
              exact k3'
            · rw [List.length_append, hxl]
              exact r3
            · rw [List.length_append]
              exact s3
            · intro i hi hm
              rw [List.getElem_append_left hm]
              exact hU7 i hm)
          unfold enc at hc hlast
          clear k2 k3 k4 hb hb' h8 h9 hFb hFb' hcell hcell' hlk hU7
          have hct : us.count true ≤ us.length := List.count_le_length
          go_wp2_with fail
          go_region
          go_wp2_with fail
          go_ret2
          rw [HF.out]
          rw [HF.out] at hlast
          exact ⟨rfl, hlast.out _ (by omega)⟩
end
end Go.Proofs.Ytccknhhjkkbadaa.ArnS
