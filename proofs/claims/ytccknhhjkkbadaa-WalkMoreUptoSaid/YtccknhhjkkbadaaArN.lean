/- Contracts of arena.Arena at a node (three cells). -/
import Derived.Test.YtccknhhjkkbadaaArL
import Derived.BigRegion
import Derived.Deep.RegionLaw
import Derived.Deep.DeepCutAuto
import Derived.Test.YtccknhhjkkbadaaStage
namespace Go.Proofs.Ytccknhhjkkbadaa.ArnN
open Go.ChangeShapes Go.WideShapes Go.ChangeAt Go.RowKit Go.Proofs.Ytccknhhjkkbadaa.Lift Go.Proofs.Ytccknhhjkkbadaa.Arn Go.Proofs.Ytccknhhjkkbadaa
set_option linter.unusedVariables false
set_option linter.unusedSimpArgs false
/-- a node as it lies: kind, number, the head of its arguments. -/
structure Nd where
  k : Int
  n : Int
  A : Option Addr
  len : Nat
  cap : Nat
@[reducible] def enc (x : Nd) : Value := .agg #[.int .i64 x.k, .int .i64 x.n, .slice x.A x.len x.cap]
@[reducible] def c3 (x : Nd) : List Value := [.int .i64 x.k, .int .i64 x.n, .slice x.A x.len x.cap]
def nd0 : Nd := ⟨0, 0, none, 0, 0⟩
theorem infoE : (Try.prog.info? 43).map (fun i => (i.zero, i.size, i.bytes)) = some (some (enc nd0), 3, 40) := by kernel_rfl
/-- the cells of nodes. -/
def flat : List Nd → List Value
  | [] => []
  | x :: r => .int .i64 x.k :: .int .i64 x.n :: .slice x.A x.len x.cap :: flat r
theorem flat_len : ∀ l : List Nd, (flat l).length = l.length * 3
  | [] => rfl
  | x :: r => by simp [flat, flat_len r]; omega
theorem flat_app : ∀ l m : List Nd, flat (l ++ m) = flat l ++ flat m
  | [], m => rfl
  | x :: r, m => by simp [flat, flat_app r m]
theorem flat_get : ∀ (l : List Nd) (j : Nat) (h : j < l.length), (flat l)[j * 3]? = some (.int .i64 l[j].k) ∧ (flat l)[j * 3 + 1]? = some (.int .i64 l[j].n) ∧ (flat l)[j * 3 + 2]? = some (.slice l[j].A l[j].len l[j].cap)
  | [], j, h => by simp at h
  | x :: r, 0, _ => ⟨rfl, rfl, rfl⟩
  | x :: r, j + 1, h => by
    have := flat_get r j (by simpa using h)
    rw [show (j + 1) * 3 = j * 3 + 1 + 1 + 1 by omega]
    simpa [flat] using this
theorem flat_set : ∀ (l : List Nd) (j : Nat) (x : Nd), j < l.length → (((flat l).set (j * 3) (.int .i64 x.k)).set (j * 3 + 1) (.int .i64 x.n)).set (j * 3 + 2) (.slice x.A x.len x.cap) = flat (l.set j x)
  | [], j, x, h => by simp at h
  | y :: r, 0, x, _ => rfl
  | y :: r, j + 1, x, h => by
    have := flat_set r j x (by simpa using h)
    rw [show (j + 1) * 3 = j * 3 + 1 + 1 + 1 by omega]
    simpa [flat] using this
/-- a node is stored. -/
@[reducible] def sets (w : World) (b j : Nat) (x : Nd) : World := ((w.setCell ⟨b, j * 3, none⟩ (.int .i64 x.k)).setCell ⟨b, j * 3 + 1, none⟩ (.int .i64 x.n)).setCell ⟨b, j * 3 + 2, none⟩ (.slice x.A x.len x.cap)
theorem infoB : (Try.prog.info? 4).map (fun i => (i.zero, i.size, i.bytes)) = some (some (.bool false), 1, 1) := by kernel_rfl
/-- an arena: what it has, which places are used, below which place all are used, how many there may be. -/
def Ar (w : World) (F : Nat → Prop) (g : Nat) (xs : List Nd) (us : List Bool) (low most : Nat) : Prop :=
  ∃ Al capl Au capu, F g ∧ w.heap[g]? = some (.cells #[.slice Al xs.length capl, .slice Au us.length capu, .int .i64 (us.count true : Nat), .int .i64 (low : Nat), .int .i64 (most : Nat)] 146 (0, 0)) ∧
    Row w F 43 3 (.slice Al xs.length capl) xs.length (flat xs) ∧ Row w F 4 1 (.slice Au us.length capu) us.length (us.map Value.bool) ∧ xs.length = us.length ∧
    low ≤ us.length ∧ (∀ j (hj : j < us.length), j < low → us[j] = true) ∧ us.length ≤ most ∧ most ≤ 65536
theorem cells5 {w : World} {g : Nat} {v0 v1 v2 v3 v4 : Value} {t : TypeId} (h : w.heap[g]? = some (.cells #[v0, v1, v2, v3, v4] t (0, 0))) :
    w.cell? ⟨g, 0, none⟩ = some v0 ∧ w.cell? ⟨g, 1, none⟩ = some v1 ∧ w.cell? ⟨g, 2, none⟩ = some v2 ∧ w.cell? ⟨g, 3, none⟩ = some v3 ∧ w.cell? ⟨g, 4, none⟩ = some v4 := by
  refine ⟨?_, ?_, ?_, ?_, ?_⟩ <;> simp [World.cell?, h]
theorem free5 {w : World} {g : Nat} {cs : Array Value} {t : TypeId} (h : w.heap[g]? = some (.cells cs t (0, 0))) (j : Nat) : w.frozen? ⟨g, j, none⟩ = false := by simp [World.frozen?, h]
theorem Ar.mono {w : World} {F G : Nat → Prop} {g : Nat} {xs : List Nd} {us : List Bool} {low most : Nat} (h : Ar w F g xs us low most) (hg : ∀ b, F b → G b) : Ar w G g xs us low most := by
  obtain ⟨Al, capl, Au, capu, h1, h2, h3, h4, h5⟩ := h
  exact ⟨Al, capl, Au, capu, hg _ h1, h2, h3.mono hg, h4.mono hg, h5⟩
theorem Ar.keep {w w' : World} {F G : Nat → Prop} {g : Nat} {xs : List Nd} {us : List Bool} {low most : Nat} (h : Ar w F g xs us low most) (ht : Turn G w w') (hd : ∀ b, F b → ¬ G b) : Ar w' F g xs us low most := by
  obtain ⟨Al, capl, Au, capu, h1, h2, h3, h4, h5⟩ := h
  exact ⟨Al, capl, Au, capu, h1, (ht.block g (Array.getElem?_eq_some_iff.1 h2).1 (hd g h1)).trans h2, h3.keep ht hd, h4.keep ht hd, h5⟩
theorem Ar.below {w w' : World} {F : Nat → Prop} {g : Nat} {xs : List Nd} {us : List Bool} {low most : Nat} (h : Ar w F g xs us low most) (hb : Below w.heap.size w w') : Ar w' F g xs us low most := by
  obtain ⟨Al, capl, Au, capu, h1, h2, h3, h4, h5⟩ := h
  exact ⟨Al, capl, Au, capu, h1, (hb.block g (Array.getElem?_eq_some_iff.1 h2).1).trans h2, ⟨own_below h3.1 hb (Nat.le_refl _), h3.2⟩, ⟨own_below h4.1 hb (Nat.le_refl _), h4.2⟩, h5⟩
theorem Ar.drew {w : World} {F : Nat → Prop} {g : Nat} {xs : List Nd} {us : List Bool} {low most : Nat} (h : Ar w F g xs us low most) : Ar w.drew F g xs us low most := by
  obtain ⟨Al, capl, Au, capu, h1, h2, h3, h4, h5⟩ := h
  exact ⟨Al, capl, Au, capu, h1, h2, ⟨h3.1, h3.2⟩, ⟨h4.1, h4.2⟩, h5⟩
theorem Ar.tight {w : World} {F : Nat → Prop} {g : Nat} {xs : List Nd} {us : List Bool} {low most : Nat} (h : Ar w F g xs us low most) : Ar w (fun b => F b ∧ b < w.heap.size) g xs us low most := by
  obtain ⟨Al, capl, Au, capu, h1, h2, h3, h4, h5⟩ := h
  exact ⟨Al, capl, Au, capu, ⟨h1, (Array.getElem?_eq_some_iff.1 h2).1⟩, h2, ⟨h3.1, fun b hb => ⟨h3.2 b hb, (own_block_lt h3.1 hb).2⟩⟩, ⟨h4.1, fun b hb => ⟨h4.2 b hb, (own_block_lt h4.1 hb).2⟩⟩, h5⟩
def mostN (n : Int) : Nat := min n.toNat 65536
theorem new_any (n : Int) (w : World) : Calls Try.prog 106 #[.int .i64 n] w fun e w' => e = .returned (.pointer (some ⟨w.heap.size, 0, none⟩)) ∧ Ar w' (fun b => w.heap.size ≤ b) w.heap.size [] [] 0 (mostN n) ∧ Below w.heap.size w w' := by
  have hfin : ∀ m : Nat, m ≤ 65536 → Ar (w.alloc (.cells #[.slice none 0 0, .slice none 0 0, .int .i64 0, .int .i64 0, .int .i64 m] 146)) (fun b => w.heap.size ≤ b) w.heap.size [] [] 0 m := fun m hm =>
    ⟨none, 0, none, 0, Nat.le_refl _, heap_alloc_new w _, ⟨World.ownsRow_nil _ _ _ _, fun b hb => by cases hb⟩, ⟨World.ownsRow_nil _ _ _ _, fun b hb => by cases hb⟩, rfl, Nat.le_refl _, fun j hj => by simp at hj, Nat.zero_le _, hm⟩
  have hb := fun o => (Below.refl w.heap.size w).alloc (Nat.le_refl _) o
  by_cases h1 : n < 0
  · have e : mostN n = 0 := by unfold mostN; omega
    rw [e]
    have hf := hfin 0 (by omega)
    clear hfin e
    go_enter Try.func106, Try.ntmps106
    go_wp2_with fail
    go_ret
    exact ⟨rfl, hf, hb _⟩
  · obtain ⟨k, rfl⟩ : ∃ k : Nat, n = k := ⟨n.toNat, by omega⟩
    by_cases h2 : k ≤ 65536
    · have e : mostN k = k := by unfold mostN; omega
      rw [e]
      have hf := hfin k h2
      clear hfin e
      go_enter Try.func106, Try.ntmps106
      go_wp2_with fail
      go_ret
      exact ⟨rfl, hf, hb _⟩
    · have e : mostN k = 65536 := by unfold mostN; omega
      rw [e]
      have hf := hfin 65536 (Nat.le_refl _)
      clear hfin e
      go_enter Try.func106, Try.ntmps106
      go_wp2_with fail
      go_ret
      exact ⟨rfl, hf, hb _⟩
section
variable {w : World} {F : Nat → Prop} {g : Nat} {xs : List Nd} {us : List Bool} {low most : Nat}
theorem len_any (h : Ar w F g xs us low most) : Calls Try.prog 82 #[.pointer (some ⟨g, 0, none⟩)] w fun e w' => e = .returned (.int .i64 (us.count true : Nat)) ∧ w = w' := by
  obtain ⟨Al, capl, Au, capu, h1, h2, -⟩ := h
  obtain ⟨c0, c1, c2, c3, c4⟩ := cells5 h2
  clear h2
  go_enter Try.func82, Try.ntmps82
  go_wp2_with fail
  go_ret
  exact ⟨rfl, rfl⟩
theorem most_any (h : Ar w F g xs us low most) : Calls Try.prog 78 #[.pointer (some ⟨g, 0, none⟩)] w fun e w' => e = .returned (.int .i64 (most : Nat)) ∧ w = w' := by
  obtain ⟨Al, capl, Au, capu, h1, h2, -⟩ := h
  obtain ⟨c0, c1, c2, c3, c4⟩ := cells5 h2
  clear h2
  go_enter Try.func78, Try.ntmps78
  go_wp2_with fail
  go_ret
  exact ⟨rfl, rfl⟩
theorem len_nil (w : World) : Calls Try.prog 82 #[.pointer none] w fun e w' => e = .returned (.int .i64 0) ∧ w = w' := by
  go_enter Try.func82, Try.ntmps82
  go_wp2_with fail
  go_ret
  exact ⟨rfl, rfl⟩
theorem most_nil (w : World) : Calls Try.prog 78 #[.pointer none] w fun e w' => e = .returned (.int .i64 0) ∧ w = w' := by
  go_enter Try.func78, Try.ntmps78
  go_wp2_with fail
  go_ret
  exact ⟨rfl, rfl⟩
theorem has_nil (w : World) (i : Int) : Calls Try.prog 107 #[.pointer none, .int .i64 i] w fun e w' => e = .returned (.bool false) ∧ w = w' := by
  go_enter Try.func107, Try.ntmps107
  go_wp2_with fail
  go_ret
  exact ⟨rfl, rfl⟩
/-- a row of so many is at a block. -/
theorem row_at {w : World} {F : Nat → Prop} {e n size : Nat} {A : Option Addr} {cap : Nat} {xs : List Value} (h : Row w F e size (.slice A n cap) n xs) (hn : 0 < n) :
    ∃ b cur, A = some ⟨b, 0, none⟩ ∧ F b ∧ n ≤ cap ∧ cap ≤ 9223372036854775807 ∧ w.heap[b]? = some (.cells cur e (0, 0)) ∧ (∀ j, j < n * size → w.cell? ⟨b, j, none⟩ = xs[j]?) ∧ cur.size = cap * size := by
  obtain ⟨ho, hF⟩ := h
  rcases ho.2 with ⟨h1, h2⟩ | ⟨b, cap', cur, h1, h2, h3, h4, h5, h6, h7⟩
  · omega
  · injection h1 with e1 e2 e3
    subst e1 e3
    refine ⟨b, cur, rfl, hF b rfl, h4, by unfold maxLen at h5; omega, h3, fun j hj => ?_, h6⟩
    exact ho.cellAt j hj
theorem cells_nd {w : World} {b n : Nat} {xs : List Nd} (hcell : ∀ j, j < n * 3 → w.cell? ⟨b, j, none⟩ = (flat xs)[j]?) {j : Nat} (hj : j < n) (hx : j < xs.length) :
    w.cell? ⟨b, j * 3, none⟩ = some (.int .i64 xs[j].k) ∧ w.cell? ⟨b, j * 3 + 1, none⟩ = some (.int .i64 xs[j].n) ∧ w.cell? ⟨b, j * 3 + 2, none⟩ = some (.slice xs[j].A xs[j].len xs[j].cap) := by
  have h := flat_get xs j hx
  exact ⟨(hcell _ (by omega)).trans h.1, (hcell _ (by omega)).trans h.2.1, (hcell _ (by omega)).trans h.2.2⟩
theorem has_any (i : Int) (h : Ar w F g xs us low most) : Calls Try.prog 107 #[.pointer (some ⟨g, 0, none⟩), .int .i64 i] w fun e w' => e = .returned (.bool (hasB us i)) ∧ w = w' := by
  obtain ⟨Al, capl, Au, capu, h1, h2, h3, h4, -⟩ := h
  obtain ⟨c0, c1, c2, c3, c4⟩ := cells5 h2
  by_cases hi : i < 0
  · have hd : decide (0 ≤ i) = false := decide_eq_false (by omega)
    have HH := Lib.hid (hasB_neg (us := us) hi)
    clear h2 h3 h4
    go_enter Try.func107, Try.ntmps107
    go_wp2_with fail
    go_ret
    rw [HH.out]
    exact ⟨rfl, rfl⟩
  · obtain ⟨j, rfl⟩ : ∃ j : Nat, i = j := ⟨i.toNat, by omega⟩
    by_cases hj : j < us.length
    · obtain ⟨b, cur, rfl, _, hc1, hc2, hb, hcell, _⟩ := row_at h4 (by omega)
      have hc := hcell j (by omega)
      rw [List.getElem?_map, List.getElem?_eq_getElem hj, Option.map_some] at hc
      have HH := Lib.hid (hasB_at hj)
      clear h2 h3 h4 hcell
      generalize us[j] = u at *
      go_enter Try.func107, Try.ntmps107
      go_wp2_with fail
      go_ret
      rw [HH.out]
      exact ⟨rfl, rfl⟩
    · have HH := Lib.hid (hasB_far (us := us) (j := j) (by omega))
      clear h2 h3 h4
      go_enter Try.func107, Try.ntmps107
      go_wp2_with fail
      go_ret
      rw [HH.out]
      exact ⟨rfl, rfl⟩
/-- what a place has. -/
def getX (xs : List Nd) (us : List Bool) (i : Int) : Nd := if hasB us i then xs.getD i.toNat nd0 else nd0
theorem get_any (i : Int) (h : Ar w F g xs us low most) : Calls Try.prog 79 #[.pointer (some ⟨g, 0, none⟩), .int .i64 i] w fun e w' => e = .returned (.tuple #[enc (getX xs us i), .bool (hasB us i)]) ∧ Below w.heap.size w w' := by
  have hbb : Below w.heap.size w ((w.alloc (.cells #[.int .i64 0, .int .i64 0, .slice none 0 0] 43)).alloc (.cells #[.int .i64 0, .int .i64 0, .slice none 0 0] 43)) := ((Below.refl _ _).alloc (Nat.le_refl _) _).alloc (by simp) _
  have h := h.below hbb
  have HC1 := Lib.hid (has_any i h)
  obtain ⟨Al, capl, Au, capu, h1, h2, h3, h4, h5, -⟩ := h
  obtain ⟨c0, c1, c2, c3, c4⟩ := cells5 h2
  have HX : Hid (getX xs us i = if hasB us i then xs.getD i.toNat nd0 else nd0) := Lib.hid rfl
  cases hh : hasB us i with
  | false =>
    rw [hh] at HC1 HX
    clear h2 h3 h4 hh
    go_enter Try.func79, Try.ntmps79
    go_wp2_with (go_at_call 107; refine HC1.out.mono ?_; rintro _ w1 ⟨rfl, rfl⟩)
    rw [HX.out]
    refine bodyPost_ret (v := .tuple #[enc nd0, .bool false]) (by simp [results, Try.results79, go_sem, enc, nd0]) rfl ⟨rfl, ?_⟩
    exact hbb
  | true =>
    have hi : ¬ i < 0 := fun e => by rw [hasB_neg e] at hh; cases hh
    obtain ⟨j, rfl⟩ : ∃ j : Nat, i = j := ⟨i.toNat, by omega⟩
    have hj : j < us.length := by
      rcases Nat.lt_or_ge j us.length with h | h
      · exact h
      · rw [hasB_far h] at hh; cases hh
    obtain ⟨b, cur, rfl, _, hc1, hc2, hb, hcell, _⟩ := row_at h3 (by omega)
    have hjx : j < xs.length := by omega
    have hc := cells_nd hcell (by omega) hjx
    rw [hh] at HC1 HX
    have hX2 : getX xs us j = xs[j] := by rw [HX.out, if_pos rfl]; simp [List.getD, List.getElem?_eq_getElem hjx]
    obtain ⟨ex, hex⟩ : ∃ ex, ex = xs[j] := ⟨_, rfl⟩
    rw [← hex] at hc hX2
    have HX2 := Lib.hid hX2
    obtain ⟨ek, en, eA, el, ec⟩ := ex
    obtain ⟨hd0, hd1, hd2⟩ := hc
    dsimp only at hd0 hd1 hd2
    rw [h5] at c0
    clear h2 h3 h4 hh HX hX2 hex hcell h5
    go_enter Try.func79, Try.ntmps79
    go_wp2_with (go_at_call 107; refine HC1.out.mono ?_; rintro _ w1 ⟨rfl, rfl⟩)
    rw [HX2.out]
    refine bodyPost_ret (v := .tuple #[enc ⟨ek, en, eA, el, ec⟩, .bool true]) (by simp [results, Try.results79, go_sem, enc]) rfl ⟨rfl, ?_⟩
    exact ((Below.refl _ _).alloc (Nat.le_refl _) _).alloc (by simp) _
theorem map_set {α β : Type} (f : α → β) (l : List α) (j : Nat) (x : α) : (l.map f).set j (f x) = (l.set j x).map f := by simp
theorem row_drew {w : World} {F : Nat → Prop} {e size n : Nat} {v : Value} {l : List Value} (h : Row w F e size v n l) : Row w.drew F e size v n l := ⟨h.1.drew, h.2⟩
theorem heap_drew {w : World} {g : Nat} {o : Obj} (h : w.heap[g]? = some o) : w.drew.heap[g]? = some o := h
theorem row_set {w : World} {F : Nat → Prop} {e n : Nat} {b cap j : Nat} {l : List Value} (h : Row w F e 1 (.slice (some ⟨b, 0, none⟩) n cap) n l) (v : Value) : Row (w.setCell ⟨b, j, none⟩ v) F e 1 (.slice (some ⟨b, 0, none⟩) n cap) n (l.set j v) :=
  ⟨(h.1.stored j v).1, h.2⟩
theorem row_set3 {w : World} {F : Nat → Prop} {e n : Nat} {b cap j : Nat} {xs : List Nd} (h : Row w F e 3 (.slice (some ⟨b, 0, none⟩) n cap) n (flat xs)) (hj : j < xs.length) (x : Nd) : Row (sets w b j x) F e 3 (.slice (some ⟨b, 0, none⟩) n cap) n (flat (xs.set j x)) := by
  rw [← flat_set xs j x hj]
  exact ⟨((((h.1.stored _ _).1).stored _ _).1.stored _ _).1, h.2⟩
theorem ne_type {w : World} {a b : Nat} {c c' : Array Value} {t t' : TypeId} (h : w.heap[a]? = some (.cells c t (0, 0))) (h' : w.heap[b]? = some (.cells c' t' (0, 0))) (hne : t ≠ t') : a ≠ b := by
  rintro rfl
  rw [h] at h'
  injection h' with h'
  injection h' with _ h'
  exact hne h'
theorem heap3_other {w : World} {b c j : Nat} {cs cs' : Array Value} {t t' : TypeId} (x : Nd) (h : w.heap[b]? = some (.cells cs t (0, 0))) (hc : w.heap[c]? = some (.cells cs' t' (0, 0))) (hne : t ≠ t') : (sets w c j x).heap[b]? = some (.cells cs t (0, 0)) :=
  heap_set_other _ (heap_set_other _ (heap_set_other _ h hc hne) (heap_set _ hc) hne) (heap_set _ (heap_set _ hc)) hne
theorem heap3 {w : World} {c j : Nat} {cs' : Array Value} {t' : TypeId} (x : Nd) (hc : w.heap[c]? = some (.cells cs' t' (0, 0))) : ∃ cs, (sets w c j x).heap[c]? = some (.cells cs t' (0, 0)) := ⟨_, heap_set _ (heap_set _ (heap_set _ hc))⟩
theorem row_other {w : World} {F : Nat → Prop} {e t size n : Nat} {v : Value} {l : List Value} (h : Row w F e size v n l) {a : Addr} {cs : Array Value} (ha : w.heap[a.block]? = some (.cells cs t (0, 0))) (hne : e ≠ t) (u : Value) : Row (w.setCell a u) F e size v n l :=
  ⟨own_set_type h.1 ha hne u, h.2⟩
theorem row3_other {w : World} {F : Nat → Prop} {e t size n : Nat} {v : Value} {l : List Value} {b j : Nat} (h : Row w F e size v n l) {cs : Array Value} (ha : w.heap[b]? = some (.cells cs t (0, 0))) (hne : e ≠ t) (x : Nd) : Row (sets w b j x) F e size v n l :=
  row_other (row_other (row_other h ha hne _) (heap_set (o := j * 3) (.int .i64 x.k) ha) hne _) (heap_set (o := j * 3 + 1) (.int .i64 x.n) (heap_set (o := j * 3) (.int .i64 x.k) ha)) hne _
theorem _root_.Go.Proofs.Ytccknhhjkkbadaa.Arn.Turn.sets {F : Nat → Prop} {w w' : World} (h : Turn F w w') {b : Nat} (ha : F b ∨ w.heap.size ≤ b) (j : Nat) (x : Nd) : Turn F w (sets w' b j x) := ((h.setCell ha _).setCell ha _).setCell ha _
theorem set_any (i : Int) (x : Nd) (h : Ar w F g xs us low most) : Calls Try.prog 80 #[.pointer (some ⟨g, 0, none⟩), .int .i64 i, enc x] w fun e w' => e = .returned (.bool (hasB us i)) ∧ Ar w' F g (if hasB us i then xs.set i.toNat x else xs) us low most ∧ Turn F w w' := by
  obtain ⟨xk, xn, xA, xl, xc⟩ := x
  dsimp only [enc]
  obtain ⟨W0, hW0⟩ : ∃ W0, W0 = w.alloc (.cells #[.int .i64 xk, .int .i64 xn, .slice xA xl xc] 43) := ⟨_, rfl⟩
  have hbb : Below w.heap.size w W0 := by rw [hW0]; exact (Below.refl _ _).alloc (Nat.le_refl _) _
  have hbxc : W0.heap[w.heap.size]? = some (.cells #[.int .i64 xk, .int .i64 xn, .slice xA xl xc] 43) := by rw [hW0]; exact heap_alloc_new w _
  have hlt := h.tight
  have h := h.below hbb
  have HC1 := Lib.hid (has_any i h)
  have h0 := h
  obtain ⟨Al, capl, Au, capu, h1, h2, h3, h4, h5, h6⟩ := h
  obtain ⟨c0, c1, c2, c3, c4⟩ := cells5 h2
  cases hh : hasB us i with
  | false =>
    rw [hh] at HC1
    have H0 := Lib.hid h0
    clear h2 h3 h4 hh h0
    have HW := Lib.hid hW0
    clear hW0 hbxc
    go_enter Try.func80, Try.ntmps80
    go_wp2_with fail
    rw [← HW.out]
    go_wp2_with (go_at_call 107; refine HC1.out.mono ?_; rintro _ w1 ⟨rfl, rfl⟩)
    go_ret
    exact ⟨rfl, H0.out, Turn.of_below hbb⟩
  | true =>
    have hi : ¬ i < 0 := fun e => by rw [hasB_neg e] at hh; cases hh
    obtain ⟨j, rfl⟩ : ∃ j : Nat, i = j := ⟨i.toNat, by omega⟩
    have hj : j < us.length := by
      rcases Nat.lt_or_ge j us.length with h | h
      · exact h
      · rw [hasB_far h] at hh; cases hh
    obtain ⟨b, cur, rfl, hFb, hc1, hc2, hb, hcell, _⟩ := row_at h3 (by omega)
    have hjx : j < xs.length := by omega
    have hbx : b < w.heap.size := by
      obtain ⟨Al', capl', Au', capu', -, k2, k3, -⟩ := hlt
      have e2 : W0.heap[g]? = w.heap[g]? := hbb.block _ (Array.getElem?_eq_some_iff.1 k2).1
      rw [e2, k2] at h2
      injection h2 with h2
      injection h2 with h2
      simp at h2
      exact (k3.2 b (by rw [h2.1.1]; rfl)).2
    have nb1 : ¬ b = w.heap.size := by omega
    have nb2 : ¬ w.heap.size = b := by omega
    obtain ⟨hd0, hd1, hd2⟩ := cells_nd hcell (by omega) hjx
    have hf0 := free5 hb (j * 3)
    have hf1 := free5 hb (j * 3 + 1)
    have hf2 := free5 hb (j * 3 + 2)
    rw [hh] at HC1
    have hlast : Hid (Ar (sets W0 b j ⟨xk, xn, xA, xl, xc⟩) F g (xs.set j ⟨xk, xn, xA, xl, xc⟩) us low most ∧ Turn F w (sets W0 b j ⟨xk, xn, xA, xl, xc⟩)) := Lib.hid (by
      refine ⟨⟨some ⟨b, 0, none⟩, capl, Au, capu, h1, ?_, ?_, row3_other h4 hb (by decide) _, by simpa using h5, h6⟩, (Turn.of_below hbb).sets (.inl hFb) _ _⟩
      · rw [List.length_set]
        exact heap3_other _ h2 hb (by decide)
      · have := row_set3 (j := j) h3 (by omega) ⟨xk, xn, xA, xl, xc⟩
        rw [List.length_set]
        exact this)
    rw [h5] at c0
    clear h2 h3 h4 hh h0 hb hcell h5 hlt
    generalize xs[j].k = yk at *
    generalize xs[j].n = yn at *
    generalize xs[j].A = yA at *
    generalize xs[j].len = yl at *
    generalize xs[j].cap = yc at *
    have HW := Lib.hid hW0
    have hx0 : W0.cell? ⟨w.heap.size, 0, none⟩ = some (.int .i64 xk) := by simp [World.cell?, hbxc]
    have hx1 : W0.cell? ⟨w.heap.size, 1, none⟩ = some (.int .i64 xn) := by simp [World.cell?, hbxc]
    have hx2 : W0.cell? ⟨w.heap.size, 2, none⟩ = some (.slice xA xl xc) := by simp [World.cell?, hbxc]
    clear hW0 hbxc
    go_enter Try.func80, Try.ntmps80
    go_wp2_with fail
    rw [← HW.out]
    go_wp2_with (go_at_call 107; refine HC1.out.mono ?_; rintro _ w1 ⟨rfl, rfl⟩)
    go_region
    go_wp2_with fail
    go_ret
    exact ⟨rfl, hlast.out.1.drew, hlast.out.2.drew⟩
set_option maxHeartbeats 1000000 in
/-- the arena behind a free. -/
theorem free_any (i : Int) (h : Ar w F g xs us low most) : Calls Try.prog 81 #[.pointer (some ⟨g, 0, none⟩), .int .i64 i] w fun e w' => e = .returned (.bool (hasB us i)) ∧
    Ar w' F g (if hasB us i then xs.set i.toNat nd0 else xs) (if hasB us i then us.set i.toNat false else us) (if hasB us i then min low i.toNat else low) most ∧ Turn F w w' := by
  have HC1 := Lib.hid (has_any i h)
  have h0 := h
  obtain ⟨Al, capl, Au, capu, h1, h2, h3, h4, h5, h6, h7, h8, h9⟩ := h
  obtain ⟨c0, c1, c2, c3, c4⟩ := cells5 h2
  cases hh : hasB us i with
  | false =>
    rw [hh] at HC1
    have H0 := Lib.hid h0
    clear h2 h3 h4 hh h0
    go_enter Try.func81, Try.ntmps81
    go_wp2_with (go_at_call 107; refine HC1.out.mono ?_; rintro _ w1 ⟨rfl, rfl⟩)
    go_ret
    exact ⟨rfl, H0.out, Turn.refl _ _⟩
  | true =>
    obtain ⟨W0, hW0⟩ : ∃ W0, W0 = w.alloc (.cells #[.int .i64 0, .int .i64 0, .slice none 0 0] 43) := ⟨_, rfl⟩
    have hbb : Below w.heap.size w W0 := by rw [hW0]; exact (Below.refl _ _).alloc (Nat.le_refl _) _
    have hbxc : W0.heap[w.heap.size]? = some (.cells #[.int .i64 0, .int .i64 0, .slice none 0 0] 43) := by rw [hW0]; exact heap_alloc_new w _
    have hbx : ∀ b, (Value.slice Al xs.length capl).ownBlock = some b → b < w.heap.size := fun b hb => (own_block_lt h3.1 hb).2
    have h := h0.below hbb
    have h2' := (hbb.block g (Array.getElem?_eq_some_iff.1 h2).1).trans h2
    have h3' : Row W0 F 43 3 (.slice Al xs.length capl) xs.length (flat xs) := ⟨own_below h3.1 hbb (Nat.le_refl _), h3.2⟩
    have h4' : Row W0 F 4 1 (.slice Au us.length capu) us.length (us.map Value.bool) := ⟨own_below h4.1 hbb (Nat.le_refl _), h4.2⟩
    clear h2 h3 h4 c0 c1 c2 c3 c4
    have h2 := h2'
    have h3 := h3'
    have h4 := h4'
    clear h2' h3' h4'
    obtain ⟨c0, c1, c2, c3, c4⟩ := cells5 h2
    have hx0 : W0.cell? ⟨w.heap.size, 0, none⟩ = some (.int .i64 0) := by simp [World.cell?, hbxc]
    have hx1 : W0.cell? ⟨w.heap.size, 1, none⟩ = some (.int .i64 0) := by simp [World.cell?, hbxc]
    have hx2 : W0.cell? ⟨w.heap.size, 2, none⟩ = some (.slice none 0 0) := by simp [World.cell?, hbxc]
    have hi : ¬ i < 0 := fun e => by rw [hasB_neg e] at hh; cases hh
    obtain ⟨j, rfl⟩ : ∃ j : Nat, i = j := ⟨i.toNat, by omega⟩
    have hj : j < us.length := by
      rcases Nat.lt_or_ge j us.length with h | h
      · exact h
      · rw [hasB_far h] at hh; cases hh
    obtain ⟨b, cur, rfl, hFb, hc1, hc2, hb, hcell, _⟩ := row_at h3 (by omega)
    have hbl := hbx b rfl
    have nb1 : ¬ b = w.heap.size := by omega
    have nb2 : ¬ w.heap.size = b := by omega
    obtain ⟨b', cur', rfl, hFb', hc1', hc2', hb', hcell', _⟩ := row_at h4 (by omega)
    have hjx : j < xs.length := by omega
    obtain ⟨hd0, hd1, hd2⟩ := cells_nd hcell (by omega) hjx
    have hc' := hcell' j (by omega)
    rw [List.getElem?_map, List.getElem?_eq_getElem hj, Option.map_some] at hc'
    have hf0 := free5 hb (j * 3)
    have hf1 := free5 hb (j * 3 + 1)
    have hf2 := free5 hb (j * 3 + 2)
    have hf' := free5 hb' j
    have hg := free5 h2
    have g2 := hg 2
    have g3 := hg 3
    have n1 := ne_type hb hb' (by decide)
    have n2 := n1.symm
    have n3 := ne_type h2 hb (by decide)
    have n4 := n3.symm
    have n5 := ne_type h2 hb' (by decide)
    have n6 := n5.symm
    have hlw : (low : Int) ≤ 65536 := by omega
    have hct : us.count true ≤ us.length := List.count_le_length
    have hcs := count_set_false hj (by rw [← hasB_at hj]; exact hh)
    rw [hh] at HC1
    have HU := Lib.hid (h7)
    clear h7 hcell hcell' hg
    have hlast : Hid (∀ c m : Int, c = (us.count true : Nat) - 1 → m = (min low j : Nat) →
        Ar ((((sets W0 b j nd0).setCell ⟨b', j, none⟩ (.bool false)).setCell ⟨g, 2, none⟩ (.int .i64 c)).setCell ⟨g, 3, none⟩ (.int .i64 m)).drew F g (xs.set j nd0) (us.set j false) (min low j) most ∧
        Turn F w ((((sets W0 b j nd0).setCell ⟨b', j, none⟩ (.bool false)).setCell ⟨g, 2, none⟩ (.int .i64 c)).setCell ⟨g, 3, none⟩ (.int .i64 m)).drew) := Lib.hid (by
      rintro c m rfl rfl
      have b1 := heap3_other (j := j) nd0 hb' hb (by decide)
      obtain ⟨_, d1⟩ := heap3 (j := j) nd0 hb
      have k1 := heap3_other (j := j) nd0 h2 hb (by decide)
      have r1 := row_set3 (j := j) h3 (by first | omega | (simp; omega)) nd0
      have s1 := row3_other (j := j) h4 hb (by decide) nd0
      have d2 := heap_set_other (o := j) (.bool false) d1 b1 (by decide)
      have k2 := heap_set_other (o := j) (.bool false) k1 b1 (by decide)
      have r2 := row_other r1 (a := ⟨b', j, none⟩) b1 (by decide) (.bool false)
      have s2 := row_set (j := j) s1 (.bool false)
      have k3 := heap_set (o := 2) (.int .i64 ((us.count true : Nat) - 1 : Int)) k2
      have r3 := row_other r2 (a := ⟨g, 2, none⟩) k2 (by decide) (.int .i64 ((us.count true : Nat) - 1 : Int))
      have s3 := row_other s2 (a := ⟨g, 2, none⟩) k2 (by decide) (.int .i64 ((us.count true : Nat) - 1 : Int))
      have k4 := heap_set (o := 3) (.int .i64 (min low j : Nat)) k3
      have r4 := row_other r3 (a := ⟨g, 3, none⟩) k3 (by decide) (.int .i64 (min low j : Nat))
      have s4 := row_other s3 (a := ⟨g, 3, none⟩) k3 (by decide) (.int .i64 (min low j : Nat))
      refine ⟨⟨some ⟨b, 0, none⟩, capl, some ⟨b', 0, none⟩, capu, h1, ?_, ?_, ?_, by simpa using h5, by rw [List.length_set]; omega, ?_, by rw [List.length_set]; exact h8, h9⟩, ((((((Turn.of_below (F := F) hbb).sets (.inl hFb) _ _).setCell (.inl hFb') _).setCell (.inl h1) _).setCell (.inl h1) _).drew)⟩
      · rw [List.length_set, List.length_set]
        have e1 : (us.count true : Nat) - 1 = (((us.set j false).count true : Nat) : Int) := by omega
        rw [e1] at k4
        rw [e1]
        refine heap_drew ?_
        simp at k4
        exact k4
      · rw [List.length_set]
        exact row_drew r4
      · rw [map_set] at s4
        rw [List.length_set]
        exact row_drew s4
      · intro i hi hm
        rw [List.length_set] at hi
        rw [List.getElem_set_ne (by omega)]
        exact HU.out i hi (by omega))
    clear h2 h3 h4 hh h0 h hb hb' h8 h9 hFb hFb' HU
    generalize xs[j].k = yk at *
    generalize xs[j].n = yn at *
    generalize xs[j].A = yA at *
    generalize xs[j].len = yl at *
    generalize xs[j].cap = yc at *
    rw [h5] at c0
    have HW := Lib.hid hW0
    clear hW0 hbxc hbx h5
    by_cases hlj : (low : Int) < j
    all_goals
      go_enter Try.func81, Try.ntmps81
      go_wp2_with (go_at_call 107; refine HC1.out.mono ?_; rintro _ w1 ⟨rfl, rfl⟩)
      rw [← HW.out]
      go_region
      go_wp2_with fail
      all_goals
        go_ret
        exact ⟨rfl, hlast.out _ _ (by omega) (by omega)⟩
theorem put_full (x : Nd) (h : Ar w F g xs us low most) (hc : us.count true = most) : Calls Try.prog 76 #[.pointer (some ⟨g, 0, none⟩), enc x] w fun e w' => e = .returned (.tuple #[.int .i64 0, .bool false]) ∧ Below w.heap.size w w' := by
  obtain ⟨xk, xn, xA, xl, xc⟩ := x
  dsimp only [enc]
  have hbb : Below w.heap.size w (w.alloc (.cells #[.int .i64 xk, .int .i64 xn, .slice xA xl xc] 43)) := (Below.refl _ _).alloc (Nat.le_refl _) _
  have h := h.below hbb
  have HL := Lib.hid (len_any h)
  have HM := Lib.hid (most_any h)
  rw [hc] at HL
  clear h hc
  go_enter Try.func76, Try.ntmps76
  go_wp2_with (first | (go_at_call 82; refine HL.out.mono ?_; rintro _ w1 ⟨rfl, rfl⟩) | (go_at_call 78; refine HM.out.mono ?_; rintro _ w1 ⟨rfl, rfl⟩))
  go_ret2
  exact ⟨rfl, hbb⟩
theorem low_up {l : Nat} (h : Ar w F g xs us l most) (hl : l < us.length) (hu : us[l] = true) : Ar (w.setCell ⟨g, 3, none⟩ (.int .i64 ((l + 1 : Nat) : Int))) F g xs us (l + 1) most := by
  obtain ⟨Al, capl, Au, capu, h1, h2, h3, h4, h5, h6, h7, h8⟩ := h
  refine ⟨Al, capl, Au, capu, h1, ?_, row_other h3 h2 (by decide) _, row_other h4 h2 (by decide) _, h5, hl, fun j hj hm => ?_, h8⟩
  · have := heap_set (o := 3) (.int .i64 ((l + 1 : Nat) : Int)) h2
    simpa using this
  · rcases Nat.lt_or_ge j l with h | h
    · exact h7 j hj h
    · have : j = l := by omega
      subst this
      exact hu
theorem src_one (w : World) (v : Value) (e : TypeId) : Lift.Src (w.alloc (.cells #[v] e)) 1 (some ⟨w.heap.size, 0, none⟩) 1 [v] := Lift.Src.of_own (own_new w e 1 1 #[v] rfl (by omega))
theorem src_d1 (w : World) (v : Value) (e : TypeId) : Lift.Src (w.alloc (.cells #[v] e)).drew 1 (some ⟨w.heap.size, 0, none⟩) 1 [v] := src_one w v e
theorem src_2a (w : World) (v : Value) (e : TypeId) (o : Obj) : Lift.Src ((w.alloc (.cells #[v] e)).alloc o).drew 1 (some ⟨w.heap.size, 0, none⟩) 1 [v] :=
  (src_one w v e).below (B := (w.alloc (.cells #[v] e)).heap.size) (w' := (w.alloc (.cells #[v] e)).alloc o) ((Below.refl _ _).alloc (Nat.le_refl _) o) (Nat.le_refl _)
theorem src_2b (w : World) (v : Value) (e : TypeId) (o : Obj) : Lift.Src ((w.alloc o).alloc (.cells #[v] e)).drew 1 (some ⟨w.heap.size + 1, 0, none⟩) 1 [v] := by
  have := src_d1 (w.alloc o) v e
  rwa [World.size_alloc] at this
theorem src3_one (w : World) (a b c : Value) (e : TypeId) : Lift.Src (w.alloc (.cells #[a, b, c] e)) 3 (some ⟨w.heap.size, 0, none⟩) 1 [a, b, c] := Lift.Src.of_own (own_new w e 3 1 #[a, b, c] rfl (by omega))
theorem src3_d1 (w : World) (a b c : Value) (e : TypeId) : Lift.Src (w.alloc (.cells #[a, b, c] e)).drew 3 (some ⟨w.heap.size, 0, none⟩) 1 [a, b, c] := src3_one w a b c e
theorem src3_2a (w : World) (a b c : Value) (e : TypeId) (o : Obj) : Lift.Src ((w.alloc (.cells #[a, b, c] e)).alloc o).drew 3 (some ⟨w.heap.size, 0, none⟩) 1 [a, b, c] :=
  (src3_one w a b c e).below (B := (w.alloc (.cells #[a, b, c] e)).heap.size) (w' := (w.alloc (.cells #[a, b, c] e)).alloc o) ((Below.refl _ _).alloc (Nat.le_refl _) o) (Nat.le_refl _)
theorem src3_2b (w : World) (a b c : Value) (e : TypeId) (o : Obj) : Lift.Src ((w.alloc o).alloc (.cells #[a, b, c] e)).drew 3 (some ⟨w.heap.size + 1, 0, none⟩) 1 [a, b, c] := by
  have := src3_d1 (w.alloc o) a b c e
  rwa [World.size_alloc] at this
theorem bel_1 (w : World) (o : Obj) : Below w.heap.size w (w.alloc o).drew := ((Below.refl _ _).alloc (Nat.le_refl _) _).drew
theorem bel_2 (w : World) (o o' : Obj) : Below w.heap.size w ((w.alloc o).alloc o').drew := (((Below.refl _ _).alloc (Nat.le_refl _) _).alloc (by simp) _).drew
theorem row_type {w : World} {base e size n b : Nat} {v : Value} {l : List Value} (h : w.ownsRow base e size v n l) (hb : v.ownBlock = some b) : ∃ cur, w.heap[b]? = some (.cells cur e (0, 0)) := by
  rcases h.2 with ⟨rfl, _⟩ | ⟨g, cap, cur, rfl, _, h3, _⟩
  · cases hb
  · injection hb with hb
    subst hb
    exact ⟨cur, h3⟩
theorem own_keep {w w' : World} {base e size n : Nat} {v : Value} {l : List Value} {r : Option Nat} (h : w.ownsRow base e size v n l) (hg : w.grownBy w' r) {t : TypeId} (hr : ∀ b, r = some b → ∃ cur, w.heap[b]? = some (.cells cur t (0, 0))) (hne : e ≠ t) : w'.ownsRow base e size v n l :=
  own_grown h hg fun k hk hrk => by
    obtain ⟨c, hc⟩ := row_type h hk
    obtain ⟨c', hc'⟩ := hr k hrk
    exact ne_type hc hc' hne rfl
theorem heap_keep {w w' : World} {g : Nat} {cs : Array Value} {e t : TypeId} {r : Option Nat} (h : w.heap[g]? = some (.cells cs e (0, 0))) (hg : w.grownBy w' r) (hr : ∀ b, r = some b → ∃ cur, w.heap[b]? = some (.cells cur t (0, 0))) (hne : e ≠ t) : w'.heap[g]? = some (.cells cs e (0, 0)) := by
  rw [hg.block g (Array.getElem?_eq_some_iff.1 h).1 (fun e' => by
    obtain ⟨c, hc⟩ := hr g e'.symm
    exact ne_type h hc hne rfl)]
  exact h
theorem aft1 {wr y x1 : World} {g : Nat} {cs : Array Value} {vl vu : Value} {n : Nat} {ls bs : List Value} (h2 : wr.heap[g]? = some (.cells cs 146 (0, 0))) (h3 : wr.ownsRow 0 43 3 vl n ls) (h4 : wr.ownsRow 0 4 1 vu n bs)
    (hy : Below wr.heap.size wr y) (hG : y.grownBy x1 vl.ownBlock) : x1.heap[g]? = some (.cells cs 146 (0, 0)) ∧ x1.ownsRow 0 4 1 vu n bs ∧ wr.heap.size ≤ x1.heap.size := by
  have h2y := (hy.block g (Array.getElem?_eq_some_iff.1 h2).1).trans h2
  have h3y := own_below h3 hy (Nat.le_refl _)
  have h4y := own_below h4 hy (Nat.le_refl _)
  exact ⟨heap_keep h2y hG (fun b hb => row_type h3y hb) (by decide), own_keep h4y hG (fun b hb => row_type h3y hb) (by decide), Nat.le_trans hy.size hG.size⟩
theorem aft2 {x1 y2 x2 : World} {g : Nat} {cs : Array Value} {vu : Value} {n : Nat} {bs : List Value} (k1 : x1.heap[g]? = some (.cells cs 146 (0, 0))) (u1 : x1.ownsRow 0 4 1 vu n bs) (hy2 : Below x1.heap.size x1 y2) (hG2 : y2.grownBy x2 vu.ownBlock) : x2.heap[g]? = some (.cells cs 146 (0, 0)) :=
  heap_keep ((hy2.block g (Array.getElem?_eq_some_iff.1 k1).1).trans k1) hG2 (fun b hb => row_type (own_below u1 hy2 (Nat.le_refl _)) hb) (by decide)
theorem aftB2 {x1 y2 x2 : World} {bx : Nat} {O : Obj} {vu : Value} (k1 : x1.heap[bx]? = some O) (hy2 : Below x1.heap.size x1 y2) (hG2 : y2.grownBy x2 vu.ownBlock) (nu : ¬ vu.ownBlock = some bx) : x2.heap[bx]? = some O := by
  have q := (hy2.block bx (Array.getElem?_eq_some_iff.1 k1).1).trans k1
  exact (hG2.block bx (Array.getElem?_eq_some_iff.1 q).1 (fun e => nu e.symm)).trans q
theorem put_fin {bx : Nat} {O : Obj} {w wr : World} {F : Nat → Prop} {g : Nat} {v2 v3 v4 : Value} {vl vu : Value} {n : Nat} {ls bs ls' bs' : List Value} (hbx : wr.heap[bx]? = some O) (nl : ¬ vl.ownBlock = some bx) (nu : ¬ vu.ownBlock = some bx) (ng : ¬ g = bx) (h1 : F g) (hT : Turn F w wr) (h2 : wr.heap[g]? = some (.cells #[vl, vu, v2, v3, v4] 146 (0, 0)))
    (h3 : Row wr F 43 3 vl n ls) (h4 : Row wr F 4 1 vu n bs) (y x1 y2 x2 : World) (A1 A2 : Option Addr) (cap1 cap2 : Nat) (hy : Below wr.heap.size wr y)
    (hO1 : x1.ownsRow 0 43 3 (.slice A1 (n + 1) cap1) (n + 1) ls') (hG1 : y.grownBy x1 vl.ownBlock) (hf1 : Fresh y vl (.slice A1 (n + 1) cap1)) (hy2 : Below x1.heap.size x1 y2)
    (hO2 : x2.ownsRow 0 4 1 (.slice A2 (n + 1) cap2) (n + 1) bs') (hG2 : y2.grownBy x2 vu.ownBlock) (hf2 : Fresh y2 vu (.slice A2 (n + 1) cap2)) :
    ((x2.setCell ⟨g, 0, none⟩ (.slice A1 (n + 1) cap1)).setCell ⟨g, 1, none⟩ (.slice A2 (n + 1) cap2)).heap[g]? = some (.cells #[.slice A1 (n + 1) cap1, .slice A2 (n + 1) cap2, v2, v3, v4] 146 (0, 0)) ∧
    Row ((x2.setCell ⟨g, 0, none⟩ (.slice A1 (n + 1) cap1)).setCell ⟨g, 1, none⟩ (.slice A2 (n + 1) cap2)) (fun b => F b ∨ w.heap.size ≤ b) 43 3 (.slice A1 (n + 1) cap1) (n + 1) ls' ∧
    Row ((x2.setCell ⟨g, 0, none⟩ (.slice A1 (n + 1) cap1)).setCell ⟨g, 1, none⟩ (.slice A2 (n + 1) cap2)) (fun b => F b ∨ w.heap.size ≤ b) 4 1 (.slice A2 (n + 1) cap2) (n + 1) bs' ∧
    Turn F w ((x2.setCell ⟨g, 0, none⟩ (.slice A1 (n + 1) cap1)).setCell ⟨g, 1, none⟩ (.slice A2 (n + 1) cap2)) ∧
    ((x2.setCell ⟨g, 0, none⟩ (.slice A1 (n + 1) cap1)).setCell ⟨g, 1, none⟩ (.slice A2 (n + 1) cap2)).heap[bx]? = some O := by
  obtain ⟨k1, u1, z1⟩ := aft1 h2 h3.1 h4.1 hy hG1
  have k1y := (hy2.block g (Array.getElem?_eq_some_iff.1 k1).1).trans k1
  have u1y := own_below u1 hy2 (Nat.le_refl _)
  have o1y := own_below hO1 hy2 (Nat.le_refl _)
  have k2 := heap_keep k1y hG2 (fun b hb => row_type u1y hb) (by decide)
  have o1 := own_keep o1y hG2 (fun b hb => row_type u1y hb) (by decide)
  have k3 := heap_set (o := 0) (.slice A1 (n + 1) cap1) k2
  have k4 := heap_set (o := 1) (.slice A2 (n + 1) cap2) k3
  have hTy : Turn F w y := hT.trans (Turn.of_below hy)
  have hT1 : Turn F w x1 := hTy.trans ⟨hG1.os, hG1.tape, hG1.output, hG1.size, fun b hb hn => hG1.block b hb (fun e => hn (.inl (h3.2 b e.symm)))⟩
  have hT2 : Turn F w y2 := hT1.trans (Turn.of_below hy2)
  have hT3 : Turn F w x2 := hT2.trans ⟨hG2.os, hG2.tape, hG2.output, hG2.size, fun b hb hn => hG2.block b hb (fun e => hn (.inl (h4.2 b e.symm)))⟩
  refine ⟨by simpa using k4, ⟨own_set_type (own_set_type o1 (a := ⟨g, 0, none⟩) k2 (by decide) _) (a := ⟨g, 1, none⟩) k3 (by decide) _, ?_⟩, ⟨own_set_type (own_set_type hO2 (a := ⟨g, 0, none⟩) k2 (by decide) _) (a := ⟨g, 1, none⟩) k3 (by decide) _, ?_⟩, (hT3.setCell (.inl h1) _).setCell (.inl h1) _, ?_⟩
  · intro b hb
    rcases hf1 with e | ⟨k, e1, e2⟩
    · exact .inl (h3.2 b (by rw [← e]; exact hb))
    · rw [e1] at hb
      injection hb with hb
      have := hTy.size
      exact .inr (by omega)
  · intro b hb
    rcases hf2 with e | ⟨k, e1, e2⟩
    · exact .inl (h4.2 b (by rw [← e]; exact hb))
    · rw [e1] at hb
      injection hb with hb
      have := hT2.size
      exact .inr (by omega)
  · have q0 := (Array.getElem?_eq_some_iff.1 hbx).1
    have q1 := (hy.block bx q0).trans hbx
    have q2 := (hG1.block bx (Array.getElem?_eq_some_iff.1 q1).1 (fun e => nl e.symm)).trans q1
    have q3 := (hy2.block bx (Array.getElem?_eq_some_iff.1 q2).1).trans q2
    have q4 := (hG2.block bx (Array.getElem?_eq_some_iff.1 q3).1 (fun e => nu e.symm)).trans q3
    rw [Below.heap_setCell _ _ _ _ (fun e => ng e.symm), Below.heap_setCell _ _ _ _ (fun e => ng e.symm)]
    exact q4
/-- the places behind a put. -/
def setU (us : List Bool) : List Bool := if firstF us < us.length then us.set (firstF us) true else us ++ [true]
def setX (xs : List Nd) (us : List Bool) (x : Nd) : List Nd := if firstF us < us.length then xs.set (firstF us) x else xs ++ [x]
set_option maxHeartbeats 40000000 in
theorem put_room (x : Nd) (h : Ar w F g xs us low most) (hc : us.count true < most) : Calls Try.prog 76 #[.pointer (some ⟨g, 0, none⟩), enc x] w fun e w' => e = .returned (.tuple #[.int .i64 (firstF us), .bool true]) ∧
    Ar w' (fun b => F b ∨ w.heap.size ≤ b) g (setX xs us x) (setU us) (firstF us) most ∧ Turn F w w' := by
  obtain ⟨xk, xn, xA, xl, xc⟩ := x
  dsimp only [enc]
  obtain ⟨W0, hW0⟩ : ∃ W0, W0 = w.alloc (.cells #[.int .i64 xk, .int .i64 xn, .slice xA xl xc] 43) := ⟨_, rfl⟩
  have hbb : Below w.heap.size w W0 := by rw [hW0]; exact (Below.refl _ _).alloc (Nat.le_refl _) _
  have hbxc : W0.heap[w.heap.size]? = some (.cells #[.int .i64 xk, .int .i64 xn, .slice xA xl xc] 43) := by rw [hW0]; exact heap_alloc_new w _
  have h := h.tight.below hbb
  obtain ⟨Ft, hFt⟩ : ∃ Ft : Nat → Prop, Ft = fun b => F b ∧ b < w.heap.size := ⟨_, rfl⟩
  rw [← hFt] at h
  have hFl : Hid (∀ b, Ft b → b < w.heap.size) := Lib.hid (by rw [hFt]; exact fun b hb => hb.2)
  have HEND : Hid (∀ (w' : World) (xs' : List Nd) (us' : List Bool) (l' : Nat), Ar w' (fun b => Ft b ∨ W0.heap.size ≤ b) g xs' us' l' most ∧ Turn Ft W0 w' → Ar w' (fun b => F b ∨ w.heap.size ≤ b) g xs' us' l' most ∧ Turn F w w') := Lib.hid (fun w' xs' us' l' hh => by
    have hz := hbb.size
    refine ⟨hh.1.mono (fun b hb => hb.elim (fun e => .inl (by rw [hFt] at e; exact e.1)) (fun e => .inr (by omega))), (Turn.of_below (F := F) hbb).trans (hh.2.mono (fun b hb => .inl (by rw [hFt] at hb; exact hb.1)))⟩)
  have HW := Lib.hid hW0
  clear hFt hW0
  have HL := Lib.hid (len_any h)
  have HM := Lib.hid (most_any h)
  have hne : ((us.count true : Nat) : Int) ≠ most := by omega
  have hne' : (((us.count true : Nat) : Int) == (most : Nat)) = false := by simpa using hne
  have hlow : low ≤ us.length := by obtain ⟨_, _, _, _, h⟩ := h; exact h.2.2.2.2.2.1
  have hm6 : us.length ≤ 65536 := by obtain ⟨_, _, _, _, h⟩ := h; omega
  have HC := Lib.hid hc
  have H := Lib.hid h
  have Hbox := Lib.hid hbxc
  clear h hc hne hbxc
  go_enter Try.func76, Try.ntmps76
  go_wp2_with fail
  rw [← HW.out]
  go_wp2_with (first | (go_at_call 82; refine HL.out.mono ?_; rintro _ w1 ⟨rfl, rfl⟩) | (go_at_call 78; refine HM.out.mono ?_; rintro _ w1 ⟨rfl, rfl⟩))
  go_loopg [] (us.length - low) (fun k wr => ∃ l : Nat, low ≤ l ∧ l ≤ us.length ∧ us.length - l ≤ k ∧ Ar wr Ft g xs us l most ∧ Turn Ft W0 wr ∧ wr.heap[w.heap.size]? = some (.cells #[.int .i64 xk, .int .i64 xn, .slice xA xl xc] 43))
  case atStart => exact ⟨low, Nat.le_refl _, hlow, Nat.le_refl _, H.out, Turn.refl _ _, Hbox.out⟩
  case round =>
    obtain ⟨l, hl1, hl2, hl3, hA, hT, hbx⟩ := hrel
    have HAS := Lib.hid (has_any (l : Int) hA)
    have hA0 := hA
    obtain ⟨Al, capl, Au, capu, h1, h2, h3, h4, h5, h6, h7, h8, h9⟩ := hA
    obtain ⟨c0, c1, c2, c3, c4⟩ := cells5 h2
    have g3 := free5 h2 3
    by_cases hgo : ∃ h : l < us.length, us[l] = true
    · obtain ⟨hlt, hu⟩ := hgo
      rw [hasB_at hlt, hu] at HAS
      have HN := Lib.hid (low_up hA0 hlt hu)
      have HBN := Lib.hid (heap_set_other (o := 3) (.int .i64 ((l + 1 : Nat) : Int)) hbx h2 (by decide))
      clear h2 h3 h4 h5 h7 hA0 hu c0 c1 c2 c4 hbx
      go_wp2_with (go_at_call 107; refine HAS.out.mono ?_; rintro _ w1 ⟨rfl, rfl⟩)
      go_roundg (us.length - (l + 1))
      case measure => omega
      case rel => exact ⟨l + 1, by omega, by omega, Nat.le_refl _, HN.out, hT.setCell (.inl h1) _, HBN.out⟩
    · have hF : firstF us = l := firstF_eq hl2 h7 (fun hk => by
        cases e : us[l] with
        | false => rfl
        | true => exact absurd ⟨hk, e⟩ hgo)
      have hhas : hasB us l = false := by
        rcases Nat.lt_or_ge l us.length with h | h
        · rw [hasB_at h]
          cases e : us[l] with
          | false => rfl
          | true => exact absurd ⟨h, e⟩ hgo
        · exact hasB_far h
      rw [hhas] at HAS
      clear hhas hgo
      have hlk : us.length < most ∨ l < us.length := by
        rcases Nat.lt_or_ge l us.length with h | h
        · exact .inr h
        · have h0 := count_first us
          have := HC.out
          exact .inl (by omega)
      have HF := Lib.hid hF
      by_cases hlt : l < us.length
      · have hu : us[l] = false := by have := firstF_at (us := us) (by omega); simpa only [hF] using this
        obtain ⟨b, cur, rfl, hFb, hc1, hc2, hb, hcell, _⟩ := row_at h3 (by omega)
        obtain ⟨b', cur', rfl, hFb', hc1', hc2', hb', hcell', _⟩ := row_at h4 (by omega)
        have hjx : l < xs.length := by omega
        have hbl := hFl.out b hFb
        have nb1 : ¬ b = w.heap.size := by omega
        have nb2 : ¬ w.heap.size = b := by omega
        have hx0 : wr.cell? ⟨w.heap.size, 0, none⟩ = some (.int .i64 xk) := by simp [World.cell?, hbx]
        have hx1 : wr.cell? ⟨w.heap.size, 1, none⟩ = some (.int .i64 xn) := by simp [World.cell?, hbx]
        have hx2 : wr.cell? ⟨w.heap.size, 2, none⟩ = some (.slice xA xl xc) := by simp [World.cell?, hbx]
        obtain ⟨hd0, hd1, hd2⟩ := cells_nd hcell (by omega) hjx
        have hc' := hcell' l (by omega)
        rw [List.getElem?_map, List.getElem?_eq_getElem hlt, Option.map_some] at hc'
        have hf0 := free5 hb (l * 3)
        have hf1 := free5 hb (l * 3 + 1)
        have hf2 := free5 hb (l * 3 + 2)
        have hf' := free5 hb' l
        have g2 := free5 h2 2
        have n1 := ne_type hb hb' (by decide)
        have n2 := n1.symm
        have n3 := ne_type h2 hb (by decide)
        have n4 := n3.symm
        have n5 := ne_type h2 hb' (by decide)
        have n6 := n5.symm
        have hcs := count_set_true hlt hu
        have hct : us.count true ≤ us.length := List.count_le_length
        have hq : ((l : Int) == us.length) = false := by rw [beq_eq_false_iff_ne]; omega
        have hlast : Hid (∀ c : Int, c = (us.count true : Nat) + 1 →
            Ar (((sets wr b l (⟨xk, xn, xA, xl, xc⟩ : Nd)).setCell ⟨b', l, none⟩ (.bool true)).setCell ⟨g, 2, none⟩ (.int .i64 c)).drew (fun b => Ft b ∨ W0.heap.size ≤ b) g (setX xs us (⟨xk, xn, xA, xl, xc⟩ : Nd)) (setU us) (firstF us) most ∧
            Turn Ft W0 (((sets wr b l (⟨xk, xn, xA, xl, xc⟩ : Nd)).setCell ⟨b', l, none⟩ (.bool true)).setCell ⟨g, 2, none⟩ (.int .i64 c)).drew) := Lib.hid (by
          rintro c rfl
          have b1 := heap3_other (j := l) (⟨xk, xn, xA, xl, xc⟩ : Nd) hb' hb (by decide)
          have k1 := heap3_other (j := l) (⟨xk, xn, xA, xl, xc⟩ : Nd) h2 hb (by decide)
          have r1 := row_set3 (j := l) h3 (by first | omega | (simp; omega)) (⟨xk, xn, xA, xl, xc⟩ : Nd)
          have s1 := row3_other (j := l) h4 hb (by decide) (⟨xk, xn, xA, xl, xc⟩ : Nd)
          have k2 := heap_set_other (o := l) (.bool true) k1 b1 (by decide)
          have r2 := row_other r1 (a := ⟨b', l, none⟩) b1 (by decide) (.bool true)
          have s2 := row_set (j := l) s1 (.bool true)
          have k3 := heap_set (o := 2) (.int .i64 ((us.count true : Nat) + 1 : Int)) k2
          have r3 := row_other r2 (a := ⟨g, 2, none⟩) k2 (by decide) (.int .i64 ((us.count true : Nat) + 1 : Int))
          have s3 := row_other s2 (a := ⟨g, 2, none⟩) k2 (by decide) (.int .i64 ((us.count true : Nat) + 1 : Int))
          unfold setX setU
          rw [hF, if_pos hlt, if_pos hlt]
          refine ⟨Ar.mono (F := Ft) ⟨some ⟨b, 0, none⟩, capl, some ⟨b', 0, none⟩, capu, h1, ?_, ?_, ?_, by simpa using h5, by rw [List.length_set]; omega, ?_, by rw [List.length_set]; exact h8, h9⟩ (fun b h => .inl h), ((((hT.sets (.inl hFb) _ _).setCell (.inl hFb') _).setCell (.inl h1) _).drew)⟩
          · rw [List.length_set, List.length_set]
            have e1 : ((us.count true : Nat) : Int) + 1 = (((us.set l true).count true : Nat) : Int) := by omega
            rw [e1] at k3
            rw [e1]
            refine heap_drew ?_
            simp at k3
            exact k3
          · rw [List.length_set]
            exact row_drew r3
          · rw [map_set] at s3
            rw [List.length_set]
            exact row_drew s3
          · intro i hi hm
            rw [List.length_set] at hi
            rw [List.getElem_set_ne (by omega)]
            exact h7 i hi hm)
        generalize xs[l].k = yk at *
        generalize xs[l].n = yn at *
        generalize xs[l].A = yA at *
        generalize xs[l].len = yl at *
        generalize xs[l].cap = yc at *
        rw [h5] at c0
        clear h2 h3 h4 h5 h7 hA0 hu hbx hb hb' h8 h9 hFb hFb' hcell hcell' hF hlk hcs
        go_wp2_with (go_at_call 107; refine HAS.out.mono ?_; rintro _ w1 ⟨rfl, rfl⟩)
        go_region
        go_wp2_with fail
        go_ret2
        rw [HF.out]
        rw [HF.out] at hlast
        exact ⟨rfl, HEND.out _ _ _ _ (hlast.out _ (by omega))⟩
      · obtain rfl : l = us.length := by omega
        obtain ⟨i0, hi, hz0, hz1, hz2⟩ := info_parts infoE
        obtain ⟨j0, ji, jz0, jz1, jz2⟩ := info_parts infoB
        have hq : ((us.length : Int) == us.length) = true := by simp
        have hlm : us.length < most := by rcases hlk with h | h <;> omega
        rw [h5] at h2 h3 c0
        have HT := Lib.hid hT
        have hx0 : wr.cell? ⟨w.heap.size, 0, none⟩ = some (.int .i64 xk) := by simp [World.cell?, hbx]
        have hx1 : wr.cell? ⟨w.heap.size, 1, none⟩ = some (.int .i64 xn) := by simp [World.cell?, hbx]
        have hx2 : wr.cell? ⟨w.heap.size, 2, none⟩ = some (.slice xA xl xc) := by simp [World.cell?, hbx]
        have hgl := (Array.getElem?_eq_some_iff.1 h2).1
        have gn0 : ¬ g = wr.heap.size := by omega
        have gn1 : ¬ g = wr.heap.size + 1 := by omega
        have gn4 : ¬ wr.heap.size = g := by omega
        have gn5 : ¬ wr.heap.size + 1 = g := by omega
        have hbxl := (Array.getElem?_eq_some_iff.1 hbx).1
        have bn0 : ¬ w.heap.size = wr.heap.size := by omega
        have bn1 : ¬ w.heap.size = wr.heap.size + 1 := by omega
        have bn4 : ¬ wr.heap.size = w.heap.size := by omega
        have bn5 : ¬ wr.heap.size + 1 = w.heap.size := by omega
        have HO1 : Hid (∀ y, Below wr.heap.size wr y → y.ownsRow 0 43 3 (.slice Al us.length capl) us.length (flat xs)) := Lib.hid (fun y hy => own_below h3.1 hy (Nat.le_refl _))
        have AFT : Hid (∀ y x1 : World, Below wr.heap.size wr y → y.grownBy x1 (Value.slice Al us.length capl).ownBlock → _) := Lib.hid (fun y x1 hy hG => aft1 h2 h3.1 h4.1 hy hG)
        have HR : Hid (∀ k, wr.heap.size ≤ k → ∀ a, some (⟨k, 0, none⟩ : Addr) = some a → (Value.slice Al us.length capl).ownBlock ≠ some a.block) := Lib.hid (fun k hk a ha e => by
          injection ha with ha
          subst ha
          have := (own_block_lt h3.1 e).2
          simp only at this
          omega)
        have hone1 : ∀ u ∈ ([.int .i64 xk, .int .i64 xn, .slice xA xl xc] : List Value), u.oneCell' = true := by simp [Value.oneCell']
        have hone2 : ∀ u ∈ [Value.bool true], u.oneCell' = true := by simp [Value.oneCell']
        have hgl1 : us.length + 1 ≤ maxLen := by unfold maxLen; omega
        have hgl2 : (us.length + 1) * 40 ≤ 140737488355328 := by omega
        have hgl3 : (us.length + 1) * 1 ≤ 140737488355328 := by omega
        have hy0 := fun o => (World.cell?_alloc_lt wr o ⟨w.heap.size, 0, none⟩ hbxl).trans hx0
        have hy1 := fun o => (World.cell?_alloc_lt wr o ⟨w.heap.size, 1, none⟩ hbxl).trans hx1
        have hy2 := fun o => (World.cell?_alloc_lt wr o ⟨w.heap.size, 2, none⟩ hbxl).trans hx2
        go_upto_region 7 with (go_at_call 107; refine HAS.out.mono ?_; rintro _ w1 ⟨rfl, rfl⟩)
        go_cut [] (fun wx => ∃ A1 cap1 A2 cap2, wx.heap[g]? = some (.cells #[.slice A1 (us.length + 1) cap1, .slice A2 (us.length + 1) cap2, .int .i64 (us.count true : Nat), .int .i64 (us.length : Nat), .int .i64 (most : Nat)] 146 (0, 0)) ∧
          Row wx (fun b => Ft b ∨ W0.heap.size ≤ b) 43 3 (.slice A1 (us.length + 1) cap1) (us.length + 1) (flat xs ++ [.int .i64 xk, .int .i64 xn, .slice xA xl xc]) ∧ Row wx (fun b => Ft b ∨ W0.heap.size ≤ b) 4 1 (.slice A2 (us.length + 1) cap2) (us.length + 1) (us.map Value.bool ++ [.bool true]) ∧ Turn Ft W0 wx ∧ wx.heap[w.heap.size]? = some (.cells #[.int .i64 xk, .int .i64 xn, .slice xA xl xc] 43))
        case first =>
          have FIN := Lib.hid (put_fin (O := (.cells #[.int .i64 xk, .int .i64 xn, .slice xA xl xc] 43)) (bx := w.heap.size) hbx (fun e => by have := hFl.out _ (h3.2 _ e); omega) (fun e => by have := hFl.out _ (h4.2 _ e); omega) (fun e => by have := hFl.out _ h1; omega) (ls' := flat xs ++ [.int .i64 xk, .int .i64 xn, .slice xA xl xc]) (bs' := us.map Value.bool ++ [Value.bool true]) h1 hT h2 h3 h4)
          have SH : Hid (∀ y : World, y.heap[g]? = wr.heap[g]? → y.heap[w.heap.size]? = some (.cells #[.int .i64 xk, .int .i64 xn, .slice xA xl xc] 43) → (fun y : World => y.cell? ⟨g, 0, none⟩ = some (.slice Al us.length capl) ∧ y.cell? ⟨g, 1, none⟩ = some (.slice Au us.length capu) ∧ y.cell? ⟨w.heap.size, 0, none⟩ = some (.int .i64 xk) ∧ y.cell? ⟨w.heap.size, 1, none⟩ = some (.int .i64 xn) ∧ y.cell? ⟨w.heap.size, 2, none⟩ = some (.slice xA xl xc)) y) := Lib.hid (fun y q1 q2 => by
            have q3 := q1.trans h2
            have q4 := cells5 q3
            exact ⟨q4.1, q4.2.1, by simp [World.cell?, q2], by simp [World.cell?, q2], by simp [World.cell?, q2]⟩)
          have MS : Hid (∀ y : World, Below wr.heap.size wr y → (fun y : World => y.cell? ⟨g, 0, none⟩ = some (.slice Al us.length capl) ∧ y.cell? ⟨g, 1, none⟩ = some (.slice Au us.length capu) ∧ y.cell? ⟨w.heap.size, 0, none⟩ = some (.int .i64 xk) ∧ y.cell? ⟨w.heap.size, 1, none⟩ = some (.int .i64 xn) ∧ y.cell? ⟨w.heap.size, 2, none⟩ = some (.slice xA xl xc)) y) := Lib.hid (fun y hy => SH.out y (hy.block _ hgl) ((hy.block _ hbxl).trans hbx))
          have AFTB : Hid (∀ y x1 : World, Below wr.heap.size wr y → y.grownBy x1 (Value.slice Al us.length capl).ownBlock → x1.heap[w.heap.size]? = some (.cells #[.int .i64 xk, .int .i64 xn, .slice xA xl xc] 43)) := Lib.hid (fun y x1 hy hG => by
            have q1 := (hy.block _ hbxl).trans hbx
            exact (hG.block _ (Array.getElem?_eq_some_iff.1 q1).1 (fun e => by have := hFl.out _ (h3.2 _ e.symm); omega)).trans q1)
          have NU : Hid (¬ (Value.slice Au us.length capu).ownBlock = some w.heap.size) := Lib.hid (fun e => by have := hFl.out _ (h4.2 _ e); omega)
          have AFT2 := Lib.hid h2
          clear h3 h4 h5 h7 hA0 hT hbx
          have hS0 : (fun y : World => y.cell? ⟨g, 0, none⟩ = some (.slice Al us.length capl) ∧ y.cell? ⟨g, 1, none⟩ = some (.slice Au us.length capu) ∧ y.cell? ⟨w.heap.size, 0, none⟩ = some (.int .i64 xk) ∧ y.cell? ⟨w.heap.size, 1, none⟩ = some (.int .i64 xn) ∧ y.cell? ⟨w.heap.size, 2, none⟩ = some (.slice xA xl xc)) wr.drew := MS.out _ ((Below.refl _ _).drew)
          refine Stage.region_G (st := fun s => s == 17 || s == 20) (S := (fun y : World => y.cell? ⟨g, 0, none⟩ = some (.slice Al us.length capl) ∧ y.cell? ⟨g, 1, none⟩ = some (.slice Au us.length capu) ∧ y.cell? ⟨w.heap.size, 0, none⟩ = some (.int .i64 xk) ∧ y.cell? ⟨w.heap.size, 1, none⟩ = some (.int .i64 xn) ∧ y.cell? ⟨w.heap.size, 2, none⟩ = some (.slice xA xl xc))) (by kernel_rfl) ?_
          (refine Stage.anyG_takeY (i := 0) (oi := ?_) (v := ?_) ?_ (by kernel_rfl) (by kernel_rfl) (by kernel_rfl) (by kernel_rfl) ?_ ?_ hS0 ?_; rotate_left 2; (simp only [List.getElem?_toArray, List.getElem?_cons_succ, List.getElem?_cons_zero]; rfl); (exact fun _ _ _ h => h); (refine Or.inl ⟨by rfl, ?_⟩; intro w hSw; (try dsimp only at hSw); go_simp; try with_reducible rfl); try simp only [Act.put, List.setIfInBounds_toArray, List.set_cons_zero, List.set_cons_succ])
          (refine Stage.anyG_takeY (i := 1) (oi := ?_) (v := ?_) ?_ (by kernel_rfl) (by kernel_rfl) (by kernel_rfl) (by kernel_rfl) ?_ ?_ hS0 ?_; rotate_left 2; (simp only [List.getElem?_toArray, List.getElem?_cons_succ, List.getElem?_cons_zero]; rfl); (exact fun _ _ _ h => h); (refine Or.inl ⟨by rfl, ?_⟩; intro w hSw; (try dsimp only at hSw); go_simp; try with_reducible rfl); try simp only [Act.put, List.setIfInBounds_toArray, List.set_cons_zero, List.set_cons_succ])
          (refine Stage.anyG_takeY (i := 2) (oi := ?_) (v := ?_) ?_ (by kernel_rfl) (by kernel_rfl) (by kernel_rfl) (by kernel_rfl) ?_ ?_ hS0 ?_; rotate_left 2; (simp only [List.getElem?_toArray, List.getElem?_cons_succ, List.getElem?_cons_zero]; rfl); (exact fun _ _ _ h => h); (refine Or.inl ⟨by rfl, ?_⟩; intro w hSw; (try dsimp only at hSw); go_simp; try with_reducible rfl); try simp only [Act.put, List.setIfInBounds_toArray, List.set_cons_zero, List.set_cons_succ])
          (refine Stage.anyG_takeY (i := 3) (oi := ?_) (v := ?_) ?_ (by kernel_rfl) (by kernel_rfl) (by kernel_rfl) (by kernel_rfl) ?_ ?_ hS0 ?_; rotate_left 2; (simp only [List.getElem?_toArray, List.getElem?_cons_succ, List.getElem?_cons_zero]; rfl); (exact fun _ _ _ h => h); (refine Or.inl ⟨by rfl, ?_⟩; intro w hSw; (try dsimp only at hSw); go_simp; try with_reducible rfl); try simp only [Act.put, List.setIfInBounds_toArray, List.set_cons_zero, List.set_cons_succ])
          (refine Stage.anyG_takeY (i := 4) (oi := ?_) (v := ?_) ?_ (by kernel_rfl) (by kernel_rfl) (by kernel_rfl) (by kernel_rfl) ?_ ?_ hS0 ?_; rotate_left 2; (simp only [List.getElem?_toArray, List.getElem?_cons_succ, List.getElem?_cons_zero]; rfl); (exact fun _ _ _ h => h); (refine Or.inl ⟨by rfl, ?_⟩; intro w hSw; (try dsimp only at hSw); go_simp; try with_reducible rfl); try simp only [Act.put, List.setIfInBounds_toArray, List.set_cons_zero, List.set_cons_succ])
          (refine Stage.anyG_take (i := 5) (oi := ?_) (v := ?_) ?_ (by kernel_rfl) (by kernel_rfl) (by kernel_rfl) (by kernel_rfl) ?_ ?_ hS0 ?_; rotate_left 2; (simp only [List.getElem?_toArray, List.getElem?_cons_succ, List.getElem?_cons_zero]; rfl); (exact fun _ _ _ h => h); (refine Or.inl ⟨by rfl, ?_⟩; intro w hSw; (try dsimp only at hSw); go_simp; try with_reducible rfl); try simp only [Act.put, List.setIfInBounds_toArray, List.set_cons_zero, List.set_cons_succ])
          (refine Stage.anyG_take (i := 6) (oi := ?_) (v := ?_) ?_ (by kernel_rfl) (by kernel_rfl) (by kernel_rfl) (by kernel_rfl) ?_ ?_ hS0 ?_; rotate_left 2; (simp only [List.getElem?_toArray, List.getElem?_cons_succ, List.getElem?_cons_zero]; rfl); (exact fun _ _ _ h => h); (refine Or.inl ⟨by rfl, ?_⟩; intro w hSw; (try dsimp only at hSw); go_simp; try with_reducible rfl); try simp only [Act.put, List.setIfInBounds_toArray, List.set_cons_zero, List.set_cons_succ])
          (refine Stage.anyG_takeY (i := 9) (oi := ?_) (v := ?_) ?_ (by kernel_rfl) (by kernel_rfl) (by kernel_rfl) (by kernel_rfl) ?_ ?_ hS0 ?_; rotate_left 2; (simp only [List.getElem?_toArray, List.getElem?_cons_succ, List.getElem?_cons_zero]; rfl); (exact fun _ _ _ h => h); (refine Or.inl ⟨by rfl, ?_⟩; intro w hSw; (try dsimp only at hSw); go_simp; try with_reducible rfl); try simp only [Act.put, List.setIfInBounds_toArray, List.set_cons_zero, List.set_cons_succ])
          (refine Stage.anyG_takeY (i := 10) (oi := ?_) (v := ?_) ?_ (by kernel_rfl) (by kernel_rfl) (by kernel_rfl) (by kernel_rfl) ?_ ?_ hS0 ?_; rotate_left 2; (simp only [List.getElem?_toArray, List.getElem?_cons_succ, List.getElem?_cons_zero]; rfl); (exact fun _ _ _ h => h); (refine Or.inl ⟨by rfl, ?_⟩; intro w hSw; (try dsimp only at hSw); go_simp; try with_reducible rfl); try simp only [Act.put, List.setIfInBounds_toArray, List.set_cons_zero, List.set_cons_succ])
          (refine Stage.anyG_takeY (i := 11) (oi := ?_) (v := ?_) ?_ (by kernel_rfl) (by kernel_rfl) (by kernel_rfl) (by kernel_rfl) ?_ ?_ hS0 ?_; rotate_left 2; (simp only [List.getElem?_toArray, List.getElem?_cons_succ, List.getElem?_cons_zero]; rfl); (exact fun _ _ _ h => h); (refine Or.inl ⟨by rfl, ?_⟩; intro w hSw; (try dsimp only at hSw); go_simp; try with_reducible rfl); try simp only [Act.put, List.setIfInBounds_toArray, List.set_cons_zero, List.set_cons_succ])
          (refine Stage.anyG_take (i := 12) (oi := ?_) (v := ?_) ?_ (by kernel_rfl) (by kernel_rfl) (by kernel_rfl) (by kernel_rfl) ?_ ?_ hS0 ?_; rotate_left 2; (simp only [List.getElem?_toArray, List.getElem?_cons_succ, List.getElem?_cons_zero]; rfl); (exact fun _ _ _ h => h); (refine Or.inl ⟨by rfl, ?_⟩; intro w hSw; (try dsimp only at hSw); go_simp; try with_reducible rfl); try simp only [Act.put, List.setIfInBounds_toArray, List.set_cons_zero, List.set_cons_succ])
          refine Stage.anyG_ready (rs := [7, 13]) (by kernel_rfl) (by simp) ?_
          refine Stage.AllG.cons (o := ?o1_0) ?ho1_0 (fun K hK => ?h1_0) ?r1_0
          case ho1_0 => (simp only [List.getElem?_toArray, List.getElem?_cons_succ, List.getElem?_cons_zero]; rfl)
          case h1_0 =>
            go_simp
            refine hK.out _ _ (fun _ => MS.out _ (by first | exact bel_1 _ _ | exact bel_2 _ _ _ | exact (Below.refl _ _).alloc (Nat.le_refl _) _)) ?_
            clear hK K
            try simp only [Act.put, List.setIfInBounds_toArray, List.set_cons_zero, List.set_cons_succ]
            refine Stage.anyG_ready (rs := [8, 13]) (by kernel_rfl) (by simp) ?_
            refine Stage.AllG.cons (o := ?o2_0) ?ho2_0 (fun K hK => ?h2_0) ?r2_0
            case ho2_0 => (simp only [List.getElem?_toArray, List.getElem?_cons_succ, List.getElem?_cons_zero]; rfl)
            case h2_0 =>
              refine step_append_where (by rfl) (.tmp 41) (.tmp 43) 144 rfl 0 43 i0 _ 3 40 Try.underlying144 hi hz0 hz1 hz2 rfl (Nat.succ_pos 2) (.slice Al us.length capl) us.length _ rfl (HO1.out _ (by first | exact bel_1 _ _ | exact bel_2 _ _ _)) _ 1 1 [.int .i64 xk, .int .i64 xn, .slice xA xl xc] rfl (by first | exact src3_d1 _ _ _ _ _ | exact src3_2a _ _ _ _ _ _ | exact src3_2b _ _ _ _ _ _) (fun h => nomatch h) hone1 hgl1 hgl2 (Nat.zero_le _) ?_
              intro v1 x1 hO1 hG1 hf1
              obtain ⟨A1, cap1, rfl, -, -⟩ := own_form hO1
              have K1 := AFT.out _ _ (by first | exact bel_1 _ _ | exact bel_2 _ _ _) hG1
              have KB1 := AFTB.out _ _ (by first | exact bel_1 _ _ | exact bel_2 _ _ _) hG1
              refine hK.out _ _ (fun _ => SH.out _ (K1.1.trans AFT2.out.symm) KB1) ?_
              clear hK K
              try simp only [Act.put, List.setIfInBounds_toArray, List.set_cons_zero, List.set_cons_succ]
              refine Stage.anyG_ready (rs := [13]) (by kernel_rfl) (by simp) ?_
              refine Stage.AllG.cons (o := ?o3_0) ?ho3_0 (fun K hK => ?h3_0) ?r3_0
              case ho3_0 => (simp only [List.getElem?_toArray, List.getElem?_cons_succ, List.getElem?_cons_zero]; rfl)
              case h3_0 =>
                go_simp
                have hq1 := (Array.getElem?_eq_some_iff.1 K1.1).1
                have hq2 := (Array.getElem?_eq_some_iff.1 KB1).1
                refine hK.out _ _ (fun _ => SH.out _ ((Below.heap_alloc x1 _ _ hq1).trans (K1.1.trans AFT2.out.symm)) ((Below.heap_alloc x1 _ _ hq2).trans KB1)) ?_
                clear hK K
                try simp only [Act.put, List.setIfInBounds_toArray, List.set_cons_zero, List.set_cons_succ]
                refine Stage.anyG_ready (rs := [14]) (by kernel_rfl) (by simp) ?_
                refine Stage.AllG.cons (o := ?o4_0) ?ho4_0 (fun K hK => ?h4_0) ?r4_0
                case ho4_0 => (simp only [List.getElem?_toArray, List.getElem?_cons_succ, List.getElem?_cons_zero]; rfl)
                case h4_0 =>
                  refine step_append_where (by rfl) (.tmp 48) (.tmp 49) 105 rfl 0 4 j0 _ 1 1 Try.underlying105 ji jz0 jz1 jz2 rfl Nat.one_pos (.slice Au us.length capu) us.length _ rfl (by first | exact own_below K1.2.1 (bel_1 _ _) (Nat.le_refl _) | exact own_below K1.2.1 ((Below.refl _ _).alloc (Nat.le_refl _) _) (Nat.le_refl _) | exact K1.2.1) _ 1 1 [.bool true] rfl (by first | exact src_d1 _ _ _ | exact src_one _ _ _ | exact src_grown (src_2b _ _ _ _) hG1 (HR.out _ (Nat.le_succ _)) | exact src_grown (src_2a _ _ _ _) hG1 (HR.out _ (Nat.le_refl _))) (fun h => nomatch h) hone2 hgl1 hgl3 (Nat.zero_le _) ?_
                  intro v2 x2 hO2 hG2 hf2
                  obtain ⟨A2, cap2, rfl, -, -⟩ := own_form hO2
                  have K2 := aft2 K1.1 K1.2.1 (by first | exact Below.refl _ _ | exact bel_1 _ _ | exact (Below.refl _ _).alloc (Nat.le_refl _) _) hG2
                  obtain ⟨ee2, ee3, -, -, -⟩ := cells5 K2
                  have ff0 := free5 K2 0
                  have ff1 := free5 K2 1
                  have FN := FIN.out _ _ _ _ _ _ _ _ (by first | exact bel_1 _ _ | exact bel_2 _ _ _) hO1 hG1 hf1 (by first | exact Below.refl _ _ | exact bel_1 _ _ | exact (Below.refl _ _).alloc (Nat.le_refl _) _) hO2 hG2 hf2
                  have KB2 := aftB2 KB1 (by first | exact Below.refl _ _ | exact bel_1 _ _ | exact (Below.refl _ _).alloc (Nat.le_refl _) _) hG2 NU.out
                  refine hK.out _ _ (fun _ => SH.out _ (K2.trans AFT2.out.symm) KB2) ?_
                  clear hK K
                  try simp only [Act.put, List.setIfInBounds_toArray, List.set_cons_zero, List.set_cons_succ]
                  refine Stage.anyG_ready (rs := [15]) (by kernel_rfl) (by simp) ?_
                  refine Stage.AllG.cons (o := ?o5_0) ?ho5_0 (fun K hK => ?h5_0) ?r5_0
                  case ho5_0 => (simp only [List.getElem?_toArray, List.getElem?_cons_succ, List.getElem?_cons_zero]; rfl)
                  case h5_0 =>
                    go_simp
                    refine hK.out _ _ (fun _ => SH.out _ (K2.trans AFT2.out.symm) KB2) ?_
                    clear hK K
                    try simp only [Act.put, List.setIfInBounds_toArray, List.set_cons_zero, List.set_cons_succ]
                    refine Stage.anyG_ready (rs := [16]) (by kernel_rfl) (by simp) ?_
                    refine Stage.AllG.cons (o := ?o6_0) ?ho6_0 (fun K hK => ?h6_0) ?r6_0
                    case ho6_0 => (simp only [List.getElem?_toArray, List.getElem?_cons_succ, List.getElem?_cons_zero]; rfl)
                    case h6_0 =>
                      go_simp
                      refine hK.out _ _ (fun _ => SH.out _ (K2.trans AFT2.out.symm) KB2) ?_
                      clear hK K
                      try simp only [Act.put, List.setIfInBounds_toArray, List.set_cons_zero, List.set_cons_succ]
                      refine Stage.anyG_ready (rs := [17]) (by kernel_rfl) (by simp) ?_
                      refine Stage.AllG.cons (o := ?o7_0) ?ho7_0 (fun K hK => ?h7_0) ?r7_0
                      case ho7_0 => (simp only [List.getElem?_toArray, List.getElem?_cons_succ, List.getElem?_cons_zero]; rfl)
                      case h7_0 =>
                        go_simp
                        refine hK.out _ _ (fun hl => Bool.noConfusion ((show Stage.late _ _ = true by kernel_rfl).symm.trans hl)) ?_
                        clear hK K
                        try simp only [Act.put, List.setIfInBounds_toArray, List.set_cons_zero, List.set_cons_succ]
                        refine Stage.anyG_ready (rs := [18]) (by kernel_rfl) (by simp) ?_
                        refine Stage.AllG.cons (o := ?o8_0) ?ho8_0 (fun K hK => ?h8_0) ?r8_0
                        case ho8_0 => (simp only [List.getElem?_toArray, List.getElem?_cons_succ, List.getElem?_cons_zero]; rfl)
                        case h8_0 =>
                          go_simp
                          refine hK.out _ _ (fun hl => Bool.noConfusion ((show Stage.late _ _ = true by kernel_rfl).symm.trans hl)) ?_
                          clear hK K
                          try simp only [Act.put, List.setIfInBounds_toArray, List.set_cons_zero, List.set_cons_succ]
                          refine Stage.anyG_ready (rs := [19]) (by kernel_rfl) (by simp) ?_
                          refine Stage.AllG.cons (o := ?o9_0) ?ho9_0 (fun K hK => ?h9_0) ?r9_0
                          case ho9_0 => (simp only [List.getElem?_toArray, List.getElem?_cons_succ, List.getElem?_cons_zero]; rfl)
                          case h9_0 =>
                            go_simp
                            refine hK.out _ _ (fun hl => Bool.noConfusion ((show Stage.late _ _ = true by kernel_rfl).symm.trans hl)) ?_
                            clear hK K
                            try simp only [Act.put, List.setIfInBounds_toArray, List.set_cons_zero, List.set_cons_succ]
                            refine Stage.anyG_ready (rs := [20]) (by kernel_rfl) (by simp) ?_
                            refine Stage.AllG.cons (o := ?o10_0) ?ho10_0 (fun K hK => ?h10_0) ?r10_0
                            case ho10_0 => (simp only [List.getElem?_toArray, List.getElem?_cons_succ, List.getElem?_cons_zero]; rfl)
                            case h10_0 =>
                              go_simp
                              refine hK.out _ _ (fun hl => Bool.noConfusion ((show Stage.late _ _ = true by kernel_rfl).symm.trans hl)) ?_
                              clear hK K
                              try simp only [Act.put, List.setIfInBounds_toArray, List.set_cons_zero, List.set_cons_succ]
                              refine Stage.anyG_done (by kernel_rfl) ?_ _
                              go_wp2_with fail
                              go_meet
                              exact ⟨_, _, _, _, FN⟩
                            case r10_0 =>
                              exact Stage.AllG.nil
                          case r9_0 =>
                            exact Stage.AllG.nil
                        case r8_0 =>
                          exact Stage.AllG.nil
                      case r7_0 =>
                        exact Stage.AllG.nil
                    case r6_0 =>
                      exact Stage.AllG.nil
                  case r5_0 =>
                    exact Stage.AllG.nil
                case r4_0 =>
                  exact Stage.AllG.nil
              case r3_0 =>
                exact Stage.AllG.nil
            case r2_0 =>
              refine Stage.AllG.cons (o := ?o2_1) ?ho2_1 (fun K hK => ?h2_1) ?r2_1
              case ho2_1 => (simp only [List.getElem?_toArray, List.getElem?_cons_succ, List.getElem?_cons_zero]; rfl)
              case h2_1 =>
                go_simp
                refine hK.out _ _ (fun _ => MS.out _ (by first | exact bel_1 _ _ | exact bel_2 _ _ _ | exact (Below.refl _ _).alloc (Nat.le_refl _) _)) ?_
                clear hK K
                try simp only [Act.put, List.setIfInBounds_toArray, List.set_cons_zero, List.set_cons_succ]
                refine Stage.anyG_ready (rs := [8]) (by kernel_rfl) (by simp) ?_
                refine Stage.AllG.cons (o := ?o11_0) ?ho11_0 (fun K hK => ?h11_0) ?r11_0
                case ho11_0 => (simp only [List.getElem?_toArray, List.getElem?_cons_succ, List.getElem?_cons_zero]; rfl)
                case h11_0 =>
                  refine step_append_where (by rfl) (.tmp 41) (.tmp 43) 144 rfl 0 43 i0 _ 3 40 Try.underlying144 hi hz0 hz1 hz2 rfl (Nat.succ_pos 2) (.slice Al us.length capl) us.length _ rfl (HO1.out _ (by first | exact bel_1 _ _ | exact bel_2 _ _ _)) _ 1 1 [.int .i64 xk, .int .i64 xn, .slice xA xl xc] rfl (by first | exact src3_d1 _ _ _ _ _ | exact src3_2a _ _ _ _ _ _ | exact src3_2b _ _ _ _ _ _) (fun h => nomatch h) hone1 hgl1 hgl2 (Nat.zero_le _) ?_
                  intro v1 x1 hO1 hG1 hf1
                  obtain ⟨A1, cap1, rfl, -, -⟩ := own_form hO1
                  have K1 := AFT.out _ _ (by first | exact bel_1 _ _ | exact bel_2 _ _ _) hG1
                  have KB1 := AFTB.out _ _ (by first | exact bel_1 _ _ | exact bel_2 _ _ _) hG1
                  refine hK.out _ _ (fun _ => SH.out _ (K1.1.trans AFT2.out.symm) KB1) ?_
                  clear hK K
                  try simp only [Act.put, List.setIfInBounds_toArray, List.set_cons_zero, List.set_cons_succ]
                  refine Stage.anyG_ready (rs := [14]) (by kernel_rfl) (by simp) ?_
                  refine Stage.AllG.cons (o := ?o12_0) ?ho12_0 (fun K hK => ?h12_0) ?r12_0
                  case ho12_0 => (simp only [List.getElem?_toArray, List.getElem?_cons_succ, List.getElem?_cons_zero]; rfl)
                  case h12_0 =>
                    refine step_append_where (by rfl) (.tmp 48) (.tmp 49) 105 rfl 0 4 j0 _ 1 1 Try.underlying105 ji jz0 jz1 jz2 rfl Nat.one_pos (.slice Au us.length capu) us.length _ rfl (by first | exact own_below K1.2.1 (bel_1 _ _) (Nat.le_refl _) | exact own_below K1.2.1 ((Below.refl _ _).alloc (Nat.le_refl _) _) (Nat.le_refl _) | exact K1.2.1) _ 1 1 [.bool true] rfl (by first | exact src_d1 _ _ _ | exact src_one _ _ _ | exact src_grown (src_2b _ _ _ _) hG1 (HR.out _ (Nat.le_succ _)) | exact src_grown (src_2a _ _ _ _) hG1 (HR.out _ (Nat.le_refl _))) (fun h => nomatch h) hone2 hgl1 hgl3 (Nat.zero_le _) ?_
                    intro v2 x2 hO2 hG2 hf2
                    obtain ⟨A2, cap2, rfl, -, -⟩ := own_form hO2
                    have K2 := aft2 K1.1 K1.2.1 (by first | exact Below.refl _ _ | exact bel_1 _ _ | exact (Below.refl _ _).alloc (Nat.le_refl _) _) hG2
                    obtain ⟨ee2, ee3, -, -, -⟩ := cells5 K2
                    have ff0 := free5 K2 0
                    have ff1 := free5 K2 1
                    have FN := FIN.out _ _ _ _ _ _ _ _ (by first | exact bel_1 _ _ | exact bel_2 _ _ _) hO1 hG1 hf1 (by first | exact Below.refl _ _ | exact bel_1 _ _ | exact (Below.refl _ _).alloc (Nat.le_refl _) _) hO2 hG2 hf2
                    have KB2 := aftB2 KB1 (by first | exact Below.refl _ _ | exact bel_1 _ _ | exact (Below.refl _ _).alloc (Nat.le_refl _) _) hG2 NU.out
                    refine hK.out _ _ (fun _ => SH.out _ (K2.trans AFT2.out.symm) KB2) ?_
                    clear hK K
                    try simp only [Act.put, List.setIfInBounds_toArray, List.set_cons_zero, List.set_cons_succ]
                    refine Stage.anyG_ready (rs := [15]) (by kernel_rfl) (by simp) ?_
                    refine Stage.AllG.cons (o := ?o13_0) ?ho13_0 (fun K hK => ?h13_0) ?r13_0
                    case ho13_0 => (simp only [List.getElem?_toArray, List.getElem?_cons_succ, List.getElem?_cons_zero]; rfl)
                    case h13_0 =>
                      go_simp
                      refine hK.out _ _ (fun _ => SH.out _ (K2.trans AFT2.out.symm) KB2) ?_
                      clear hK K
                      try simp only [Act.put, List.setIfInBounds_toArray, List.set_cons_zero, List.set_cons_succ]
                      refine Stage.anyG_ready (rs := [16]) (by kernel_rfl) (by simp) ?_
                      refine Stage.AllG.cons (o := ?o14_0) ?ho14_0 (fun K hK => ?h14_0) ?r14_0
                      case ho14_0 => (simp only [List.getElem?_toArray, List.getElem?_cons_succ, List.getElem?_cons_zero]; rfl)
                      case h14_0 =>
                        go_simp
                        refine hK.out _ _ (fun _ => SH.out _ (K2.trans AFT2.out.symm) KB2) ?_
                        clear hK K
                        try simp only [Act.put, List.setIfInBounds_toArray, List.set_cons_zero, List.set_cons_succ]
                        refine Stage.anyG_ready (rs := [17]) (by kernel_rfl) (by simp) ?_
                        refine Stage.AllG.cons (o := ?o15_0) ?ho15_0 (fun K hK => ?h15_0) ?r15_0
                        case ho15_0 => (simp only [List.getElem?_toArray, List.getElem?_cons_succ, List.getElem?_cons_zero]; rfl)
                        case h15_0 =>
                          go_simp
                          refine hK.out _ _ (fun hl => Bool.noConfusion ((show Stage.late _ _ = true by kernel_rfl).symm.trans hl)) ?_
                          clear hK K
                          try simp only [Act.put, List.setIfInBounds_toArray, List.set_cons_zero, List.set_cons_succ]
                          refine Stage.anyG_ready (rs := [18]) (by kernel_rfl) (by simp) ?_
                          refine Stage.AllG.cons (o := ?o16_0) ?ho16_0 (fun K hK => ?h16_0) ?r16_0
                          case ho16_0 => (simp only [List.getElem?_toArray, List.getElem?_cons_succ, List.getElem?_cons_zero]; rfl)
                          case h16_0 =>
                            go_simp
                            refine hK.out _ _ (fun hl => Bool.noConfusion ((show Stage.late _ _ = true by kernel_rfl).symm.trans hl)) ?_
                            clear hK K
                            try simp only [Act.put, List.setIfInBounds_toArray, List.set_cons_zero, List.set_cons_succ]
                            refine Stage.anyG_ready (rs := [19]) (by kernel_rfl) (by simp) ?_
                            refine Stage.AllG.cons (o := ?o17_0) ?ho17_0 (fun K hK => ?h17_0) ?r17_0
                            case ho17_0 => (simp only [List.getElem?_toArray, List.getElem?_cons_succ, List.getElem?_cons_zero]; rfl)
                            case h17_0 =>
                              go_simp
                              refine hK.out _ _ (fun hl => Bool.noConfusion ((show Stage.late _ _ = true by kernel_rfl).symm.trans hl)) ?_
                              clear hK K
                              try simp only [Act.put, List.setIfInBounds_toArray, List.set_cons_zero, List.set_cons_succ]
                              refine Stage.anyG_ready (rs := [20]) (by kernel_rfl) (by simp) ?_
                              refine Stage.AllG.cons (o := ?o18_0) ?ho18_0 (fun K hK => ?h18_0) ?r18_0
                              case ho18_0 => (simp only [List.getElem?_toArray, List.getElem?_cons_succ, List.getElem?_cons_zero]; rfl)
                              case h18_0 =>
                                go_simp
                                refine hK.out _ _ (fun hl => Bool.noConfusion ((show Stage.late _ _ = true by kernel_rfl).symm.trans hl)) ?_
                                clear hK K
                                try simp only [Act.put, List.setIfInBounds_toArray, List.set_cons_zero, List.set_cons_succ]
                                refine Stage.anyG_done (by kernel_rfl) ?_ _
                                go_wp2_with fail
                                go_meet
                                exact ⟨_, _, _, _, FN⟩
                              case r18_0 =>
                                exact Stage.AllG.nil
                            case r17_0 =>
                              exact Stage.AllG.nil
                          case r16_0 =>
                            exact Stage.AllG.nil
                        case r15_0 =>
                          exact Stage.AllG.nil
                      case r14_0 =>
                        exact Stage.AllG.nil
                    case r13_0 =>
                      exact Stage.AllG.nil
                  case r12_0 =>
                    exact Stage.AllG.nil
                case r11_0 =>
                  exact Stage.AllG.nil
              case r2_1 =>
                exact Stage.AllG.nil
          case r1_0 =>
            refine Stage.AllG.cons (o := ?o1_1) ?ho1_1 (fun K hK => ?h1_1) ?r1_1
            case ho1_1 => (simp only [List.getElem?_toArray, List.getElem?_cons_succ, List.getElem?_cons_zero]; rfl)
            case h1_1 =>
              go_simp
              refine hK.out _ _ (fun _ => MS.out _ (by first | exact bel_1 _ _ | exact bel_2 _ _ _ | exact (Below.refl _ _).alloc (Nat.le_refl _) _)) ?_
              clear hK K
              try simp only [Act.put, List.setIfInBounds_toArray, List.set_cons_zero, List.set_cons_succ]
              refine Stage.anyG_ready (rs := [7]) (by kernel_rfl) (by simp) ?_
              refine Stage.AllG.cons (o := ?o19_0) ?ho19_0 (fun K hK => ?h19_0) ?r19_0
              case ho19_0 => (simp only [List.getElem?_toArray, List.getElem?_cons_succ, List.getElem?_cons_zero]; rfl)
              case h19_0 =>
                go_simp
                refine hK.out _ _ (fun _ => MS.out _ (by first | exact bel_1 _ _ | exact bel_2 _ _ _ | exact (Below.refl _ _).alloc (Nat.le_refl _) _)) ?_
                clear hK K
                try simp only [Act.put, List.setIfInBounds_toArray, List.set_cons_zero, List.set_cons_succ]
                refine Stage.anyG_ready (rs := [8]) (by kernel_rfl) (by simp) ?_
                refine Stage.AllG.cons (o := ?o20_0) ?ho20_0 (fun K hK => ?h20_0) ?r20_0
                case ho20_0 => (simp only [List.getElem?_toArray, List.getElem?_cons_succ, List.getElem?_cons_zero]; rfl)
                case h20_0 =>
                  refine step_append_where (by rfl) (.tmp 41) (.tmp 43) 144 rfl 0 43 i0 _ 3 40 Try.underlying144 hi hz0 hz1 hz2 rfl (Nat.succ_pos 2) (.slice Al us.length capl) us.length _ rfl (HO1.out _ (by first | exact bel_1 _ _ | exact bel_2 _ _ _)) _ 1 1 [.int .i64 xk, .int .i64 xn, .slice xA xl xc] rfl (by first | exact src3_d1 _ _ _ _ _ | exact src3_2a _ _ _ _ _ _ | exact src3_2b _ _ _ _ _ _) (fun h => nomatch h) hone1 hgl1 hgl2 (Nat.zero_le _) ?_
                  intro v1 x1 hO1 hG1 hf1
                  obtain ⟨A1, cap1, rfl, -, -⟩ := own_form hO1
                  have K1 := AFT.out _ _ (by first | exact bel_1 _ _ | exact bel_2 _ _ _) hG1
                  have KB1 := AFTB.out _ _ (by first | exact bel_1 _ _ | exact bel_2 _ _ _) hG1
                  refine hK.out _ _ (fun _ => SH.out _ (K1.1.trans AFT2.out.symm) KB1) ?_
                  clear hK K
                  try simp only [Act.put, List.setIfInBounds_toArray, List.set_cons_zero, List.set_cons_succ]
                  refine Stage.anyG_ready (rs := [14]) (by kernel_rfl) (by simp) ?_
                  refine Stage.AllG.cons (o := ?o21_0) ?ho21_0 (fun K hK => ?h21_0) ?r21_0
                  case ho21_0 => (simp only [List.getElem?_toArray, List.getElem?_cons_succ, List.getElem?_cons_zero]; rfl)
                  case h21_0 =>
                    refine step_append_where (by rfl) (.tmp 48) (.tmp 49) 105 rfl 0 4 j0 _ 1 1 Try.underlying105 ji jz0 jz1 jz2 rfl Nat.one_pos (.slice Au us.length capu) us.length _ rfl (by first | exact own_below K1.2.1 (bel_1 _ _) (Nat.le_refl _) | exact own_below K1.2.1 ((Below.refl _ _).alloc (Nat.le_refl _) _) (Nat.le_refl _) | exact K1.2.1) _ 1 1 [.bool true] rfl (by first | exact src_d1 _ _ _ | exact src_one _ _ _ | exact src_grown (src_2b _ _ _ _) hG1 (HR.out _ (Nat.le_succ _)) | exact src_grown (src_2a _ _ _ _) hG1 (HR.out _ (Nat.le_refl _))) (fun h => nomatch h) hone2 hgl1 hgl3 (Nat.zero_le _) ?_
                    intro v2 x2 hO2 hG2 hf2
                    obtain ⟨A2, cap2, rfl, -, -⟩ := own_form hO2
                    have K2 := aft2 K1.1 K1.2.1 (by first | exact Below.refl _ _ | exact bel_1 _ _ | exact (Below.refl _ _).alloc (Nat.le_refl _) _) hG2
                    obtain ⟨ee2, ee3, -, -, -⟩ := cells5 K2
                    have ff0 := free5 K2 0
                    have ff1 := free5 K2 1
                    have FN := FIN.out _ _ _ _ _ _ _ _ (by first | exact bel_1 _ _ | exact bel_2 _ _ _) hO1 hG1 hf1 (by first | exact Below.refl _ _ | exact bel_1 _ _ | exact (Below.refl _ _).alloc (Nat.le_refl _) _) hO2 hG2 hf2
                    have KB2 := aftB2 KB1 (by first | exact Below.refl _ _ | exact bel_1 _ _ | exact (Below.refl _ _).alloc (Nat.le_refl _) _) hG2 NU.out
                    refine hK.out _ _ (fun _ => SH.out _ (K2.trans AFT2.out.symm) KB2) ?_
                    clear hK K
                    try simp only [Act.put, List.setIfInBounds_toArray, List.set_cons_zero, List.set_cons_succ]
                    refine Stage.anyG_ready (rs := [15]) (by kernel_rfl) (by simp) ?_
                    refine Stage.AllG.cons (o := ?o22_0) ?ho22_0 (fun K hK => ?h22_0) ?r22_0
                    case ho22_0 => (simp only [List.getElem?_toArray, List.getElem?_cons_succ, List.getElem?_cons_zero]; rfl)
                    case h22_0 =>
                      go_simp
                      refine hK.out _ _ (fun _ => SH.out _ (K2.trans AFT2.out.symm) KB2) ?_
                      clear hK K
                      try simp only [Act.put, List.setIfInBounds_toArray, List.set_cons_zero, List.set_cons_succ]
                      refine Stage.anyG_ready (rs := [16]) (by kernel_rfl) (by simp) ?_
                      refine Stage.AllG.cons (o := ?o23_0) ?ho23_0 (fun K hK => ?h23_0) ?r23_0
                      case ho23_0 => (simp only [List.getElem?_toArray, List.getElem?_cons_succ, List.getElem?_cons_zero]; rfl)
                      case h23_0 =>
                        go_simp
                        refine hK.out _ _ (fun _ => SH.out _ (K2.trans AFT2.out.symm) KB2) ?_
                        clear hK K
                        try simp only [Act.put, List.setIfInBounds_toArray, List.set_cons_zero, List.set_cons_succ]
                        refine Stage.anyG_ready (rs := [17]) (by kernel_rfl) (by simp) ?_
                        refine Stage.AllG.cons (o := ?o24_0) ?ho24_0 (fun K hK => ?h24_0) ?r24_0
                        case ho24_0 => (simp only [List.getElem?_toArray, List.getElem?_cons_succ, List.getElem?_cons_zero]; rfl)
                        case h24_0 =>
                          go_simp
                          refine hK.out _ _ (fun hl => Bool.noConfusion ((show Stage.late _ _ = true by kernel_rfl).symm.trans hl)) ?_
                          clear hK K
                          try simp only [Act.put, List.setIfInBounds_toArray, List.set_cons_zero, List.set_cons_succ]
                          refine Stage.anyG_ready (rs := [18]) (by kernel_rfl) (by simp) ?_
                          refine Stage.AllG.cons (o := ?o25_0) ?ho25_0 (fun K hK => ?h25_0) ?r25_0
                          case ho25_0 => (simp only [List.getElem?_toArray, List.getElem?_cons_succ, List.getElem?_cons_zero]; rfl)
                          case h25_0 =>
                            go_simp
                            refine hK.out _ _ (fun hl => Bool.noConfusion ((show Stage.late _ _ = true by kernel_rfl).symm.trans hl)) ?_
                            clear hK K
                            try simp only [Act.put, List.setIfInBounds_toArray, List.set_cons_zero, List.set_cons_succ]
                            refine Stage.anyG_ready (rs := [19]) (by kernel_rfl) (by simp) ?_
                            refine Stage.AllG.cons (o := ?o26_0) ?ho26_0 (fun K hK => ?h26_0) ?r26_0
                            case ho26_0 => (simp only [List.getElem?_toArray, List.getElem?_cons_succ, List.getElem?_cons_zero]; rfl)
                            case h26_0 =>
                              go_simp
                              refine hK.out _ _ (fun hl => Bool.noConfusion ((show Stage.late _ _ = true by kernel_rfl).symm.trans hl)) ?_
                              clear hK K
                              try simp only [Act.put, List.setIfInBounds_toArray, List.set_cons_zero, List.set_cons_succ]
                              refine Stage.anyG_ready (rs := [20]) (by kernel_rfl) (by simp) ?_
                              refine Stage.AllG.cons (o := ?o27_0) ?ho27_0 (fun K hK => ?h27_0) ?r27_0
                              case ho27_0 => (simp only [List.getElem?_toArray, List.getElem?_cons_succ, List.getElem?_cons_zero]; rfl)
                              case h27_0 =>
                                go_simp
                                refine hK.out _ _ (fun hl => Bool.noConfusion ((show Stage.late _ _ = true by kernel_rfl).symm.trans hl)) ?_
                                clear hK K
                                try simp only [Act.put, List.setIfInBounds_toArray, List.set_cons_zero, List.set_cons_succ]
                                refine Stage.anyG_done (by kernel_rfl) ?_ _
                                go_wp2_with fail
                                go_meet
                                exact ⟨_, _, _, _, FN⟩
                              case r27_0 =>
                                exact Stage.AllG.nil
                            case r26_0 =>
                              exact Stage.AllG.nil
                          case r25_0 =>
                            exact Stage.AllG.nil
                        case r24_0 =>
                          exact Stage.AllG.nil
                      case r23_0 =>
                        exact Stage.AllG.nil
                    case r22_0 =>
                      exact Stage.AllG.nil
                  case r21_0 =>
                    exact Stage.AllG.nil
                case r20_0 =>
                  exact Stage.AllG.nil
              case r19_0 =>
                exact Stage.AllG.nil
            case r1_1 =>
              exact Stage.AllG.nil
        case rest =>
          obtain ⟨Al', capl', Au', capu', k2, k3, k4, kT, hbxw⟩ := hcut
          clear hx0 hx1 hx2 hbx hy0 hy1 hy2 hbxl
          have hbx := hbxw
          have hx0 : wc.cell? ⟨w.heap.size, 0, none⟩ = some (.int .i64 xk) := by simp [World.cell?, hbx]
          have hx1 : wc.cell? ⟨w.heap.size, 1, none⟩ = some (.int .i64 xn) := by simp [World.cell?, hbx]
          have hx2 : wc.cell? ⟨w.heap.size, 2, none⟩ = some (.slice xA xl xc) := by simp [World.cell?, hbx]

          have hxl : xs.length = us.length := h5
          have hU7 : ∀ j (hj : j < us.length), us[j] = true := fun j hj => h7 j hj hj
          clear hbxw HO1 AFT HR HAS hA0 h2 h3 h4 h5 h7 c0 c1 c2 c3 c4 g3 HT hT hone1 hone2
          rw [show flat xs ++ [.int .i64 xk, .int .i64 xn, .slice xA xl xc] = flat (xs ++ [(⟨xk, xn, xA, xl, xc⟩ : Nd)]) from (flat_app xs [(⟨xk, xn, xA, xl, xc⟩ : Nd)]).symm] at k3
          obtain ⟨c0, c1, c2, c3, c4⟩ := cells5 k2
          obtain ⟨b, cur, rfl, hFb, hc1, hc2, hb, hcell, _⟩ := row_at k3 (by omega)
          obtain ⟨b', cur', rfl, hFb', hc1', hc2', hb', hcell', _⟩ := row_at k4 (by omega)
          have hnb : ¬ b = w.heap.size := by
            have hq1 := (Array.getElem?_eq_some_iff.1 Hbox.out).1
            rcases hFb with h | h
            · have := hFl.out _ h
              omega
            · omega
          have hnb2 : ¬ w.heap.size = b := fun e => hnb e.symm
          have hxl2 : us.length < (xs ++ [(⟨xk, xn, xA, xl, xc⟩ : Nd)]).length := by simp; omega
          obtain ⟨hd0, hd1, hd2⟩ := cells_nd hcell (j := us.length) (by omega) hxl2
          have hc' := hcell' us.length (by omega)
          rw [List.getElem?_append_right (by simp), List.length_map, Nat.sub_self, List.getElem?_cons_zero] at hc'
          have hf0 := free5 hb (us.length * 3)
          have hf1 := free5 hb (us.length * 3 + 1)
          have hf2 := free5 hb (us.length * 3 + 2)
          have hf' := free5 hb' us.length
          have g2 := free5 k2 2
          have n1 := ne_type hb hb' (by decide)
          have n2 := n1.symm
          have n3 := ne_type k2 hb (by decide)
          have n4 := n3.symm
          have n5 := ne_type k2 hb' (by decide)
          have n6 := n5.symm
          have hlast : Hid (∀ c : Int, c = (us.count true : Nat) + 1 →
              Ar (((sets wc b us.length (⟨xk, xn, xA, xl, xc⟩ : Nd)).setCell ⟨b', us.length, none⟩ (.bool true)).setCell ⟨g, 2, none⟩ (.int .i64 c)).drew (fun b => Ft b ∨ W0.heap.size ≤ b) g (setX xs us (⟨xk, xn, xA, xl, xc⟩ : Nd)) (setU us) (firstF us) most ∧
              Turn Ft W0 (((sets wc b us.length (⟨xk, xn, xA, xl, xc⟩ : Nd)).setCell ⟨b', us.length, none⟩ (.bool true)).setCell ⟨g, 2, none⟩ (.int .i64 c)).drew) := Lib.hid (by
            rintro c rfl
            have b1 := heap3_other (j := us.length) (⟨xk, xn, xA, xl, xc⟩ : Nd) hb' hb (by decide)
            have k1 := heap3_other (j := us.length) (⟨xk, xn, xA, xl, xc⟩ : Nd) k2 hb (by decide)
            have r1 := row_set3 (j := us.length) k3 (by first | omega | (simp; omega)) (⟨xk, xn, xA, xl, xc⟩ : Nd)
            have s1 := row3_other (j := us.length) k4 hb (by decide) (⟨xk, xn, xA, xl, xc⟩ : Nd)
            have k2' := heap_set_other (o := us.length) (.bool true) k1 b1 (by decide)
            have r2 := row_other r1 (a := ⟨b', us.length, none⟩) b1 (by decide) (.bool true)
            have s2 := row_set (j := us.length) s1 (.bool true)
            have k3' := heap_set (o := 2) (.int .i64 ((us.count true : Nat) + 1 : Int)) k2'
            have r3 := row_other r2 (a := ⟨g, 2, none⟩) k2' (by decide) (.int .i64 ((us.count true : Nat) + 1 : Int))
            have s3 := row_other s2 (a := ⟨g, 2, none⟩) k2' (by decide) (.int .i64 ((us.count true : Nat) + 1 : Int))
            have eX : (xs ++ [(⟨xk, xn, xA, xl, xc⟩ : Nd)]).set us.length (⟨xk, xn, xA, xl, xc⟩ : Nd) = xs ++ [(⟨xk, xn, xA, xl, xc⟩ : Nd)] := by rw [← hxl]; simp
            have eU : (us.map Value.bool ++ [Value.bool true]).set us.length (Value.bool true) = (us ++ [true]).map Value.bool := by simp
            have eC : (us ++ [true]).count true = us.count true + 1 := by simp
            rw [eX] at r3
            rw [eU] at s3
            unfold setX setU
            rw [hF, if_neg (by omega), if_neg (by omega)]
            refine ⟨⟨some ⟨b, 0, none⟩, capl', some ⟨b', 0, none⟩, capu', .inl h1, ?_, ?_, ?_, by simp [hxl], by simp, ?_, by simp; omega, h9⟩, ((((kT.sets (hFb.elim .inl .inr) _ _).setCell (hFb'.elim .inl .inr) _).setCell (.inl h1) _).drew)⟩
            · rw [List.length_append, List.length_append, hxl, eC]
              refine heap_drew ?_
              simp at k3' ⊢
              exact k3'
            · rw [List.length_append, hxl]
              exact row_drew r3
            · rw [List.length_append]
              exact row_drew s3
            · intro i hi hm
              rw [List.getElem_append_left hm]
              exact hU7 i hm)
          clear k2 k3 k4 hbx hb hb' h8 h9 hFb hFb' hcell hcell' hlk hU7
          have hct : us.count true ≤ us.length := List.count_le_length
          go_wp2_with fail
          go_region
          go_wp2_with fail
          go_ret2
          rw [HF.out]
          rw [HF.out] at hlast
          exact ⟨rfl, HEND.out _ _ _ _ (hlast.out _ (by omega))⟩
end
end Go.Proofs.Ytccknhhjkkbadaa.ArnN
