/- Arenas: the frame 'nothing but these blocks has turned', rows under a predicate of blocks, plain lists. -/
import Derived.Test.YtccknhhjkkbadaaWhere
namespace Go.Proofs.Ytccknhhjkkbadaa.Arn
open Go.ChangeShapes Go.WideShapes Go.ChangeAt Go.RowKit Go.Proofs.Ytccknhhjkkbadaa.Lift
set_option linter.unusedVariables false
set_option linter.unusedSimpArgs false
/-- nothing that was there has turned but blocks of F. -/
structure Turn (F : Nat → Prop) (w w' : World) : Prop where
  os : w'.os = w.os
  tape : w'.tape = w.tape
  output : w'.output = w.output
  size : w.heap.size ≤ w'.heap.size
  block : ∀ b, b < w.heap.size → ¬ F b → w'.heap[b]? = w.heap[b]?
theorem Turn.refl (F : Nat → Prop) (w : World) : Turn F w w := ⟨rfl, rfl, rfl, Nat.le_refl _, fun _ _ _ => rfl⟩
theorem Turn.trans {F : Nat → Prop} {a b c : World} (h : Turn F a b) (k : Turn (fun x => F x ∨ a.heap.size ≤ x) b c) : Turn F a c :=
  ⟨k.os.trans h.os, k.tape.trans h.tape, k.output.trans h.output, Nat.le_trans h.size k.size, fun x hx hf =>
    (k.block x (Nat.lt_of_lt_of_le hx h.size) (fun e => e.elim hf (fun e => by omega))).trans (h.block x hx hf)⟩
theorem Turn.of_below {F : Nat → Prop} {w w' : World} (h : Below w.heap.size w w') : Turn F w w' := ⟨h.os, h.tape, h.output, h.size, fun b hb _ => h.block b hb⟩
theorem Turn.mono {F G : Nat → Prop} {w w' : World} (h : Turn F w w') (hg : ∀ b, F b → G b) : Turn G w w' := ⟨h.os, h.tape, h.output, h.size, fun b hb hn => h.block b hb (fun e => hn (hg b e))⟩
theorem Turn.below {F : Nat → Prop} {B : Nat} {w w' : World} (h : Turn F w w') (hF : ∀ b, F b → B ≤ b) (hB : B ≤ w.heap.size) : Below B w w' :=
  ⟨h.os, h.tape, h.output, h.size, fun b hb => h.block b (Nat.lt_of_lt_of_le hb hB) (fun e => by have := hF b e; omega)⟩
theorem Turn.setCell {F : Nat → Prop} {w w' : World} (h : Turn F w w') {a : Addr} (ha : F a.block ∨ w.heap.size ≤ a.block) (v : Value) : Turn F w (w'.setCell a v) :=
  ⟨h.os, h.tape, h.output, by simpa [World.setCell] using h.size, fun b hb hn => (Below.heap_setCell _ _ _ _ (by
    rintro rfl
    rcases ha with ha | ha
    · exact hn ha
    · omega)).trans (h.block b hb hn)⟩
theorem Turn.alloc {F : Nat → Prop} {w w' : World} (h : Turn F w w') (o : Obj) : Turn F w (w'.alloc o) :=
  ⟨h.os, h.tape, h.output, Nat.le_trans h.size (by simp), fun b hb hn => (Below.heap_alloc _ _ _ (Nat.lt_of_lt_of_le hb h.size)).trans (h.block b hb hn)⟩
theorem Turn.drewN {F : Nat → Prop} {w w' : World} (h : Turn F w w') (n : Nat) : Turn F w (w'.drewN n) := ⟨h.os, h.tape, h.output, h.size, h.block⟩
theorem Turn.drew {F : Nat → Prop} {w w' : World} (h : Turn F w w') : Turn F w w'.drew := ⟨h.os, h.tape, h.output, h.size, h.block⟩
/-- a row among blocks of F. -/
def Row (w : World) (F : Nat → Prop) (e size : Nat) (v : Value) (n : Nat) (xs : List Value) : Prop := w.ownsRow 0 e size v n xs ∧ ∀ b, v.ownBlock = some b → F b
theorem Row.keep {w w' : World} {F G : Nat → Prop} {e size n : Nat} {v : Value} {xs : List Value} (h : Row w F e size v n xs) (ht : Turn G w w') (hd : ∀ b, F b → ¬ G b) : Row w' F e size v n xs := by
  refine ⟨⟨h.1.1, ?_⟩, h.2⟩
  rcases h.1.2 with h0 | ⟨g, cap, cur, rfl, h2, h3, h4⟩
  · exact .inl h0
  · exact .inr ⟨g, cap, cur, rfl, h2, (ht.block g (Array.getElem?_eq_some_iff.1 h3).1 (hd g (h.2 g rfl))).trans h3, h4⟩
theorem Row.mono {w : World} {F G : Nat → Prop} {e size n : Nat} {v : Value} {xs : List Value} (h : Row w F e size v n xs) (hg : ∀ b, F b → G b) : Row w G e size v n xs := ⟨h.1, fun b hb => hg b (h.2 b hb)⟩
/-- the same heap but for blocks of another type. -/
theorem own_of_heap {w w' : World} {base e size n : Nat} {v : Value} {xs : List Value} (h : w.ownsRow base e size v n xs) (hh : ∀ (g : Nat) (cur : Array Value), v.ownBlock = some g → w.heap[g]? = some (.cells cur e (0, 0)) → w'.heap[g]? = some (.cells cur e (0, 0))) : w'.ownsRow base e size v n xs := by
  refine ⟨h.1, ?_⟩
  rcases h.2 with h0 | ⟨g, cap, cur, rfl, h2, h3, h4⟩
  · exact .inl h0
  · exact .inr ⟨g, cap, cur, rfl, h2, hh g cur rfl h3, h4⟩
theorem own_set_type {w : World} {base e t size n : Nat} {v : Value} {xs : List Value} (h : w.ownsRow base e size v n xs) {a : Addr} {cs : Array Value} (ha : w.heap[a.block]? = some (.cells cs t (0, 0))) (hne : e ≠ t) (u : Value) : (w.setCell a u).ownsRow base e size v n xs :=
  own_of_heap h fun g cur _ hg => by
    rw [Below.heap_setCell _ _ _ _ (by
      rintro rfl
      rw [ha] at hg
      injection hg with hg
      injection hg with _ hg
      exact hne hg.symm)]
    exact hg
theorem heap_set {w : World} {b o : Nat} {cs : Array Value} {t : TypeId} (v : Value) (h : w.heap[b]? = some (.cells cs t (0, 0))) : (w.setCell ⟨b, o, none⟩ v).heap[b]? = some (.cells (cs.setIfInBounds o v) t (0, 0)) := by
  simp [World.setCell, Array.getElem?_modify, h]
theorem heap_set_other {w : World} {b c o : Nat} {cs cs' : Array Value} {t t' : TypeId} (v : Value) (h : w.heap[b]? = some (.cells cs t (0, 0))) (hc : w.heap[c]? = some (.cells cs' t' (0, 0))) (hne : t ≠ t') : (w.setCell ⟨c, o, none⟩ v).heap[b]? = some (.cells cs t (0, 0)) := by
  rw [Below.heap_setCell _ _ _ _ (by
    rintro rfl
    rw [hc] at h
    injection h with h
    injection h with _ h
    exact hne h.symm)]
  exact h
/-- whether a place is used. -/
def hasB (us : List Bool) (i : Int) : Bool := decide (0 ≤ i) && us.getD i.toNat false
theorem hasB_neg {us : List Bool} {i : Int} (h : i < 0) : hasB us i = false := by unfold hasB; rw [decide_eq_false (by omega)]; rfl
theorem hasB_far {us : List Bool} {j : Nat} (h : us.length ≤ j) : hasB us j = false := by
  unfold hasB; rw [Int.toNat_natCast]; simp [List.getD, List.getElem?_eq_none h]
theorem hasB_at {us : List Bool} {j : Nat} (h : j < us.length) : hasB us j = us[j] := by
  unfold hasB; rw [Int.toNat_natCast]; simp [List.getD, List.getElem?_eq_getElem h]
/-- the first place that is free. -/
def firstF (us : List Bool) : Nat := us.findIdx (fun u => !u)
theorem firstF_le (us : List Bool) : firstF us ≤ us.length := List.findIdx_le_length
theorem firstF_eq {us : List Bool} {k : Nat} (hk : k ≤ us.length) (h : ∀ j (hj : j < us.length), j < k → us[j] = true) (he : ∀ hk : k < us.length, us[k] = false) : firstF us = k := by
  unfold firstF
  rcases Nat.lt_or_ge k us.length with h1 | h1
  · rw [List.findIdx_eq h1]
    exact ⟨by simp [he h1], fun j hj => by simp [h j (by omega) hj]⟩
  · have : k = us.length := by omega
    subst this
    rw [List.findIdx_eq_length]
    intro x hx
    obtain ⟨j, hj, rfl⟩ := List.getElem_of_mem hx
    simp [h j hj hj]
theorem firstF_before {us : List Bool} {j : Nat} (hj : j < us.length) (h : j < firstF us) : us[j] = true := by
  have := List.not_of_lt_findIdx (p := fun u => !u) (xs := us) (i := j) h
  simpa using this
theorem firstF_at {us : List Bool} (h : firstF us < us.length) : us[firstF us] = false := by
  have := List.findIdx_getElem (p := fun u => !u) (xs := us) (w := h)
  simp only [Bool.not_eq_true'] at this
  exact this
theorem count_first (us : List Bool) : firstF us ≤ us.count true := by
  induction us with
  | nil => simp [firstF]
  | cons u r ih =>
    unfold firstF at ih ⊢
    rw [List.findIdx_cons]
    cases u
    · simp
    · simp only [Bool.not_true, cond_false, List.count_cons_self]; omega
theorem count_lt {us : List Bool} (h : firstF us < us.length) : us.count true < us.length := by
  have h1 := firstF_at h
  rcases Nat.lt_or_ge (us.count true) us.length with h2 | h2
  · exact h2
  · have h3 := List.count_le_length (a := true) (l := us)
    have h4 := List.count_eq_length.1 (Nat.le_antisymm h3 h2)
    have := h4 _ (List.getElem_mem h)
    rw [h1] at this
    cases this
theorem count_set_true {us : List Bool} {i : Nat} (h : i < us.length) (h0 : us[i] = false) : (us.set i true).count true = us.count true + 1 := by
  rw [List.count_set h]; simp [h0]
theorem count_set_false {us : List Bool} {i : Nat} (h : i < us.length) (h0 : us[i] = true) : (us.set i false).count true + 1 = us.count true := by
  have := List.count_pos_iff.2 (h0 ▸ List.getElem_mem h)
  rw [List.count_set h]; simp [h0]; omega
end Go.Proofs.Ytccknhhjkkbadaa.Arn
