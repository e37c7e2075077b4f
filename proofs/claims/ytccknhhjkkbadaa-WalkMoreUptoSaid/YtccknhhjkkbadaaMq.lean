/- A map of nodes and a graph's nodes, seen together. -/
import Derived.Test.YtccknhhjkkbadaaAw20
namespace Go.Proofs.Ytccknhhjkkbadaa.Gr
open Go.ChangeShapes Go.WideShapes Go.ChangeAt Go.RowKit Go.Proofs.Ytccknhhjkkbadaa.Lift Go.Proofs.Ytccknhhjkkbadaa.Arn Go.Proofs.Ytccknhhjkkbadaa.ArnN Go.Maps
set_option linter.unusedVariables false
set_option linter.unusedSimpArgs false
/-- how a place reads. -/
def codeA : Option Addr → DataW Unit
  | none => .nil
  | some ⟨b, o, none⟩ => .agg [.lit (.int .i64 b), .lit (.int .i64 o)]
  | some ⟨_, _, some _⟩ => .agg []
/-- how a node reads. -/
def codeN (x : Nd) : DataW Unit := .agg [.lit (.int .i64 x.k), .lit (.int .i64 x.n), codeA x.A, .lit (.int .i64 x.len), .lit (.int .i64 x.cap)]
def rC : Value → Option (DataW Unit × List MemPlace)
  | .agg ⟨[.int .i64 k, .int .i64 n, .slice A len cap]⟩ => some (codeN ⟨k, n, A, len, cap⟩, [])
  | _ => none
theorem rC_enc (x : Nd) : rC (enc x) = some (codeN x, []) := rfl
theorem rC_inv {v : Value} {z : DataW Unit} {ps : List MemPlace} (h : rC v = some (z, ps)) : ∃ x : Nd, v = enc x ∧ codeN x = z := by
  unfold rC at h
  split at h
  · rename_i k n A len cap
    injection h with h
    injection h with h1 h2
    exact ⟨⟨k, n, A, len, cap⟩, rfl, h1⟩
  · cases h
theorem codeN_inj {x y : Nd} (h : codeN x = codeN y) : x.k = y.k ∧ x.n = y.n ∧ codeA x.A = codeA y.A ∧ x.len = y.len ∧ x.cap = y.cap := by
  unfold codeN at h
  injection h with h
  injection h with h0 h
  injection h with h1 h
  injection h with h2 h
  injection h with h3 h
  injection h with h4 h
  injection h0 with h0; injection h0 with _ h0
  injection h1 with h1; injection h1 with _ h1
  injection h3 with h3; injection h3 with _ h3
  injection h4 with h4; injection h4 with _ h4
  exact ⟨h0, h1, h2, by omega, by omega⟩
theorem codeA_none {A : Option Addr} (h : codeA A = codeA none) : A = none := by
  match A, h with
  | none, _ => rfl
  | some ⟨b, o, none⟩, h => cases h
  | some ⟨_, _, some _⟩, h => cases h
theorem codeA_some {A : Option Addr} {b o : Nat} (h : codeA A = codeA (some ⟨b, o, none⟩)) : A = some ⟨b, o, none⟩ := by
  match A, h with
  | none, h => cases h
  | some ⟨b', o', none⟩, h =>
    unfold codeA at h
    injection h with h
    injection h with h0 h
    injection h with h1 h
    injection h0 with h0; injection h0 with _ h0
    injection h1 with h1; injection h1 with _ h1
    have e0 : b' = b := by omega
    have e1 : o' = o := by omega
    rw [e0, e1]
  | some ⟨_, _, some _⟩, h => unfold codeA at h; injection h with h; cases h
theorem Args.code {w : World} {x y : Nd} {l : List Int} (h : Args w y l) (e : codeN x = codeN y) : Args w x l ∧ x.k = y.k ∧ x.n = y.n := by
  obtain ⟨e0, e1, e2, e3, e4⟩ := codeN_inj e
  refine ⟨⟨e3.trans h.1, fun k hk => ?_, h.2.2.1, fun hn => ?_⟩, e0, e1⟩
  · obtain ⟨b, o, a1, a2, a3⟩ := h.2.1 k hk
    rw [a1] at e2
    exact ⟨b, o, codeA_some e2, a2, a3⟩
  · rw [hn] at e2
    rw [e4]
    exact h.2.2.2 (codeA_none e2.symm)
/-- a node's arguments, in blocks that are none of F's. -/
def XV (w : World) (F : Nat → Prop) (x : Nd) (l : List Int) : Prop :=
  x.len = l.length ∧ l.length ≤ 1048576 ∧ (x.A = none → x.cap = 0) ∧ ∀ k, k < l.length → ∃ b o, x.A = some ⟨b, o, none⟩ ∧ b < w.heap.size ∧ ¬ F b ∧ w.cell? ⟨b, o + k, none⟩ = some (.int .i64 (l.getD k 0))
theorem XV.args {w : World} {F : Nat → Prop} {x : Nd} {l : List Int} (h : XV w F x l) : Args w x l :=
  ⟨h.1, fun k hk => by obtain ⟨b, o, e1, e2, _, e4⟩ := h.2.2.2 k hk; exact ⟨b, o, e1, e2, e4⟩, h.2.1, h.2.2.1⟩
theorem XV.of {w : World} {F : Nat → Prop} {x : Nd} {l : List Int} (h : Args w x l) (ho : Out F x) : XV w F x l :=
  ⟨h.1, h.2.2.1, h.2.2.2, fun k hk => by obtain ⟨b, o, e1, e2, e4⟩ := h.2.1 k hk; exact ⟨b, o, e1, e2, ho _ e1, e4⟩⟩
theorem XV.turn {w w' : World} {F F' : Nat → Prop} {x : Nd} {l : List Int} (h : XV w F x l) (ht : Turn F w w') (hg : Grows F F' w w') : XV w' F' x l :=
  ⟨h.1, h.2.1, h.2.2.1, fun k hk => by
    obtain ⟨b, o, e1, e2, e3, e4⟩ := h.2.2.2 k hk
    refine ⟨b, o, e1, Nat.lt_of_lt_of_le e2 ht.size, fun e => (hg b e).elim e3 (fun e => by omega), ?_⟩
    exact (World.cell?_of_block (a := ⟨b, o + k, none⟩) (ht.block b e2 e3)).trans e4⟩
theorem XV.map {w w' : World} {F : Nat → Prop} {x : Nd} {l : List Int} {m n : Nat} {D : DataW Unit} (h : XV w F x l) (hm : w.ownsMap Try.prog 3 rC m n D) (hg : w.grownBy w' (some m)) : XV w' F x l :=
  ⟨h.1, h.2.1, h.2.2.1, fun k hk => by
    obtain ⟨b, o, e1, e2, e3, e4⟩ := h.2.2.2 k hk
    refine ⟨b, o, e1, Nat.lt_of_lt_of_le e2 hg.size, e3, ?_⟩
    refine (World.cell?_of_block (a := ⟨b, o + k, none⟩) (hg.block b e2 (fun e => ?_))).trans e4
    injection e with e
    obtain ⟨es, cl, h1, _⟩ := hm
    rw [← e] at h1
    simp [World.cell?, h1] at e4⟩
theorem XV.nd0 (w : World) (F : Nat → Prop) : XV w F nd0 [] := ⟨rfl, by simp, fun _ => rfl, fun k hk => by simp at hk⟩
theorem Args.nd0 (w : World) : Args w nd0 [] := (XV.nd0 w (fun _ => False)).args
/-- the map's nodes and the graph's are alike, wherever one looks. -/
def Said (w0 w : World) (F : Nat → Prop) (D : DataW Unit) (xs : List Nd) (us : List Bool) : Prop :=
  ∀ i : Int, (Lit.int .i64 i).wf = true → ∃ (y : Nd) (l : List Int), D.atKey (.int .i64 i) (codeN nd0) = codeN y ∧ y.k = (getX xs us i).k ∧ y.n = (getX xs us i).n ∧ Args w0 y l ∧ XV w F (getX xs us i) l
theorem Said.turn {w0 w w' : World} {F F' : Nat → Prop} {D : DataW Unit} {xs : List Nd} {us : List Bool} (h : Said w0 w F D xs us) (ht : Turn F w w') (hg : Grows F F' w w') : Said w0 w' F' D xs us := fun i hi => by
  obtain ⟨y, l, a, b, c, d, e⟩ := h i hi
  exact ⟨y, l, a, b, c, d, e.turn ht hg⟩
theorem Said.map {w0 w w' : World} {F : Nat → Prop} {D D' : DataW Unit} {xs : List Nd} {us : List Bool} {m n : Nat} (h : Said w0 w F D xs us) (hm : w.ownsMap Try.prog 3 rC m n D') (hg : w.grownBy w' (some m)) : Said w0 w' F D xs us := fun i hi => by
  obtain ⟨y, l, a, b, c, d, e⟩ := h i hi
  exact ⟨y, l, a, b, c, d, e.map hm hg⟩
theorem getX_hit {xs : List Nd} {us : List Bool} (h : xs.length = us.length) (x : Nd) : getX (setX xs us x) (setU us) (firstF us) = x := by
  have hle := firstF_le us
  unfold getX
  rw [hasB_setU, if_pos rfl, if_pos rfl, Int.toNat_natCast]
  unfold setX
  by_cases hf : firstF us < us.length
  · rw [if_pos hf]
    simp [List.getD, List.getElem?_set, h, hf]
  · rw [if_neg hf]
    have : firstF us = xs.length := by omega
    rw [this]
    simp [List.getD]
theorem getX_put_other {xs : List Nd} {us : List Bool} (h : xs.length = us.length) (x : Nd) {i : Int} (hi : ¬ i = firstF us) : getX (setX xs us x) (setU us) i = getX xs us i := by
  unfold getX
  rw [hasB_setU, if_neg hi]
  cases hu : hasB us i with
  | false => rfl
  | true =>
    obtain ⟨j, hj, rfl, _⟩ := (hasB_eq us i).1 hu
    rw [if_pos rfl, if_pos rfl, Int.toNat_natCast]
    have hne : ¬ firstF us = j := fun e => hi (by omega)
    unfold setX
    by_cases hf : firstF us < us.length
    · rw [if_pos hf]
      simp [List.getD, List.getElem?_set, hne]
    · rw [if_neg hf]
      simp [List.getD, List.getElem?_append_left (show j < xs.length by omega)]
theorem getX_set_hit {xs : List Nd} {us : List Bool} {i : Int} (h : xs.length = us.length) (hb : hasB us i = true) (x : Nd) : getX (xs.set i.toNat x) us i = x := by
  unfold getX
  obtain ⟨j, hj, rfl, _⟩ := (hasB_eq us i).1 hb
  rw [hb, if_pos rfl, Int.toNat_natCast]
  simp [List.getD, List.getElem?_set, h, hj]
theorem getX_set_other {xs : List Nd} {us : List Bool} {i k : Int} (hb : hasB us i = true) (hne : ¬ k = i) (x : Nd) : getX (xs.set i.toNat x) us k = getX xs us k := by
  unfold getX
  cases hu : hasB us k with
  | false => rfl
  | true =>
    obtain ⟨j, hj, rfl, _⟩ := (hasB_eq us i).1 hb
    obtain ⟨j', hj', rfl, _⟩ := (hasB_eq us k).1 hu
    rw [if_pos rfl, if_pos rfl, Int.toNat_natCast, Int.toNat_natCast]
    have hne : ¬ j = j' := fun e => hne (by omega)
    simp [List.getD, List.getElem?_set, hne]
theorem getX_free {xs : List Nd} {us : List Bool} {i k : Int} (hb : hasB us i = true) : getX (xs.set i.toNat nd0) (us.set i.toNat false) k = if k = i then nd0 else getX xs us k := by
  by_cases hk : k = i
  · rw [if_pos hk]
    unfold getX
    rw [hasB_free us i k hb, if_pos hk]
    rfl
  · rw [if_neg hk, ← getX_set_other (xs := xs) hb hk nd0]
    unfold getX
    rw [hasB_free us i k hb, if_neg hk]
section
variable {w0 w : World} {F : Nat → Prop} {D : DataW Unit} {xs : List Nd} {us : List Bool}
theorem said_put (hT : Tidy D) (h : Said w0 w F D xs us) (hl : xs.length = us.length) (hw : (Lit.int .i64 (firstF us)).wf = true) {y x : Nd} {l : List Int} (hk : x.k = y.k) (hn : x.n = y.n) (hy : Args w0 y l) (hx : XV w F x l) :
    Said w0 w F (D.put (.int .i64 (firstF us)) (codeN y)) (setX xs us x) (setU us) := fun i hi => by
  by_cases e : i = firstF us
  · subst e
    rw [atKey_put_same hT.isMap (isKey _ hw), getX_hit hl]
    exact ⟨y, l, rfl, hk.symm, hn.symm, hy, hx⟩
  · rw [atKey_put_other (lit_ne e), getX_put_other hl x e]
    exact h i hi
theorem said_set (hT : Tidy D) (h : Said w0 w F D xs us) (hl : xs.length = us.length) {i : Int} (hw : (Lit.int .i64 i).wf = true) (hu : hasB us i = true) {y x : Nd} {l : List Int} (hk : x.k = y.k) (hn : x.n = y.n) (hy : Args w0 y l) (hx : XV w F x l) :
    Said w0 w F (D.put (.int .i64 i) (codeN y)) (xs.set i.toNat x) us := fun k hi => by
  by_cases e : k = i
  · subst e
    rw [atKey_put_same hT.isMap (isKey _ hw), getX_set_hit hl hu]
    exact ⟨y, l, rfl, hk.symm, hn.symm, hy, hx⟩
  · rw [atKey_put_other (lit_ne e), getX_set_other hu e]
    exact h k hi
theorem said_del (hh : ∀ i : Int, (Lit.int .i64 i).wf = true → Maps.has D (.int .i64 i) = hasB us i) (h : Said w0 w F D xs us) {i : Int} (hw : (Lit.int .i64 i).wf = true) :
    Said w0 w F (D.del (.int .i64 i)) (if hasB us i then xs.set i.toNat nd0 else xs) (if hasB us i then us.set i.toNat false else us) := by
  cases hu : hasB us i with
  | false =>
    rw [del_of_not_has (by rw [hh i hw, hu])]
    exact h
  | true =>
    rw [if_pos rfl, if_pos rfl]
    intro k hi
    rw [getX_free hu]
    by_cases e : k = i
    · subst e
      rw [if_pos rfl, atKey_del_same]
      exact ⟨nd0, [], rfl, rfl, rfl, Args.nd0 _, XV.nd0 _ _⟩
    · rw [if_neg e, atKey_del_other (lit_ne e)]
      exact h k hi
end
/-- the map, its keys, its nodes. -/
def Mq (w0 w : World) (F : Nat → Prop) (m n : Nat) (xs : List Nd) (us : List Bool) : Prop :=
  ∃ D : DataW Unit, w.ownsMap Try.prog 3 rC m n D ∧ (∀ i : Int, (Lit.int .i64 i).wf = true → Maps.has D (.int .i64 i) = hasB us i) ∧ Maps.size D = us.count true ∧ Said w0 w F D xs us
theorem Mq.lt {w0 w : World} {F : Nat → Prop} {m n : Nat} {xs : List Nd} {us : List Bool} (h : Mq w0 w F m n xs us) : m < w.heap.size := by
  obtain ⟨D, ⟨es, cl, h1, _⟩, _⟩ := h
  exact (Array.getElem?_eq_some_iff.1 h1).1
theorem own_mapC_keep {w w' : World} {m n : Nat} {D : DataW Unit} (h : w.ownsMap Try.prog 3 rC m n D) (hb : w'.heap[m]? = w.heap[m]?) : w'.ownsMap Try.prog 3 rC m n D := by
  obtain ⟨es, cl, h1, h2⟩ := h
  exact ⟨es, cl, hb.trans h1, h2⟩
theorem Mq.turn {w0 w w' : World} {F F' : Nat → Prop} {m n : Nat} {xs : List Nd} {us : List Bool} (h : Mq w0 w F m n xs us) (ht : Turn F w w') (hg : Grows F F' w w') (hFm : ¬ F m) : Mq w0 w' F' m n xs us := by
  have hl := h.lt
  obtain ⟨D, h1, h2, h3, h4⟩ := h
  exact ⟨D, own_mapC_keep h1 (ht.block m hl hFm), h2, h3, h4.turn ht hg⟩
theorem Mq.below {w0 w w' : World} {F : Nat → Prop} {m n : Nat} {xs : List Nd} {us : List Bool} (h : Mq w0 w F m n xs us) (hb : Below w.heap.size w w') (hFm : ¬ F m) : Mq w0 w' F m n xs us := h.turn (Turn.of_below hb) (Grows.refl _ _ _) hFm
theorem Mq.made (w0 w : World) (F : Nat → Prop) : Mq w0 (w.alloc (.map #[] 0)) F w.heap.size 0 [] [] := ⟨.map [], World.ownsMap_made w Try.prog 3 rC, fun i _ => by
  have : hasB [] i = false := by
    by_cases hi : i < 0
    · exact hasB_neg hi
    · obtain ⟨j, rfl⟩ : ∃ j : Nat, i = j := ⟨i.toNat, by omega⟩
      exact hasB_far (Nat.zero_le _)
  rw [this]; rfl, rfl, fun i _ => by
  have : hasB [] i = false := by
    by_cases hi : i < 0
    · exact hasB_neg hi
    · obtain ⟨j, rfl⟩ : ∃ j : Nat, i = j := ⟨i.toNat, by omega⟩
      exact hasB_far (Nat.zero_le _)
  have hx : getX [] [] i = nd0 := by unfold getX; rw [this]; rfl
  rw [hx]
  exact ⟨nd0, [], rfl, rfl, rfl, Args.nd0 _, XV.nd0 _ _⟩⟩
end Go.Proofs.Ytccknhhjkkbadaa.Gr
