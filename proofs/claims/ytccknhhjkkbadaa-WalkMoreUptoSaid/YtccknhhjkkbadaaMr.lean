/- A map of nodes and a graph's nodes, seen together, with a word on each node. -/
import Derived.Test.YtccknhhjkkbadaaMq
namespace Go.Proofs.Ytccknhhjkkbadaa.Gr
open Go.ChangeShapes Go.WideShapes Go.ChangeAt Go.RowKit Go.Proofs.Ytccknhhjkkbadaa.Lift Go.Proofs.Ytccknhhjkkbadaa.Arn Go.Proofs.Ytccknhhjkkbadaa.ArnN Go.Maps
set_option linter.unusedVariables false
set_option linter.unusedSimpArgs false
/-- the map's nodes and the graph's are alike, wherever one looks. -/
def SaidP (P : Int → List Int → Prop) (w0 w : World) (F : Nat → Prop) (D : DataW Unit) (xs : List Nd) (us : List Bool) : Prop :=
  ∀ i : Int, (Lit.int .i64 i).wf = true → ∃ (y : Nd) (l : List Int), D.atKey (.int .i64 i) (codeN nd0) = codeN y ∧ y.k = (getX xs us i).k ∧ y.n = (getX xs us i).n ∧ Args w0 y l ∧ XV w F (getX xs us i) l ∧ P y.n l
theorem SaidP.turn {P : Int → List Int → Prop} {w0 w w' : World} {F F' : Nat → Prop} {D : DataW Unit} {xs : List Nd} {us : List Bool} (h : SaidP P w0 w F D xs us) (ht : Turn F w w') (hg : Grows F F' w w') : SaidP P w0 w' F' D xs us := fun i hi => by
  obtain ⟨y, l, a, b, c, d, e, f⟩ := h i hi
  exact ⟨y, l, a, b, c, d, e.turn ht hg, f⟩
theorem SaidP.map {P : Int → List Int → Prop} {w0 w w' : World} {F : Nat → Prop} {D D' : DataW Unit} {xs : List Nd} {us : List Bool} {m n : Nat} (h : SaidP P w0 w F D xs us) (hm : w.ownsMap Try.prog 3 rC m n D') (hg : w.grownBy w' (some m)) : SaidP P w0 w' F D xs us := fun i hi => by
  obtain ⟨y, l, a, b, c, d, e, f⟩ := h i hi
  exact ⟨y, l, a, b, c, d, e.map hm hg, f⟩
section
variable {P : Int → List Int → Prop} {w0 w : World} {F : Nat → Prop} {D : DataW Unit} {xs : List Nd} {us : List Bool}
theorem saidp_put (hT : Tidy D) (h : SaidP P w0 w F D xs us) (hl : xs.length = us.length) (hw : (Lit.int .i64 (firstF us)).wf = true) {y x : Nd} {l : List Int} (hk : x.k = y.k) (hn : x.n = y.n) (hy : Args w0 y l) (hx : XV w F x l) (hq : P y.n l) :
    SaidP P w0 w F (D.put (.int .i64 (firstF us)) (codeN y)) (setX xs us x) (setU us) := fun i hi => by
  by_cases e : i = firstF us
  · subst e
    rw [atKey_put_same hT.isMap (isKey _ hw), getX_hit hl]
    exact ⟨y, l, rfl, hk.symm, hn.symm, hy, hx, hq⟩
  · rw [atKey_put_other (lit_ne e), getX_put_other hl x e]
    exact h i hi
theorem saidp_set (hT : Tidy D) (h : SaidP P w0 w F D xs us) (hl : xs.length = us.length) {i : Int} (hw : (Lit.int .i64 i).wf = true) (hu : hasB us i = true) {y x : Nd} {l : List Int} (hk : x.k = y.k) (hn : x.n = y.n) (hy : Args w0 y l) (hx : XV w F x l) (hq : P y.n l) :
    SaidP P w0 w F (D.put (.int .i64 i) (codeN y)) (xs.set i.toNat x) us := fun k hi => by
  by_cases e : k = i
  · subst e
    rw [atKey_put_same hT.isMap (isKey _ hw), getX_set_hit hl hu]
    exact ⟨y, l, rfl, hk.symm, hn.symm, hy, hx, hq⟩
  · rw [atKey_put_other (lit_ne e), getX_set_other hu e]
    exact h k hi
theorem saidp_del (hP0 : P 0 []) (hh : ∀ i : Int, (Lit.int .i64 i).wf = true → Maps.has D (.int .i64 i) = hasB us i) (h : SaidP P w0 w F D xs us) {i : Int} (hw : (Lit.int .i64 i).wf = true) :
    SaidP P w0 w F (D.del (.int .i64 i)) (if hasB us i then xs.set i.toNat nd0 else xs) (if hasB us i then us.set i.toNat false else us) := by
  cases hu : hasB us i with
  | false =>
    rw [del_of_not_has (by rw [hh i hw, hu])]
    exact h
  | true =>
    rw [if_pos rfl, if_pos rfl]
    intro k hi
    rw [getX_free hu]
    by_cases e : k = i
    · subst e
      rw [if_pos rfl, atKey_del_same]
      exact ⟨nd0, [], rfl, rfl, rfl, Args.nd0 _, XV.nd0 _ _, hP0⟩
    · rw [if_neg e, atKey_del_other (lit_ne e)]
      exact h k hi
end
/-- the map, its keys, its nodes. -/
def MqP (P : Int → List Int → Prop) (w0 w : World) (F : Nat → Prop) (m n : Nat) (xs : List Nd) (us : List Bool) : Prop :=
  ∃ D : DataW Unit, w.ownsMap Try.prog 3 rC m n D ∧ (∀ i : Int, (Lit.int .i64 i).wf = true → Maps.has D (.int .i64 i) = hasB us i) ∧ Maps.size D = us.count true ∧ SaidP P w0 w F D xs us
theorem MqP.lt {P : Int → List Int → Prop} {w0 w : World} {F : Nat → Prop} {m n : Nat} {xs : List Nd} {us : List Bool} (h : MqP P w0 w F m n xs us) : m < w.heap.size := by
  obtain ⟨D, ⟨es, cl, h1, _⟩, _⟩ := h
  exact (Array.getElem?_eq_some_iff.1 h1).1
theorem MqP.turn {P : Int → List Int → Prop} {w0 w w' : World} {F F' : Nat → Prop} {m n : Nat} {xs : List Nd} {us : List Bool} (h : MqP P w0 w F m n xs us) (ht : Turn F w w') (hg : Grows F F' w w') (hFm : ¬ F m) : MqP P w0 w' F' m n xs us := by
  have hl := h.lt
  obtain ⟨D, h1, h2, h3, h4⟩ := h
  exact ⟨D, own_mapC_keep h1 (ht.block m hl hFm), h2, h3, h4.turn ht hg⟩
theorem MqP.below {P : Int → List Int → Prop} {w0 w w' : World} {F : Nat → Prop} {m n : Nat} {xs : List Nd} {us : List Bool} (h : MqP P w0 w F m n xs us) (hb : Below w.heap.size w w') (hFm : ¬ F m) : MqP P w0 w' F m n xs us := h.turn (Turn.of_below hb) (Grows.refl _ _ _) hFm
theorem MqP.made {P : Int → List Int → Prop} (hP0 : P 0 []) (w0 w : World) (F : Nat → Prop) : MqP P w0 (w.alloc (.map #[] 0)) F w.heap.size 0 [] [] := ⟨.map [], World.ownsMap_made w Try.prog 3 rC, fun i _ => by
  have : hasB [] i = false := by
    by_cases hi : i < 0
    · exact hasB_neg hi
    · obtain ⟨j, rfl⟩ : ∃ j : Nat, i = j := ⟨i.toNat, by omega⟩
      exact hasB_far (Nat.zero_le _)
  rw [this]; rfl, rfl, fun i _ => by
  have : hasB [] i = false := by
    by_cases hi : i < 0
    · exact hasB_neg hi
    · obtain ⟨j, rfl⟩ : ∃ j : Nat, i = j := ⟨i.toNat, by omega⟩
      exact hasB_far (Nat.zero_le _)
  have hx : getX [] [] i = nd0 := by unfold getX; rw [this]; rfl
  rw [hx]
  exact ⟨nd0, [], rfl, rfl, rfl, Args.nd0 _, XV.nd0 _ _, hP0⟩⟩
end Go.Proofs.Ytccknhhjkkbadaa.Gr
