/- The plain law of free names: a name that is bound isn't free, others stay free. -/
import Derived.Test.YtnaakhnmbckpmaaSize
namespace Go.Proofs.Ytnaakhnmbckpmaa.Strs
open Go.ChangeShapes Go.WideShapes Go.ChangeAt Go.RowKit Go.Proofs.Ytnaakhnmbckpmaa.Lift Go.Proofs.Ytnaakhnmbckpmaa.Data
set_option linter.unusedVariables false
set_option linter.unusedSimpArgs false
/-- alike, as texts. -/
def eqS (a b : ByteArray) : Bool := decide (a.toList = b.toList)
theorem memS_app (l m : List ByteArray) (s : ByteArray) : memS (l ++ m) s = (memS l s || memS m s) := by simp [memS]
theorem memS_one (x s : ByteArray) : memS [x] s = eqS s x := by simp [memS, eqS]
theorem memS_same {l : List ByteArray} {a b : ByteArray} (h : a.toList = b.toList) : memS l a = memS l b := by simp [memS, h]
theorem memS_with (l : List ByteArray) (x s : ByteArray) : memS (withS l x) s = (memS l s || eqS s x) := by
  unfold withS
  by_cases h : memS l x = true
  · rw [if_pos h]
    by_cases e : s.toList = x.toList
    · rw [memS_same e, h]; simp
    · simp [eqS, e]
  · rw [if_neg h, memS_app, memS_one]
mutual
/-- whether a name is free. -/
def occS : Ex → List ByteArray → ByteArray → Bool
  | .mk k nm n ys l c, bound, s => (decide (k = 1) && (!memS bound nm && eqS s nm)) || occSs k nm ys 0 bound s
def occSs (k : Int) (nm : ByteArray) : List Ex → Nat → List ByteArray → ByteArray → Bool
  | [], _, _, _ => false
  | e :: r, i, bound, s => occS e (bndS k nm i bound) s || occSs k nm r (i + 1) bound s
end
mutual
theorem free_occ : ∀ (e : Ex) (out bound : List ByteArray) (s : ByteArray), memS (freeS e out bound) s = (memS out s || occS e bound s)
  | .mk k nm n ys l c, out, bound, s => by
    rw [freeS, occS, frees_occ k nm ys 0 _ bound s]
    by_cases h1 : k = 1
    · cases h2 : memS bound nm
      · rw [if_pos ⟨h1, rfl⟩, memS_with]
        simp [h1, Bool.or_assoc]
      · rw [if_neg (fun h => by cases h.2)]
        simp
    · rw [if_neg (fun h => h1 h.1)]
      simp [h1]
theorem frees_occ (k : Int) (nm : ByteArray) : ∀ (ys : List Ex) (i : Nat) (out bound : List ByteArray) (s : ByteArray), memS (freeSs k nm ys i out bound) s = (memS out s || occSs k nm ys i bound s)
  | [], i, out, bound, s => by simp [freeSs, occSs]
  | e :: r, i, out, bound, s => by
    rw [freeSs, occSs, frees_occ k nm r (i + 1) _ bound s, free_occ e out _ s, Bool.or_assoc]
end
theorem bnd_more {bound bound' : List ByteArray} {x : ByteArray} (h : ∀ y, memS bound' y = (memS bound y || eqS y x)) (k : Int) (nm : ByteArray) (i : Nat) (y : ByteArray) :
    memS (bndS k nm i bound') y = (memS (bndS k nm i bound) y || eqS y x) := by
  unfold bndS
  split
  · rw [memS_app, memS_app, h]
    cases memS bound y <;> cases eqS y x <;> cases memS [nm] y <;> rfl
  · exact h y
mutual
theorem occ_more {x : ByteArray} : ∀ (e : Ex) (bound bound' : List ByteArray) (s : ByteArray), (∀ y, memS bound' y = (memS bound y || eqS y x)) → occS e bound' s = (occS e bound s && !eqS s x)
  | .mk k nm n ys l c, bound, bound', s, h => by
    rw [occS, occS, occs_more k nm ys 0 bound bound' s h, h nm]
    by_cases e : s.toList = nm.toList
    · have e1 : eqS s nm = true := by simp [eqS, e]
      have e2 : eqS nm x = eqS s x := by simp [eqS, e]
      rw [e1, e2]
      cases decide (k = 1) <;> cases memS bound nm <;> cases eqS s x <;> cases occSs k nm ys 0 bound s <;> rfl
    · have e1 : eqS s nm = false := by simp [eqS, e]
      rw [e1]
      simp
theorem occs_more {x : ByteArray} (k : Int) (nm : ByteArray) : ∀ (ys : List Ex) (i : Nat) (bound bound' : List ByteArray) (s : ByteArray), (∀ y, memS bound' y = (memS bound y || eqS y x)) → occSs k nm ys i bound' s = (occSs k nm ys i bound s && !eqS s x)
  | [], _, _, _, _, _ => by simp [occSs]
  | e :: r, i, bound, bound', s, h => by
    rw [occSs, occSs, occ_more e _ _ s (bnd_more h k nm i), occs_more k nm r (i + 1) bound bound' s h]
    cases occS e (bndS k nm i bound) s <;> cases occSs k nm r (i + 1) bound s <;> cases eqS s x <;> rfl
end
def freeE (name : ByteArray) (e : Ex) : Ex := .mk 8 name 0 [e] 0 0
def letE (name : ByteArray) (e : Ex) : Ex := .mk 7 name 0 [.mk 3 ⟨#[]⟩ 0 [] 0 0, e] 0 0
theorem occ_bound (e : Ex) (name s : ByteArray) : occS e [name] s = (occS e [] s && !eqS s name) :=
  occ_more e [] [name] s (fun y => by rw [memS_one]; simp [memS])
theorem freeE_law (name s : ByteArray) (e : Ex) : memS (freeS (freeE name e) [] []) s = (memS (freeS e [] []) s && !eqS s name) := by
  rw [free_occ, free_occ, freeE, occS, occSs, occSs]
  have h := occ_bound e name s
  simp [bndS, memS, h]
theorem letE_law (name s : ByteArray) (e : Ex) : memS (freeS (letE name e) [] []) s = (memS (freeS e [] []) s && !eqS s name) := by
  rw [free_occ, free_occ, letE, occS, occSs, occSs, occSs]
  have h := occ_bound e name s
  simp [bndS, memS, occS, occSs, h]
theorem freeE_size (name : ByteArray) (e : Ex) : (freeE name e).size = e.size + 1 := by simp [freeE, Ex.size, ExSize]
theorem letE_size (name : ByteArray) (e : Ex) : (letE name e).size = e.size + 2 := by simp [letE, Ex.size, ExSize]; omega
theorem letE_dep (name : ByteArray) (e : Ex) : depS (letE name e) = max (depS e) 1 + 1 := by simp [letE, depS, depSs]; omega
end Go.Proofs.Ytnaakhnmbckpmaa.Strs
