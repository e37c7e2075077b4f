/- The data of type Ca: how a value of it lies in memory. -/
import Derived.Test.YtkcgbakjpodmeaaCo
namespace Go.Proofs.Ytkcgbakjpodmeaa.Data
open Go.ChangeShapes Go.WideShapes Go.ChangeAt Go.RowKit Go.Proofs.Ytkcgbakjpodmeaa.Lift
set_option linter.unusedVariables false
set_option linter.unusedSimpArgs false

/-- a slice of which the header alone is told. -/
structure PHd where
  A : Option Addr
  n : Nat
  c : Nat
  le : n ≤ 1048576
  lc : n ≤ c
  cm : c ≤ 9223372036854775807

inductive Ca where
  | mk (con : Int) (is : Bool) (k : Int) (r : Int) (p : PHd) (ys : List Ca) 

def Ca.con : Ca → Int | .mk con is k r p ys => con
def Ca.is : Ca → Bool | .mk con is k r p ys => is
def Ca.k : Ca → Int | .mk con is k r p ys => k
def Ca.r : Ca → Int | .mk con is k r p ys => r
def Ca.p : Ca → PHd | .mk con is k r p ys => p
def Ca.ys : Ca → List Ca | .mk con is k r p ys => ys

/-- what a slice's header says. -/
def CaHd (A : Option Addr) (len cap : Nat) : Prop := len ≤ cap ∧ cap ≤ 9223372036854775807 ∧ len ≤ 1048576 ∧ (A = none → cap = 0)
mutual
/-- it lies in w from ⟨b, o⟩ on. -/
def Ca.At (w : World) : Ca → Nat → Nat → Prop
  | .mk con is k r p ys, b, o => ∃ (A : Option Addr) (cap : Nat), w.cell? ⟨b, o, none⟩ = some (.int .i64 con) ∧ w.cell? ⟨b, o + 1, none⟩ = some (.bool is) ∧ w.cell? ⟨b, o + 2, none⟩ = some (.int .i64 k) ∧ w.cell? ⟨b, o + 3, none⟩ = some (.int .i64 r) ∧ w.cell? ⟨b, o + 4, none⟩ = some (.slice p.A p.n p.c) ∧ w.cell? ⟨b, o + 5, none⟩ = some (.slice A ys.length cap) ∧
      CaHd A ys.length cap ∧ (ys = [] ∨ ∃ b' o', A = some ⟨b', o', none⟩ ∧ CaRow w ys b' o')
/-- so many, one behind the other. -/
def CaRow (w : World) : List Ca → Nat → Nat → Prop
  | [], _, _ => True
  | e :: r, b, o => e.At w b o ∧ CaRow w r b (o + 6)
end
/-- what a slice leads to. -/
def Cas (w : World) (A : Option Addr) (es : List Ca) : Prop := es = [] ∨ ∃ b o, A = some ⟨b, o, none⟩ ∧ CaRow w es b o
/-- a slice of them. -/
def Ca.Sl (w : World) (v : Value) (es : List Ca) : Prop := ∃ (A : Option Addr) (cap : Nat), v = .slice A es.length cap ∧ CaHd A es.length cap ∧ Cas w A es
/-- a value of it. -/
def Ca.Val (w : World) (v : Value) : Ca → Prop
  | .mk con is k r p ys => ∃ (A : Option Addr) (cap : Nat), v = .agg #[.int .i64 con, .bool is, .int .i64 k, .int .i64 r, .slice p.A p.n p.c, .slice A ys.length cap] ∧ CaHd A ys.length cap ∧ Cas w A ys


mutual
theorem Ca.At.below {w w' : World} {B : Nat} (hb : Below B w w') (hB : w.heap.size ≤ B) : ∀ (e : Ca) (b o : Nat), e.At w b o → e.At w' b o
  | .mk con is k r p ys, b, o, h => by
    rw [Ca.At] at h ⊢
    obtain ⟨A, cap, c0, c1, c2, c3, c4, c5, hh, hr⟩ := h
    refine ⟨A, cap, cellB hb hB c0, cellB hb hB c1, cellB hb hB c2, cellB hb hB c3, cellB hb hB c4, cellB hb hB c5, hh, ?_⟩
    rcases hr with h0 | ⟨b', o', h1, h2⟩
    · exact .inl h0
    · exact .inr ⟨b', o', h1, CaRow.below hb hB ys b' o' h2⟩
theorem CaRow.below {w w' : World} {B : Nat} (hb : Below B w w') (hB : w.heap.size ≤ B) : ∀ (es : List Ca) (b o : Nat), CaRow w es b o → CaRow w' es b o
  | [], _, _, _ => by rw [CaRow]; trivial
  | e :: r, b, o, h => by
    rw [CaRow] at h ⊢
    exact ⟨Ca.At.below hb hB e b o h.1, CaRow.below hb hB r b _ h.2⟩
end
theorem Cas.below {w w' : World} {B : Nat} {A : Option Addr} {es : List Ca} (h : Cas w A es) (hb : Below B w w') (hB : w.heap.size ≤ B) : Cas w' A es := by
  rcases h with h | ⟨b, o, h1, h2⟩
  · exact .inl h
  · exact .inr ⟨b, o, h1, CaRow.below hb hB _ _ _ h2⟩
theorem Ca.Sl.below {w w' : World} {B : Nat} {v : Value} {es : List Ca} (h : Ca.Sl w v es) (hb : Below B w w') (hB : w.heap.size ≤ B) : Ca.Sl w' v es := by
  obtain ⟨A, cap, h1, h2, h3⟩ := h
  exact ⟨A, cap, h1, h2, h3.below hb hB⟩
theorem Ca.Val.below {w w' : World} {B : Nat} {v : Value} {e : Ca} (h : e.Val w v) (hb : Below B w w') (hB : w.heap.size ≤ B) : e.Val w' v := by
  cases e
  obtain ⟨A, cap, h1, h2, h3⟩ := h
  exact ⟨A, cap, h1, h2, h3.below hb hB⟩
theorem CaRow.get {w : World} : ∀ {es : List Ca} {b o : Nat}, CaRow w es b o → ∀ (i : Nat) (h : i < es.length), (es[i]).At w b (o + i * 6)
  | [], _, _, _, i, h => by simp at h
  | e :: r, b, o, h, 0, _ => by
    rw [CaRow] at h
    simpa using h.1
  | e :: r, b, o, h, i + 1, hi => by
    rw [CaRow] at h
    have := CaRow.get h.2 i (by simpa using hi)
    rw [show o + (i + 1) * 6 = o + 6 + i * 6 by omega]
    exact this
/-- the i-th of a slice: its cells. -/
theorem Cas.get {w : World} {A : Option Addr} {es : List Ca} (h : Cas w A es) (i : Nat) (hi : i < es.length) : ∃ b o, A = some ⟨b, o, none⟩ ∧ (es[i]).At w b (o + i * 6) := by
  rcases h with rfl | ⟨b, o, h1, h2⟩
  · simp at hi
  · exact ⟨b, o, h1, h2.get i hi⟩
theorem CaRow.drop {w : World} : ∀ {es : List Ca} {b o : Nat}, CaRow w es b o → ∀ (i : Nat), i ≤ es.length → CaRow w (es.drop i) b (o + i * 6)
  | es, b, o, h, 0, _ => by simpa using h
  | [], _, _, _, i + 1, h => by simp at h
  | e :: r, b, o, h, i + 1, hi => by
    rw [CaRow] at h
    have := CaRow.drop h.2 i (by simpa using hi)
    rw [show o + (i + 1) * 6 = o + 6 + i * 6 by omega]
    exact this

mutual
def Ca.size : Ca → Nat
  | .mk con is k r p ys => CaSize ys + 1
def CaSize : List Ca → Nat
  | [] => 0
  | e :: r => e.size + CaSize r
end
theorem CaSize_len : ∀ es : List Ca, es.length ≤ CaSize es
  | [] => by simp
  | e :: r => by
    have := CaSize_len r
    cases e
    simp only [CaSize, Ca.size, List.length_cons]
    omega

theorem Ca.size_mk (con : Int) (is : Bool) (k : Int) (r : Int) (p : PHd) (ys : List Ca) : (Ca.mk con is k r p ys).size = CaSize ys + 1 := by rw [Ca.size]
theorem CaSize_get : ∀ {es : List Ca} {i : Nat} (h : i < es.length), (es[i]).size ≤ CaSize es
  | [], i, h => by simp at h
  | e :: r, 0, _ => by simp only [List.getElem_cons_zero, CaSize]; omega
  | e :: r, i + 1, h => by
    have := CaSize_get (es := r) (i := i) (by simpa using h)
    simp only [List.getElem_cons_succ, CaSize]; omega

theorem Ca.At.open_ {w : World} {b o : Nat} {con : Int} {is : Bool} {k : Int} {r : Int} {p : PHd} {ys : List Ca}  (h : (Ca.mk con is k r p ys).At w b o) :
    ∃ (A : Option Addr) (cap : Nat), w.cell? ⟨b, o, none⟩ = some (.int .i64 con) ∧ w.cell? ⟨b, o + 1, none⟩ = some (.bool is) ∧ w.cell? ⟨b, o + 2, none⟩ = some (.int .i64 k) ∧ w.cell? ⟨b, o + 3, none⟩ = some (.int .i64 r) ∧ w.cell? ⟨b, o + 4, none⟩ = some (.slice p.A p.n p.c) ∧ w.cell? ⟨b, o + 5, none⟩ = some (.slice A ys.length cap) ∧
      (Ca.mk con is k r p ys).Val w (.agg #[.int .i64 con, .bool is, .int .i64 k, .int .i64 r, .slice p.A p.n p.c, .slice A ys.length cap]) := by
  rw [Ca.At] at h
  obtain ⟨A, cap, c0, c1, c2, c3, c4, c5, hh, hr⟩ := h
  exact ⟨A, cap, c0, c1, c2, c3, c4, c5, A, cap, rfl, hh, hr⟩
/-- its cells in a later world; the value in the elder one. -/
theorem Ca.At.both {w w' : World} {B b o : Nat} {con : Int} {is : Bool} {k : Int} {r : Int} {p : PHd} {ys : List Ca}  (h : (Ca.mk con is k r p ys).At w b o) (hb : Below B w w') (hB : w.heap.size ≤ B) :
    ∃ (A : Option Addr) (cap : Nat), w'.cell? ⟨b, o, none⟩ = some (.int .i64 con) ∧ w'.cell? ⟨b, o + 1, none⟩ = some (.bool is) ∧ w'.cell? ⟨b, o + 2, none⟩ = some (.int .i64 k) ∧ w'.cell? ⟨b, o + 3, none⟩ = some (.int .i64 r) ∧ w'.cell? ⟨b, o + 4, none⟩ = some (.slice p.A p.n p.c) ∧ w'.cell? ⟨b, o + 5, none⟩ = some (.slice A ys.length cap) ∧
      (Ca.mk con is k r p ys).Val w (.agg #[.int .i64 con, .bool is, .int .i64 k, .int .i64 r, .slice p.A p.n p.c, .slice A ys.length cap]) := by
  rw [Ca.At] at h
  obtain ⟨A, cap, c0, c1, c2, c3, c4, c5, hh, hr⟩ := h
  exact ⟨A, cap, cellB hb hB c0, cellB hb hB c1, cellB hb hB c2, cellB hb hB c3, cellB hb hB c4, cellB hb hB c5, A, cap, rfl, hh, hr⟩
theorem Ca.Val.alloc {w : World} {v : Value} {e : Ca} (h : e.Val w v) (o : Obj) : e.Val (w.alloc o) v := h.below ((Below.refl _ _).alloc (Nat.le_refl _) o) (Nat.le_refl _)
theorem Ca.Sl.alloc {w : World} {v : Value} {es : List Ca} (h : Ca.Sl w v es) (o : Obj) : Ca.Sl (w.alloc o) v es := h.below ((Below.refl _ _).alloc (Nat.le_refl _) o) (Nat.le_refl _)
theorem Cas.alloc {w : World} {A : Option Addr} {es : List Ca} (h : Cas w A es) (o : Obj) : Cas (w.alloc o) A es := h.below ((Below.refl _ _).alloc (Nat.le_refl _) o) (Nat.le_refl _)
theorem Ca.Val.drewN {w : World} {v : Value} {e : Ca} (h : e.Val w v) (n : Nat) : e.Val (w.drewN n) v := h.below (below_drewN (Below.refl _ _) n) (Nat.le_refl _)
theorem Ca.Sl.drewN {w : World} {v : Value} {es : List Ca} (h : Ca.Sl w v es) (n : Nat) : Ca.Sl (w.drewN n) v es := h.below (below_drewN (Below.refl _ _) n) (Nat.le_refl _)
theorem Cas.drewN {w : World} {A : Option Addr} {es : List Ca} (h : Cas w A es) (n : Nat) : Cas (w.drewN n) A es := h.below (below_drewN (Below.refl _ _) n) (Nat.le_refl _)
theorem CaSize_take {ys : List Ca} {j : Nat} (h : j < ys.length) : CaSize (ys.take (j + 1)) = CaSize (ys.take j) + (ys[j]).size := by
  induction ys generalizing j with
  | nil => simp at h
  | cons y r ih =>
    cases j with
    | zero => simp [CaSize]
    | succ j =>
      simp only [List.take_succ_cons, CaSize, List.getElem_cons_succ]
      rw [ih (by simpa using h)]
      omega
theorem CaSize_take_le {ys : List Ca} {j : Nat} : CaSize (ys.take j) ≤ CaSize ys := by
  induction ys generalizing j with
  | nil => simp
  | cons y r ih =>
    cases j with
    | zero => simp [CaSize]
    | succ j =>
      simp only [List.take_succ_cons, CaSize]
      have := ih (j := j)
      omega

/-- the cells of a value of it. -/
def Ca.Cs (w : World) : Ca → List Value → Prop
  | .mk con is k r p ys, cs => ∃ (A : Option Addr) (cap : Nat), cs = [.int .i64 con, .bool is, .int .i64 k, .int .i64 r, .slice p.A p.n p.c, .slice A ys.length cap] ∧ CaHd A ys.length cap ∧ Cas w A ys
def CaCells (w : World) : List Ca → List Value → Prop
  | [], xs => xs = []
  | e :: r, xs => ∃ c rest, xs = c ++ rest ∧ e.Cs w c ∧ CaCells w r rest
theorem Ca.Cs.len {w : World} {e : Ca} {c : List Value} (h : e.Cs w c) : c.length = 6 := by
  cases e
  obtain ⟨A, cap, rfl, _⟩ := h
  rfl
theorem Ca.Cs.one {w : World} {e : Ca} {c : List Value} (h : e.Cs w c) : ∀ u ∈ c, u.oneCell' = true := by
  cases e
  obtain ⟨A, cap, rfl, _⟩ := h
  intro u hu
  simp at hu
  rcases hu with rfl | rfl | rfl | rfl | rfl | rfl <;> rfl
theorem Ca.Cs.below {w w' : World} {B : Nat} {e : Ca} {c : List Value} (h : e.Cs w c) (hb : Below B w w') (hB : w.heap.size ≤ B) : e.Cs w' c := by
  cases e
  obtain ⟨A, cap, h1, h2, h3⟩ := h
  exact ⟨A, cap, h1, h2, h3.below hb hB⟩
theorem Ca.Val.cs {w : World} {e : Ca} {v : Value} (h : e.Val w v) : ∃ c, v = .agg c.toArray ∧ e.Cs w c := by
  cases e
  obtain ⟨A, cap, rfl, h2, h3⟩ := h
  exact ⟨_, rfl, A, cap, rfl, h2, h3⟩
theorem Ca.Cs.val {w : World} {e : Ca} {c : List Value} (h : e.Cs w c) : e.Val w (.agg c.toArray) := by
  cases e
  obtain ⟨A, cap, rfl, h2, h3⟩ := h
  exact ⟨A, cap, rfl, h2, h3⟩
theorem CaCells.len {w : World} : ∀ {es : List Ca} {xs : List Value}, CaCells w es xs → xs.length = es.length * 6
  | [], xs, h => by rw [CaCells] at h; subst h; simp
  | e :: r, xs, h => by
    rw [CaCells] at h
    obtain ⟨c, rest, rfl, h1, h2⟩ := h
    rw [List.length_append, h1.len, h2.len, List.length_cons]; omega
theorem CaCells.one {w : World} : ∀ {es : List Ca} {xs : List Value}, CaCells w es xs → ∀ u ∈ xs, u.oneCell' = true
  | [], xs, h => by rw [CaCells] at h; subst h; simp
  | e :: r, xs, h => by
    rw [CaCells] at h
    obtain ⟨c, rest, rfl, h1, h2⟩ := h
    intro u hu
    rcases List.mem_append.1 hu with hu | hu
    · exact h1.one u hu
    · exact h2.one u hu
theorem CaCells.below {w w' : World} {B : Nat} (hb : Below B w w') (hB : w.heap.size ≤ B) : ∀ {es : List Ca} {xs : List Value}, CaCells w es xs → CaCells w' es xs
  | [], xs, h => by rw [CaCells] at h ⊢; exact h
  | e :: r, xs, h => by
    rw [CaCells] at h ⊢
    obtain ⟨c, rest, h0, h1, h2⟩ := h
    exact ⟨c, rest, h0, h1.below hb hB, h2.below hb hB⟩
theorem CaCells.append {w : World} : ∀ {es fs : List Ca} {xs zs : List Value}, CaCells w es xs → CaCells w fs zs → CaCells w (es ++ fs) (xs ++ zs)
  | [], fs, xs, zs, h, g => by rw [CaCells] at h; subst h; exact g
  | e :: r, fs, xs, zs, h, g => by
    rw [CaCells] at h
    obtain ⟨c, rest, rfl, h1, h2⟩ := h
    rw [List.cons_append, CaCells]
    exact ⟨c, rest ++ zs, by rw [List.append_assoc], h1, h2.append g⟩
theorem CaCells.single {w : World} {e : Ca} {c : List Value} (h : e.Cs w c) : CaCells w [e] c := by
  rw [CaCells]
  exact ⟨c, [], by simp, h, by rw [CaCells]⟩
theorem CaRow.cells {w : World} {b : Nat} : ∀ {es : List Ca} {o : Nat}, CaRow w es b o → ∃ xs, (∀ j u, xs[j]? = some u → w.cell? ⟨b, o + j, none⟩ = some u) ∧ CaCells w es xs
  | [], o, _ => ⟨[], by simp, by rw [CaCells]⟩
  | e :: r, o, h => by
    rw [CaRow] at h
    obtain ⟨h1, h2⟩ := h
    obtain ⟨xs, g1, g2⟩ := CaRow.cells h2
    cases e with
    | mk con is k r p ys =>
    rw [Ca.At] at h1
    obtain ⟨A, cap, c0, c1, c2, c3, c4, c5, hh, hr⟩ := h1
    refine ⟨[.int .i64 con, .bool is, .int .i64 k, .int .i64 r, .slice p.A p.n p.c, .slice A ys.length cap] ++ xs, ?_, by rw [CaCells]; exact ⟨_, xs, rfl, ⟨A, cap, rfl, hh, hr⟩, g2⟩⟩
    intro j u hu
    match j, hu with
    | 0, hu => simp at hu; subst hu; exact c0
    | 1, hu => simp at hu; subst hu; exact c1
    | 2, hu => simp at hu; subst hu; exact c2
    | 3, hu => simp at hu; subst hu; exact c3
    | 4, hu => simp at hu; subst hu; exact c4
    | 5, hu => simp at hu; subst hu; exact c5
    | j + 6, hu =>
      have := g1 j u (by simpa using hu)
      rw [show o + (j + 6) = o + 6 + j by omega]
      exact this
theorem CaCells.row {w : World} {b : Nat} : ∀ {es : List Ca} {xs : List Value} {o : Nat}, CaCells w es xs → (∀ j u, xs[j]? = some u → w.cell? ⟨b, o + j, none⟩ = some u) → CaRow w es b o
  | [], _, _, _, _ => by rw [CaRow]; trivial
  | e :: r, xs, o, h, hc => by
    rw [CaCells] at h
    obtain ⟨c, rest, rfl, h1, h2⟩ := h
    have hlen := h1.len
    rw [CaRow]
    refine ⟨?_, h2.row fun j u hu => ?_⟩
    · cases e with
      | mk con is k r p ys =>
      obtain ⟨A, cap, rfl, hh, hr⟩ := h1
      rw [Ca.At]
      exact ⟨A, cap, hc 0 _ rfl, hc 1 _ rfl, hc 2 _ rfl, hc 3 _ rfl, hc 4 _ rfl, hc 5 _ rfl, hh, hr⟩
    · have := hc (j + 6) u (by rw [List.getElem?_append_right (by omega), hlen]; simpa using hu)
      rw [show o + (j + 6) = o + 6 + j by omega] at this
      exact this
/-- a slice's cells. -/
theorem Cas.cells {w : World} {A : Option Addr} {es : List Ca} (h : Cas w A es) : ∃ xs, Src w 6 A es.length xs ∧ CaCells w es xs := by
  rcases h with rfl | ⟨b, o, rfl, h⟩
  · exact ⟨[], ⟨by simp, .inl rfl⟩, by rw [CaCells]⟩
  · obtain ⟨xs, h1, h2⟩ := h.cells
    exact ⟨xs, ⟨h2.len, .inr ⟨b, o, rfl, h1⟩⟩, h2⟩
theorem Cas.of_src {w : World} {A : Option Addr} {es : List Ca} {xs : List Value} (h : Src w 6 A es.length xs) (hc : CaCells w es xs) : Cas w A es := by
  rcases h.2 with h0 | ⟨b, o, rfl, h1⟩
  · exact .inl (List.eq_nil_of_length_eq_zero h0)
  · exact .inr ⟨b, o, rfl, hc.row h1⟩
theorem Ca.Sl.of_own {w : World} {base e : Nat} {v : Value} {es : List Ca} {xs : List Value} (h : w.ownsRow base e 6 v es.length xs) (hc : CaCells w es xs) (hm : es.length ≤ 1048576) : Ca.Sl w v es := by
  obtain ⟨A, cap, rfl, h1, h2⟩ := own_form h
  exact ⟨A, cap, rfl, ⟨h1, h2, hm, own_cap h⟩, Cas.of_src (Src.of_own h) hc⟩
mutual
/-- it, and what is in it. -/
def Ca.flat : Ca → List Ca
  | .mk con is k r p ys => .mk con is k r p ys :: CaFlats ys
def CaFlats : List Ca → List Ca
  | [] => []
  | e :: r => e.flat ++ CaFlats r
end
mutual
theorem Ca.flat_len : ∀ e : Ca, e.flat.length = e.size
  | .mk con is k r p ys => by rw [Ca.flat, Ca.size, List.length_cons, CaFlats_len ys]
theorem CaFlats_len : ∀ es : List Ca, (CaFlats es).length = CaSize es
  | [] => by rw [CaFlats, CaSize]; rfl
  | e :: r => by rw [CaFlats, CaSize, List.length_append, e.flat_len, CaFlats_len r]
end
theorem CaFlats_take {ys : List Ca} {j : Nat} (h : j < ys.length) : CaFlats (ys.take (j + 1)) = CaFlats (ys.take j) ++ (ys[j]).flat := by
  induction ys generalizing j with
  | nil => simp at h
  | cons y r ih =>
    cases j with
    | zero => simp [CaFlats]
    | succ j =>
      simp only [List.take_succ_cons, CaFlats, List.getElem_cons_succ]
      rw [ih (by simpa using h), List.append_assoc]

end Go.Proofs.Ytkcgbakjpodmeaa.Data
