/- The data of type Co: how a value of it lies in memory. -/
import Derived.Test.YtkcgbakjpodmeaaApp
namespace Go.Proofs.Ytkcgbakjpodmeaa.Data
open Go.ChangeShapes Go.WideShapes Go.ChangeAt Go.RowKit Go.Proofs.Ytkcgbakjpodmeaa.Lift
set_option linter.unusedVariables false
set_option linter.unusedSimpArgs false

inductive Co where
  | mk (k : Int) (n : Int) (ys : List Co) 

def Co.k : Co → Int | .mk k n ys => k
def Co.n : Co → Int | .mk k n ys => n
def Co.ys : Co → List Co | .mk k n ys => ys

/-- what a slice's header says. -/
def CoHd (A : Option Addr) (len cap : Nat) : Prop := len ≤ cap ∧ cap ≤ 9223372036854775807 ∧ len ≤ 1048576 ∧ (A = none → cap = 0)
mutual
/-- it lies in w from ⟨b, o⟩ on. -/
def Co.At (w : World) : Co → Nat → Nat → Prop
  | .mk k n ys, b, o => ∃ (A : Option Addr) (cap : Nat), w.cell? ⟨b, o, none⟩ = some (.int .i64 k) ∧ w.cell? ⟨b, o + 1, none⟩ = some (.int .i64 n) ∧ w.cell? ⟨b, o + 2, none⟩ = some (.slice A ys.length cap) ∧
      CoHd A ys.length cap ∧ (ys = [] ∨ ∃ b' o', A = some ⟨b', o', none⟩ ∧ CoRow w ys b' o')
/-- so many, one behind the other. -/
def CoRow (w : World) : List Co → Nat → Nat → Prop
  | [], _, _ => True
  | e :: r, b, o => e.At w b o ∧ CoRow w r b (o + 3)
end
/-- what a slice leads to. -/
def Cos (w : World) (A : Option Addr) (es : List Co) : Prop := es = [] ∨ ∃ b o, A = some ⟨b, o, none⟩ ∧ CoRow w es b o
/-- a slice of them. -/
def Co.Sl (w : World) (v : Value) (es : List Co) : Prop := ∃ (A : Option Addr) (cap : Nat), v = .slice A es.length cap ∧ CoHd A es.length cap ∧ Cos w A es
/-- a value of it. -/
def Co.Val (w : World) (v : Value) : Co → Prop
  | .mk k n ys => ∃ (A : Option Addr) (cap : Nat), v = .agg #[.int .i64 k, .int .i64 n, .slice A ys.length cap] ∧ CoHd A ys.length cap ∧ Cos w A ys

theorem cellB {w w' : World} {B b o : Nat} {v : Value} (hb : Below B w w') (hB : w.heap.size ≤ B) (h : w.cell? ⟨b, o, none⟩ = some v) : w'.cell? ⟨b, o, none⟩ = some v :=
  (hb.cell (p := ⟨b, o, none⟩) (Nat.lt_of_lt_of_le (World.block_lt_of_cell? w _ h) hB)).trans h
mutual
theorem Co.At.below {w w' : World} {B : Nat} (hb : Below B w w') (hB : w.heap.size ≤ B) : ∀ (e : Co) (b o : Nat), e.At w b o → e.At w' b o
  | .mk k n ys, b, o, h => by
    rw [Co.At] at h ⊢
    obtain ⟨A, cap, c0, c1, c2, hh, hr⟩ := h
    refine ⟨A, cap, cellB hb hB c0, cellB hb hB c1, cellB hb hB c2, hh, ?_⟩
    rcases hr with h0 | ⟨b', o', h1, h2⟩
    · exact .inl h0
    · exact .inr ⟨b', o', h1, CoRow.below hb hB ys b' o' h2⟩
theorem CoRow.below {w w' : World} {B : Nat} (hb : Below B w w') (hB : w.heap.size ≤ B) : ∀ (es : List Co) (b o : Nat), CoRow w es b o → CoRow w' es b o
  | [], _, _, _ => by rw [CoRow]; trivial
  | e :: r, b, o, h => by
    rw [CoRow] at h ⊢
    exact ⟨Co.At.below hb hB e b o h.1, CoRow.below hb hB r b _ h.2⟩
end
theorem Cos.below {w w' : World} {B : Nat} {A : Option Addr} {es : List Co} (h : Cos w A es) (hb : Below B w w') (hB : w.heap.size ≤ B) : Cos w' A es := by
  rcases h with h | ⟨b, o, h1, h2⟩
  · exact .inl h
  · exact .inr ⟨b, o, h1, CoRow.below hb hB _ _ _ h2⟩
theorem Co.Sl.below {w w' : World} {B : Nat} {v : Value} {es : List Co} (h : Co.Sl w v es) (hb : Below B w w') (hB : w.heap.size ≤ B) : Co.Sl w' v es := by
  obtain ⟨A, cap, h1, h2, h3⟩ := h
  exact ⟨A, cap, h1, h2, h3.below hb hB⟩
theorem Co.Val.below {w w' : World} {B : Nat} {v : Value} {e : Co} (h : e.Val w v) (hb : Below B w w') (hB : w.heap.size ≤ B) : e.Val w' v := by
  cases e
  obtain ⟨A, cap, h1, h2, h3⟩ := h
  exact ⟨A, cap, h1, h2, h3.below hb hB⟩
theorem CoRow.get {w : World} : ∀ {es : List Co} {b o : Nat}, CoRow w es b o → ∀ (i : Nat) (h : i < es.length), (es[i]).At w b (o + i * 3)
  | [], _, _, _, i, h => by simp at h
  | e :: r, b, o, h, 0, _ => by
    rw [CoRow] at h
    simpa using h.1
  | e :: r, b, o, h, i + 1, hi => by
    rw [CoRow] at h
    have := CoRow.get h.2 i (by simpa using hi)
    rw [show o + (i + 1) * 3 = o + 3 + i * 3 by omega]
    exact this
/-- the i-th of a slice: its cells. -/
theorem Cos.get {w : World} {A : Option Addr} {es : List Co} (h : Cos w A es) (i : Nat) (hi : i < es.length) : ∃ b o, A = some ⟨b, o, none⟩ ∧ (es[i]).At w b (o + i * 3) := by
  rcases h with rfl | ⟨b, o, h1, h2⟩
  · simp at hi
  · exact ⟨b, o, h1, h2.get i hi⟩
theorem CoRow.drop {w : World} : ∀ {es : List Co} {b o : Nat}, CoRow w es b o → ∀ (i : Nat), i ≤ es.length → CoRow w (es.drop i) b (o + i * 3)
  | es, b, o, h, 0, _ => by simpa using h
  | [], _, _, _, i + 1, h => by simp at h
  | e :: r, b, o, h, i + 1, hi => by
    rw [CoRow] at h
    have := CoRow.drop h.2 i (by simpa using hi)
    rw [show o + (i + 1) * 3 = o + 3 + i * 3 by omega]
    exact this

mutual
def Co.size : Co → Nat
  | .mk k n ys => CoSize ys + 1
def CoSize : List Co → Nat
  | [] => 0
  | e :: r => e.size + CoSize r
end
theorem CoSize_len : ∀ es : List Co, es.length ≤ CoSize es
  | [] => by simp
  | e :: r => by
    have := CoSize_len r
    cases e
    simp only [CoSize, Co.size, List.length_cons]
    omega

theorem Co.size_mk (k : Int) (n : Int) (ys : List Co) : (Co.mk k n ys).size = CoSize ys + 1 := by rw [Co.size]
theorem CoSize_get : ∀ {es : List Co} {i : Nat} (h : i < es.length), (es[i]).size ≤ CoSize es
  | [], i, h => by simp at h
  | e :: r, 0, _ => by simp only [List.getElem_cons_zero, CoSize]; omega
  | e :: r, i + 1, h => by
    have := CoSize_get (es := r) (i := i) (by simpa using h)
    simp only [List.getElem_cons_succ, CoSize]; omega

theorem Co.At.open_ {w : World} {b o : Nat} {k : Int} {n : Int} {ys : List Co}  (h : (Co.mk k n ys).At w b o) :
    ∃ (A : Option Addr) (cap : Nat), w.cell? ⟨b, o, none⟩ = some (.int .i64 k) ∧ w.cell? ⟨b, o + 1, none⟩ = some (.int .i64 n) ∧ w.cell? ⟨b, o + 2, none⟩ = some (.slice A ys.length cap) ∧
      (Co.mk k n ys).Val w (.agg #[.int .i64 k, .int .i64 n, .slice A ys.length cap]) := by
  rw [Co.At] at h
  obtain ⟨A, cap, c0, c1, c2, hh, hr⟩ := h
  exact ⟨A, cap, c0, c1, c2, A, cap, rfl, hh, hr⟩
/-- its cells in a later world; the value in the elder one. -/
theorem Co.At.both {w w' : World} {B b o : Nat} {k : Int} {n : Int} {ys : List Co}  (h : (Co.mk k n ys).At w b o) (hb : Below B w w') (hB : w.heap.size ≤ B) :
    ∃ (A : Option Addr) (cap : Nat), w'.cell? ⟨b, o, none⟩ = some (.int .i64 k) ∧ w'.cell? ⟨b, o + 1, none⟩ = some (.int .i64 n) ∧ w'.cell? ⟨b, o + 2, none⟩ = some (.slice A ys.length cap) ∧
      (Co.mk k n ys).Val w (.agg #[.int .i64 k, .int .i64 n, .slice A ys.length cap]) := by
  rw [Co.At] at h
  obtain ⟨A, cap, c0, c1, c2, hh, hr⟩ := h
  exact ⟨A, cap, cellB hb hB c0, cellB hb hB c1, cellB hb hB c2, A, cap, rfl, hh, hr⟩
theorem Co.Val.alloc {w : World} {v : Value} {e : Co} (h : e.Val w v) (o : Obj) : e.Val (w.alloc o) v := h.below ((Below.refl _ _).alloc (Nat.le_refl _) o) (Nat.le_refl _)
theorem Co.Sl.alloc {w : World} {v : Value} {es : List Co} (h : Co.Sl w v es) (o : Obj) : Co.Sl (w.alloc o) v es := h.below ((Below.refl _ _).alloc (Nat.le_refl _) o) (Nat.le_refl _)
theorem Cos.alloc {w : World} {A : Option Addr} {es : List Co} (h : Cos w A es) (o : Obj) : Cos (w.alloc o) A es := h.below ((Below.refl _ _).alloc (Nat.le_refl _) o) (Nat.le_refl _)
theorem Co.Val.drewN {w : World} {v : Value} {e : Co} (h : e.Val w v) (n : Nat) : e.Val (w.drewN n) v := h.below (below_drewN (Below.refl _ _) n) (Nat.le_refl _)
theorem Co.Sl.drewN {w : World} {v : Value} {es : List Co} (h : Co.Sl w v es) (n : Nat) : Co.Sl (w.drewN n) v es := h.below (below_drewN (Below.refl _ _) n) (Nat.le_refl _)
theorem Cos.drewN {w : World} {A : Option Addr} {es : List Co} (h : Cos w A es) (n : Nat) : Cos (w.drewN n) A es := h.below (below_drewN (Below.refl _ _) n) (Nat.le_refl _)
theorem CoSize_take {ys : List Co} {j : Nat} (h : j < ys.length) : CoSize (ys.take (j + 1)) = CoSize (ys.take j) + (ys[j]).size := by
  induction ys generalizing j with
  | nil => simp at h
  | cons y r ih =>
    cases j with
    | zero => simp [CoSize]
    | succ j =>
      simp only [List.take_succ_cons, CoSize, List.getElem_cons_succ]
      rw [ih (by simpa using h)]
      omega
theorem CoSize_take_le {ys : List Co} {j : Nat} : CoSize (ys.take j) ≤ CoSize ys := by
  induction ys generalizing j with
  | nil => simp
  | cons y r ih =>
    cases j with
    | zero => simp [CoSize]
    | succ j =>
      simp only [List.take_succ_cons, CoSize]
      have := ih (j := j)
      omega

/-- the cells of a value of it. -/
def Co.Cs (w : World) : Co → List Value → Prop
  | .mk k n ys, cs => ∃ (A : Option Addr) (cap : Nat), cs = [.int .i64 k, .int .i64 n, .slice A ys.length cap] ∧ CoHd A ys.length cap ∧ Cos w A ys
def CoCells (w : World) : List Co → List Value → Prop
  | [], xs => xs = []
  | e :: r, xs => ∃ c rest, xs = c ++ rest ∧ e.Cs w c ∧ CoCells w r rest
theorem Co.Cs.len {w : World} {e : Co} {c : List Value} (h : e.Cs w c) : c.length = 3 := by
  cases e
  obtain ⟨A, cap, rfl, _⟩ := h
  rfl
theorem Co.Cs.one {w : World} {e : Co} {c : List Value} (h : e.Cs w c) : ∀ u ∈ c, u.oneCell' = true := by
  cases e
  obtain ⟨A, cap, rfl, _⟩ := h
  intro u hu
  simp at hu
  rcases hu with rfl | rfl | rfl <;> rfl
theorem Co.Cs.below {w w' : World} {B : Nat} {e : Co} {c : List Value} (h : e.Cs w c) (hb : Below B w w') (hB : w.heap.size ≤ B) : e.Cs w' c := by
  cases e
  obtain ⟨A, cap, h1, h2, h3⟩ := h
  exact ⟨A, cap, h1, h2, h3.below hb hB⟩
theorem Co.Val.cs {w : World} {e : Co} {v : Value} (h : e.Val w v) : ∃ c, v = .agg c.toArray ∧ e.Cs w c := by
  cases e
  obtain ⟨A, cap, rfl, h2, h3⟩ := h
  exact ⟨_, rfl, A, cap, rfl, h2, h3⟩
theorem Co.Cs.val {w : World} {e : Co} {c : List Value} (h : e.Cs w c) : e.Val w (.agg c.toArray) := by
  cases e
  obtain ⟨A, cap, rfl, h2, h3⟩ := h
  exact ⟨A, cap, rfl, h2, h3⟩
theorem CoCells.len {w : World} : ∀ {es : List Co} {xs : List Value}, CoCells w es xs → xs.length = es.length * 3
  | [], xs, h => by rw [CoCells] at h; subst h; simp
  | e :: r, xs, h => by
    rw [CoCells] at h
    obtain ⟨c, rest, rfl, h1, h2⟩ := h
    rw [List.length_append, h1.len, h2.len, List.length_cons]; omega
theorem CoCells.one {w : World} : ∀ {es : List Co} {xs : List Value}, CoCells w es xs → ∀ u ∈ xs, u.oneCell' = true
  | [], xs, h => by rw [CoCells] at h; subst h; simp
  | e :: r, xs, h => by
    rw [CoCells] at h
    obtain ⟨c, rest, rfl, h1, h2⟩ := h
    intro u hu
    rcases List.mem_append.1 hu with hu | hu
    · exact h1.one u hu
    · exact h2.one u hu
theorem CoCells.below {w w' : World} {B : Nat} (hb : Below B w w') (hB : w.heap.size ≤ B) : ∀ {es : List Co} {xs : List Value}, CoCells w es xs → CoCells w' es xs
  | [], xs, h => by rw [CoCells] at h ⊢; exact h
  | e :: r, xs, h => by
    rw [CoCells] at h ⊢
    obtain ⟨c, rest, h0, h1, h2⟩ := h
    exact ⟨c, rest, h0, h1.below hb hB, h2.below hb hB⟩
theorem CoCells.append {w : World} : ∀ {es fs : List Co} {xs zs : List Value}, CoCells w es xs → CoCells w fs zs → CoCells w (es ++ fs) (xs ++ zs)
  | [], fs, xs, zs, h, g => by rw [CoCells] at h; subst h; exact g
  | e :: r, fs, xs, zs, h, g => by
    rw [CoCells] at h
    obtain ⟨c, rest, rfl, h1, h2⟩ := h
    rw [List.cons_append, CoCells]
    exact ⟨c, rest ++ zs, by rw [List.append_assoc], h1, h2.append g⟩
theorem CoCells.single {w : World} {e : Co} {c : List Value} (h : e.Cs w c) : CoCells w [e] c := by
  rw [CoCells]
  exact ⟨c, [], by simp, h, by rw [CoCells]⟩
theorem CoRow.cells {w : World} {b : Nat} : ∀ {es : List Co} {o : Nat}, CoRow w es b o → ∃ xs, (∀ j u, xs[j]? = some u → w.cell? ⟨b, o + j, none⟩ = some u) ∧ CoCells w es xs
  | [], o, _ => ⟨[], by simp, by rw [CoCells]⟩
  | e :: r, o, h => by
    rw [CoRow] at h
    obtain ⟨h1, h2⟩ := h
    obtain ⟨xs, g1, g2⟩ := CoRow.cells h2
    cases e with
    | mk k n ys =>
    rw [Co.At] at h1
    obtain ⟨A, cap, c0, c1, c2, hh, hr⟩ := h1
    refine ⟨[.int .i64 k, .int .i64 n, .slice A ys.length cap] ++ xs, ?_, by rw [CoCells]; exact ⟨_, xs, rfl, ⟨A, cap, rfl, hh, hr⟩, g2⟩⟩
    intro j u hu
    match j, hu with
    | 0, hu => simp at hu; subst hu; exact c0
    | 1, hu => simp at hu; subst hu; exact c1
    | 2, hu => simp at hu; subst hu; exact c2
    | j + 3, hu =>
      have := g1 j u (by simpa using hu)
      rw [show o + (j + 3) = o + 3 + j by omega]
      exact this
theorem CoCells.row {w : World} {b : Nat} : ∀ {es : List Co} {xs : List Value} {o : Nat}, CoCells w es xs → (∀ j u, xs[j]? = some u → w.cell? ⟨b, o + j, none⟩ = some u) → CoRow w es b o
  | [], _, _, _, _ => by rw [CoRow]; trivial
  | e :: r, xs, o, h, hc => by
    rw [CoCells] at h
    obtain ⟨c, rest, rfl, h1, h2⟩ := h
    have hlen := h1.len
    rw [CoRow]
    refine ⟨?_, h2.row fun j u hu => ?_⟩
    · cases e with
      | mk k n ys =>
      obtain ⟨A, cap, rfl, hh, hr⟩ := h1
      rw [Co.At]
      exact ⟨A, cap, hc 0 _ rfl, hc 1 _ rfl, hc 2 _ rfl, hh, hr⟩
    · have := hc (j + 3) u (by rw [List.getElem?_append_right (by omega), hlen]; simpa using hu)
      rw [show o + (j + 3) = o + 3 + j by omega] at this
      exact this
/-- a slice's cells. -/
theorem Cos.cells {w : World} {A : Option Addr} {es : List Co} (h : Cos w A es) : ∃ xs, Src w 3 A es.length xs ∧ CoCells w es xs := by
  rcases h with rfl | ⟨b, o, rfl, h⟩
  · exact ⟨[], ⟨by simp, .inl rfl⟩, by rw [CoCells]⟩
  · obtain ⟨xs, h1, h2⟩ := h.cells
    exact ⟨xs, ⟨h2.len, .inr ⟨b, o, rfl, h1⟩⟩, h2⟩
theorem Cos.of_src {w : World} {A : Option Addr} {es : List Co} {xs : List Value} (h : Src w 3 A es.length xs) (hc : CoCells w es xs) : Cos w A es := by
  rcases h.2 with h0 | ⟨b, o, rfl, h1⟩
  · exact .inl (List.eq_nil_of_length_eq_zero h0)
  · exact .inr ⟨b, o, rfl, hc.row h1⟩
theorem Co.Sl.of_own {w : World} {base e : Nat} {v : Value} {es : List Co} {xs : List Value} (h : w.ownsRow base e 3 v es.length xs) (hc : CoCells w es xs) (hm : es.length ≤ 1048576) : Co.Sl w v es := by
  obtain ⟨A, cap, rfl, h1, h2⟩ := own_form h
  exact ⟨A, cap, rfl, ⟨h1, h2, hm, own_cap h⟩, Cos.of_src (Src.of_own h) hc⟩
mutual
/-- it, and what is in it. -/
def Co.flat : Co → List Co
  | .mk k n ys => .mk k n ys :: CoFlats ys
def CoFlats : List Co → List Co
  | [] => []
  | e :: r => e.flat ++ CoFlats r
end
mutual
theorem Co.flat_len : ∀ e : Co, e.flat.length = e.size
  | .mk k n ys => by rw [Co.flat, Co.size, List.length_cons, CoFlats_len ys]
theorem CoFlats_len : ∀ es : List Co, (CoFlats es).length = CoSize es
  | [] => by rw [CoFlats, CoSize]; rfl
  | e :: r => by rw [CoFlats, CoSize, List.length_append, e.flat_len, CoFlats_len r]
end
theorem CoFlats_take {ys : List Co} {j : Nat} (h : j < ys.length) : CoFlats (ys.take (j + 1)) = CoFlats (ys.take j) ++ (ys[j]).flat := by
  induction ys generalizing j with
  | nil => simp at h
  | cons y r ih =>
    cases j with
    | zero => simp [CoFlats]
    | succ j =>
      simp only [List.take_succ_cons, CoFlats, List.getElem_cons_succ]
      rw [ih (by simpa using h), List.append_assoc]

end Go.Proofs.Ytkcgbakjpodmeaa.Data
