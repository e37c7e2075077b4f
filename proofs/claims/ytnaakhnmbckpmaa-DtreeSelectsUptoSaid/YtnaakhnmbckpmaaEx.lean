/- The data of type Ex: how a value of it lies in memory. -/
import Derived.Test.YtnaakhnmbckpmaaApp
namespace Go.Proofs.Ytnaakhnmbckpmaa.Data
open Go.ChangeShapes Go.WideShapes Go.ChangeAt Go.RowKit Go.Proofs.Ytnaakhnmbckpmaa.Lift
set_option linter.unusedVariables false
set_option linter.unusedSimpArgs false

inductive Ex where
  | mk (k : Int) (s : ByteArray) (n : Int) (ys : List Ex) (l : Int) (c : Int)

def Ex.k : Ex → Int | .mk k s n ys l c => k
def Ex.s : Ex → ByteArray | .mk k s n ys l c => s
def Ex.n : Ex → Int | .mk k s n ys l c => n
def Ex.ys : Ex → List Ex | .mk k s n ys l c => ys
def Ex.l : Ex → Int | .mk k s n ys l c => l
def Ex.c : Ex → Int | .mk k s n ys l c => c

/-- what a slice's header says. -/
def ExHd (A : Option Addr) (len cap : Nat) : Prop := len ≤ cap ∧ cap ≤ 9223372036854775807 ∧ len ≤ 1048576 ∧ (A = none → cap = 0)
mutual
/-- it lies in w from ⟨b, o⟩ on. -/
def Ex.At (w : World) : Ex → Nat → Nat → Prop
  | .mk k s n ys l c, b, o => ∃ (A : Option Addr) (cap : Nat), w.cell? ⟨b, o, none⟩ = some (.int .i64 k) ∧ w.cell? ⟨b, o + 1, none⟩ = some (.string s) ∧ w.cell? ⟨b, o + 2, none⟩ = some (.int .i64 n) ∧ w.cell? ⟨b, o + 3, none⟩ = some (.slice A ys.length cap) ∧ w.cell? ⟨b, o + 4, none⟩ = some (.int .i64 l) ∧ w.cell? ⟨b, o + 5, none⟩ = some (.int .i64 c) ∧
      ExHd A ys.length cap ∧ (ys = [] ∨ ∃ b' o', A = some ⟨b', o', none⟩ ∧ ExRow w ys b' o')
/-- so many, one behind the other. -/
def ExRow (w : World) : List Ex → Nat → Nat → Prop
  | [], _, _ => True
  | e :: r, b, o => e.At w b o ∧ ExRow w r b (o + 6)
end
/-- what a slice leads to. -/
def Exs (w : World) (A : Option Addr) (es : List Ex) : Prop := es = [] ∨ ∃ b o, A = some ⟨b, o, none⟩ ∧ ExRow w es b o
/-- a slice of them. -/
def Ex.Sl (w : World) (v : Value) (es : List Ex) : Prop := ∃ (A : Option Addr) (cap : Nat), v = .slice A es.length cap ∧ ExHd A es.length cap ∧ Exs w A es
/-- a value of it. -/
def Ex.Val (w : World) (v : Value) : Ex → Prop
  | .mk k s n ys l c => ∃ (A : Option Addr) (cap : Nat), v = .agg #[.int .i64 k, .string s, .int .i64 n, .slice A ys.length cap, .int .i64 l, .int .i64 c] ∧ ExHd A ys.length cap ∧ Exs w A ys

theorem cellB {w w' : World} {B b o : Nat} {v : Value} (hb : Below B w w') (hB : w.heap.size ≤ B) (h : w.cell? ⟨b, o, none⟩ = some v) : w'.cell? ⟨b, o, none⟩ = some v :=
  (hb.cell (p := ⟨b, o, none⟩) (Nat.lt_of_lt_of_le (World.block_lt_of_cell? w _ h) hB)).trans h
mutual
theorem Ex.At.below {w w' : World} {B : Nat} (hb : Below B w w') (hB : w.heap.size ≤ B) : ∀ (e : Ex) (b o : Nat), e.At w b o → e.At w' b o
  | .mk k s n ys l c, b, o, h => by
    rw [Ex.At] at h ⊢
    obtain ⟨A, cap, c0, c1, c2, c3, c4, c5, hh, hr⟩ := h
    refine ⟨A, cap, cellB hb hB c0, cellB hb hB c1, cellB hb hB c2, cellB hb hB c3, cellB hb hB c4, cellB hb hB c5, hh, ?_⟩
    rcases hr with h0 | ⟨b', o', h1, h2⟩
    · exact .inl h0
    · exact .inr ⟨b', o', h1, ExRow.below hb hB ys b' o' h2⟩
theorem ExRow.below {w w' : World} {B : Nat} (hb : Below B w w') (hB : w.heap.size ≤ B) : ∀ (es : List Ex) (b o : Nat), ExRow w es b o → ExRow w' es b o
  | [], _, _, _ => by rw [ExRow]; trivial
  | e :: r, b, o, h => by
    rw [ExRow] at h ⊢
    exact ⟨Ex.At.below hb hB e b o h.1, ExRow.below hb hB r b _ h.2⟩
end
theorem Exs.below {w w' : World} {B : Nat} {A : Option Addr} {es : List Ex} (h : Exs w A es) (hb : Below B w w') (hB : w.heap.size ≤ B) : Exs w' A es := by
  rcases h with h | ⟨b, o, h1, h2⟩
  · exact .inl h
  · exact .inr ⟨b, o, h1, ExRow.below hb hB _ _ _ h2⟩
theorem Ex.Sl.below {w w' : World} {B : Nat} {v : Value} {es : List Ex} (h : Ex.Sl w v es) (hb : Below B w w') (hB : w.heap.size ≤ B) : Ex.Sl w' v es := by
  obtain ⟨A, cap, h1, h2, h3⟩ := h
  exact ⟨A, cap, h1, h2, h3.below hb hB⟩
theorem Ex.Val.below {w w' : World} {B : Nat} {v : Value} {e : Ex} (h : e.Val w v) (hb : Below B w w') (hB : w.heap.size ≤ B) : e.Val w' v := by
  cases e
  obtain ⟨A, cap, h1, h2, h3⟩ := h
  exact ⟨A, cap, h1, h2, h3.below hb hB⟩
theorem ExRow.get {w : World} : ∀ {es : List Ex} {b o : Nat}, ExRow w es b o → ∀ (i : Nat) (h : i < es.length), (es[i]).At w b (o + i * 6)
  | [], _, _, _, i, h => by simp at h
  | e :: r, b, o, h, 0, _ => by
    rw [ExRow] at h
    simpa using h.1
  | e :: r, b, o, h, i + 1, hi => by
    rw [ExRow] at h
    have := ExRow.get h.2 i (by simpa using hi)
    rw [show o + (i + 1) * 6 = o + 6 + i * 6 by omega]
    exact this
/-- the i-th of a slice: its cells. -/
theorem Exs.get {w : World} {A : Option Addr} {es : List Ex} (h : Exs w A es) (i : Nat) (hi : i < es.length) : ∃ b o, A = some ⟨b, o, none⟩ ∧ (es[i]).At w b (o + i * 6) := by
  rcases h with rfl | ⟨b, o, h1, h2⟩
  · simp at hi
  · exact ⟨b, o, h1, h2.get i hi⟩
theorem ExRow.drop {w : World} : ∀ {es : List Ex} {b o : Nat}, ExRow w es b o → ∀ (i : Nat), i ≤ es.length → ExRow w (es.drop i) b (o + i * 6)
  | es, b, o, h, 0, _ => by simpa using h
  | [], _, _, _, i + 1, h => by simp at h
  | e :: r, b, o, h, i + 1, hi => by
    rw [ExRow] at h
    have := ExRow.drop h.2 i (by simpa using hi)
    rw [show o + (i + 1) * 6 = o + 6 + i * 6 by omega]
    exact this

mutual
def Ex.size : Ex → Nat
  | .mk k s n ys l c => ExSize ys + 1
def ExSize : List Ex → Nat
  | [] => 0
  | e :: r => e.size + ExSize r
end
theorem ExSize_len : ∀ es : List Ex, es.length ≤ ExSize es
  | [] => by simp
  | e :: r => by
    have := ExSize_len r
    cases e
    simp only [ExSize, Ex.size, List.length_cons]
    omega

theorem Ex.size_mk (k : Int) (s : ByteArray) (n : Int) (ys : List Ex) (l : Int) (c : Int) : (Ex.mk k s n ys l c).size = ExSize ys + 1 := by rw [Ex.size]
theorem ExSize_get : ∀ {es : List Ex} {i : Nat} (h : i < es.length), (es[i]).size ≤ ExSize es
  | [], i, h => by simp at h
  | e :: r, 0, _ => by simp only [List.getElem_cons_zero, ExSize]; omega
  | e :: r, i + 1, h => by
    have := ExSize_get (es := r) (i := i) (by simpa using h)
    simp only [List.getElem_cons_succ, ExSize]; omega

theorem Ex.At.open_ {w : World} {b o : Nat} {k : Int} {s : ByteArray} {n : Int} {ys : List Ex} {l : Int} {c : Int} (h : (Ex.mk k s n ys l c).At w b o) :
    ∃ (A : Option Addr) (cap : Nat), w.cell? ⟨b, o, none⟩ = some (.int .i64 k) ∧ w.cell? ⟨b, o + 1, none⟩ = some (.string s) ∧ w.cell? ⟨b, o + 2, none⟩ = some (.int .i64 n) ∧ w.cell? ⟨b, o + 3, none⟩ = some (.slice A ys.length cap) ∧ w.cell? ⟨b, o + 4, none⟩ = some (.int .i64 l) ∧ w.cell? ⟨b, o + 5, none⟩ = some (.int .i64 c) ∧
      (Ex.mk k s n ys l c).Val w (.agg #[.int .i64 k, .string s, .int .i64 n, .slice A ys.length cap, .int .i64 l, .int .i64 c]) := by
  rw [Ex.At] at h
  obtain ⟨A, cap, c0, c1, c2, c3, c4, c5, hh, hr⟩ := h
  exact ⟨A, cap, c0, c1, c2, c3, c4, c5, A, cap, rfl, hh, hr⟩
/-- its cells in a later world; the value in the elder one. -/
theorem Ex.At.both {w w' : World} {B b o : Nat} {k : Int} {s : ByteArray} {n : Int} {ys : List Ex} {l : Int} {c : Int} (h : (Ex.mk k s n ys l c).At w b o) (hb : Below B w w') (hB : w.heap.size ≤ B) :
    ∃ (A : Option Addr) (cap : Nat), w'.cell? ⟨b, o, none⟩ = some (.int .i64 k) ∧ w'.cell? ⟨b, o + 1, none⟩ = some (.string s) ∧ w'.cell? ⟨b, o + 2, none⟩ = some (.int .i64 n) ∧ w'.cell? ⟨b, o + 3, none⟩ = some (.slice A ys.length cap) ∧ w'.cell? ⟨b, o + 4, none⟩ = some (.int .i64 l) ∧ w'.cell? ⟨b, o + 5, none⟩ = some (.int .i64 c) ∧
      (Ex.mk k s n ys l c).Val w (.agg #[.int .i64 k, .string s, .int .i64 n, .slice A ys.length cap, .int .i64 l, .int .i64 c]) := by
  rw [Ex.At] at h
  obtain ⟨A, cap, c0, c1, c2, c3, c4, c5, hh, hr⟩ := h
  exact ⟨A, cap, cellB hb hB c0, cellB hb hB c1, cellB hb hB c2, cellB hb hB c3, cellB hb hB c4, cellB hb hB c5, A, cap, rfl, hh, hr⟩
theorem Ex.Val.alloc {w : World} {v : Value} {e : Ex} (h : e.Val w v) (o : Obj) : e.Val (w.alloc o) v := h.below ((Below.refl _ _).alloc (Nat.le_refl _) o) (Nat.le_refl _)
theorem Ex.Sl.alloc {w : World} {v : Value} {es : List Ex} (h : Ex.Sl w v es) (o : Obj) : Ex.Sl (w.alloc o) v es := h.below ((Below.refl _ _).alloc (Nat.le_refl _) o) (Nat.le_refl _)
theorem Exs.alloc {w : World} {A : Option Addr} {es : List Ex} (h : Exs w A es) (o : Obj) : Exs (w.alloc o) A es := h.below ((Below.refl _ _).alloc (Nat.le_refl _) o) (Nat.le_refl _)
theorem Ex.Val.drewN {w : World} {v : Value} {e : Ex} (h : e.Val w v) (n : Nat) : e.Val (w.drewN n) v := h.below (below_drewN (Below.refl _ _) n) (Nat.le_refl _)
theorem Ex.Sl.drewN {w : World} {v : Value} {es : List Ex} (h : Ex.Sl w v es) (n : Nat) : Ex.Sl (w.drewN n) v es := h.below (below_drewN (Below.refl _ _) n) (Nat.le_refl _)
theorem Exs.drewN {w : World} {A : Option Addr} {es : List Ex} (h : Exs w A es) (n : Nat) : Exs (w.drewN n) A es := h.below (below_drewN (Below.refl _ _) n) (Nat.le_refl _)
theorem ExSize_take {ys : List Ex} {j : Nat} (h : j < ys.length) : ExSize (ys.take (j + 1)) = ExSize (ys.take j) + (ys[j]).size := by
  induction ys generalizing j with
  | nil => simp at h
  | cons y r ih =>
    cases j with
    | zero => simp [ExSize]
    | succ j =>
      simp only [List.take_succ_cons, ExSize, List.getElem_cons_succ]
      rw [ih (by simpa using h)]
      omega
theorem ExSize_take_le {ys : List Ex} {j : Nat} : ExSize (ys.take j) ≤ ExSize ys := by
  induction ys generalizing j with
  | nil => simp
  | cons y r ih =>
    cases j with
    | zero => simp [ExSize]
    | succ j =>
      simp only [List.take_succ_cons, ExSize]
      have := ih (j := j)
      omega

/-- the cells of a value of it. -/
def Ex.Cs (w : World) : Ex → List Value → Prop
  | .mk k s n ys l c, cs => ∃ (A : Option Addr) (cap : Nat), cs = [.int .i64 k, .string s, .int .i64 n, .slice A ys.length cap, .int .i64 l, .int .i64 c] ∧ ExHd A ys.length cap ∧ Exs w A ys
def ExCells (w : World) : List Ex → List Value → Prop
  | [], xs => xs = []
  | e :: r, xs => ∃ c rest, xs = c ++ rest ∧ e.Cs w c ∧ ExCells w r rest
theorem Ex.Cs.len {w : World} {e : Ex} {c : List Value} (h : e.Cs w c) : c.length = 6 := by
  cases e
  obtain ⟨A, cap, rfl, _⟩ := h
  rfl
theorem Ex.Cs.one {w : World} {e : Ex} {c : List Value} (h : e.Cs w c) : ∀ u ∈ c, u.oneCell' = true := by
  cases e
  obtain ⟨A, cap, rfl, _⟩ := h
  intro u hu
  simp at hu
  rcases hu with rfl | rfl | rfl | rfl | rfl | rfl <;> rfl
theorem Ex.Cs.below {w w' : World} {B : Nat} {e : Ex} {c : List Value} (h : e.Cs w c) (hb : Below B w w') (hB : w.heap.size ≤ B) : e.Cs w' c := by
  cases e
  obtain ⟨A, cap, h1, h2, h3⟩ := h
  exact ⟨A, cap, h1, h2, h3.below hb hB⟩
theorem Ex.Val.cs {w : World} {e : Ex} {v : Value} (h : e.Val w v) : ∃ c, v = .agg c.toArray ∧ e.Cs w c := by
  cases e
  obtain ⟨A, cap, rfl, h2, h3⟩ := h
  exact ⟨_, rfl, A, cap, rfl, h2, h3⟩
theorem Ex.Cs.val {w : World} {e : Ex} {c : List Value} (h : e.Cs w c) : e.Val w (.agg c.toArray) := by
  cases e
  obtain ⟨A, cap, rfl, h2, h3⟩ := h
  exact ⟨A, cap, rfl, h2, h3⟩
theorem ExCells.len {w : World} : ∀ {es : List Ex} {xs : List Value}, ExCells w es xs → xs.length = es.length * 6
  | [], xs, h => by rw [ExCells] at h; subst h; simp
  | e :: r, xs, h => by
    rw [ExCells] at h
    obtain ⟨c, rest, rfl, h1, h2⟩ := h
    rw [List.length_append, h1.len, h2.len, List.length_cons]; omega
theorem ExCells.one {w : World} : ∀ {es : List Ex} {xs : List Value}, ExCells w es xs → ∀ u ∈ xs, u.oneCell' = true
  | [], xs, h => by rw [ExCells] at h; subst h; simp
  | e :: r, xs, h => by
    rw [ExCells] at h
    obtain ⟨c, rest, rfl, h1, h2⟩ := h
    intro u hu
    rcases List.mem_append.1 hu with hu | hu
    · exact h1.one u hu
    · exact h2.one u hu
theorem ExCells.below {w w' : World} {B : Nat} (hb : Below B w w') (hB : w.heap.size ≤ B) : ∀ {es : List Ex} {xs : List Value}, ExCells w es xs → ExCells w' es xs
  | [], xs, h => by rw [ExCells] at h ⊢; exact h
  | e :: r, xs, h => by
    rw [ExCells] at h ⊢
    obtain ⟨c, rest, h0, h1, h2⟩ := h
    exact ⟨c, rest, h0, h1.below hb hB, h2.below hb hB⟩
theorem ExCells.append {w : World} : ∀ {es fs : List Ex} {xs zs : List Value}, ExCells w es xs → ExCells w fs zs → ExCells w (es ++ fs) (xs ++ zs)
  | [], fs, xs, zs, h, g => by rw [ExCells] at h; subst h; exact g
  | e :: r, fs, xs, zs, h, g => by
    rw [ExCells] at h
    obtain ⟨c, rest, rfl, h1, h2⟩ := h
    rw [List.cons_append, ExCells]
    exact ⟨c, rest ++ zs, by rw [List.append_assoc], h1, h2.append g⟩
theorem ExCells.single {w : World} {e : Ex} {c : List Value} (h : e.Cs w c) : ExCells w [e] c := by
  rw [ExCells]
  exact ⟨c, [], by simp, h, by rw [ExCells]⟩
theorem ExRow.cells {w : World} {b : Nat} : ∀ {es : List Ex} {o : Nat}, ExRow w es b o → ∃ xs, (∀ j u, xs[j]? = some u → w.cell? ⟨b, o + j, none⟩ = some u) ∧ ExCells w es xs
  | [], o, _ => ⟨[], by simp, by rw [ExCells]⟩
  | e :: r, o, h => by
    rw [ExRow] at h
    obtain ⟨h1, h2⟩ := h
    obtain ⟨xs, g1, g2⟩ := ExRow.cells h2
    cases e with
    | mk k s n ys l c =>
    rw [Ex.At] at h1
    obtain ⟨A, cap, c0, c1, c2, c3, c4, c5, hh, hr⟩ := h1
    refine ⟨[.int .i64 k, .string s, .int .i64 n, .slice A ys.length cap, .int .i64 l, .int .i64 c] ++ xs, ?_, by rw [ExCells]; exact ⟨_, xs, rfl, ⟨A, cap, rfl, hh, hr⟩, g2⟩⟩
    intro j u hu
    match j, hu with
    | 0, hu => simp at hu; subst hu; exact c0
    | 1, hu => simp at hu; subst hu; exact c1
    | 2, hu => simp at hu; subst hu; exact c2
    | 3, hu => simp at hu; subst hu; exact c3
    | 4, hu => simp at hu; subst hu; exact c4
    | 5, hu => simp at hu; subst hu; exact c5
    | j + 6, hu =>
      have := g1 j u (by simpa using hu)
      rw [show o + (j + 6) = o + 6 + j by omega]
      exact this
theorem ExCells.row {w : World} {b : Nat} : ∀ {es : List Ex} {xs : List Value} {o : Nat}, ExCells w es xs → (∀ j u, xs[j]? = some u → w.cell? ⟨b, o + j, none⟩ = some u) → ExRow w es b o
  | [], _, _, _, _ => by rw [ExRow]; trivial
  | e :: r, xs, o, h, hc => by
    rw [ExCells] at h
    obtain ⟨c, rest, rfl, h1, h2⟩ := h
    have hlen := h1.len
    rw [ExRow]
    refine ⟨?_, h2.row fun j u hu => ?_⟩
    · cases e with
      | mk k s n ys l c =>
      obtain ⟨A, cap, rfl, hh, hr⟩ := h1
      rw [Ex.At]
      exact ⟨A, cap, hc 0 _ rfl, hc 1 _ rfl, hc 2 _ rfl, hc 3 _ rfl, hc 4 _ rfl, hc 5 _ rfl, hh, hr⟩
    · have := hc (j + 6) u (by rw [List.getElem?_append_right (by omega), hlen]; simpa using hu)
      rw [show o + (j + 6) = o + 6 + j by omega] at this
      exact this
/-- a slice's cells. -/
theorem Exs.cells {w : World} {A : Option Addr} {es : List Ex} (h : Exs w A es) : ∃ xs, Src w 6 A es.length xs ∧ ExCells w es xs := by
  rcases h with rfl | ⟨b, o, rfl, h⟩
  · exact ⟨[], ⟨by simp, .inl rfl⟩, by rw [ExCells]⟩
  · obtain ⟨xs, h1, h2⟩ := h.cells
    exact ⟨xs, ⟨h2.len, .inr ⟨b, o, rfl, h1⟩⟩, h2⟩
theorem Exs.of_src {w : World} {A : Option Addr} {es : List Ex} {xs : List Value} (h : Src w 6 A es.length xs) (hc : ExCells w es xs) : Exs w A es := by
  rcases h.2 with h0 | ⟨b, o, rfl, h1⟩
  · exact .inl (List.eq_nil_of_length_eq_zero h0)
  · exact .inr ⟨b, o, rfl, hc.row h1⟩
theorem Ex.Sl.of_own {w : World} {base e : Nat} {v : Value} {es : List Ex} {xs : List Value} (h : w.ownsRow base e 6 v es.length xs) (hc : ExCells w es xs) (hm : es.length ≤ 1048576) : Ex.Sl w v es := by
  obtain ⟨A, cap, rfl, h1, h2⟩ := own_form h
  exact ⟨A, cap, rfl, ⟨h1, h2, hm, own_cap h⟩, Exs.of_src (Src.of_own h) hc⟩
mutual
/-- it, and what is in it. -/
def Ex.flat : Ex → List Ex
  | .mk k s n ys l c => .mk k s n ys l c :: ExFlats ys
def ExFlats : List Ex → List Ex
  | [] => []
  | e :: r => e.flat ++ ExFlats r
end
mutual
theorem Ex.flat_len : ∀ e : Ex, e.flat.length = e.size
  | .mk k s n ys l c => by rw [Ex.flat, Ex.size, List.length_cons, ExFlats_len ys]
theorem ExFlats_len : ∀ es : List Ex, (ExFlats es).length = ExSize es
  | [] => by rw [ExFlats, ExSize]; rfl
  | e :: r => by rw [ExFlats, ExSize, List.length_append, e.flat_len, ExFlats_len r]
end
theorem ExFlats_take {ys : List Ex} {j : Nat} (h : j < ys.length) : ExFlats (ys.take (j + 1)) = ExFlats (ys.take j) ++ (ys[j]).flat := by
  induction ys generalizing j with
  | nil => simp at h
  | cons y r ih =>
    cases j with
    | zero => simp [ExFlats]
    | succ j =>
      simp only [List.take_succ_cons, ExFlats, List.getElem_cons_succ]
      rw [ih (by simpa using h), List.append_assoc]

end Go.Proofs.Ytnaakhnmbckpmaa.Data
