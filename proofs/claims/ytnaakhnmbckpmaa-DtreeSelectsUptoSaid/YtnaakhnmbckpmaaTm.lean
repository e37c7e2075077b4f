/- The data of type Tm: how a value of it lies in memory. -/
import Derived.Test.YtnaakhnmbckpmaaEx
namespace Go.Proofs.Ytnaakhnmbckpmaa.Data
open Go.ChangeShapes Go.WideShapes Go.ChangeAt Go.RowKit Go.Proofs.Ytnaakhnmbckpmaa.Lift
set_option linter.unusedVariables false
set_option linter.unusedSimpArgs false

inductive Tm where
  | mk (k : Int) (s : ByteArray) (n : Int) (ys : List Tm) 

def Tm.k : Tm → Int | .mk k s n ys => k
def Tm.s : Tm → ByteArray | .mk k s n ys => s
def Tm.n : Tm → Int | .mk k s n ys => n
def Tm.ys : Tm → List Tm | .mk k s n ys => ys

/-- what a slice's header says. -/
def TmHd (A : Option Addr) (len cap : Nat) : Prop := len ≤ cap ∧ cap ≤ 9223372036854775807 ∧ len ≤ 1048576 ∧ (A = none → cap = 0)
mutual
/-- it lies in w from ⟨b, o⟩ on. -/
def Tm.At (w : World) : Tm → Nat → Nat → Prop
  | .mk k s n ys, b, o => ∃ (A : Option Addr) (cap : Nat), w.cell? ⟨b, o, none⟩ = some (.int .i64 k) ∧ w.cell? ⟨b, o + 1, none⟩ = some (.string s) ∧ w.cell? ⟨b, o + 2, none⟩ = some (.int .i64 n) ∧ w.cell? ⟨b, o + 3, none⟩ = some (.slice A ys.length cap) ∧
      TmHd A ys.length cap ∧ (ys = [] ∨ ∃ b' o', A = some ⟨b', o', none⟩ ∧ TmRow w ys b' o')
/-- so many, one behind the other. -/
def TmRow (w : World) : List Tm → Nat → Nat → Prop
  | [], _, _ => True
  | e :: r, b, o => e.At w b o ∧ TmRow w r b (o + 4)
end
/-- what a slice leads to. -/
def Tms (w : World) (A : Option Addr) (es : List Tm) : Prop := es = [] ∨ ∃ b o, A = some ⟨b, o, none⟩ ∧ TmRow w es b o
/-- a slice of them. -/
def Tm.Sl (w : World) (v : Value) (es : List Tm) : Prop := ∃ (A : Option Addr) (cap : Nat), v = .slice A es.length cap ∧ TmHd A es.length cap ∧ Tms w A es
/-- a value of it. -/
def Tm.Val (w : World) (v : Value) : Tm → Prop
  | .mk k s n ys => ∃ (A : Option Addr) (cap : Nat), v = .agg #[.int .i64 k, .string s, .int .i64 n, .slice A ys.length cap] ∧ TmHd A ys.length cap ∧ Tms w A ys


mutual
theorem Tm.At.below {w w' : World} {B : Nat} (hb : Below B w w') (hB : w.heap.size ≤ B) : ∀ (e : Tm) (b o : Nat), e.At w b o → e.At w' b o
  | .mk k s n ys, b, o, h => by
    rw [Tm.At] at h ⊢
    obtain ⟨A, cap, c0, c1, c2, c3, hh, hr⟩ := h
    refine ⟨A, cap, cellB hb hB c0, cellB hb hB c1, cellB hb hB c2, cellB hb hB c3, hh, ?_⟩
    rcases hr with h0 | ⟨b', o', h1, h2⟩
    · exact .inl h0
    · exact .inr ⟨b', o', h1, TmRow.below hb hB ys b' o' h2⟩
theorem TmRow.below {w w' : World} {B : Nat} (hb : Below B w w') (hB : w.heap.size ≤ B) : ∀ (es : List Tm) (b o : Nat), TmRow w es b o → TmRow w' es b o
  | [], _, _, _ => by rw [TmRow]; trivial
  | e :: r, b, o, h => by
    rw [TmRow] at h ⊢
    exact ⟨Tm.At.below hb hB e b o h.1, TmRow.below hb hB r b _ h.2⟩
end
theorem Tms.below {w w' : World} {B : Nat} {A : Option Addr} {es : List Tm} (h : Tms w A es) (hb : Below B w w') (hB : w.heap.size ≤ B) : Tms w' A es := by
  rcases h with h | ⟨b, o, h1, h2⟩
  · exact .inl h
  · exact .inr ⟨b, o, h1, TmRow.below hb hB _ _ _ h2⟩
theorem Tm.Sl.below {w w' : World} {B : Nat} {v : Value} {es : List Tm} (h : Tm.Sl w v es) (hb : Below B w w') (hB : w.heap.size ≤ B) : Tm.Sl w' v es := by
  obtain ⟨A, cap, h1, h2, h3⟩ := h
  exact ⟨A, cap, h1, h2, h3.below hb hB⟩
theorem Tm.Val.below {w w' : World} {B : Nat} {v : Value} {e : Tm} (h : e.Val w v) (hb : Below B w w') (hB : w.heap.size ≤ B) : e.Val w' v := by
  cases e
  obtain ⟨A, cap, h1, h2, h3⟩ := h
  exact ⟨A, cap, h1, h2, h3.below hb hB⟩
theorem TmRow.get {w : World} : ∀ {es : List Tm} {b o : Nat}, TmRow w es b o → ∀ (i : Nat) (h : i < es.length), (es[i]).At w b (o + i * 4)
  | [], _, _, _, i, h => by simp at h
  | e :: r, b, o, h, 0, _ => by
    rw [TmRow] at h
    simpa using h.1
  | e :: r, b, o, h, i + 1, hi => by
    rw [TmRow] at h
    have := TmRow.get h.2 i (by simpa using hi)
    rw [show o + (i + 1) * 4 = o + 4 + i * 4 by omega]
    exact this
/-- the i-th of a slice: its cells. -/
theorem Tms.get {w : World} {A : Option Addr} {es : List Tm} (h : Tms w A es) (i : Nat) (hi : i < es.length) : ∃ b o, A = some ⟨b, o, none⟩ ∧ (es[i]).At w b (o + i * 4) := by
  rcases h with rfl | ⟨b, o, h1, h2⟩
  · simp at hi
  · exact ⟨b, o, h1, h2.get i hi⟩
theorem TmRow.drop {w : World} : ∀ {es : List Tm} {b o : Nat}, TmRow w es b o → ∀ (i : Nat), i ≤ es.length → TmRow w (es.drop i) b (o + i * 4)
  | es, b, o, h, 0, _ => by simpa using h
  | [], _, _, _, i + 1, h => by simp at h
  | e :: r, b, o, h, i + 1, hi => by
    rw [TmRow] at h
    have := TmRow.drop h.2 i (by simpa using hi)
    rw [show o + (i + 1) * 4 = o + 4 + i * 4 by omega]
    exact this

mutual
def Tm.size : Tm → Nat
  | .mk k s n ys => TmSize ys + 1
def TmSize : List Tm → Nat
  | [] => 0
  | e :: r => e.size + TmSize r
end
theorem TmSize_len : ∀ es : List Tm, es.length ≤ TmSize es
  | [] => by simp
  | e :: r => by
    have := TmSize_len r
    cases e
    simp only [TmSize, Tm.size, List.length_cons]
    omega

theorem Tm.size_mk (k : Int) (s : ByteArray) (n : Int) (ys : List Tm) : (Tm.mk k s n ys).size = TmSize ys + 1 := by rw [Tm.size]
theorem TmSize_get : ∀ {es : List Tm} {i : Nat} (h : i < es.length), (es[i]).size ≤ TmSize es
  | [], i, h => by simp at h
  | e :: r, 0, _ => by simp only [List.getElem_cons_zero, TmSize]; omega
  | e :: r, i + 1, h => by
    have := TmSize_get (es := r) (i := i) (by simpa using h)
    simp only [List.getElem_cons_succ, TmSize]; omega

theorem Tm.At.open_ {w : World} {b o : Nat} {k : Int} {s : ByteArray} {n : Int} {ys : List Tm}  (h : (Tm.mk k s n ys).At w b o) :
    ∃ (A : Option Addr) (cap : Nat), w.cell? ⟨b, o, none⟩ = some (.int .i64 k) ∧ w.cell? ⟨b, o + 1, none⟩ = some (.string s) ∧ w.cell? ⟨b, o + 2, none⟩ = some (.int .i64 n) ∧ w.cell? ⟨b, o + 3, none⟩ = some (.slice A ys.length cap) ∧
      (Tm.mk k s n ys).Val w (.agg #[.int .i64 k, .string s, .int .i64 n, .slice A ys.length cap]) := by
  rw [Tm.At] at h
  obtain ⟨A, cap, c0, c1, c2, c3, hh, hr⟩ := h
  exact ⟨A, cap, c0, c1, c2, c3, A, cap, rfl, hh, hr⟩
/-- its cells in a later world; the value in the elder one. -/
theorem Tm.At.both {w w' : World} {B b o : Nat} {k : Int} {s : ByteArray} {n : Int} {ys : List Tm}  (h : (Tm.mk k s n ys).At w b o) (hb : Below B w w') (hB : w.heap.size ≤ B) :
    ∃ (A : Option Addr) (cap : Nat), w'.cell? ⟨b, o, none⟩ = some (.int .i64 k) ∧ w'.cell? ⟨b, o + 1, none⟩ = some (.string s) ∧ w'.cell? ⟨b, o + 2, none⟩ = some (.int .i64 n) ∧ w'.cell? ⟨b, o + 3, none⟩ = some (.slice A ys.length cap) ∧
      (Tm.mk k s n ys).Val w (.agg #[.int .i64 k, .string s, .int .i64 n, .slice A ys.length cap]) := by
  rw [Tm.At] at h
  obtain ⟨A, cap, c0, c1, c2, c3, hh, hr⟩ := h
  exact ⟨A, cap, cellB hb hB c0, cellB hb hB c1, cellB hb hB c2, cellB hb hB c3, A, cap, rfl, hh, hr⟩
theorem Tm.Val.alloc {w : World} {v : Value} {e : Tm} (h : e.Val w v) (o : Obj) : e.Val (w.alloc o) v := h.below ((Below.refl _ _).alloc (Nat.le_refl _) o) (Nat.le_refl _)
theorem Tm.Sl.alloc {w : World} {v : Value} {es : List Tm} (h : Tm.Sl w v es) (o : Obj) : Tm.Sl (w.alloc o) v es := h.below ((Below.refl _ _).alloc (Nat.le_refl _) o) (Nat.le_refl _)
theorem Tms.alloc {w : World} {A : Option Addr} {es : List Tm} (h : Tms w A es) (o : Obj) : Tms (w.alloc o) A es := h.below ((Below.refl _ _).alloc (Nat.le_refl _) o) (Nat.le_refl _)
theorem Tm.Val.drewN {w : World} {v : Value} {e : Tm} (h : e.Val w v) (n : Nat) : e.Val (w.drewN n) v := h.below (below_drewN (Below.refl _ _) n) (Nat.le_refl _)
theorem Tm.Sl.drewN {w : World} {v : Value} {es : List Tm} (h : Tm.Sl w v es) (n : Nat) : Tm.Sl (w.drewN n) v es := h.below (below_drewN (Below.refl _ _) n) (Nat.le_refl _)
theorem Tms.drewN {w : World} {A : Option Addr} {es : List Tm} (h : Tms w A es) (n : Nat) : Tms (w.drewN n) A es := h.below (below_drewN (Below.refl _ _) n) (Nat.le_refl _)
theorem TmSize_take {ys : List Tm} {j : Nat} (h : j < ys.length) : TmSize (ys.take (j + 1)) = TmSize (ys.take j) + (ys[j]).size := by
  induction ys generalizing j with
  | nil => simp at h
  | cons y r ih =>
    cases j with
    | zero => simp [TmSize]
    | succ j =>
      simp only [List.take_succ_cons, TmSize, List.getElem_cons_succ]
      rw [ih (by simpa using h)]
      omega
theorem TmSize_take_le {ys : List Tm} {j : Nat} : TmSize (ys.take j) ≤ TmSize ys := by
  induction ys generalizing j with
  | nil => simp
  | cons y r ih =>
    cases j with
    | zero => simp [TmSize]
    | succ j =>
      simp only [List.take_succ_cons, TmSize]
      have := ih (j := j)
      omega

/-- the cells of a value of it. -/
def Tm.Cs (w : World) : Tm → List Value → Prop
  | .mk k s n ys, cs => ∃ (A : Option Addr) (cap : Nat), cs = [.int .i64 k, .string s, .int .i64 n, .slice A ys.length cap] ∧ TmHd A ys.length cap ∧ Tms w A ys
def TmCells (w : World) : List Tm → List Value → Prop
  | [], xs => xs = []
  | e :: r, xs => ∃ c rest, xs = c ++ rest ∧ e.Cs w c ∧ TmCells w r rest
theorem Tm.Cs.len {w : World} {e : Tm} {c : List Value} (h : e.Cs w c) : c.length = 4 := by
  cases e
  obtain ⟨A, cap, rfl, _⟩ := h
  rfl
theorem Tm.Cs.one {w : World} {e : Tm} {c : List Value} (h : e.Cs w c) : ∀ u ∈ c, u.oneCell' = true := by
  cases e
  obtain ⟨A, cap, rfl, _⟩ := h
  intro u hu
  simp at hu
  rcases hu with rfl | rfl | rfl | rfl <;> rfl
theorem Tm.Cs.below {w w' : World} {B : Nat} {e : Tm} {c : List Value} (h : e.Cs w c) (hb : Below B w w') (hB : w.heap.size ≤ B) : e.Cs w' c := by
  cases e
  obtain ⟨A, cap, h1, h2, h3⟩ := h
  exact ⟨A, cap, h1, h2, h3.below hb hB⟩
theorem Tm.Val.cs {w : World} {e : Tm} {v : Value} (h : e.Val w v) : ∃ c, v = .agg c.toArray ∧ e.Cs w c := by
  cases e
  obtain ⟨A, cap, rfl, h2, h3⟩ := h
  exact ⟨_, rfl, A, cap, rfl, h2, h3⟩
theorem Tm.Cs.val {w : World} {e : Tm} {c : List Value} (h : e.Cs w c) : e.Val w (.agg c.toArray) := by
  cases e
  obtain ⟨A, cap, rfl, h2, h3⟩ := h
  exact ⟨A, cap, rfl, h2, h3⟩
theorem TmCells.len {w : World} : ∀ {es : List Tm} {xs : List Value}, TmCells w es xs → xs.length = es.length * 4
  | [], xs, h => by rw [TmCells] at h; subst h; simp
  | e :: r, xs, h => by
    rw [TmCells] at h
    obtain ⟨c, rest, rfl, h1, h2⟩ := h
    rw [List.length_append, h1.len, h2.len, List.length_cons]; omega
theorem TmCells.one {w : World} : ∀ {es : List Tm} {xs : List Value}, TmCells w es xs → ∀ u ∈ xs, u.oneCell' = true
  | [], xs, h => by rw [TmCells] at h; subst h; simp
  | e :: r, xs, h => by
    rw [TmCells] at h
    obtain ⟨c, rest, rfl, h1, h2⟩ := h
    intro u hu
    rcases List.mem_append.1 hu with hu | hu
    · exact h1.one u hu
    · exact h2.one u hu
theorem TmCells.below {w w' : World} {B : Nat} (hb : Below B w w') (hB : w.heap.size ≤ B) : ∀ {es : List Tm} {xs : List Value}, TmCells w es xs → TmCells w' es xs
  | [], xs, h => by rw [TmCells] at h ⊢; exact h
  | e :: r, xs, h => by
    rw [TmCells] at h ⊢
    obtain ⟨c, rest, h0, h1, h2⟩ := h
    exact ⟨c, rest, h0, h1.below hb hB, h2.below hb hB⟩
theorem TmCells.append {w : World} : ∀ {es fs : List Tm} {xs zs : List Value}, TmCells w es xs → TmCells w fs zs → TmCells w (es ++ fs) (xs ++ zs)
  | [], fs, xs, zs, h, g => by rw [TmCells] at h; subst h; exact g
  | e :: r, fs, xs, zs, h, g => by
    rw [TmCells] at h
    obtain ⟨c, rest, rfl, h1, h2⟩ := h
    rw [List.cons_append, TmCells]
    exact ⟨c, rest ++ zs, by rw [List.append_assoc], h1, h2.append g⟩
theorem TmCells.single {w : World} {e : Tm} {c : List Value} (h : e.Cs w c) : TmCells w [e] c := by
  rw [TmCells]
  exact ⟨c, [], by simp, h, by rw [TmCells]⟩
theorem TmRow.cells {w : World} {b : Nat} : ∀ {es : List Tm} {o : Nat}, TmRow w es b o → ∃ xs, (∀ j u, xs[j]? = some u → w.cell? ⟨b, o + j, none⟩ = some u) ∧ TmCells w es xs
  | [], o, _ => ⟨[], by simp, by rw [TmCells]⟩
  | e :: r, o, h => by
    rw [TmRow] at h
    obtain ⟨h1, h2⟩ := h
    obtain ⟨xs, g1, g2⟩ := TmRow.cells h2
    cases e with
    | mk k s n ys =>
    rw [Tm.At] at h1
    obtain ⟨A, cap, c0, c1, c2, c3, hh, hr⟩ := h1
    refine ⟨[.int .i64 k, .string s, .int .i64 n, .slice A ys.length cap] ++ xs, ?_, by rw [TmCells]; exact ⟨_, xs, rfl, ⟨A, cap, rfl, hh, hr⟩, g2⟩⟩
    intro j u hu
    match j, hu with
    | 0, hu => simp at hu; subst hu; exact c0
    | 1, hu => simp at hu; subst hu; exact c1
    | 2, hu => simp at hu; subst hu; exact c2
    | 3, hu => simp at hu; subst hu; exact c3
    | j + 4, hu =>
      have := g1 j u (by simpa using hu)
      rw [show o + (j + 4) = o + 4 + j by omega]
      exact this
theorem TmCells.row {w : World} {b : Nat} : ∀ {es : List Tm} {xs : List Value} {o : Nat}, TmCells w es xs → (∀ j u, xs[j]? = some u → w.cell? ⟨b, o + j, none⟩ = some u) → TmRow w es b o
  | [], _, _, _, _ => by rw [TmRow]; trivial
  | e :: r, xs, o, h, hc => by
    rw [TmCells] at h
    obtain ⟨c, rest, rfl, h1, h2⟩ := h
    have hlen := h1.len
    rw [TmRow]
    refine ⟨?_, h2.row fun j u hu => ?_⟩
    · cases e with
      | mk k s n ys =>
      obtain ⟨A, cap, rfl, hh, hr⟩ := h1
      rw [Tm.At]
      exact ⟨A, cap, hc 0 _ rfl, hc 1 _ rfl, hc 2 _ rfl, hc 3 _ rfl, hh, hr⟩
    · have := hc (j + 4) u (by rw [List.getElem?_append_right (by omega), hlen]; simpa using hu)
      rw [show o + (j + 4) = o + 4 + j by omega] at this
      exact this
/-- a slice's cells. -/
theorem Tms.cells {w : World} {A : Option Addr} {es : List Tm} (h : Tms w A es) : ∃ xs, Src w 4 A es.length xs ∧ TmCells w es xs := by
  rcases h with rfl | ⟨b, o, rfl, h⟩
  · exact ⟨[], ⟨by simp, .inl rfl⟩, by rw [TmCells]⟩
  · obtain ⟨xs, h1, h2⟩ := h.cells
    exact ⟨xs, ⟨h2.len, .inr ⟨b, o, rfl, h1⟩⟩, h2⟩
theorem Tms.of_src {w : World} {A : Option Addr} {es : List Tm} {xs : List Value} (h : Src w 4 A es.length xs) (hc : TmCells w es xs) : Tms w A es := by
  rcases h.2 with h0 | ⟨b, o, rfl, h1⟩
  · exact .inl (List.eq_nil_of_length_eq_zero h0)
  · exact .inr ⟨b, o, rfl, hc.row h1⟩
theorem Tm.Sl.of_own {w : World} {base e : Nat} {v : Value} {es : List Tm} {xs : List Value} (h : w.ownsRow base e 4 v es.length xs) (hc : TmCells w es xs) (hm : es.length ≤ 1048576) : Tm.Sl w v es := by
  obtain ⟨A, cap, rfl, h1, h2⟩ := own_form h
  exact ⟨A, cap, rfl, ⟨h1, h2, hm, own_cap h⟩, Tms.of_src (Src.of_own h) hc⟩
mutual
/-- it, and what is in it. -/
def Tm.flat : Tm → List Tm
  | .mk k s n ys => .mk k s n ys :: TmFlats ys
def TmFlats : List Tm → List Tm
  | [] => []
  | e :: r => e.flat ++ TmFlats r
end
mutual
theorem Tm.flat_len : ∀ e : Tm, e.flat.length = e.size
  | .mk k s n ys => by rw [Tm.flat, Tm.size, List.length_cons, TmFlats_len ys]
theorem TmFlats_len : ∀ es : List Tm, (TmFlats es).length = TmSize es
  | [] => by rw [TmFlats, TmSize]; rfl
  | e :: r => by rw [TmFlats, TmSize, List.length_append, e.flat_len, TmFlats_len r]
end
theorem TmFlats_take {ys : List Tm} {j : Nat} (h : j < ys.length) : TmFlats (ys.take (j + 1)) = TmFlats (ys.take j) ++ (ys[j]).flat := by
  induction ys generalizing j with
  | nil => simp at h
  | cons y r ih =>
    cases j with
    | zero => simp [TmFlats]
    | succ j =>
      simp only [List.take_succ_cons, TmFlats, List.getElem_cons_succ]
      rw [ih (by simpa using h), List.append_assoc]

end Go.Proofs.Ytnaakhnmbckpmaa.Data
