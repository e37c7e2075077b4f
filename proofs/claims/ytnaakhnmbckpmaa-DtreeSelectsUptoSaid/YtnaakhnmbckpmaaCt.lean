/- Trees of cases: how they lie in memory. Rows of rules. -/
import Derived.Test.YtnaakhnmbckpmaaPlaces
import Derived.Test.YtnaakhnmbckpmaaReach
import Derived.Test.YtnaakhnmbckpmaaStrs
namespace Go.Proofs.Ytnaakhnmbckpmaa.Data
open Go.ChangeShapes Go.WideShapes Go.ChangeAt Go.RowKit Go.Proofs.Ytnaakhnmbckpmaa.Lift
set_option linter.unusedVariables false
set_option linter.unusedSimpArgs false
/-- a case with its tree; of a tree alone the first two play no part. -/
inductive Ct where
  | mk (con : Int) (is : Bool) (kind rule : Int) (path : List Int) (cs : List Ct)
def Ct.con : Ct → Int | .mk a b c d e f => a
def Ct.is : Ct → Bool | .mk a b c d e f => b
def Ct.kind : Ct → Int | .mk a b c d e f => c
def Ct.rule : Ct → Int | .mk a b c d e f => d
def Ct.path : Ct → List Int | .mk a b c d e f => e
def Ct.cs : Ct → List Ct | .mk a b c d e f => f
/-- a tree in a case. -/
def Ct.inCase (con : Int) (is : Bool) : Ct → Ct | .mk _ _ c d e f => .mk con is c d e f
def CtHd (A : Option Addr) (len cap : Nat) : Prop := len ≤ cap ∧ cap ≤ 9223372036854775807 ∧ len ≤ 1048576 ∧ (A = none → cap = 0)
mutual
def Ct.At (w : World) : Ct → Nat → Nat → Prop
  | .mk con is k r p cs, b, o => ∃ (A : Option Addr) (cap : Nat) (pv : Value), w.cell? ⟨b, o, none⟩ = some (.int .i64 con) ∧ w.cell? ⟨b, o + 1, none⟩ = some (.bool is) ∧ w.cell? ⟨b, o + 2, none⟩ = some (.int .i64 k) ∧ w.cell? ⟨b, o + 3, none⟩ = some (.int .i64 r) ∧ w.cell? ⟨b, o + 4, none⟩ = some pv ∧ w.cell? ⟨b, o + 5, none⟩ = some (.slice A cs.length cap) ∧
      IS w pv p ∧ CtHd A cs.length cap ∧ (cs = [] ∨ ∃ b' o', A = some ⟨b', o', none⟩ ∧ CtRow w cs b' o')
def CtRow (w : World) : List Ct → Nat → Nat → Prop
  | [], _, _ => True
  | e :: r, b, o => e.At w b o ∧ CtRow w r b (o + 6)
end
def Cts (w : World) (A : Option Addr) (es : List Ct) : Prop := es = [] ∨ ∃ b o, A = some ⟨b, o, none⟩ ∧ CtRow w es b o
/-- the cells of a case. -/
def Ct.Cs (w : World) : Ct → List Value → Prop
  | .mk con is k r p cs, l => ∃ (A : Option Addr) (cap : Nat) (pv : Value), l = [.int .i64 con, .bool is, .int .i64 k, .int .i64 r, pv, .slice A cs.length cap] ∧ IS w pv p ∧ CtHd A cs.length cap ∧ Cts w A cs
/-- the value of a tree. -/
def Ct.Tr (w : World) (v : Value) : Ct → Prop
  | .mk con is k r p cs => ∃ (A : Option Addr) (cap : Nat) (pv : Value), v = .agg #[.int .i64 k, .int .i64 r, pv, .slice A cs.length cap] ∧ IS w pv p ∧ CtHd A cs.length cap ∧ Cts w A cs
mutual
theorem Ct.At.sub {w w' : World} (hb : Sub w w') : ∀ (e : Ct) (b o : Nat), e.At w b o → e.At w' b o
  | .mk con is k r p cs, b, o, h => by
    rw [Ct.At] at h ⊢
    obtain ⟨A, cap, pv, c0, c1, c2, c3, c4, c5, hi, hh, hr⟩ := h
    refine ⟨A, cap, pv, hb _ _ _ c0, hb _ _ _ c1, hb _ _ _ c2, hb _ _ _ c3, hb _ _ _ c4, hb _ _ _ c5, hi.sub hb, hh, ?_⟩
    rcases hr with h0 | ⟨b', o', h1, h2⟩
    · exact .inl h0
    · exact .inr ⟨b', o', h1, CtRow.sub hb cs b' o' h2⟩
theorem CtRow.sub {w w' : World} (hb : Sub w w') : ∀ (es : List Ct) (b o : Nat), CtRow w es b o → CtRow w' es b o
  | [], _, _, _ => by rw [CtRow]; trivial
  | e :: r, b, o, h => by
    rw [CtRow] at h ⊢
    exact ⟨Ct.At.sub hb e b o h.1, CtRow.sub hb r b _ h.2⟩
end
theorem Cts.sub {w w' : World} {A : Option Addr} {es : List Ct} (h : Cts w A es) (hb : Sub w w') : Cts w' A es := by
  rcases h with h | ⟨b, o, h1, h2⟩
  · exact .inl h
  · exact .inr ⟨b, o, h1, CtRow.sub hb _ _ _ h2⟩
theorem Ct.Cs.sub {w w' : World} {e : Ct} {c : List Value} (h : e.Cs w c) (hb : Sub w w') : e.Cs w' c := by
  cases e
  obtain ⟨A, cap, pv, h1, h2, h3, h4⟩ := h
  exact ⟨A, cap, pv, h1, h2.sub hb, h3, h4.sub hb⟩
theorem Ct.Tr.sub {w w' : World} {e : Ct} {c : Value} (h : e.Tr w c) (hb : Sub w w') : e.Tr w' c := by
  cases e
  obtain ⟨A, cap, pv, h1, h2, h3, h4⟩ := h
  exact ⟨A, cap, pv, h1, h2.sub hb, h3, h4.sub hb⟩
theorem Ct.Tr.form {w : World} {e : Ct} {v : Value} (h : e.Tr w v) : ∃ Ap lp cp A cap, v = .agg #[.int .i64 e.kind, .int .i64 e.rule, .slice Ap lp cp, .slice A e.cs.length cap] := by
  cases e
  obtain ⟨A, cap, pv, rfl, ⟨Ap, cp, rfl, _⟩, h3, h4⟩ := h
  exact ⟨_, _, _, _, _, rfl⟩
theorem CtRow.get {w : World} : ∀ {es : List Ct} {b o : Nat}, CtRow w es b o → ∀ (i : Nat) (h : i < es.length), (es[i]).At w b (o + i * 6)
  | [], _, _, _, i, h => by simp at h
  | e :: r, b, o, h, 0, _ => by
    rw [CtRow] at h
    simpa using h.1
  | e :: r, b, o, h, i + 1, hi => by
    rw [CtRow] at h
    have := CtRow.get h.2 i (by simpa using hi)
    rw [show o + (i + 1) * 6 = o + 6 + i * 6 by omega]
    exact this
theorem Cts.get {w : World} {A : Option Addr} {es : List Ct} (h : Cts w A es) (i : Nat) (hi : i < es.length) : ∃ b o, A = some ⟨b, o, none⟩ ∧ (es[i]).At w b (o + i * 6) := by
  rcases h with rfl | ⟨b, o, h1, h2⟩
  · simp at hi
  · exact ⟨b, o, h1, h2.get i hi⟩
theorem Ct.At.open_ {w : World} {b o : Nat} {con : Int} {is : Bool} {k r : Int} {p : List Int} {cs : List Ct} (h : (Ct.mk con is k r p cs).At w b o) :
    ∃ (A : Option Addr) (cap : Nat) (Ap : Option Addr) (cp : Nat), w.cell? ⟨b, o, none⟩ = some (.int .i64 con) ∧ w.cell? ⟨b, o + 1, none⟩ = some (.bool is) ∧ w.cell? ⟨b, o + 2, none⟩ = some (.int .i64 k) ∧ w.cell? ⟨b, o + 3, none⟩ = some (.int .i64 r) ∧ w.cell? ⟨b, o + 4, none⟩ = some (.slice Ap p.length cp) ∧ w.cell? ⟨b, o + 5, none⟩ = some (.slice A cs.length cap) ∧
      (Ct.mk con is k r p cs).Tr w (.agg #[.int .i64 k, .int .i64 r, .slice Ap p.length cp, .slice A cs.length cap]) := by
  rw [Ct.At] at h
  obtain ⟨A, cap, pv, c0, c1, c2, c3, c4, c5, hi, hh, hr⟩ := h
  have hi2 := hi
  obtain ⟨Ap, cp, rfl, _⟩ := hi
  exact ⟨A, cap, Ap, cp, c0, c1, c2, c3, c4, c5, A, cap, _, rfl, hi2, hh, hr⟩
/-- the cells of a row of cases. -/
def CtCells (w : World) : List Ct → List Value → Prop
  | [], xs => xs = []
  | e :: r, xs => ∃ c rest, xs = c ++ rest ∧ e.Cs w c ∧ CtCells w r rest
theorem Ct.Cs.len {w : World} {e : Ct} {c : List Value} (h : e.Cs w c) : c.length = 6 := by
  cases e
  obtain ⟨A, cap, pv, rfl, _⟩ := h
  rfl
theorem CtCells.len {w : World} : ∀ {es : List Ct} {xs : List Value}, CtCells w es xs → xs.length = es.length * 6
  | [], xs, h => by rw [CtCells] at h; subst h; simp
  | e :: r, xs, h => by
    rw [CtCells] at h
    obtain ⟨c, rest, rfl, h1, h2⟩ := h
    rw [List.length_append, h1.len, h2.len, List.length_cons]; omega
theorem CtCells.sub {w w' : World} (hb : Sub w w') : ∀ {es : List Ct} {xs : List Value}, CtCells w es xs → CtCells w' es xs
  | [], xs, h => by rw [CtCells] at h ⊢; exact h
  | e :: r, xs, h => by
    rw [CtCells] at h ⊢
    obtain ⟨c, rest, h0, h1, h2⟩ := h
    exact ⟨c, rest, h0, h1.sub hb, h2.sub hb⟩
theorem CtCells.append {w : World} : ∀ {es fs : List Ct} {xs zs : List Value}, CtCells w es xs → CtCells w fs zs → CtCells w (es ++ fs) (xs ++ zs)
  | [], fs, xs, zs, h, g => by rw [CtCells] at h; subst h; exact g
  | e :: r, fs, xs, zs, h, g => by
    rw [CtCells] at h
    obtain ⟨c, rest, rfl, h1, h2⟩ := h
    rw [List.cons_append, CtCells]
    exact ⟨c, rest ++ zs, by rw [List.append_assoc], h1, h2.append g⟩
theorem CtCells.single {w : World} {e : Ct} {c : List Value} (h : e.Cs w c) : CtCells w [e] c := by
  rw [CtCells]
  exact ⟨c, [], by simp, h, by rw [CtCells]⟩
theorem CtCells.row {w : World} {b : Nat} : ∀ {es : List Ct} {xs : List Value} {o : Nat}, CtCells w es xs → (∀ j u, xs[j]? = some u → w.cell? ⟨b, o + j, none⟩ = some u) → CtRow w es b o
  | [], _, _, _, _ => by rw [CtRow]; trivial
  | e :: r, xs, o, h, hc => by
    rw [CtCells] at h
    obtain ⟨c, rest, rfl, h1, h2⟩ := h
    have hlen := h1.len
    rw [CtRow]
    refine ⟨?_, h2.row fun j u hu => ?_⟩
    · cases e with
      | mk con is k r p cs =>
      obtain ⟨A, cap, pv, rfl, hi, hh, hr⟩ := h1
      rw [Ct.At]
      exact ⟨A, cap, pv, hc 0 _ rfl, hc 1 _ rfl, hc 2 _ rfl, hc 3 _ rfl, hc 4 _ rfl, hc 5 _ rfl, hi, hh, hr⟩
    · have := hc (j + 6) u (by rw [List.getElem?_append_right (by omega), hlen]; simpa using hu)
      rw [show o + (j + 6) = o + 6 + j by omega] at this
      exact this
theorem Cts.of_src {w : World} {A : Option Addr} {es : List Ct} {xs : List Value} (h : Src w 6 A es.length xs) (hc : CtCells w es xs) : Cts w A es := by
  rcases h.2 with h0 | ⟨b, o, rfl, h1⟩
  · exact .inl (List.eq_nil_of_length_eq_zero h0)
  · exact .inr ⟨b, o, rfl, hc.row h1⟩
mutual
/-- the leaves from the left. -/
def Ct.leaves : Ct → List Int
  | .mk _ _ k r _ cs => if k = 1 then [r] else CtLeaves cs
def CtLeaves : List Ct → List Int
  | [] => []
  | e :: r => e.leaves ++ CtLeaves r
end
mutual
def Ct.size : Ct → Nat
  | .mk _ _ _ _ _ cs => CtSize cs + 1
def CtSize : List Ct → Nat
  | [] => 0
  | e :: r => e.size + CtSize r
end
theorem Ct.size_mk (a : Int) (b : Bool) (c d : Int) (e : List Int) (cs : List Ct) : (Ct.mk a b c d e cs).size = CtSize cs + 1 := by rw [Ct.size]
theorem CtSize_get : ∀ {es : List Ct} {i : Nat} (h : i < es.length), (es[i]).size ≤ CtSize es
  | [], i, h => by simp at h
  | e :: r, 0, _ => by simp only [List.getElem_cons_zero, CtSize]; omega
  | e :: r, i + 1, h => by
    have := CtSize_get (es := r) (i := i) (by simpa using h)
    simp only [List.getElem_cons_succ, CtSize]; omega
/-- the cells of a row of rules. -/
def RCells (w : World) : List (List Ex) → List Value → Prop
  | [], xs => xs = []
  | l :: r, xs => ∃ v rest, xs = v :: rest ∧ Ex.Sl w v l ∧ RCells w r rest
/-- a slice of rules. -/
def RS (w : World) (v : Value) (ls : List (List Ex)) : Prop :=
  ∃ (A : Option Addr) (cap : Nat) (xs : List Value), v = .slice A ls.length cap ∧ ls.length ≤ cap ∧ cap ≤ 9223372036854775807 ∧ ls.length ≤ 1048576 ∧ (A = none → cap = 0) ∧ Src w 1 A ls.length xs ∧ RCells w ls xs
theorem RCells.sub {w w' : World} (hb : Sub w w') : ∀ {ls : List (List Ex)} {xs : List Value}, RCells w ls xs → RCells w' ls xs
  | [], xs, h => by rw [RCells] at h ⊢; exact h
  | e :: r, xs, h => by
    rw [RCells] at h ⊢
    obtain ⟨c, rest, h0, h1, h2⟩ := h
    exact ⟨c, rest, h0, h1.sub hb, h2.sub hb⟩
theorem RS.sub {w w' : World} {v : Value} {l : List (List Ex)} (h : RS w v l) (hb : Sub w w') : RS w' v l := by
  obtain ⟨A, cap, xs, h0, h1, h2, h3, h4, h5, h6⟩ := h
  exact ⟨A, cap, xs, h0, h1, h2, h3, h4, Src_sub h5 hb, h6.sub hb⟩
theorem RCells.get {w : World} : ∀ {es : List (List Ex)} {xs : List Value}, RCells w es xs → ∀ (j : Nat) (h : j < es.length), ∃ v, xs[j]? = some v ∧ Ex.Sl w v es[j]
  | [], xs, _, j, h => by simp at h
  | e :: r, xs, h, 0, _ => by
    rw [RCells] at h
    obtain ⟨c, rest, rfl, h1, h2⟩ := h
    exact ⟨c, rfl, h1⟩
  | e :: r, xs, h, j + 1, hj => by
    rw [RCells] at h
    obtain ⟨c, rest, rfl, h1, h2⟩ := h
    simpa using h2.get j (by simpa using hj)
theorem RS_get {w : World} {A : Option Addr} {ls : List (List Ex)} {xs : List Value} (h : Src w 1 A ls.length xs) (hc : RCells w ls xs) (j : Nat) (hj : j < ls.length) : ∃ b o v, A = some ⟨b, o, none⟩ ∧ b < w.heap.size ∧ w.cell? ⟨b, o + j, none⟩ = some v ∧ Ex.Sl w v ls[j] := by
  obtain ⟨v, h1, h2⟩ := hc.get j hj
  rcases h.2 with h0 | ⟨b, o, rfl, hc'⟩
  · omega
  · have := hc' j v h1
    exact ⟨b, o, v, rfl, World.block_lt_of_cell? _ _ this, this, h2⟩
theorem StrSl.sub {w w' : World} {v : Value} {l : List ByteArray} (h : Strs.StrSl w v l) (hb : Sub w w') : Strs.StrSl w' v l := by
  obtain ⟨A, cap, h0, h1, h2, h3, h4, h5⟩ := h
  exact ⟨A, cap, h0, h1, h2, h3, h4, Src_sub h5 hb⟩
end Go.Proofs.Ytnaakhnmbckpmaa.Data
namespace Go.Proofs.Ytnaakhnmbckpmaa.Pats
open Go.ChangeShapes Go.WideShapes Go.ChangeAt Go.RowKit Go.Proofs.Ytnaakhnmbckpmaa.Lift Go.Proofs.Ytnaakhnmbckpmaa.Data Go.Proofs.Ytnaakhnmbckpmaa.Refs
/-- the blocks of S below lo, and those from hi on. -/
def gap (S : Nat → Bool) (lo hi : Nat) (b : Nat) : Bool := (S b && decide (b < lo)) || decide (hi ≤ b)
theorem gap_iff {S : Nat → Bool} {lo hi b : Nat} : gap S lo hi b = true ↔ (S b = true ∧ b < lo) ∨ hi ≤ b := by simp [gap]
/-- what came in, in a gap. -/
theorem sub_gap {w w' : World} {S : Nat → Bool} {hi : Nat} (h : Below w.heap.size w w') : Sub (part w S) (part w' (gap S w.heap.size hi)) :=
  sub_part fun b hb hs => ⟨gap_iff.2 (.inl ⟨hs, hb⟩), h.block b hb⟩
end Go.Proofs.Ytnaakhnmbckpmaa.Pats
