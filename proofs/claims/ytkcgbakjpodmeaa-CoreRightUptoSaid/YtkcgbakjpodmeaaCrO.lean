/- A program that came in: its types, constructors, functions, trees and bodies. -/
import Derived.Test.YtkcgbakjpodmeaaCoO
import Derived.Test.YtkcgbakjpodmeaaCrW
namespace Go.Proofs.Ytkcgbakjpodmeaa.Data
open Go.ChangeShapes Go.WideShapes Go.ChangeAt Go.RowKit Go.Proofs.Ytkcgbakjpodmeaa.Lift Go.Proofs.Ytkcgbakjpodmeaa.Co
set_option linter.unusedVariables false
set_option linter.unusedSimpArgs false
theorem cells4 : Try.prog.cellsOf 4 = 1 := by kernel_rfl
theorem cells30 : Try.prog.cellsOf 30 = 1 := by kernel_rfl
theorem cells38 : Try.prog.cellsOf 38 = 1 := by kernel_rfl
theorem cells40 : Try.prog.cellsOf 40 = 4 := by kernel_rfl
theorem cells41 : Try.prog.cellsOf 41 = 1 := by kernel_rfl
theorem cells44 : Try.prog.cellsOf 44 = 1 := by kernel_rfl
theorem cells46 : Try.prog.cellsOf 46 = 4 := by kernel_rfl
theorem cells56 : Try.prog.cellsOf 56 = 2 := by kernel_rfl
theorem cells67 : Try.prog.cellsOf 67 = 6 := by kernel_rfl
theorem rows_map {α : Type} {R S : List Value → α → Prop} {w : World} {k : Nat} {A : Option Addr} {l : List α} (h : Lift.RowsIn R w k A l) (hm : ∀ cs a, R cs a → S cs a) : Lift.RowsIn S w k A l := fun i hi => by
  obtain ⟨b, o, cs, h1, h2, h3, h4, h5⟩ := h i hi
  exact ⟨b, o, cs, h1, h2, hm _ _ h3, h4, h5⟩
theorem rows_mem {α : Type} {R : List Value → α → Prop} {w : World} {k : Nat} {A : Option Addr} {l : List α} (h : Lift.RowsIn R w k A l) {P : α → Prop} (hm : ∀ cs a, R cs a → P a) : ∀ a ∈ l, P a := fun a ha => by
  obtain ⟨i, hi, rfl⟩ := List.getElem_of_mem ha
  obtain ⟨b, o, cs, h1, h2, h3, h4, h5⟩ := h i hi
  exact hm _ _ h3
/-- a slice of numbers, by its cells. -/
theorem openB_cs {H : Type} {enc : TypeId × Value → H} {W : World} {n : Nat} {cs : List Value} {x : DataW H × List MemPlace} (h : DataW.trod enc Try.prog W 0 (fun _ => true) true n 30 cs = some x) (hb : Rows.uptoBulk x.1 ≤ 1048576) :
    ∃ (A : Option Addr) (cap : Nat) (l : List Int), cs = [.slice A l.length cap] ∧ InSl W A cap l ∧ l.length + 1 ≤ Rows.uptoBulk x.1 := by
  obtain ⟨A, cap, l, e, h1, h2, h3, hr, hs⟩ := open_rows_cs (R := fun cs (a : Int) => cs = [.int .i64 a]) (sz := fun _ => 0) Try.underlying30 cells3 (by omega) (fun n cs x hx hb => by
    obtain ⟨a, e0, rfl, _⟩ := DataW.trod_int Try.underlying3 hx
    exact ⟨a, e0, by simp only [Rows.uptoBulk]; omega⟩) h hb
  refine ⟨A, cap, l, e, ⟨fun k hk => ?_, h1, h2, by omega, h3⟩, by omega⟩
  obtain ⟨b, o, cs', e', hbl, rfl, -, hc⟩ := hr k hk
  refine ⟨b, o, e', hbl, ?_⟩
  have := hc 0 _ rfl
  rw [Nat.mul_one, Nat.add_zero] at this
  rw [this]
  simp [List.getD, List.getElem?_eq_getElem hk]
theorem openCa_rows {H : Type} {enc : TypeId × Value → H} {W : World} {m : Nat}
    (IH : ∀ (cs : List Value) (x : DataW H × List MemPlace), DataW.trod enc Try.prog W 0 (fun _ => true) true m 67 cs = some x → Rows.uptoBulk x.1 ≤ 1048576 → ∃ e : Ca, e.Cs W cs ∧ e.size ≤ Rows.uptoBulk x.1) (b : Nat) :
    ∀ (elems : List (DataW H × List MemPlace)) (o : Nat), (∀ i, i < elems.length → (W.cells? 0 ⟨b, o + i * 6, none⟩ 6).bind (DataW.trod enc Try.prog W 0 (fun _ => true) true m 67) = elems[i]?) → Rows.uptoBulkAll (elems.map (·.1)) ≤ 1048576 →
      ∃ es : List Ca, es.length = elems.length ∧ CaRow W es b o ∧ CaSize es ≤ Rows.uptoBulkAll (elems.map (·.1))
  | [], o, _, _ => ⟨[], rfl, by rw [CaRow]; trivial, by simp [CaSize]⟩
  | y :: r, o, h, hb => by
    rw [List.map_cons, Rows.uptoBulkAll] at hb ⊢
    have h0 := h 0 (by simp)
    rw [Nat.zero_mul, Nat.add_zero, List.getElem?_cons_zero] at h0
    obtain ⟨cs', h1, h2⟩ := Option.bind_eq_some_iff.1 h0
    obtain ⟨e, he, hsz⟩ := IH cs' y h2 (by omega)
    obtain ⟨es, hl, hr, hs⟩ := openCa_rows IH b r (o + 6) (fun i hi => by
      have := h (i + 1) (by simpa using hi)
      rw [List.getElem?_cons_succ] at this
      rw [← this, show o + 6 + i * 6 = o + (i + 1) * 6 by omega]) (by omega)
    refine ⟨e :: es, by simp [hl], ?_, by rw [CaSize]; omega⟩
    obtain ⟨_, hlen, hc⟩ := World.cells?_some h1
    have h3 := CaCells.row (w := W) (b := b) (o := o) (CaCells.single he) (fun j u hu => by
      have hj : j < cs'.length := (List.getElem?_eq_some_iff.1 hu).1
      have := hc j (by omega)
      rw [← add_plain, this]
      exact hu)
    rw [CaRow] at h3 ⊢
    exact ⟨h3.1, hr⟩
theorem openCas_of {H : Type} {enc : TypeId × Value → H} {W : World} {m : Nat}
    (IH : ∀ n, n < m → ∀ (cs : List Value) (x : DataW H × List MemPlace), DataW.trod enc Try.prog W 0 (fun _ => true) true n 67 cs = some x → Rows.uptoBulk x.1 ≤ 1048576 → ∃ e : Ca, e.Cs W cs ∧ e.size ≤ Rows.uptoBulk x.1)
    {cs : List Value} {x : DataW H × List MemPlace} (h : DataW.trod enc Try.prog W 0 (fun _ => true) true m 38 cs = some x) (hb : Rows.uptoBulk x.1 ≤ 1048576) :
    ∃ (A : Option Addr) (cap : Nat) (es : List Ca), cs = [.slice A es.length cap] ∧ CaHd A es.length cap ∧ Cas W A es ∧ CaSize es + 1 ≤ Rows.uptoBulk x.1 := by
  rcases DataW.trod_slice Try.underlying38 h with ⟨rfl, rfl⟩ | ⟨a, len, cap, elems, rest, n, rfl, rfl, rfl, _, h1, h2, h3, h4, _, _⟩
  · exact ⟨none, 0, [], rfl, ⟨Nat.le_refl _, by omega, by simp, fun _ => rfl⟩, .inl rfl, by simp [Rows.uptoBulk, CaSize]⟩
  · simp only [Rows.uptoBulk] at hb ⊢
    unfold maxLen at h2
    subst h3
    rw [cells67] at h4
    cases elems with
    | nil => exact ⟨some a, cap, [], rfl, ⟨Nat.zero_le _, by omega, by simp, fun h => by cases h⟩, .inl rfl, by simp [CaSize]⟩
    | cons y r =>
      have hp : a.spot = none := by
        have h0 := h4 0 (by simp)
        rw [List.getElem?_cons_zero] at h0
        obtain ⟨cs', g1, g2⟩ := Option.bind_eq_some_iff.1 h0
        obtain ⟨_, hlen, hc⟩ := World.cells?_some g1
        have := hc 0 (by omega)
        rw [List.getElem?_eq_getElem (by omega)] at this
        simpa [Addr.add] using World.cell?_spot this
      obtain ⟨b, o, spot⟩ := a
      simp only at hp
      subst hp
      obtain ⟨es, hl, hr, hs⟩ := openCa_rows (IH n (Nat.lt_succ_self n)) b (y :: r) o (fun i hi => by rw [← add_plain]; exact h4 i hi) (by omega)
      have hle := CaSize_len es
      refine ⟨some ⟨b, o, none⟩, cap, es, by rw [hl], ⟨by omega, by omega, by omega, fun h => by cases h⟩, .inr ⟨b, o, rfl, hr⟩, by omega⟩
theorem hd_of {W : World} {A : Option Addr} {cap : Nat} {l : List Int} (h : InSl W A cap l) (hm : l.length ≤ 1048576) : ∃ p : PHd, p.A = A ∧ p.n = l.length ∧ p.c = cap := ⟨⟨A, l.length, cap, hm, h.2.1, h.2.2.1⟩, rfl, rfl, rfl⟩
set_option maxRecDepth 100000 in
/-- a tree, by its cells; its cases by IH. -/
theorem openTr_of {H : Type} {enc : TypeId × Value → H} {W : World} {m : Nat}
    (IH : ∀ n, n < m → ∀ (cs : List Value) (x : DataW H × List MemPlace), DataW.trod enc Try.prog W 0 (fun _ => true) true n 67 cs = some x → Rows.uptoBulk x.1 ≤ 1048576 → ∃ e : Ca, e.Cs W cs ∧ e.size ≤ Rows.uptoBulk x.1)
    {cs : List Value} {x : DataW H × List MemPlace} (h : DataW.trod enc Try.prog W 0 (fun _ => true) true m 40 cs = some x) (hb : Rows.uptoBulk x.1 ≤ 1048576) :
    ∃ (k r : Int) (p : PHd) (A : Option Addr) (cap : Nat) (ys : List Ca), cs = [.int .i64 k, .int .i64 r, .slice p.A p.n p.c, .slice A ys.length cap] ∧ CaHd A ys.length cap ∧ Cas W A ys ∧ CaSize ys + 1 ≤ Rows.uptoBulk x.1 := by
  obtain ⟨xs, n, e, rfl, hl, hlen, hf⟩ := DataW.trod_struct Try.underlying40 h
  rw [cells40] at hl
  match cs, hl, xs, hlen with
  | [c0, c1, c2, c3], _, [y0, y1, y2, y3], _ =>
  have f0 : DataW.trod enc Try.prog W 0 _ true n 3 (([c0, c1, c2, c3].drop 0).take (Try.prog.cellsOf 3)) = some y0 := hf 0 _ rfl
  have f1 : DataW.trod enc Try.prog W 0 _ true n 3 (([c0, c1, c2, c3].drop 1).take (Try.prog.cellsOf 3)) = some y1 := hf 1 _ rfl
  have f2 : DataW.trod enc Try.prog W 0 (fun _ => true) true n 30 (([c0, c1, c2, c3].drop 2).take (Try.prog.cellsOf 30)) = some y2 := hf 2 _ rfl
  have f3 : DataW.trod enc Try.prog W 0 (fun _ => true) true n 38 (([c0, c1, c2, c3].drop 3).take (Try.prog.cellsOf 38)) = some y3 := hf 3 _ rfl
  obtain ⟨k, e0, rfl, _⟩ := DataW.trod_int Try.underlying3 f0
  obtain ⟨r, e1, rfl, _⟩ := DataW.trod_int Try.underlying3 f1
  simp only [List.map_cons, List.map_nil, Rows.uptoBulk, Rows.uptoBulkAll] at hb ⊢
  obtain ⟨Ap, cp, lp, e2, hp, hpb⟩ := openB_cs f2 (by omega)
  obtain ⟨p, rfl, hpn, rfl⟩ := hd_of hp (by omega)
  obtain ⟨A, cap, es, e3, hh, hr, hs⟩ := openCas_of (fun n hn => IH n (by omega)) f3 (by omega)
  rw [← hpn] at e2
  rw [cells3] at e0 e1
  rw [cells30] at e2
  rw [cells38] at e3
  simp at e0 e1 e2 e3
  subst e0 e1 e2 e3
  exact ⟨k, r, p, A, cap, es, rfl, hh, hr, by omega⟩
set_option maxRecDepth 100000 in
theorem openCa_cs {H : Type} {enc : TypeId × Value → H} {W : World} (fuel : Nat) : ∀ (cs : List Value) (x : DataW H × List MemPlace),
    DataW.trod enc Try.prog W 0 (fun _ => true) true fuel 67 cs = some x → Rows.uptoBulk x.1 ≤ 1048576 → ∃ e : Ca, e.Cs W cs ∧ e.size ≤ Rows.uptoBulk x.1 := by
  induction fuel using Nat.strongRecOn with
  | _ fuel ih =>
  intro cs x h hb
  obtain ⟨xs, n, rfl, rfl, hl, hlen, hf⟩ := DataW.trod_struct Try.underlying67 h
  rw [cells67] at hl
  match cs, hl, xs, hlen with
  | [c0, c1, c2, c3, c4, c5], _, [y0, y1, y2], _ =>
  have f0 : DataW.trod enc Try.prog W 0 _ true n 3 (([c0, c1, c2, c3, c4, c5].drop 0).take (Try.prog.cellsOf 3)) = some y0 := hf 0 _ rfl
  have f1 : DataW.trod enc Try.prog W 0 _ true n 4 (([c0, c1, c2, c3, c4, c5].drop 1).take (Try.prog.cellsOf 4)) = some y1 := hf 1 _ rfl
  have f2 : DataW.trod enc Try.prog W 0 (fun _ => true) true n 40 (([c0, c1, c2, c3, c4, c5].drop 2).take (Try.prog.cellsOf 40)) = some y2 := hf 2 _ rfl
  obtain ⟨con, e0, rfl, _⟩ := DataW.trod_int Try.underlying3 f0
  obtain ⟨is, e1, rfl⟩ := DataW.trod_bool Try.underlying4 f1
  simp only [List.map_cons, List.map_nil, Rows.uptoBulk, Rows.uptoBulkAll] at hb ⊢
  obtain ⟨k, r, p, A, cap, es, e2, hh, hr, hs⟩ := openTr_of (fun n hn => ih n (by omega)) f2 (by omega)
  rw [cells3] at e0
  rw [cells4] at e1
  rw [cells40] at e2
  simp at e0 e1 e2
  obtain ⟨rfl, rfl, rfl, rfl⟩ := e2
  subst e0 e1
  exact ⟨.mk con is k r p es, ⟨A, cap, rfl, hh, hr⟩, by rw [Ca.size_mk]; omega⟩
set_option maxRecDepth 100000 in
theorem openTr {H : Type} {enc : TypeId × Value → H} {W : World} {n : Nat} {cs : List Value} {x : DataW H × List MemPlace} (h : DataW.trod enc Try.prog W 0 (fun _ => true) true n 40 cs = some x) (hb : Rows.uptoBulk x.1 ≤ 1048576) :
    ∃ t : Ca, TrCs W cs t := by
  obtain ⟨k, r, p, A, cap, ys, e, hh, hr, -⟩ := openTr_of (fun n _ => openCa_cs n) h hb
  exact ⟨.mk 0 false k r p ys, A, cap, e, hh, hr⟩
set_option maxRecDepth 100000 in
theorem openBd {H : Type} {enc : TypeId × Value → H} {W : World} (n : Nat) (cs : List Value) (x : DataW H × List MemPlace) (h : DataW.trod enc Try.prog W 0 (fun _ => true) true n 46 cs = some x) (hb : Rows.uptoBulk x.1 ≤ 1048576) :
    ∃ b : Bd, (BdR W cs b ∧ bdSmall b) ∧ 0 + 1 ≤ Rows.uptoBulk x.1 := by
  obtain ⟨xs, n', e, rfl, hl, hlen, hf⟩ := DataW.trod_struct Try.underlying46 h
  rw [cells46] at hl
  match cs, hl, xs, hlen with
  | [c0, c1, c2, c3], _, [y0, y1], _ =>
  have f0 : DataW.trod enc Try.prog W 0 (fun _ => true) true n' 44 (([c0, c1, c2, c3].drop 0).take (Try.prog.cellsOf 44)) = some y0 := hf 0 _ rfl
  have f1 : DataW.trod enc Try.prog W 0 (fun _ => true) true n' 29 (([c0, c1, c2, c3].drop 1).take (Try.prog.cellsOf 29)) = some y1 := hf 1 _ rfl
  simp only [List.map_cons, List.map_nil, Rows.uptoBulk, Rows.uptoBulkAll] at hb ⊢
  obtain ⟨A, cap, l, e0, h1, h2, h3, hr, hs⟩ := open_rows_cs (R := fun (cs : List Value) (a : Unit) => True) (sz := fun _ => 0) Try.underlying44 cells30 (by omega) (fun n cs x hx hb => by
    obtain ⟨A, cap, l, e0, -, hs⟩ := openB_cs hx hb
    exact ⟨(), trivial, by omega⟩) f0 (by omega)
  obtain ⟨c, hc, hsz⟩ := openCo_cs _ _ _ f1 (by omega)
  rw [cells44] at e0
  rw [cells29] at hc
  simp at e0 hc
  subst e0
  refine ⟨⟨l.length, c⟩, ⟨⟨A, cap, _, rfl, h1, h2, by dsimp only; omega, hc⟩, ?_⟩, by omega⟩
  unfold bdSmall
  dsimp only
  omega
set_option maxRecDepth 100000 in
theorem openFnR {H : Type} {enc : TypeId × Value → H} {W : World} (n : Nat) (cs : List Value) (x : DataW H × List MemPlace) (h : DataW.trod enc Try.prog W 0 (fun _ => true) true n 43 cs = some x) (hb : Rows.uptoBulk x.1 ≤ 1048576) :
    ∃ f : Co.Fn, (FnR W cs f ∧ ∀ b ∈ f.bodies, bdSmall b) ∧ 0 + 1 ≤ Rows.uptoBulk x.1 := by
  obtain ⟨xs, n', e, rfl, hl, hlen, hf⟩ := DataW.trod_struct Try.underlying43 h
  rw [cells43] at hl
  match cs, hl, xs, hlen with
  | [c0, c1, c2, c3, c4, c5, c6], _, [y0, y1, y2, y3], _ =>
  have f0 : DataW.trod enc Try.prog W 0 (fun _ => true) true n' 9 (([c0, c1, c2, c3, c4, c5, c6].drop 0).take (Try.prog.cellsOf 9)) = some y0 := hf 0 _ rfl
  have f1 : DataW.trod enc Try.prog W 0 (fun _ => true) true n' 3 (([c0, c1, c2, c3, c4, c5, c6].drop 1).take (Try.prog.cellsOf 3)) = some y1 := hf 1 _ rfl
  have f2 : DataW.trod enc Try.prog W 0 (fun _ => true) true n' 40 (([c0, c1, c2, c3, c4, c5, c6].drop 2).take (Try.prog.cellsOf 40)) = some y2 := hf 2 _ rfl
  have f3 : DataW.trod enc Try.prog W 0 (fun _ => true) true n' 41 (([c0, c1, c2, c3, c4, c5, c6].drop 6).take (Try.prog.cellsOf 41)) = some y3 := hf 3 _ rfl
  obtain ⟨s, e0, rfl, _⟩ := DataW.trod_string Try.underlying9 f0
  obtain ⟨a, e1, rfl, _⟩ := DataW.trod_int Try.underlying3 f1
  simp only [List.map_cons, List.map_nil, Rows.uptoBulk, Rows.uptoBulkAll] at hb ⊢
  obtain ⟨t, ht⟩ := openTr f2 (by omega)
  obtain ⟨A, cap, l, e3, h1, h2, h3, hr, hs⟩ := open_rows_cs (sz := fun _ => 0) Try.underlying41 cells46 (by omega) (fun n cs x hx hb => openBd n cs x hx hb) f3 (by omega)
  rw [cells9] at e0
  rw [cells3] at e1
  rw [cells40] at ht
  rw [cells41] at e3
  simp at e0 e1 e3 ht
  subst e0 e1 e3
  exact ⟨⟨a, t, l⟩, ⟨⟨s, [c2, c3, c4, c5], A, cap, rfl, ht, rows_map hr (fun _ _ h => h.1), h1, h2, by dsimp only; omega⟩, rows_mem hr (fun _ _ h => h.2)⟩, by omega⟩
set_option maxRecDepth 100000 in
theorem openMkR {H : Type} {enc : TypeId × Value → H} {W : World} (n : Nat) (cs : List Value) (x : DataW H × List MemPlace) (h : DataW.trod enc Try.prog W 0 (fun _ => true) true n 59 cs = some x) (hb : Rows.uptoBulk x.1 ≤ 1048576) :
    ∃ m : Mk, MkR cs m ∧ 0 + 1 ≤ Rows.uptoBulk x.1 := by
  obtain ⟨xs, n', e, rfl, hl, hlen, hf⟩ := DataW.trod_struct Try.underlying59 h
  rw [cells59] at hl
  match cs, hl, xs, hlen with
  | [c0, c1, c2, c3], _, [y0, y1, y2, y3], _ =>
  have f0 : DataW.trod enc Try.prog W 0 (fun _ => true) true n' 9 (([c0, c1, c2, c3].drop 0).take (Try.prog.cellsOf 9)) = some y0 := hf 0 _ rfl
  have f1 : DataW.trod enc Try.prog W 0 (fun _ => true) true n' 3 (([c0, c1, c2, c3].drop 1).take (Try.prog.cellsOf 3)) = some y1 := hf 1 _ rfl
  have f2 : DataW.trod enc Try.prog W 0 (fun _ => true) true n' 3 (([c0, c1, c2, c3].drop 2).take (Try.prog.cellsOf 3)) = some y2 := hf 2 _ rfl
  have f3 : DataW.trod enc Try.prog W 0 (fun _ => true) true n' 3 (([c0, c1, c2, c3].drop 3).take (Try.prog.cellsOf 3)) = some y3 := hf 3 _ rfl
  obtain ⟨s, e0, rfl, _⟩ := DataW.trod_string Try.underlying9 f0
  obtain ⟨a, e1, rfl, _⟩ := DataW.trod_int Try.underlying3 f1
  obtain ⟨ty, e2, rfl, _⟩ := DataW.trod_int Try.underlying3 f2
  obtain ⟨tg, e3, rfl, _⟩ := DataW.trod_int Try.underlying3 f3
  rw [cells9] at e0
  rw [cells3] at e1 e2 e3
  simp at e0 e1 e2 e3
  subst e0 e1 e2 e3
  exact ⟨⟨a, ty, tg⟩, ⟨s, rfl⟩, by simp only [Rows.uptoBulk]; omega⟩
set_option maxRecDepth 100000 in
theorem openKdR {H : Type} {enc : TypeId × Value → H} {W : World} (n : Nat) (cs : List Value) (x : DataW H × List MemPlace) (h : DataW.trod enc Try.prog W 0 (fun _ => true) true n 56 cs = some x) (hb : Rows.uptoBulk x.1 ≤ 1048576) :
    ∃ l : List Int, KdR W cs l ∧ 0 + 1 ≤ Rows.uptoBulk x.1 := by
  obtain ⟨xs, n', e, rfl, hl, hlen, hf⟩ := DataW.trod_struct Try.underlying56 h
  rw [cells56] at hl
  match cs, hl, xs, hlen with
  | [c0, c1], _, [y0, y1], _ =>
  have f0 : DataW.trod enc Try.prog W 0 (fun _ => true) true n' 9 (([c0, c1].drop 0).take (Try.prog.cellsOf 9)) = some y0 := hf 0 _ rfl
  have f1 : DataW.trod enc Try.prog W 0 (fun _ => true) true n' 30 (([c0, c1].drop 1).take (Try.prog.cellsOf 30)) = some y1 := hf 1 _ rfl
  obtain ⟨s, e0, rfl, _⟩ := DataW.trod_string Try.underlying9 f0
  simp only [List.map_cons, List.map_nil, Rows.uptoBulk, Rows.uptoBulkAll] at hb ⊢
  obtain ⟨A, cap, l, e1, hl', -⟩ := openB_cs f1 (by omega)
  rw [cells9] at e0
  rw [cells30] at e1
  simp at e0 e1
  subst e0 e1
  exact ⟨l, ⟨s, A, cap, rfl, hl'⟩, by omega⟩
set_option maxRecDepth 100000 in
theorem openPg_arg {H : Type} {enc : TypeId × Value → H} {W : World} {r : Reach} {b0 : Nat} {v : Value} {d : DataW H} {ps : List MemPlace} (hval : Value.okWide Try.prog W r b0 26 v) (h : DataW.Trod enc Try.prog W 0 (fun _ => true) true 26 v d ps)
    (hb : Rows.uptoBulk d ≤ 1048576) : ∃ (p : Pg) (Ak Am Af : Option Addr) (ck cm cf : Nat), v = .agg #[.slice Ak p.kinds.length ck, .slice Am p.makers.length cm, .slice Af p.funs.length cf] ∧ PgR W p Ak Am Af ck cm cf ∧ ∀ f ∈ p.funs, ∀ b ∈ f.bodies, bdSmall b := by
  obtain ⟨cs, rfl, hsz⟩ := okWide_struct Try.underlying26 hval
  obtain ⟨fuel, hf0⟩ := h
  obtain ⟨x, hx⟩ : ∃ x : DataW H × List MemPlace, x = (d, ps) := ⟨_, rfl⟩
  rw [← hx] at hf0
  obtain rfl : d = x.1 := by rw [hx]
  clear hx
  obtain ⟨xs, n', e, rfl, hl, hlen, hf⟩ := DataW.trod_struct Try.underlying26 hf0
  obtain ⟨q⟩ := cs
  simp only [Value.cells] at e hf hl
  rw [cells26] at hl
  match q, hl, xs, hlen with
  | [c0, c1, c2], _, [y0, y1, y2], _ =>
  have f0 : DataW.trod enc Try.prog W 0 _ true n' 22 (([c0, c1, c2].drop 0).take (Try.prog.cellsOf 22)) = some y0 := hf 0 _ rfl
  have f1 : DataW.trod enc Try.prog W 0 _ true n' 23 (([c0, c1, c2].drop 1).take (Try.prog.cellsOf 23)) = some y1 := hf 1 _ rfl
  have f2 : DataW.trod enc Try.prog W 0 _ true n' 24 (([c0, c1, c2].drop 2).take (Try.prog.cellsOf 24)) = some y2 := hf 2 _ rfl
  rw [cells22] at f0
  rw [cells23] at f1
  rw [cells24] at f2
  simp only [List.map_cons, List.map_nil, Rows.uptoBulk, Rows.uptoBulkAll] at hb
  obtain ⟨A0, k0, l0, e0, a0, b0, -, hr0, hm0⟩ := open_rows_cs (sz := fun _ => 0) Try.underlying22 cells56 (by omega) (fun n cs x hx hb => openKdR n cs x hx hb) f0 (by omega)
  obtain ⟨A1, k1, l1, e1, a1, b1, -, hr1, hm1⟩ := open_rows_cs (sz := fun _ => 0) Try.underlying23 cells59 (by omega) (fun n cs x hx hb => openMkR n cs x hx hb) f1 (by omega)
  obtain ⟨A2, k2, l2, e2, a2, b2, -, hr2, hm2⟩ := open_rows_cs (sz := fun _ => 0) Try.underlying24 cells43 (by omega) (fun n cs x hx hb => openFnR n cs x hx hb) f2 (by omega)
  simp at e0 e1 e2
  subst e0 e1 e2
  exact ⟨⟨l0, l1, l2⟩, A0, A1, A2, k0, k1, k2, rfl, ⟨hr0, hr1, rows_map hr2 (fun _ _ h => h.1), a0, b0, by dsimp only; omega, a1, b1, by dsimp only; omega, a2, b2, by dsimp only; omega⟩, rows_mem hr2 (fun _ _ h => h.2)⟩
end Go.Proofs.Ytkcgbakjpodmeaa.Data
