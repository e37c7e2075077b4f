/- Contracts: slices.IndexFunc and ContainsFunc at cases, core.tree and its closures. -/
import Derived.Test.YtkcgbakjpodmeaaCrA
import Derived.Deep.QuietTactic
import Derived.BigQuiet
namespace Go.Proofs.Ytkcgbakjpodmeaa.Co
open Go.ChangeShapes Go.WideShapes Go.ChangeAt Go.RowKit Go.Proofs.Ytkcgbakjpodmeaa.Lift Go.Proofs.Ytkcgbakjpodmeaa.Data
set_option linter.unusedVariables false
set_option linter.unusedSimpArgs false
theorem any_take {α : Type} (f : α → Bool) : ∀ {l : List α} {j : Nat}, (∀ q (hq : q < l.length), q < j → f l[q] = false) → l.length ≤ j → l.any f = false
  | l, j, h, hj => by
    rw [List.any_eq_false]
    intro x hx
    obtain ⟨q, hq, rfl⟩ := List.getElem_of_mem hx
    simp [h q hq (by omega)]
theorem any_hit {α : Type} (f : α → Bool) {l : List α} {j : Nat} (hj : j < l.length) (h : f l[j] = true) : l.any f = true := by
  rw [List.any_eq_true]
  exact ⟨l[j], List.getElem_mem hj, h⟩
theorem cells3p {w : World} {b : Nat} {v0 v1 v2 : Value} {t : TypeId} (h : w.heap[b]? = some (.cells #[v0, v1, v2] t (0, 0))) : w.cell? ⟨b, 0, none⟩ = some v0 ∧ w.cell? ⟨b, 1, none⟩ = some v1 ∧ w.cell? ⟨b, 2, none⟩ = some v2 := by
  refine ⟨?_, ?_, ?_⟩ <;> simp [World.cell?, h]
theorem cells4p {w : World} {b : Nat} {v0 v1 v2 v3 : Value} {t : TypeId} (h : w.heap[b]? = some (.cells #[v0, v1, v2, v3] t (0, 0))) : w.cell? ⟨b, 0, none⟩ = some v0 ∧ w.cell? ⟨b, 1, none⟩ = some v1 ∧ w.cell? ⟨b, 2, none⟩ = some v2 ∧ w.cell? ⟨b, 3, none⟩ = some v3 := by
  refine ⟨?_, ?_, ?_, ?_⟩ <;> simp [World.cell?, h]
theorem cells6p {w : World} {b : Nat} {v0 v1 v2 v3 v4 v5 : Value} {t : TypeId} (h : w.heap[b]? = some (.cells #[v0, v1, v2, v3, v4, v5] t (0, 0))) : w.cell? ⟨b, 0, none⟩ = some v0 ∧ w.cell? ⟨b, 1, none⟩ = some v1 ∧ w.cell? ⟨b, 2, none⟩ = some v2 ∧ w.cell? ⟨b, 3, none⟩ = some v3 ∧ w.cell? ⟨b, 4, none⟩ = some v4 ∧ w.cell? ⟨b, 5, none⟩ = some v5 := by
  refine ⟨?_, ?_, ?_, ?_, ?_, ?_⟩ <;> simp [World.cell?, h]
theorem cells7p {w : World} {b : Nat} {v0 v1 v2 v3 v4 v5 v6 : Value} {t : TypeId} (h : w.heap[b]? = some (.cells #[v0, v1, v2, v3, v4, v5, v6] t (0, 0))) : w.cell? ⟨b, 0, none⟩ = some v0 ∧ w.cell? ⟨b, 1, none⟩ = some v1 ∧ w.cell? ⟨b, 2, none⟩ = some v2 ∧ w.cell? ⟨b, 3, none⟩ = some v3 ∧ w.cell? ⟨b, 4, none⟩ = some v4 ∧ w.cell? ⟨b, 5, none⟩ = some v5 ∧ w.cell? ⟨b, 6, none⟩ = some v6 := by
  refine ⟨?_, ?_, ?_, ?_, ?_, ?_, ?_⟩ <;> simp [World.cell?, h]
theorem below1C (w : World) (o : Obj) : Below w.heap.size w (w.alloc o) := (Below.refl _ _).alloc (Nat.le_refl _) o

set_option maxRecDepth 100000 in
set_option maxHeartbeats 1000000 in
theorem indexCa31 (bad : Ca → Bool) (pb fb : Nat) (w : World) (ys : List Ca) (v : Value) (hv : Ca.Sl w v ys)
    (hcall : ∀ (i : Nat) (hi : i < ys.length) (z : World) (a : Value), (ys[i]).Val w a → Below w.heap.size w z → Calls Try.prog 31 #[a, .pointer (some ⟨pb, 0, none⟩), .pointer (some ⟨fb, 0, none⟩)] z fun r z' => r = .returned (.bool (bad ys[i])) ∧ Below z.heap.size z z') :
    Calls Try.prog 35 #[v, .func (.func 31) #[] #[.pointer (some ⟨pb, 0, none⟩), .pointer (some ⟨fb, 0, none⟩)]] w fun r w' => (∃ i : Int, r = .returned (.int .i64 i) ∧ decide (0 ≤ i) = ys.any bad) ∧ Below w.heap.size w w' := by
  obtain ⟨A, cap, rfl, ⟨hd1, hd2, hd3, hd4⟩, hs⟩ := hv
  have HCA := Lib.hid hcall
  clear hcall
  go_enter Try.func35, Try.ntmps35
  go_wp2_with fail
  go_loopw [8] (fun i wr => ∃ j : Nat, i = .int .i64 j ∧ j ≤ ys.length ∧ Hid (∀ q (hq : q < ys.length), q < j → bad ys[q] = false) ∧ Below w.heap.size w wr) (fun i _ => ys.length - (intOf i).toNat)
  case atStart => exact ⟨0, rfl, Nat.zero_le _, Lib.hid (fun q hq h => by omega), Below.refl _ _⟩
  case round =>
    obtain ⟨j, rfl, hj, hno, hb⟩ := hrel
    by_cases hlt : j < ys.length
    · obtain ⟨b, o, rfl, hat⟩ := hs.get j hlt
      have HI := Lib.hid (fun z a h1 h2 => HCA.out j hlt z a h1 h2)
      have HHit := Lib.hid (any_hit bad hlt)
      have HNX : Hid (bad ys[j] = false → ∀ q (hq : q < ys.length), q < j + 1 → bad ys[q] = false) := Lib.hid (fun h q hq h2 => by
        rcases Nat.lt_or_eq_of_le (Nat.lt_succ_iff.1 h2) with h1 | rfl
        · exact hno.out q hq h1
        · exact h)
      clear HCA hno
      generalize ys[j] = y at *
      cases y with
      | mk con is k r p ys' =>
      obtain ⟨A', cap', c0, c1, c2, c3, c4, c5, hv'⟩ := Ca.At.both hat hb (Nat.le_refl _)
      clear hat hs
      have HC := Lib.hid (HI.out wr _ hv' hb)
      clear HI
      cases hsm : bad (.mk con is k r p ys')
      · rw [hsm] at HC
        have HN := Lib.hid (HNX.out hsm)
        clear hsm HNX HHit
        go_wp2_with fail
        refine HC.out.mono ?_
        rintro _ w1 ⟨rfl, hb1⟩
        have hbn := hb.thenCall hb.size hb1
        go_wp2_with fail
        exact ⟨⟨j + 1, by go_num, by omega, HN, hbn⟩, by simp [intOf]; omega⟩
      · rw [hsm] at HC
        have HH := Lib.hid (HHit.out hsm)
        clear hsm HNX HHit
        go_wp2_with fail
        refine HC.out.mono ?_
        rintro _ w1 ⟨rfl, hb1⟩
        have hbn := hb.thenCall hb.size hb1
        go_wp2_with fail
        go_ret
        exact ⟨⟨j, rfl, by rw [HH.out]; simp⟩, hbn⟩
    · have HN := Lib.hid (any_take bad hno.out (by omega))
      clear hs HCA
      go_wp2_with fail
      go_ret
      exact ⟨⟨-1, rfl, by rw [HN.out]; rfl⟩, hb⟩
theorem containsCa31 (bad : Ca → Bool) (pb fb : Nat) (w : World) (ys : List Ca) (v : Value) (hv : Ca.Sl w v ys)
    (hcall : ∀ (i : Nat) (hi : i < ys.length) (z : World) (a : Value), (ys[i]).Val w a → Below w.heap.size w z → Calls Try.prog 31 #[a, .pointer (some ⟨pb, 0, none⟩), .pointer (some ⟨fb, 0, none⟩)] z fun r z' => r = .returned (.bool (bad ys[i])) ∧ Below z.heap.size z z') :
    Calls Try.prog 32 #[v, .func (.func 31) #[] #[.pointer (some ⟨pb, 0, none⟩), .pointer (some ⟨fb, 0, none⟩)]] w fun r w' => r = .returned (.bool (ys.any bad)) ∧ Below w.heap.size w w' := by
  have H := Lib.hid (indexCa31 bad pb fb w ys v hv hcall)
  obtain ⟨A, cap, rfl, -, -⟩ := hv
  clear hcall
  go_enter Try.func32, Try.ntmps32
  go_wp2_with fail
  refine H.out.mono ?_
  rintro _ w1 ⟨⟨i, rfl, hi⟩, hb1⟩
  have HI := Lib.hid hi
  clear hi
  go_wp2_with fail
  go_ret
  exact ⟨by rw [← HI.out]; try rfl, hb1⟩

set_option maxRecDepth 100000 in
set_option maxHeartbeats 1000000 in
theorem indexCa33 (bad : Ca → Bool) (pb fb : Nat) (w : World) (ys : List Ca) (v : Value) (hv : Ca.Sl w v ys)
    (hcall : ∀ (i : Nat) (hi : i < ys.length) (z : World) (a : Value), (ys[i]).Val w a → Below w.heap.size w z → Calls Try.prog 33 #[a, .pointer (some ⟨pb, 0, none⟩), .pointer (some ⟨fb, 0, none⟩)] z fun r z' => r = .returned (.bool (bad ys[i])) ∧ Below z.heap.size z z') :
    Calls Try.prog 35 #[v, .func (.func 33) #[] #[.pointer (some ⟨pb, 0, none⟩), .pointer (some ⟨fb, 0, none⟩)]] w fun r w' => (∃ i : Int, r = .returned (.int .i64 i) ∧ decide (0 ≤ i) = ys.any bad) ∧ Below w.heap.size w w' := by
  obtain ⟨A, cap, rfl, ⟨hd1, hd2, hd3, hd4⟩, hs⟩ := hv
  have HCA := Lib.hid hcall
  clear hcall
  go_enter Try.func35, Try.ntmps35
  go_wp2_with fail
  go_loopw [8] (fun i wr => ∃ j : Nat, i = .int .i64 j ∧ j ≤ ys.length ∧ Hid (∀ q (hq : q < ys.length), q < j → bad ys[q] = false) ∧ Below w.heap.size w wr) (fun i _ => ys.length - (intOf i).toNat)
  case atStart => exact ⟨0, rfl, Nat.zero_le _, Lib.hid (fun q hq h => by omega), Below.refl _ _⟩
  case round =>
    obtain ⟨j, rfl, hj, hno, hb⟩ := hrel
    by_cases hlt : j < ys.length
    · obtain ⟨b, o, rfl, hat⟩ := hs.get j hlt
      have HI := Lib.hid (fun z a h1 h2 => HCA.out j hlt z a h1 h2)
      have HHit := Lib.hid (any_hit bad hlt)
      have HNX : Hid (bad ys[j] = false → ∀ q (hq : q < ys.length), q < j + 1 → bad ys[q] = false) := Lib.hid (fun h q hq h2 => by
        rcases Nat.lt_or_eq_of_le (Nat.lt_succ_iff.1 h2) with h1 | rfl
        · exact hno.out q hq h1
        · exact h)
      clear HCA hno
      generalize ys[j] = y at *
      cases y with
      | mk con is k r p ys' =>
      obtain ⟨A', cap', c0, c1, c2, c3, c4, c5, hv'⟩ := Ca.At.both hat hb (Nat.le_refl _)
      clear hat hs
      have HC := Lib.hid (HI.out wr _ hv' hb)
      clear HI
      cases hsm : bad (.mk con is k r p ys')
      · rw [hsm] at HC
        have HN := Lib.hid (HNX.out hsm)
        clear hsm HNX HHit
        go_wp2_with fail
        refine HC.out.mono ?_
        rintro _ w1 ⟨rfl, hb1⟩
        have hbn := hb.thenCall hb.size hb1
        go_wp2_with fail
        exact ⟨⟨j + 1, by go_num, by omega, HN, hbn⟩, by simp [intOf]; omega⟩
      · rw [hsm] at HC
        have HH := Lib.hid (HHit.out hsm)
        clear hsm HNX HHit
        go_wp2_with fail
        refine HC.out.mono ?_
        rintro _ w1 ⟨rfl, hb1⟩
        have hbn := hb.thenCall hb.size hb1
        go_wp2_with fail
        go_ret
        exact ⟨⟨j, rfl, by rw [HH.out]; simp⟩, hbn⟩
    · have HN := Lib.hid (any_take bad hno.out (by omega))
      clear hs HCA
      go_wp2_with fail
      go_ret
      exact ⟨⟨-1, rfl, by rw [HN.out]; rfl⟩, hb⟩
theorem containsCa33 (bad : Ca → Bool) (pb fb : Nat) (w : World) (ys : List Ca) (v : Value) (hv : Ca.Sl w v ys)
    (hcall : ∀ (i : Nat) (hi : i < ys.length) (z : World) (a : Value), (ys[i]).Val w a → Below w.heap.size w z → Calls Try.prog 33 #[a, .pointer (some ⟨pb, 0, none⟩), .pointer (some ⟨fb, 0, none⟩)] z fun r z' => r = .returned (.bool (bad ys[i])) ∧ Below z.heap.size z z') :
    Calls Try.prog 32 #[v, .func (.func 33) #[] #[.pointer (some ⟨pb, 0, none⟩), .pointer (some ⟨fb, 0, none⟩)]] w fun r w' => r = .returned (.bool (ys.any bad)) ∧ Below w.heap.size w w' := by
  have H := Lib.hid (indexCa33 bad pb fb w ys v hv hcall)
  obtain ⟨A, cap, rfl, -, -⟩ := hv
  clear hcall
  go_enter Try.func32, Try.ntmps32
  go_wp2_with fail
  refine H.out.mono ?_
  rintro _ w1 ⟨⟨i, rfl, hi⟩, hb1⟩
  have HI := Lib.hid hi
  clear hi
  go_wp2_with fail
  go_ret
  exact ⟨by rw [← HI.out]; try rfl, hb1⟩

/-- core.tree's word on a tree. -/
def TreeSays (w0 : World) (pv fv : Value) (t : Ca) (b : Bool) : Prop := ∀ (z : World) (A : Option Addr) (cap : Nat), CaHd A t.ys.length cap → Cas w0 A t.ys → Below w0.heap.size w0 z →
  Calls Try.prog 29 #[pv, fv, .agg #[.int .i64 t.k, .int .i64 t.r, .slice t.p.A t.p.n t.p.c, .slice A t.ys.length cap]] z fun e z' => e = .returned (.bool b) ∧ Below z.heap.size z z'
def okOne (nm : Nat) (tb : Bool) (c : Ca) : Bool := (c.is || (decide (0 ≤ c.con) && decide (c.con < nm))) && tb
set_option maxRecDepth 100000 in
set_option maxHeartbeats 2000000 in
theorem bad1_any (w0 z : World) (v0 v2 u0 u2 u3 u4 u5 : Value) (Am AB : Option Addr) (nm cm nb cb pb fb : Nat) (ar : Int) (c : Ca) (tb : Bool) (A : Option Addr) (cap : Nat) (hnm : nm ≤ 1048576)
    (hT : TreeSays w0 (.agg #[v0, .slice Am nm cm, v2]) (.agg #[u0, .int .i64 ar, u2, u3, u4, u5, .slice AB nb cb]) c tb) (hh : CaHd A c.ys.length cap) (hs : Cas w0 A c.ys)
    (hp : z.heap[pb]? = some (.cells #[v0, .slice Am nm cm, v2] 26 (0, 0))) (hf : z.heap[fb]? = some (.cells #[u0, .int .i64 ar, u2, u3, u4, u5, .slice AB nb cb] 43 (0, 0))) (h0 : Below w0.heap.size w0 z) :
    Calls Try.prog 31 #[.agg #[.int .i64 c.con, .bool c.is, .int .i64 c.k, .int .i64 c.r, .slice c.p.A c.p.n c.p.c, .slice A c.ys.length cap], .pointer (some ⟨pb, 0, none⟩), .pointer (some ⟨fb, 0, none⟩)] z fun e z' => e = .returned (.bool (!okOne nm tb c)) ∧ Below z.heap.size z z' := by
  have HT := fun o => Lib.hid (hT (z.alloc o) A cap hh hs (h0.alloc h0.size o))
  obtain ⟨hd1, hd2, hd3, hd4⟩ := hh
  have hpl := (Array.getElem?_eq_some_iff.1 hp).1
  have hfl := (Array.getElem?_eq_some_iff.1 hf).1
  have hE : okOne nm tb c = ((c.is || (decide (0 ≤ c.con) && decide (c.con < nm))) && tb) := rfl
  generalize okOne nm tb c = R at *
  obtain ⟨con, is, k, r, p, ys⟩ := c
  obtain ⟨pA, pn, pc, pl1, pl2, pl3⟩ := p
  simp only [Ca.con, Ca.is, Ca.k, Ca.r, Ca.p, Ca.ys] at *
  have HP := fun o => (World.cell?_alloc_lt z o ⟨pb, 0, none⟩ hpl).trans (cells3p hp).1
  have HP1 := fun o => (World.cell?_alloc_lt z o ⟨pb, 1, none⟩ hpl).trans (cells3p hp).2.1
  have HP2 := fun o => (World.cell?_alloc_lt z o ⟨pb, 2, none⟩ hpl).trans (cells3p hp).2.2
  obtain ⟨f0, f1, f2, f3, f4, f5, f6⟩ := cells7p hf
  have HF0 := fun o => (World.cell?_alloc_lt z o ⟨fb, 0, none⟩ hfl).trans f0
  have HF1 := fun o => (World.cell?_alloc_lt z o ⟨fb, 1, none⟩ hfl).trans f1
  have HF2 := fun o => (World.cell?_alloc_lt z o ⟨fb, 2, none⟩ hfl).trans f2
  have HF3 := fun o => (World.cell?_alloc_lt z o ⟨fb, 3, none⟩ hfl).trans f3
  have HF4 := fun o => (World.cell?_alloc_lt z o ⟨fb, 4, none⟩ hfl).trans f4
  have HF5 := fun o => (World.cell?_alloc_lt z o ⟨fb, 5, none⟩ hfl).trans f5
  have HF6 := fun o => (World.cell?_alloc_lt z o ⟨fb, 6, none⟩ hfl).trans f6
  clear hT hs hp hf h0 f0 f1 f2 f3 f4 f5 f6
  cases is
  · by_cases hw : 0 ≤ con ∧ con < nm
    · have HE : Hid (R = tb) := Lib.hid (by rw [hE]; simp [hw.1, hw.2])
      have HW := fun y => Lib.hid (within_yes hw y)
      clear hE hw
      go_enter Try.func31, Try.ntmps31
      go_wp2_with (first | (go_at_call 20; refine (HW _).out.mono ?_; rintro _ z1 ⟨rfl, rfl⟩) | (go_at_call 29; refine (HT _).out.mono ?_; rintro _ z2 ⟨rfl, q2⟩))
      go_ret
      exact ⟨by rw [HE.out]; try rfl, Below.call1 q2⟩
    · have HE : Hid (R = false) := Lib.hid (by
        rw [hE, Bool.and_eq_false_iff]
        left
        rw [Bool.false_or, Bool.and_eq_false_iff]
        rcases (show ¬ 0 ≤ con ∨ ¬ con < (nm : Int) by omega) with h | h
        · exact .inl (decide_eq_false h)
        · exact .inr (decide_eq_false h))
      have HW := fun y => Lib.hid (within_no hw y)
      clear hE hw
      go_enter Try.func31, Try.ntmps31
      go_wp2_with (first | (go_at_call 20; refine (HW _).out.mono ?_; rintro _ z1 ⟨rfl, rfl⟩))
      go_ret
      exact ⟨by rw [HE.out]; try rfl, below1C z _⟩
  · have HE : Hid (R = tb) := Lib.hid (by rw [hE]; simp)
    clear hE
    go_enter Try.func31, Try.ntmps31
    go_wp2_with (first | (go_at_call 29; refine (HT _).out.mono ?_; rintro _ z2 ⟨rfl, q2⟩))
    go_ret
    exact ⟨by rw [HE.out]; try rfl, Below.call1 q2⟩

def orOne (fn : List Int) (ar : Int) (c : Ca) : Bool := !c.is && (decide (0 ≤ c.con) && (decide (c.con < fn.length) && (fn.getD c.con.toNat 0 == ar && bareB c)))
def FnRows (w : World) (Af : Option Addr) (fn : List Int) : Prop := ∀ j (h : j < fn.length), ∃ b o, Af = some ⟨b, o, none⟩ ∧ b < w.heap.size ∧ w.cell? ⟨b, o + j * 7 + 1, none⟩ = some (.int .i64 fn[j])
theorem FnRows.below {w w' : World} {B : Nat} {Af : Option Addr} {fn : List Int} (h : FnRows w Af fn) (hb : Below B w w') (hB : w.heap.size ≤ B) : FnRows w' Af fn := fun j hj => by
  obtain ⟨b, o, e, hl, hc⟩ := h j hj
  exact ⟨b, o, e, Nat.lt_of_lt_of_le hl hb.size, (hb.cell (p := ⟨b, o + j * 7 + 1, none⟩) (Nat.lt_of_lt_of_le hl hB)).trans hc⟩
set_option maxRecDepth 100000 in
set_option maxHeartbeats 4000000 in
theorem bad2_any (z : World) (v0 v1 u0 u2 u3 u4 u5 u6 : Value) (Af : Option Addr) (cf pb fb : Nat) (fn : List Int) (ar : Int) (c : Ca) (A : Option Addr) (cap : Nat) (hcf : fn.length ≤ cf) (hcf2 : cf ≤ 9223372036854775807) (hfm : fn.length ≤ 1048576)
    (hR : FnRows z Af fn) (hh : CaHd A c.ys.length cap)
    (hp : z.heap[pb]? = some (.cells #[v0, v1, .slice Af fn.length cf] 26 (0, 0))) (hf : z.heap[fb]? = some (.cells #[u0, .int .i64 ar, u2, u3, u4, u5, u6] 43 (0, 0))) :
    Calls Try.prog 33 #[.agg #[.int .i64 c.con, .bool c.is, .int .i64 c.k, .int .i64 c.r, .slice c.p.A c.p.n c.p.c, .slice A c.ys.length cap], .pointer (some ⟨pb, 0, none⟩), .pointer (some ⟨fb, 0, none⟩)] z fun e z' => e = .returned (.bool (!orOne fn ar c)) ∧ Below z.heap.size z z' := by
  obtain ⟨hd1, hd2, hd3, hd4⟩ := hh
  have hpl := (Array.getElem?_eq_some_iff.1 hp).1
  have hfl := (Array.getElem?_eq_some_iff.1 hf).1
  have hE : orOne fn ar c = (!c.is && (decide (0 ≤ c.con) && (decide (c.con < fn.length) && (fn.getD c.con.toNat 0 == ar && bareB c)))) := rfl
  have hB : bareB c = (c.k == 0 && (c.r == 0 && (c.p.n == 0 && c.ys.isEmpty))) := rfl
  generalize orOne fn ar c = R at *
  generalize bareB c = bb at *
  obtain ⟨con, is, k, r, p, ys⟩ := c
  obtain ⟨pA, pn, pc, pl1, pl2, pl3⟩ := p
  simp only [Ca.con, Ca.is, Ca.k, Ca.r, Ca.p, Ca.ys] at *
  have HP2 := fun o => (World.cell?_alloc_lt z o ⟨pb, 2, none⟩ hpl).trans (cells3p hp).2.2
  have HF1 := fun o => (World.cell?_alloc_lt z o ⟨fb, 1, none⟩ hfl).trans (cells7p hf).2.1
  have hbl : ys.isEmpty = (ys.length == 0) := by cases ys <;> simp
  rw [hbl] at hB
  clear hp hf hbl
  generalize ys.length = L at *
  have hfin := below1C z (.cells #[.int .i64 con, .bool is, .int .i64 k, .int .i64 r, .slice pA pn pc, .slice A L cap] 67)
  have hnw : ∀ o, Below z.heap.size z (z.alloc o).drew := fun o => (below1C z o).drew
  have HB4 : (¬ k = 0 ∧ bb = false) ∨ (k = 0 ∧ ¬ r = 0 ∧ bb = false) ∨ (k = 0 ∧ r = 0 ∧ ¬ (pn + L = 0) ∧ bb = false) ∨ (k = 0 ∧ r = 0 ∧ pn = 0 ∧ L = 0 ∧ bb = true) := by
    by_cases h1 : k = 0
    · by_cases h2 : r = 0
      · by_cases h3 : pn + L = 0
        · exact .inr (.inr (.inr ⟨h1, h2, by omega, by omega, by rw [hB, h1, h2, show pn = 0 by omega, show L = 0 by omega]; rfl⟩))
        · refine .inr (.inr (.inl ⟨h1, h2, h3, ?_⟩))
          rw [hB]
          by_cases h4 : pn = 0
          · have : ¬ L = 0 := by omega
            simp [this]
          · simp [h4]
      · exact .inr (.inl ⟨h1, h2, by rw [hB]; simp [h2]⟩)
    · exact .inl ⟨h1, by rw [hB]; simp [h1]⟩
  clear hB
  have HC4 : (is = true ∧ R = false) ∨ (is = false ∧ ¬ (0 ≤ con ∧ con < fn.length) ∧ R = false) ∨ (∃ q : Nat, ∃ hq : q < fn.length, is = false ∧ con = q ∧ ¬ fn[q] = ar ∧ R = false) ∨ (∃ q : Nat, ∃ hq : q < fn.length, is = false ∧ con = q ∧ fn[q] = ar ∧ R = bb) := by
    cases is with
    | true => exact .inl ⟨rfl, by rw [hE]; rfl⟩
    | false =>
      by_cases hw : 0 ≤ con ∧ con < fn.length
      · obtain ⟨q, rfl⟩ : ∃ q : Nat, con = q := ⟨con.toNat, by omega⟩
        have hq : q < fn.length := by omega
        have hg : fn.getD (q : Int).toNat 0 = fn[q] := by simp [List.getD, List.getElem?_eq_getElem hq]
        rw [hg] at hE
        by_cases ha : fn[q] = ar
        · exact .inr (.inr (.inr ⟨q, hq, rfl, rfl, ha, by rw [hE]; simp [ha, hq]⟩))
        · exact .inr (.inr (.inl ⟨q, hq, rfl, rfl, ha, by rw [hE]; simp [ha]⟩))
      · refine .inr (.inl ⟨rfl, hw, ?_⟩)
        rw [hE]
        by_cases h1 : 0 ≤ con
        · have : ¬ con < fn.length := fun h => hw ⟨h1, h⟩
          simp [this]
        · simp [h1]
  clear hE
  rcases HB4 with ⟨h1, rfl⟩ | ⟨rfl, h2, rfl⟩ | ⟨rfl, rfl, h3, rfl⟩ | ⟨rfl, rfl, rfl, rfl, rfl⟩
  · have hk : (k == 0) = false := by simpa using h1
    clear h1
    rcases HC4 with ⟨rfl, rfl⟩ | ⟨rfl, hw, rfl⟩ | ⟨q, hq, rfl, rfl, ha, rfl⟩ | ⟨q, hq, rfl, rfl, ha, rfl⟩
    · clear hR
      go_enter Try.func33, Try.ntmps33
      go_wp2_with fail
      go_quiet (fail)
      go_wp2_with fail
      go_ret
      exact ⟨rfl, below_drewN hfin _⟩
    · have HW := fun y => Lib.hid (within_no hw y)
      clear hR hw
      go_enter Try.func33, Try.ntmps33
      go_wp2_with fail
      go_quiet ((go_at_call 20; exact Calls.quiet_of_same ((HW _).out.mono fun _ _ h => ⟨h.1, h.2.symm⟩)))
      go_wp2_with fail
      go_ret
      exact ⟨rfl, below_drewN hfin _⟩
    · obtain ⟨b, o, rfl, hbl, hc⟩ := hR q hq
      have hcA := fun O => (World.cell?_alloc_lt z O ⟨b, o + q * 7 + 1, none⟩ hbl).trans hc
      have HW := fun y => Lib.hid (within_yes (n := (q : Int)) (m := fn.length) (by omega) y)
      generalize fn[q] = fa at *
      have hab : (fa == ar) = false := by simpa using ha
      have hab2 : (fa != ar) = true := by simpa using ha
      have hqi : (q : Int) < (fn.length : Int) := by omega
      clear hR ha hc
      go_enter Try.func33, Try.ntmps33
      go_wp2_with fail
      go_quiet ((go_at_call 20; exact Calls.quiet_of_same ((HW _).out.mono fun _ _ h => ⟨h.1, h.2.symm⟩)))
      go_wp2_with fail
      go_ret
      exact ⟨rfl, below_drewN hfin _⟩
    · obtain ⟨b, o, rfl, hbl, hc⟩ := hR q hq
      rw [ha] at hc
      have hcA := fun O => (World.cell?_alloc_lt z O ⟨b, o + q * 7 + 1, none⟩ hbl).trans hc
      have HW := fun y => Lib.hid (within_yes (n := (q : Int)) (m := fn.length) (by omega) y)
      have hqi : (q : Int) < (fn.length : Int) := by omega
      clear hR ha hc
      go_enter Try.func33, Try.ntmps33
      go_wp2_with fail
      go_quiet ((go_at_call 20; exact Calls.quiet_of_same ((HW _).out.mono fun _ _ h => ⟨h.1, h.2.symm⟩)))
      go_wp2_with fail
      go_ret
      exact ⟨rfl, below_drewN hfin _⟩
  · have hr : (r == 0) = false := by simpa using h2
    clear h2
    rcases HC4 with ⟨rfl, rfl⟩ | ⟨rfl, hw, rfl⟩ | ⟨q, hq, rfl, rfl, ha, rfl⟩ | ⟨q, hq, rfl, rfl, ha, rfl⟩
    · clear hR
      go_enter Try.func33, Try.ntmps33
      go_wp2_with fail
      go_quiet (fail)
      go_wp2_with fail
      go_ret
      exact ⟨rfl, below_drewN hfin _⟩
    · have HW := fun y => Lib.hid (within_no hw y)
      clear hR hw
      go_enter Try.func33, Try.ntmps33
      go_wp2_with fail
      go_quiet ((go_at_call 20; exact Calls.quiet_of_same ((HW _).out.mono fun _ _ h => ⟨h.1, h.2.symm⟩)))
      go_wp2_with fail
      go_ret
      exact ⟨rfl, below_drewN hfin _⟩
    · obtain ⟨b, o, rfl, hbl, hc⟩ := hR q hq
      have hcA := fun O => (World.cell?_alloc_lt z O ⟨b, o + q * 7 + 1, none⟩ hbl).trans hc
      have HW := fun y => Lib.hid (within_yes (n := (q : Int)) (m := fn.length) (by omega) y)
      generalize fn[q] = fa at *
      have hab : (fa == ar) = false := by simpa using ha
      have hab2 : (fa != ar) = true := by simpa using ha
      have hqi : (q : Int) < (fn.length : Int) := by omega
      clear hR ha hc
      go_enter Try.func33, Try.ntmps33
      go_wp2_with fail
      go_quiet ((go_at_call 20; exact Calls.quiet_of_same ((HW _).out.mono fun _ _ h => ⟨h.1, h.2.symm⟩)))
      go_wp2_with fail
      go_ret
      exact ⟨rfl, below_drewN hfin _⟩
    · obtain ⟨b, o, rfl, hbl, hc⟩ := hR q hq
      rw [ha] at hc
      have hcA := fun O => (World.cell?_alloc_lt z O ⟨b, o + q * 7 + 1, none⟩ hbl).trans hc
      have HW := fun y => Lib.hid (within_yes (n := (q : Int)) (m := fn.length) (by omega) y)
      have hqi : (q : Int) < (fn.length : Int) := by omega
      clear hR ha hc
      go_enter Try.func33, Try.ntmps33
      go_wp2_with fail
      go_quiet ((go_at_call 20; exact Calls.quiet_of_same ((HW _).out.mono fun _ _ h => ⟨h.1, h.2.symm⟩)))
      go_wp2_with fail
      go_ret
      exact ⟨rfl, below_drewN hfin _⟩
  · have hs : (((pn : Nat) : Int) + ((L : Nat) : Int) == 0) = false := by simp; omega
    clear h3
    rcases HC4 with ⟨rfl, rfl⟩ | ⟨rfl, hw, rfl⟩ | ⟨q, hq, rfl, rfl, ha, rfl⟩ | ⟨q, hq, rfl, rfl, ha, rfl⟩
    · clear hR
      go_enter Try.func33, Try.ntmps33
      go_wp2_with fail
      go_quiet (fail)
      go_wp2_with fail
      go_ret
      exact ⟨rfl, below_drewN hfin _⟩
    · have HW := fun y => Lib.hid (within_no hw y)
      clear hR hw
      go_enter Try.func33, Try.ntmps33
      go_wp2_with fail
      go_quiet ((go_at_call 20; exact Calls.quiet_of_same ((HW _).out.mono fun _ _ h => ⟨h.1, h.2.symm⟩)))
      go_wp2_with fail
      go_ret
      exact ⟨rfl, below_drewN hfin _⟩
    · obtain ⟨b, o, rfl, hbl, hc⟩ := hR q hq
      have hcA := fun O => (World.cell?_alloc_lt z O ⟨b, o + q * 7 + 1, none⟩ hbl).trans hc
      have HW := fun y => Lib.hid (within_yes (n := (q : Int)) (m := fn.length) (by omega) y)
      generalize fn[q] = fa at *
      have hab : (fa == ar) = false := by simpa using ha
      have hab2 : (fa != ar) = true := by simpa using ha
      have hqi : (q : Int) < (fn.length : Int) := by omega
      clear hR ha hc
      go_enter Try.func33, Try.ntmps33
      go_wp2_with fail
      go_quiet ((go_at_call 20; exact Calls.quiet_of_same ((HW _).out.mono fun _ _ h => ⟨h.1, h.2.symm⟩)))
      go_wp2_with fail
      go_ret
      exact ⟨rfl, below_drewN hfin _⟩
    · obtain ⟨b, o, rfl, hbl, hc⟩ := hR q hq
      rw [ha] at hc
      have hcA := fun O => (World.cell?_alloc_lt z O ⟨b, o + q * 7 + 1, none⟩ hbl).trans hc
      have HW := fun y => Lib.hid (within_yes (n := (q : Int)) (m := fn.length) (by omega) y)
      have hqi : (q : Int) < (fn.length : Int) := by omega
      clear hR ha hc
      go_enter Try.func33, Try.ntmps33
      go_wp2_with fail
      go_quiet ((go_at_call 20; exact Calls.quiet_of_same ((HW _).out.mono fun _ _ h => ⟨h.1, h.2.symm⟩)))
      go_wp2_with fail
      go_ret
      exact ⟨rfl, below_drewN hfin _⟩
  · skip
    rcases HC4 with ⟨rfl, rfl⟩ | ⟨rfl, hw, rfl⟩ | ⟨q, hq, rfl, rfl, ha, rfl⟩ | ⟨q, hq, rfl, rfl, ha, rfl⟩
    · clear hR
      go_enter Try.func33, Try.ntmps33
      go_wp2_with fail
      go_quiet (fail)
      go_wp2_with fail
      go_ret
      exact ⟨rfl, below_drewN hfin _⟩
    · have HW := fun y => Lib.hid (within_no hw y)
      clear hR hw
      go_enter Try.func33, Try.ntmps33
      go_wp2_with fail
      go_quiet ((go_at_call 20; exact Calls.quiet_of_same ((HW _).out.mono fun _ _ h => ⟨h.1, h.2.symm⟩)))
      go_wp2_with fail
      go_ret
      exact ⟨rfl, below_drewN hfin _⟩
    · obtain ⟨b, o, rfl, hbl, hc⟩ := hR q hq
      have hcA := fun O => (World.cell?_alloc_lt z O ⟨b, o + q * 7 + 1, none⟩ hbl).trans hc
      have HW := fun y => Lib.hid (within_yes (n := (q : Int)) (m := fn.length) (by omega) y)
      generalize fn[q] = fa at *
      have hab : (fa == ar) = false := by simpa using ha
      have hab2 : (fa != ar) = true := by simpa using ha
      have hqi : (q : Int) < (fn.length : Int) := by omega
      clear hR ha hc
      go_enter Try.func33, Try.ntmps33
      go_wp2_with fail
      go_quiet ((go_at_call 20; exact Calls.quiet_of_same ((HW _).out.mono fun _ _ h => ⟨h.1, h.2.symm⟩)))
      go_wp2_with fail
      go_ret
      exact ⟨rfl, below_drewN hfin _⟩
    · obtain ⟨b, o, rfl, hbl, hc⟩ := hR q hq
      rw [ha] at hc
      have hcA := fun O => (World.cell?_alloc_lt z O ⟨b, o + q * 7 + 1, none⟩ hbl).trans hc
      have HW := fun y => Lib.hid (within_yes (n := (q : Int)) (m := fn.length) (by omega) y)
      have hqi : (q : Int) < (fn.length : Int) := by omega
      clear hR ha hc
      go_enter Try.func33, Try.ntmps33
      go_wp2_with fail
      go_quiet ((go_at_call 20; exact Calls.quiet_of_same ((HW _).out.mono fun _ _ h => ⟨h.1, h.2.symm⟩)))
      go_wp2_with fail
      go_ret
      exact ⟨rfl, below_drewN hfin _⟩

end Go.Proofs.Ytkcgbakjpodmeaa.Co

