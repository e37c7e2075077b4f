/- Contract: core.Right. -/
import Derived.Test.YtkcgbakjpodmeaaCrW
namespace Go.Proofs.Ytkcgbakjpodmeaa.Co
open Go.ChangeShapes Go.WideShapes Go.ChangeAt Go.RowKit Go.Proofs.Ytkcgbakjpodmeaa.Lift Go.Proofs.Ytkcgbakjpodmeaa.Data
set_option linter.unusedVariables false
set_option linter.unusedSimpArgs false
def allI {α : Type} (f : Nat → α → Bool) : Nat → List α → Bool
  | _, [] => true
  | i, x :: r => f i x && allI f (i + 1) r
theorem allI_take {α : Type} (f : Nat → α → Bool) : ∀ {l : List α} {j : Nat} (i : Nat) (h : j < l.length), allI f i (l.take (j + 1)) = (allI f i (l.take j) && f (i + j) l[j])
  | [], j, i, h => by simp at h
  | x :: r, 0, i, _ => by simp [allI]
  | x :: r, j + 1, i, h => by
    simp only [List.take_succ_cons, allI, List.getElem_cons_succ]
    rw [allI_take f (i + 1) (by simpa using h), Bool.and_assoc, Nat.add_right_comm, Nat.add_assoc]
theorem allI_miss {α : Type} (f : Nat → α → Bool) : ∀ {l : List α} {j : Nat} (i : Nat) (h : j < l.length), f (i + j) l[j] = false → allI f i l = false
  | [], j, i, h, _ => by simp at h
  | x :: r, 0, i, _, hf => by rw [allI]; simp at hf; simp [hf]
  | x :: r, j + 1, i, h, hf => by
    rw [allI, allI_miss f (i + 1) (j := j) (by simpa using h) (by rw [Nat.add_right_comm, Nat.add_assoc]; simpa using hf), Bool.and_false]
/-- whether a constructor's number may stand in a type. -/
def okC (p : Pg) (k i : Nat) (c : Int) : Bool := (decide (0 ≤ c) && decide (c < p.makers.length)) && ((p.makers.getD c.toNat ⟨0, 0, 0⟩).ty == k && (p.makers.getD c.toNat ⟨0, 0, 0⟩).tag == i)
/-- whether a constructor may be. -/
def okM (p : Pg) (i : Nat) (m : Mk) : Bool := (decide (0 ≤ m.ty) && decide (m.ty < p.kinds.length)) && (inB (p.kinds.getD m.ty.toNat []) i && (decide (0 ≤ m.ar) && decide (m.ar ≤ 8)))
def kindsB (p : Pg) : Bool := allI (fun k cons => allI (okC p k) 0 cons) 0 p.kinds
def makersB (p : Pg) : Bool := allI (okM p) 0 p.makers
/-- whether a program is right. -/
def rightB (p : Pg) : Bool := kindsB p && (makersB p && p.funs.all (funB p))
set_option maxRecDepth 100000 in
set_option maxHeartbeats 1000000 in
theorem indexFn (bad : Fn → Bool) (pb : Nat) (w : World) (fl : List Fn) (A : Option Addr) (cap : Nat) (hR : Lift.RowsIn (FnR w) w 7 A fl) (hl1 : fl.length ≤ cap) (hl2 : cap ≤ 9223372036854775807) (hl3 : fl.length ≤ 1048576)
    (hcall : ∀ (i : Nat) (hi : i < fl.length) (z : World) (cs : List Value), FnR w cs fl[i] → Below w.heap.size w z → Calls Try.prog 22 #[.agg cs.toArray, .pointer (some ⟨pb, 0, none⟩)] z fun r z' => r = .returned (.bool (bad fl[i])) ∧ Below z.heap.size z z') :
    Calls Try.prog 28 #[.slice A fl.length cap, .func (.func 22) #[] #[.pointer (some ⟨pb, 0, none⟩)]] w fun r w' => (∃ i : Int, r = .returned (.int .i64 i) ∧ decide (0 ≤ i) = fl.any bad) ∧ Below w.heap.size w w' := by
  have HCA := Lib.hid hcall
  have HRR := Lib.hid hR
  clear hcall hR
  go_enter Try.func28, Try.ntmps28
  go_wp2_with fail
  go_loopw [8] (fun i wr => ∃ j : Nat, i = .int .i64 j ∧ j ≤ fl.length ∧ Hid (∀ q (hq : q < fl.length), q < j → bad fl[q] = false) ∧ Below w.heap.size w wr) (fun i _ => fl.length - (intOf i).toNat)
  case atStart => exact ⟨0, rfl, Nat.zero_le _, Lib.hid (fun q hq h => by omega), Below.refl _ _⟩
  case round =>
    obtain ⟨j, rfl, hj, hno, hb⟩ := hrel
    by_cases hlt : j < fl.length
    · obtain ⟨b, o, cs, rfl, hbl, hF, -, hc⟩ := HRR.out j hlt
      have HI := Lib.hid (HCA.out j hlt wr cs hF hb)
      obtain ⟨fs, At, ct, AB, cb, rfl, -⟩ := fn_cells hF
      have hx := fun i u hu => (hb.cell (p := ⟨b, o + j * 7 + i, none⟩) hbl).trans (hc i u hu)
      have c0 := hx 0 _ rfl
      have c1 := hx 1 _ rfl
      have c2 := hx 2 _ rfl
      have c3 := hx 3 _ rfl
      have c4 := hx 4 _ rfl
      have c5 := hx 5 _ rfl
      have c6 := hx 6 _ rfl
      rw [Nat.add_zero] at c0
      have HHit := Lib.hid (any_hit bad hlt)
      have HNX : Hid (bad fl[j] = false → ∀ q (hq : q < fl.length), q < j + 1 → bad fl[q] = false) := Lib.hid (fun h q hq h2 => by
        rcases Nat.lt_or_eq_of_le (Nat.lt_succ_iff.1 h2) with h1 | rfl
        · exact hno.out q hq h1
        · exact h)
      clear HCA hno HRR hF hc hx
      generalize fl[j] = y at *
      generalize y.ar = a1 at *
      generalize y.t.k = a2 at *
      generalize y.t.r = a3 at *
      generalize y.t.p.A = a4 at *
      generalize y.t.p.n = a5 at *
      generalize y.t.p.c = a6 at *
      generalize y.t.ys.length = a7 at *
      generalize y.bodies.length = a8 at *
      generalize hbd : bad y = bb at *
      have HBD := Lib.hid hbd
      clear hbd
      cases bb
      · have HN := Lib.hid (HNX.out rfl)
        clear HNX HHit
        go_wp2_with fail
        refine HI.out.mono ?_
        rintro _ w1 ⟨rfl, hb1⟩
        have hbn := hb.thenCall hb.size hb1
        go_wp2_with fail
        exact ⟨⟨j + 1, by go_num, by omega, HN, hbn⟩, by simp [intOf]; omega⟩
      · have HH := Lib.hid (HHit.out rfl)
        clear HNX HHit
        go_wp2_with fail
        refine HI.out.mono ?_
        rintro _ w1 ⟨rfl, hb1⟩
        have hbn := hb.thenCall hb.size hb1
        go_wp2_with fail
        go_ret
        exact ⟨⟨j, rfl, by rw [HH.out]; simp⟩, hbn⟩
    · have HN := Lib.hid (any_take bad hno.out (by omega))
      clear HCA HRR
      go_wp2_with fail
      go_ret
      exact ⟨⟨-1, rfl, by rw [HN.out]; rfl⟩, hb⟩
theorem containsFn (bad : Fn → Bool) (pb : Nat) (w : World) (fl : List Fn) (A : Option Addr) (cap : Nat) (hR : Lift.RowsIn (FnR w) w 7 A fl) (hl1 : fl.length ≤ cap) (hl2 : cap ≤ 9223372036854775807) (hl3 : fl.length ≤ 1048576)
    (hcall : ∀ (i : Nat) (hi : i < fl.length) (z : World) (cs : List Value), FnR w cs fl[i] → Below w.heap.size w z → Calls Try.prog 22 #[.agg cs.toArray, .pointer (some ⟨pb, 0, none⟩)] z fun r z' => r = .returned (.bool (bad fl[i])) ∧ Below z.heap.size z z') :
    Calls Try.prog 21 #[.slice A fl.length cap, .func (.func 22) #[] #[.pointer (some ⟨pb, 0, none⟩)]] w fun r w' => r = .returned (.bool (fl.any bad)) ∧ Below w.heap.size w w' := by
  have H := Lib.hid (indexFn bad pb w fl A cap hR hl1 hl2 hl3 hcall)
  clear hcall hR
  go_enter Try.func21, Try.ntmps21
  go_wp2_with fail
  refine H.out.mono ?_
  rintro _ w1 ⟨⟨i, rfl, hi⟩, hb1⟩
  have HI := Lib.hid hi
  clear hi
  go_wp2_with fail
  go_ret
  exact ⟨by rw [← HI.out]; try rfl, hb1⟩
set_option maxRecDepth 100000 in
theorem bad22_any (w0 : World) (p : Pg) (f : Fn) (Ak Am Af : Option Addr) (ck cm cf pb : Nat) (cs : List Value) (hp : PgR w0 p Ak Am Af ck cm cf) (hF : FnR w0 cs f) (hsm : ∀ b ∈ f.bodies, bdSmall b)
    (z : World) (h0 : Below w0.heap.size w0 z) (hpb : z.heap[pb]? = some (.cells #[.slice Ak p.kinds.length ck, .slice Am p.makers.length cm, .slice Af p.funs.length cf] 26 (0, 0))) :
    Calls Try.prog 22 #[.agg cs.toArray, .pointer (some ⟨pb, 0, none⟩)] z fun r z' => r = .returned (.bool (!funB p f)) ∧ Below z.heap.size z z' := by
  obtain ⟨fs, At, ct, AB, cb, rfl, h1, h2, h3, h4, h5, h6⟩ := fn_cells hF
  have HC := fun o => Lib.hid (fun_any w0 p f Ak Am Af At AB ck cm cf ct cb fs hp h1 h2 h3 h4 h5 h6 hsm (z.alloc o) (h0.alloc h0.size o))
  have hpl := (Array.getElem?_eq_some_iff.1 hpb).1
  have HP0 := fun o => (World.cell?_alloc_lt z o ⟨pb, 0, none⟩ hpl).trans (cells3p hpb).1
  have HP1 := fun o => (World.cell?_alloc_lt z o ⟨pb, 1, none⟩ hpl).trans (cells3p hpb).2.1
  have HP2 := fun o => (World.cell?_alloc_lt z o ⟨pb, 2, none⟩ hpl).trans (cells3p hpb).2.2
  generalize funB p f = R at *
  generalize f.ar = a1 at *
  generalize f.t.k = a2 at *
  generalize f.t.r = a3 at *
  generalize f.t.p.A = a4 at *
  generalize f.t.p.n = a5 at *
  generalize f.t.p.c = a6 at *
  generalize f.t.ys.length = a7 at *
  generalize f.bodies.length = a8 at *
  generalize p.kinds.length = nk at *
  generalize p.makers.length = nm at *
  generalize p.funs.length = nf at *
  clear hF h1 h2 h3 hpb hp h0
  go_enter Try.func22, Try.ntmps22
  go_wp2_with (go_at_call 23; refine (HC _).out.mono ?_; rintro _ z1 ⟨rfl, q1⟩)
  go_ret
  exact ⟨rfl, Below.call1 q1⟩
end Go.Proofs.Ytkcgbakjpodmeaa.Co
