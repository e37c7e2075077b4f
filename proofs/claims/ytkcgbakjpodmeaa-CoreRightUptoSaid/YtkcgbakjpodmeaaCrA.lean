/- Contracts: the reference's 'in'; how a program lies; trees, plain. -/
import Derived.Test.YtkcgbakjpodmeaaCa
import Derived.Test.YtkcgbakjpodmeaaCoC
import Derived.Test.YtkcgbakjpodmeaaRowsIn
namespace Go.Proofs.Ytkcgbakjpodmeaa.Co
open Go.ChangeShapes Go.WideShapes Go.ChangeAt Go.RowKit Go.Proofs.Ytkcgbakjpodmeaa.Lift Go.Proofs.Ytkcgbakjpodmeaa.Data
set_option linter.unusedVariables false
set_option linter.unusedSimpArgs false
theorem in_any (w : World) (A : Option Addr) (cap : Nat) (l : List Int) (n : Int) (hl : InSl w A cap l) :
    Calls Try.prog 24 #[.slice A l.length cap, .int .i64 n] w fun e w' => e = .returned (.bool (inB l n)) ∧ w = w' := by
  have hcap := hl.2.1
  have hcm := hl.2.2.1
  go_enter Try.func24, Try.ntmps24
  go_wp2_with fail
  go_loopw [9] (fun i wr => ∃ j : Nat, i = .int .i64 j ∧ j ≤ l.length ∧ Hid (∀ q (hq : q < l.length), q < j → ¬ n = l[q]) ∧ wr = w) (fun i _ => l.length - (intOf i).toNat)
  case atStart => exact ⟨0, rfl, Nat.zero_le _, Lib.hid (fun q hq h => by omega), rfl⟩
  case round =>
    obtain ⟨j, rfl, hj, hno, rfl⟩ := hrel
    by_cases hlt : j < l.length
    · obtain ⟨b, o, rfl, hbl, hc⟩ := hl.1 j hlt
      have hg : l.getD j 0 = l[j] := by simp [List.getD, List.getElem?_eq_getElem hlt]
      rw [hg] at hc
      by_cases hx : l[j] = n
      · have HI : Hid (inB l n = true) := Lib.hid (inB_hit hlt hx.symm)
        rw [hx] at hc
        clear hx hl hg
        go_wp2_with fail
        go_ret
        exact ⟨by rw [HI.out]; try rfl, rfl⟩
      · have HNX : Hid (∀ q (hq : q < l.length), q < j + 1 → ¬ n = l[q]) := Lib.hid (fun q hq h => by
          rcases Nat.lt_or_eq_of_le (Nat.lt_succ_iff.1 h) with h1 | rfl
          · exact hno.out q hq h1
          · exact fun e => hx e.symm)
        have hxb : (l[j] == n) = false := by simpa using hx
        generalize l[j] = z at *
        clear hl hg hx
        go_wp2_with fail
        exact ⟨⟨j + 1, by go_num, by omega, HNX, by trivial⟩, by simp [intOf]; omega⟩
    · have HI : Hid (inB l n = false) := Lib.hid (inB_miss (fun q hq => hno.out q hq (by omega)))
      clear hl
      go_wp2_with fail
      go_ret
      exact ⟨by rw [HI.out]; try rfl, rfl⟩
/-- a type: its constructors. -/
def KdR (W : World) (cs : List Value) (cons : List Int) : Prop := ∃ s A cap, cs = [.string s, .slice A cons.length cap] ∧ InSl W A cap cons
/-- a constructor: how many arguments, its type, its place there. -/
structure Mk where
  ar : Int
  ty : Int
  tag : Int
def MkR (cs : List Value) (m : Mk) : Prop := ∃ s, cs = [.string s, .int .i64 m.ar, .int .i64 m.ty, .int .i64 m.tag]
/-- a body: how many slots, and its core. -/
structure Bd where
  n : Nat
  core : Co
def BdR (W : World) (cs : List Value) (b : Bd) : Prop := ∃ A cap c, cs = .slice A b.n cap :: c ∧ b.n ≤ cap ∧ cap ≤ 9223372036854775807 ∧ b.n ≤ 1048576 ∧ b.core.Cs W c
/-- a function: how many arguments, its tree, its bodies. -/
structure Fn where
  ar : Int
  t : Ca
  bodies : List Bd
/-- a tree, as a value: what is a case besides plays no part. -/
def TrCs (W : World) (cs : List Value) (t : Ca) : Prop := ∃ A cap, cs = [.int .i64 t.k, .int .i64 t.r, .slice t.p.A t.p.n t.p.c, .slice A t.ys.length cap] ∧ CaHd A t.ys.length cap ∧ Cas W A t.ys
def FnR (W : World) (cs : List Value) (f : Fn) : Prop := ∃ s tc A cap, cs = .string s :: .int .i64 f.ar :: (tc ++ [.slice A f.bodies.length cap]) ∧ TrCs W tc f.t ∧ Lift.RowsIn (BdR W) W 4 A f.bodies ∧ f.bodies.length ≤ cap ∧ cap ≤ 9223372036854775807 ∧ f.bodies.length ≤ 1048576
structure Pg where
  kinds : List (List Int)
  makers : List Mk
  funs : List Fn
/-- a program, as a value. -/
def PgV (W : World) (v : Value) (p : Pg) : Prop := ∃ Ak ck Am cm Af cf, v = .agg #[.slice Ak p.kinds.length ck, .slice Am p.makers.length cm, .slice Af p.funs.length cf] ∧
  Lift.RowsIn (KdR W) W 2 Ak p.kinds ∧ Lift.RowsIn MkR W 4 Am p.makers ∧ Lift.RowsIn (FnR W) W 7 Af p.funs ∧
  p.kinds.length ≤ ck ∧ ck ≤ 9223372036854775807 ∧ p.makers.length ≤ cm ∧ cm ≤ 9223372036854775807 ∧ p.funs.length ≤ cf ∧ cf ≤ 9223372036854775807 ∧
  p.kinds.length ≤ 1048576 ∧ p.makers.length ≤ 1048576 ∧ p.funs.length ≤ 1048576
def Pg.mk' (p : Pg) : List Int := p.makers.map (·.ar)
def Pg.fn' (p : Pg) : List Int := p.funs.map (·.ar)
/-- an empty tree. -/
def bareB (t : Ca) : Bool := t.k == 0 && (t.r == 0 && (t.p.n == 0 && t.ys.isEmpty))
mutual
/-- whether a tree may be a function's. -/
def treeB (nm : Nat) (fn : List Int) (ar : Int) (nb : Nat) : Ca → Bool
  | .mk con is k r p ys =>
    if k = 0 then true
    else if k = 1 then decide (0 ≤ r) && decide (r < nb)
    else if k = 2 then decide (0 < p.n) && brB nm fn ar nb ys
    else if k = 3 then ys.length == 2 && orB fn ar ys
    else false
/-- of a branch: each case. -/
def brB (nm : Nat) (fn : List Int) (ar : Int) (nb : Nat) : List Ca → Bool
  | [] => true
  | c :: r => (c.is || (decide (0 ≤ c.con) && decide (c.con < nm))) && (treeB nm fn ar nb c && brB nm fn ar nb r)
/-- of an or: each case. -/
def orB (fn : List Int) (ar : Int) : List Ca → Bool
  | [] => true
  | c :: r => (!c.is && (decide (0 ≤ c.con) && (decide (c.con < fn.length) && (fn.getD c.con.toNat 0 == ar && bareB c)))) && orB fn ar r
end
theorem TrCs.below {w w' : World} {B : Nat} {cs : List Value} {t : Ca} (h : TrCs w cs t) (hb : Below B w w') (hB : w.heap.size ≤ B) : TrCs w' cs t := by
  obtain ⟨A, cap, h1, h2, h3⟩ := h
  exact ⟨A, cap, h1, h2, h3.below hb hB⟩
theorem FnR.below {w w' : World} {B : Nat} {cs : List Value} {t : Fn} (h : FnR w cs t) (hb : Below B w w') (hB : w.heap.size ≤ B) : FnR w' cs t := by
  obtain ⟨s, tc, A, cap, h1, h2, h3, h4⟩ := h
  refine ⟨s, tc, A, cap, h1, h2.below hb hB, fun i hi => ?_, h4⟩
  obtain ⟨b, o, cs, e, hl, ⟨A1, c1, c, e1, hc1, hc2, hc3, hc⟩, hk, hc4⟩ := h3.below hb hB i hi
  exact ⟨b, o, cs, e, hl, ⟨A1, c1, c, e1, hc1, hc2, hc3, hc.below hb hB⟩, hk, hc4⟩
end Go.Proofs.Ytkcgbakjpodmeaa.Co
