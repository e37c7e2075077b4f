/- Contracts: dtree.fits, and where the first case is that fits. -/
import Derived.Test.YtnaakhnmbckpmaaTrV
import Derived.BigQuiet
namespace Go.Proofs.Ytnaakhnmbckpmaa.Pats
open Go.ChangeShapes Go.WideShapes Go.ChangeAt Go.RowKit Go.Proofs.Ytnaakhnmbckpmaa.Lift Go.Proofs.Ytnaakhnmbckpmaa.Data Go.Proofs.Ytnaakhnmbckpmaa.Refs Go.Proofs.Ytnaakhnmbckpmaa.Strs
set_option linter.unusedVariables false
set_option linter.unusedSimpArgs false
def fitS (makers : List ByteArray) (c : Ct) (x : Tm) : Bool := if c.is then (x.k == 2 && x.n == c.con) else (x.k == 1 && decide (0 ≤ c.con) && idxS makers x.s == c.con)
set_option maxRecDepth 100000 in
set_option maxHeartbeats 2000000 in
theorem fits_any (w0 w : World) (mv : Value) (makers : List ByteArray) (con : Int) (is : Bool) (k2 r2 : Int) (p : List Int) (cs : List Ct) (Ap A Ax : Option Addr) (cp cap cx : Nat) (k : Int) (s : ByteArray) (n : Int) (ys : List Tm) (hM : StrSl w0 mv makers) (h0 : Data.Sub w0 w) :
    Calls Try.prog 67 #[mv, .agg #[.int .i64 con, .bool is, .int .i64 k2, .int .i64 r2, .slice Ap p.length cp, .slice A cs.length cap], .agg #[.int .i64 k, .string s, .int .i64 n, .slice Ax ys.length cx]] w
      fun r w' => r = .returned (.bool (fitS makers (.mk con is k2 r2 p cs) (.mk k s n ys))) ∧ Below w.heap.size w w' := by
  have HX := fun W h => Lib.hid (fun s => index_any W mv makers s (Data.StrSl.sub hM (h0.then (w' := W) h)))
  obtain ⟨Am, cm, rfl, -⟩ := hM
  have HD : Hid (fitS makers (.mk con is k2 r2 p cs) (.mk k s n ys) = if is = true then (k == 2 && n == con) else (k == 1 && decide (0 ≤ con) && idxS makers s == con)) := Lib.hid rfl
  have hb2 := fun o o' => below2 w o o'
  generalize fitS makers (.mk con is k2 r2 p cs) (.mk k s n ys) = d at *
  cases is
  · by_cases h1 : k = 1
    · subst h1
      by_cases h2 : (0 : Int) ≤ con
      · have HI := fun o o' n => HX (((w.alloc o).alloc o').drewN n) ((hb2 o o').drewN n)
        have HE : Hid (d = (idxS makers s == con)) := Lib.hid (by rw [HD.out]; simp [h2])
        clear HD
        go_enter Try.func67, Try.ntmps67
        go_wp2_with fail
        go_quiet ((go_at_call 86; exact Calls.quiet_of_same (((HI _ _ _).out _).mono fun _ _ h => ⟨h.1, h.2.symm⟩)))
        go_wp2_with fail
        go_ret
        exact ⟨by rw [HE.out]; try simp, (hb2 _ _).drewN _⟩
      · have HE : Hid (d = false) := Lib.hid (by rw [HD.out]; simp [h2])
        have hdd : decide ((0 : Int) ≤ con) = false := by simp [h2]
        have hde : decide (con ≥ (0 : Int)) = false := by simp [h2]
        clear HD h2
        go_enter Try.func67, Try.ntmps67
        go_wp2_with fail
        go_quiet (fail)
        go_wp2_with fail
        go_ret
        exact ⟨by rw [HE.out]; try simp, (hb2 _ _).drewN _⟩
    · have hk : (k == 1) = false := by simp [h1]
      have HE : Hid (d = false) := Lib.hid (by rw [HD.out]; simp [h1])
      clear h1 HD
      go_enter Try.func67, Try.ntmps67
      go_wp2_with fail
      go_quiet (fail)
      go_wp2_with fail
      go_ret
      exact ⟨by rw [HE.out]; try simp, (hb2 _ _).drewN _⟩
  · by_cases h1 : k = 2
    · subst h1
      have HE : Hid (d = (n == con)) := Lib.hid (by rw [HD.out]; simp)
      clear HD
      go_enter Try.func67, Try.ntmps67
      go_wp2_with fail
      go_ret
      exact ⟨by rw [HE.out]; try simp, hb2 _ _⟩
    · have hk : (k == 2) = false := by simp [h1]
      have HE : Hid (d = false) := Lib.hid (by rw [HD.out]; simp [h1])
      clear HD
      go_enter Try.func67, Try.ntmps67
      go_wp2_with fail
      go_ret
      exact ⟨by rw [HE.out]; try simp, hb2 _ _⟩
set_option maxRecDepth 100000 in
theorem clo66 (w0 w : World) (mv : Value) (makers : List ByteArray) (con : Int) (is : Bool) (k2 r2 : Int) (p : List Int) (cs : List Ct) (Ap A Ax : Option Addr) (cp cap cx : Nat) (k : Int) (s : ByteArray) (n : Int) (ys : List Tm) (mb xb : Nat) (hM : StrSl w0 mv makers) (h0 : Data.Sub w0 w)
    (hm : w.heap[mb]? = some (.cells #[mv] 51 (0, 0))) (hx : w.heap[xb]? = some (.cells #[.int .i64 k, .string s, .int .i64 n, .slice Ax ys.length cx] 29 (0, 0))) :
    Calls Try.prog 66 #[.agg #[.int .i64 con, .bool is, .int .i64 k2, .int .i64 r2, .slice Ap p.length cp, .slice A cs.length cap], .pointer (some ⟨mb, 0, none⟩), .pointer (some ⟨xb, 0, none⟩)] w
      fun r w' => r = .returned (.bool (fitS makers (.mk con is k2 r2 p cs) (.mk k s n ys))) ∧ Below w.heap.size w w' := by
  have HF := fun o => Lib.hid (fits_any w0 (w.alloc o) mv makers con is k2 r2 p cs Ap A Ax cp cap cx k s n ys hM (h0.alloc o))
  have hml := (Array.getElem?_eq_some_iff.1 hm).1
  have hxl := (Array.getElem?_eq_some_iff.1 hx).1
  have m0 := cell1of hm
  obtain ⟨x0, x1, x2, x3⟩ := row4 hx
  obtain ⟨Am, cm, rfl, -⟩ := hM
  generalize fitS makers (.mk con is k2 r2 p cs) (.mk k s n ys) = d at *
  clear hm hx h0
  go_enter Try.func66, Try.ntmps66
  go_wp2_with fail
  refine ((HF _).out).mono ?_
  rintro _ w1 ⟨rfl, hb1⟩
  go_wp2_with fail
  go_ret
  exact ⟨rfl, Below.call1 hb1⟩
/-- a slice of cases. -/
def CtSl (w : World) (v : Value) (cs : List Ct) : Prop := ∃ A cap, v = .slice A cs.length cap ∧ CtHd A cs.length cap ∧ Cts w A cs
set_option maxRecDepth 100000 in
set_option maxHeartbeats 1000000 in
theorem index65_66 (f : Ct → Bool) (c1 c2 : Value) (w0 w : World) (ys : List Ct) (v : Value) (hv : CtSl w0 v ys) (h0 : Below w0.heap.size w0 w)
    (hcall : ∀ (con : Int) (is : Bool) (k2 r2 : Int) (p : List Int) (cs : List Ct) (Ap A : Option Addr) (cp cap : Nat) (z : World), Below w.heap.size w z → Calls Try.prog 66 #[.agg #[.int .i64 con, .bool is, .int .i64 k2, .int .i64 r2, .slice Ap p.length cp, .slice A cs.length cap], c1, c2] z fun r z' => r = .returned (.bool (f (.mk con is k2 r2 p cs))) ∧ Below z.heap.size z z') :
    Calls Try.prog 65 #[v, .func (.func 66) #[] #[c1, c2]] w fun r w' => r = .returned (.int .i64 (idxB f ys)) ∧ Below w.heap.size w w' := by
  obtain ⟨A, cap, rfl, ⟨hd1, hd2, hd3, hd4⟩, hs⟩ := hv
  have HCA := Lib.hid hcall
  clear hcall
  go_enter Try.func65, Try.ntmps65
  go_wp2_with fail
  go_loopw [8] (fun i wr => ∃ j : Nat, i = .int .i64 j ∧ j ≤ ys.length ∧ Hid (∀ q (hq : q < ys.length), q < j → f ys[q] = false) ∧ Below w.heap.size w wr) (fun i _ => ys.length - (intOf i).toNat)
  case atStart => exact ⟨0, rfl, Nat.zero_le _, Lib.hid (fun q hq h => by omega), Below.refl _ _⟩
  case round =>
    obtain ⟨j, rfl, hj, hno, hb⟩ := hrel
    by_cases hlt : j < ys.length
    · obtain ⟨b, o, rfl, hat⟩ := hs.get j hlt
      have HHit : Hid (f ys[j] = true → idxB f ys = j) := Lib.hid (fun h => idxB_hit hlt h (fun q hq h2 => hno.out q hq h2))
      have HNX : Hid (f ys[j] = false → ∀ q (hq : q < ys.length), q < j + 1 → f ys[q] = false) := Lib.hid (fun h q hq h2 => by
        rcases Nat.lt_or_eq_of_le (Nat.lt_succ_iff.1 h2) with h1 | rfl
        · exact hno.out q hq h1
        · exact h)
      clear hno hs
      generalize ys[j] = y at *
      cases y with
      | mk con2 is2 k2 r2 p2 cs2 =>
      obtain ⟨A2, cap2, Ap2, cp2, c0, c1', c2', c3, c4, c5, -⟩ := hat.open_
      have hb0 := h0.trans (hb.mono h0.size)
      have d0 := cellB hb0 (Nat.le_refl _) c0
      have d1 := cellB hb0 (Nat.le_refl _) c1'
      have d2 := cellB hb0 (Nat.le_refl _) c2'
      have d3 := cellB hb0 (Nat.le_refl _) c3
      have d4 := cellB hb0 (Nat.le_refl _) c4
      have d5 := cellB hb0 (Nat.le_refl _) c5
      have hbl := World.block_lt_of_cell? _ _ d0
      simp only at hbl
      have HC := Lib.hid (HCA.out con2 is2 k2 r2 p2 cs2 Ap2 A2 cp2 cap2 wr hb)
      clear HCA hat c0 c1' c2' c3 c4 c5
      cases hsm : f (.mk con2 is2 k2 r2 p2 cs2)
      · rw [hsm] at HC
        have HN := Lib.hid (HNX.out hsm)
        clear hsm HNX HHit
        go_wp2_with fail
        refine HC.out.mono ?_
        rintro _ w1 ⟨rfl, hb1⟩
        have hbn := hb.thenCall hb.size hb1
        go_wp2_with fail
        exact ⟨⟨j + 1, by go_num, by omega, HN, hbn⟩, by simp [intOf]; omega⟩
      · rw [hsm] at HC
        have HH := Lib.hid (HHit.out hsm)
        clear hsm HNX HHit
        go_wp2_with fail
        refine HC.out.mono ?_
        rintro _ w1 ⟨rfl, hb1⟩
        have hbn := hb.thenCall hb.size hb1
        go_wp2_with fail
        go_ret
        exact ⟨by rw [HH.out]; rfl, hbn⟩
    · have HN := Lib.hid (idxB_miss (f := f) (l := ys) (fun q hq => hno.out q hq (by omega)))
      clear hs HCA
      go_wp2_with fail
      go_ret
      exact ⟨by rw [HN.out]; rfl, hb⟩
end Go.Proofs.Ytnaakhnmbckpmaa.Pats
