/- Contracts: ast.Same, ast.SameRule. -/
import Derived.Test.YtnaakhnmbckpmaaEq
namespace Go.Proofs.Ytnaakhnmbckpmaa.Same
open Go.ChangeShapes Go.WideShapes Go.ChangeAt Go.RowKit Go.Proofs.Ytnaakhnmbckpmaa.Lift Go.Proofs.Ytnaakhnmbckpmaa.Data
set_option linter.unusedVariables false
set_option linter.unusedSimpArgs false
theorem sameEx_args {p : Bool} {k k2 n n2 l l2 c c2 : Int} {s s2 : ByteArray} {ys zs : List Ex} (h1 : k = k2) (h2 : s.toList = s2.toList) (h3 : n = n2) :
    sameEx false (.mk k s n ys l c) (.mk k2 s2 n2 zs l2 c2) = eqAll (sameEx false) ys zs := by
  rw [sameEx, sameExs_eqAll]
  by_cases hl : ys.length = zs.length
  · simp [h1, h2, h3, hl]
  · simp [h1, h2, h3, hl, eqAll_len hl]
set_option maxHeartbeats 1000000 in
theorem astSame_any (N : Nat) (w0 : World) : ∀ (e f : Ex) (w : World) (v u : Value), e.size ≤ N → e.Val w0 v → f.Val w0 u → Below w0.heap.size w0 w →
    Calls Try.prog 53 #[v, u] w fun r w' => r = .returned (.bool (sameEx false e f)) ∧ Below w.heap.size w w' := by
  induction N with
  | zero => intro e f w v u h; cases e; rw [Ex.size] at h; omega
  | succ N ih =>
    intro e f w v u hN hv hu h0
    cases e with
    | mk k s n ys l c =>
    cases f with
    | mk k2 s2 n2 zs l2 c2 =>
    obtain ⟨A, cap, rfl, hd, hs⟩ := hv
    obtain ⟨A2, cap2, rfl, he, hs2⟩ := hu
    rw [Ex.size_mk] at hN
    have HE := fun W hW => Lib.hid (equalSame_any (sameEx false) w0 ys zs (.slice A ys.length cap) (.slice A2 zs.length cap2) ⟨A, cap, rfl, hd, hs⟩ ⟨A2, cap2, rfl, he, hs2⟩
      (fun i h1 h2 w a b ha hb hw => ih _ _ w a b (by have := ExSize_get h1; omega) ha hb hw) W hW)
    have hbb : ∀ o o', Below w0.heap.size w0 ((w.alloc o).alloc o') := fun o o' => (h0.alloc h0.size o).alloc (by simp; exact Nat.le_succ_of_le h0.size) o'
    have HBB := Lib.hid hbb
    clear hbb
    obtain ⟨hd1, hd2, hd3, hd4⟩ := hd
    obtain ⟨he1, he2, he3, he4⟩ := he
    by_cases a1 : k = k2
    · by_cases a2 : s.toList = s2.toList
      · by_cases a3 : n = n2
        · have HS := Lib.hid (sameEx_args (p := false) (l := l) (l2 := l2) (c := c) (c2 := c2) (ys := ys) (zs := zs) a1 a2 a3)
          subst a1 a3
          go_enter Try.func53, Try.ntmps53
          go_wp2_with (go_at_call 52; refine ((HE _ (HBB.out _ _)).out).mono ?_; rintro e w1 ⟨rfl, hb1⟩)
          go_ret
          exact ⟨by rw [HS.out]; rfl, Below.call2 hb1⟩
        · have HS : Hid (sameEx false (.mk k s n ys l c) (.mk k2 s2 n2 zs l2 c2) = false) := Lib.hid (by rw [sameEx]; simp [a3])
          subst a1
          go_enter Try.func53, Try.ntmps53
          go_wp2_with fail
          go_ret
          exact ⟨by rw [HS.out]; rfl, ((Below.refl _ _).alloc (Nat.le_refl _) _).alloc (by simp) _⟩
      · have HS : Hid (sameEx false (.mk k s n ys l c) (.mk k2 s2 n2 zs l2 c2) = false) := Lib.hid (by rw [sameEx]; simp [a2])
        subst a1
        go_enter Try.func53, Try.ntmps53
        go_wp2_with fail
        go_ret
        exact ⟨by rw [HS.out]; rfl, ((Below.refl _ _).alloc (Nat.le_refl _) _).alloc (by simp) _⟩
    · have HS : Hid (sameEx false (.mk k s n ys l c) (.mk k2 s2 n2 zs l2 c2) = false) := Lib.hid (by rw [sameEx]; simp [a1])
      go_enter Try.func53, Try.ntmps53
      go_wp2_with fail
      go_ret
      exact ⟨by rw [HS.out]; rfl, ((Below.refl _ _).alloc (Nat.le_refl _) _).alloc (by simp) _⟩

/-! ### rules -/
structure Ru where
  name : ByteArray
  pats : List Ex
  guard : List Ex
  body : Ex
  l : Int
  c : Int
/-- a value of a rule. -/
def Ru.Val (w : World) (v : Value) (r : Ru) : Prop :=
  ∃ (A : Option Addr) (cap : Nat) (B : Option Addr) (capB : Nat) (k n l' c' : Int) (s : ByteArray) (ys : List Ex) (C : Option Addr) (capC : Nat), r.body = .mk k s n ys l' c' ∧
    v = .agg #[.string r.name, .slice A r.pats.length cap, .slice B r.guard.length capB, .int .i64 k, .string s, .int .i64 n, .slice C ys.length capC, .int .i64 l', .int .i64 c', .int .i64 r.l, .int .i64 r.c] ∧
    ExHd A r.pats.length cap ∧ Exs w A r.pats ∧ ExHd B r.guard.length capB ∧ Exs w B r.guard ∧ ExHd C ys.length capC ∧ Exs w C ys
def sameRu (a b : Ru) : Bool := decide (a.name.toList = b.name.toList) && (eqAll (sameEx false) a.pats b.pats && (eqAll (sameEx false) a.guard b.guard && sameEx false a.body b.body))
set_option maxHeartbeats 2000000 in
set_option maxRecDepth 100000 in
theorem sameRule_any (w0 : World) (a b : Ru) (w : World) (v u : Value) (hv : a.Val w0 v) (hu : b.Val w0 u) (h0 : Below w0.heap.size w0 w) :
    Calls Try.prog 22 #[v, u] w fun r w' => r = .returned (.bool (sameRu a b)) ∧ Below w.heap.size w w' := by
  obtain ⟨A, cap, B, capB, k, n, l, c, s, ys, C, capC, hbody, rfl, hA, sA, hB, sB, hC, sC⟩ := hv
  obtain ⟨A2, cap2, B2, capB2, k2, n2, l2, c2, s2, ys2, C2, capC2, hbody2, rfl, hA2, sA2, hB2, sB2, hC2, sC2⟩ := hu
  obtain ⟨an, ap, ag, ab, al, ac⟩ := a
  obtain ⟨bn, bp, bg, bb, bl, bc⟩ := b
  dsimp only at *
  subst hbody hbody2
  have HP := fun W hW => Lib.hid (equalSame_any (sameEx false) w0 ap bp _ _ ⟨A, cap, rfl, hA, sA⟩ ⟨A2, cap2, rfl, hA2, sA2⟩ (fun i h1 h2 w a b ha hb hw => astSame_any _ w0 _ _ w a b (Nat.le_refl _) ha hb hw) W hW)
  have HG := fun W hW => Lib.hid (equalSame_any (sameEx false) w0 ag bg _ _ ⟨B, capB, rfl, hB, sB⟩ ⟨B2, capB2, rfl, hB2, sB2⟩ (fun i h1 h2 w a b ha hb hw => astSame_any _ w0 _ _ w a b (Nat.le_refl _) ha hb hw) W hW)
  have HB := fun W hW => Lib.hid (astSame_any _ w0 (.mk k s n ys l c) (.mk k2 s2 n2 ys2 l2 c2) W _ _ (Nat.le_refl _) ⟨C, capC, rfl, hC, sC⟩ ⟨C2, capC2, rfl, hC2, sC2⟩ hW)
  have hbb : ∀ o o', Below w0.heap.size w0 ((w.alloc o).alloc o') := fun o o' => (h0.alloc h0.size o).alloc (by simp; exact Nat.le_succ_of_le h0.size) o'
  have HBB := Lib.hid hbb
  clear hbb
  generalize hE : Ex.mk k s n ys l c = e at *
  generalize hF : Ex.mk k2 s2 n2 ys2 l2 c2 = f at *
  clear hE hF
  by_cases a1 : an.toList = bn.toList
  · cases a2 : eqAll (sameEx false) ap bp
    · have HS : Hid (sameRu ⟨an, ap, ag, e, al, ac⟩ ⟨bn, bp, bg, f, bl, bc⟩ = false) := Lib.hid (by simp [sameRu, a2])
      rw [a2] at HP
      clear a2
      go_enter Try.func22, Try.ntmps22
      go_wp2_with fail
      refine ((HP _ (HBB.out _ _)).out).mono ?_
      rintro e w1 ⟨rfl, hb1⟩
      have hc1 := bcell hb1
      go_wp2_with fail
      go_ret
      exact ⟨by rw [HS.out]; rfl, Below.call2 hb1⟩
    · cases a3 : eqAll (sameEx false) ag bg
      · have HS : Hid (sameRu ⟨an, ap, ag, e, al, ac⟩ ⟨bn, bp, bg, f, bl, bc⟩ = false) := Lib.hid (by simp [sameRu, a3])
        rw [a2] at HP
        rw [a3] at HG
        clear a2 a3
        go_enter Try.func22, Try.ntmps22
        go_wp2_with fail
        refine ((HP _ (HBB.out _ _)).out).mono ?_
        rintro e w1 ⟨rfl, hb1⟩
        have hc1 := bcell hb1
        have h01 := (HBB.out _ _).thenCall (HBB.out _ _).size hb1
        go_wp2_with fail
        refine ((HG _ h01).out).mono ?_
        rintro e w2 ⟨rfl, hb2⟩
        go_wp2_with fail
        go_ret
        exact ⟨by rw [HS.out]; rfl, (Below.call2 hb1).thenCall (by have := hb1.size; simp at this; omega) hb2⟩
      · have HS : Hid (sameRu ⟨an, ap, ag, e, al, ac⟩ ⟨bn, bp, bg, f, bl, bc⟩ = sameEx false e f) := Lib.hid (by simp [sameRu, a1, a2, a3])
        rw [a2] at HP
        rw [a3] at HG
        clear a2 a3
        go_enter Try.func22, Try.ntmps22
        go_wp2_with fail
        refine ((HP _ (HBB.out _ _)).out).mono ?_
        rintro e w1 ⟨rfl, hb1⟩
        have hc1 := bcell hb1
        have h01 := (HBB.out _ _).thenCall (HBB.out _ _).size hb1
        have hz1 := hb1.size
        simp at hz1
        have hz2 : w.heap.size < w1.heap.size := by omega
        have hz3 : w.heap.size + 1 < w1.heap.size := by omega
        go_wp2_with fail
        refine ((HG _ h01).out).mono ?_
        rintro e w2 ⟨rfl, hb2⟩
        have h02 := h01.thenCall h01.size hb2
        have hc2 := bcell hb2
        go_wp2_with fail
        refine ((HB _ h02).out).mono ?_
        rintro e w3 ⟨rfl, hb3⟩
        go_wp2_with fail
        go_ret
        exact ⟨by rw [HS.out]; rfl, ((Below.call2 hb1).thenCall (by omega) hb2).thenCall (by have := hb2.size; omega) hb3⟩
  · have HS : Hid (sameRu ⟨an, ap, ag, e, al, ac⟩ ⟨bn, bp, bg, f, bl, bc⟩ = false) := Lib.hid (by simp [sameRu, a1])
    go_enter Try.func22, Try.ntmps22
    go_wp2_with fail
    go_ret
    exact ⟨by rw [HS.out]; rfl, ((Below.refl _ _).alloc (Nat.le_refl _) _).alloc (by simp) _⟩
end Go.Proofs.Ytnaakhnmbckpmaa.Same
