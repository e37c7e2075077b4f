/- Contracts: ast.free, ast.Free. -/
import Derived.Test.YtnaakhnmbckpmaaStrs
import Derived.Test.YtnaakhnmbckpmaaEx
import Derived.Deep.RegionHeld3
namespace Go.Proofs.Ytnaakhnmbckpmaa.Strs
open Go.ChangeShapes Go.WideShapes Go.ChangeAt Go.RowKit Go.Proofs.Ytnaakhnmbckpmaa.Lift Go.Proofs.Ytnaakhnmbckpmaa.Data
set_option linter.unusedVariables false
set_option linter.unusedSimpArgs false
/-- what is bound in a part. -/
def bndS (k : Int) (s : ByteArray) (i : Nat) (bound : List ByteArray) : List ByteArray := if (k = 7 ∧ i = 1) ∨ (k = 8 ∧ i = 0) then bound ++ [s] else bound
mutual
/-- the names that are free, behind others. -/
def freeS : Ex → List ByteArray → List ByteArray → List ByteArray
  | .mk k s n ys l c, out, bound => freeSs k s ys 0 (if k = 1 ∧ memS bound s = false then withS out s else out) bound
def freeSs (k : Int) (s : ByteArray) : List Ex → Nat → List ByteArray → List ByteArray → List ByteArray
  | [], _, out, _ => out
  | e :: r, i, out, bound => freeSs k s r (i + 1) (freeS e out (bndS k s i bound)) bound
end
theorem freeSs_take {k : Int} {s : ByteArray} : ∀ {ys : List Ex} {j i : Nat} {out bound : List ByteArray} (h : j < ys.length), freeSs k s (ys.take (j + 1)) i out bound = freeS ys[j] (freeSs k s (ys.take j) i out bound) (bndS k s (i + j) bound)
  | [], _, _, _, _, h => by simp at h
  | e :: r, 0, i, out, bound, _ => by simp [freeSs]
  | e :: r, j + 1, i, out, bound, h => by
    simp only [List.take_succ_cons, freeSs, List.getElem_cons_succ]
    rw [freeSs_take (by simpa using h), show i + 1 + j = i + (j + 1) by omega]
theorem withS_len (l : List ByteArray) (s : ByteArray) : (withS l s).length ≤ l.length + 1 := by unfold withS; split <;> simp
mutual
theorem freeS_len : ∀ (e : Ex) (out bound : List ByteArray), (freeS e out bound).length ≤ out.length + e.size
  | .mk k s n ys l c, out, bound => by
    rw [freeS, Ex.size]
    have h := freeSs_len k s ys 0 (if k = 1 ∧ memS bound s = false then withS out s else out) bound
    have h2 := withS_len out s
    split at h <;> rename_i h3
    · rw [if_pos h3]; omega
    · rw [if_neg h3]; omega
theorem freeSs_len (k : Int) (s : ByteArray) : ∀ (ys : List Ex) (i : Nat) (out bound : List ByteArray), (freeSs k s ys i out bound).length ≤ out.length + ExSize ys
  | [], i, out, bound => by simp [freeSs, ExSize]
  | e :: r, i, out, bound => by
    rw [freeSs, ExSize]
    have h1 := freeS_len e out (bndS k s i bound)
    have h2 := freeSs_len k s r (i + 1) (freeS e out (bndS k s i bound)) bound
    omega
end
/-- a slice that lies in no part of a row. -/
def Apart (w : World) (vo vb : Value) : Prop := ∀ k, vb.ownBlock = some k → k < w.heap.size ∧ vo.ownBlock ≠ some k
theorem Apart.fresh {w w' : World} {vo vo' vb : Value} (h : Apart w vo vb) (hf : Fresh w vo vo') (hs : w.heap.size ≤ w'.heap.size) : Apart w' vo' vb := by
  intro k hk
  obtain ⟨h1, h2⟩ := h k hk
  refine ⟨by omega, ?_⟩
  rcases hf with hf | ⟨g, g1, g2⟩
  · rw [hf]; exact h2
  · rw [g1]; intro e; injection e with e; omega
theorem StrSl.grown {w w' : World} {vo vb : Value} {l : List ByteArray} (h : StrSl w vb l) (ha : Apart w vo vb) (hg : w.grownBy w' vo.ownBlock) : StrSl w' vb l := by
  obtain ⟨A, cap, rfl, h2, h3, h4, h5, h6⟩ := h
  exact ⟨A, cap, rfl, h2, h3, h4, h5, src_grown h6 hg (fun a e => (ha a.block (by rw [e]; rfl)).2)⟩
theorem own_far {w : World} {B : Nat} {v : Value} {l : List ByteArray} (h : StrOwn w B v l) {g : Nat} {cs : Array Value} (hg : w.heap[g]? = some (.cells cs 26 (0, 0))) : v.ownBlock ≠ some g := by
  intro e
  rcases h.2 with ⟨rfl, _⟩ | ⟨g', cap, cur, rfl, h2, h3, _⟩
  · cases e
  · injection e with e
    simp only at e
    subst e
    rw [h3] at hg
    simp at hg
theorem heap_grown {w w' : World} {B : Nat} {v : Value} {l : List ByteArray} (h : StrOwn w B v l) {g : Nat} {cs : Array Value} (hg : w.heap[g]? = some (.cells cs 26 (0, 0))) (hw : w.grownBy w' v.ownBlock) : w'.heap[g]? = some (.cells cs 26 (0, 0)) :=
  (hw.block g (Array.getElem?_eq_some_iff.1 hg).1 (fun e => own_far h hg e.symm)).trans hg
theorem below_of_grown {w w' : World} {B B0 : Nat} {v : Value} {l : List ByteArray} (h : StrOwn w B v l) (hw : w.grownBy w' v.ownBlock) (h0 : B0 ≤ B) (hB : B ≤ w.heap.size) : Below B0 w w' :=
  (below_grown h hw hB).mono h0
def FreeOk (N : Nat) : Prop := ∀ (w0 : World) (e : Ex) (w : World) (v vo vb : Value) (out bound : List ByteArray) (B : Nat), e.size ≤ N → e.Val w0 v → Below w0.heap.size w0 w → w0.heap.size ≤ B → B ≤ w.heap.size →
    StrOwn w B vo out → StrSl w vb bound → Apart w vo vb → out.length + e.size ≤ 4194304 → bound.length + e.size ≤ 4194304 →
    Calls Try.prog 55 #[vo, v, vb] w (StrGrew w B vo (freeS e out bound))
def FreeRel (w0 : World) (B : Nat) (k : Int) (s : ByteArray) (box : Array Value) (ys : List Ex) (w : World) (vo : Value) (out bound : List ByteArray) (t i : Value) (wr : World) : Prop :=
  ∃ (j : Nat), i = .int .i64 j ∧ j ≤ ys.length ∧ StrOwn wr B t (freeSs k s (ys.take j) 0 out bound) ∧ w.grownBy wr vo.ownBlock ∧ Fresh w vo t ∧ wr.heap[w.heap.size]? = some (.cells box 26 (0, 0)) ∧ w.heap.size < wr.heap.size
theorem fresh_alloc {w : World} {o : Obj} {v v' : Value} (h : Fresh (w.alloc o) v v') : Fresh w v v' := by
  rcases h with h | ⟨g, h1, h2⟩
  · exact .inl h
  · exact .inr ⟨g, h1, by simp at h2; omega⟩
theorem below1 (w : World) (o : Obj) : Below w.heap.size w (w.alloc o) := (Below.refl _ _).alloc (Nat.le_refl _) o
theorem conj7 {w : World} {g1 g2 : Nat} {s : ByteArray} {a0 a2 a3 a4 a5 v0 v1 v2 v3 v4 v5 : Value} (h1 : w.heap[g1]? = some (.cells #[a0, .string s, a2, a3, a4, a5] 26 (0, 0))) (h2 : w.heap[g2]? = some (.cells #[v0, v1, v2, v3, v4, v5] 26 (0, 0))) :
    w.cell? ⟨g1, 1, none⟩ = some (.string s) ∧ w.cell? ⟨g2, 0, none⟩ = some v0 ∧ w.cell? ⟨g2, 1, none⟩ = some v1 ∧ w.cell? ⟨g2, 2, none⟩ = some v2 ∧ w.cell? ⟨g2, 3, none⟩ = some v3 ∧ w.cell? ⟨g2, 4, none⟩ = some v4 ∧ w.cell? ⟨g2, 5, none⟩ = some v5 := by
  refine ⟨?_, ?_, ?_, ?_, ?_, ?_, ?_⟩ <;> simp [World.cell?, h1, h2]
set_option maxRecDepth 100000 in
set_option maxHeartbeats 4000000 in
theorem free_step (N : Nat) (ih : FreeOk N) : FreeOk (N + 1) := by
  intro w0 e w v vo vb out bound B hN hv h0 hB0 hB ho hbd hap hL1 hL2
  cases e with
  | mk k s n ys l c =>
  obtain ⟨A, cap, rfl, ⟨hd1, hd2, hd3, hd4⟩, hs⟩ := hv
  rw [Ex.size_mk] at hN hL1 hL2
  have hbd0 := hbd
  obtain ⟨A2, cap2, rfl, e1, e2, e3, e4, e5⟩ := hbd
  have HC := fun o => Lib.hid (contains_any (w.alloc o) _ bound s (hbd0.below (below1 w o) (Nat.le_refl _)))
  have HO := fun o => Lib.hid (with_any (w.alloc o) B vo out s (ho.alloc o) (by omega) (by simp; omega))
  have hsz0 := ExSize_len ys
  have fin : ∀ (wq : World) (voq : Value) (outq : List ByteArray), StrOwn wq B voq outq → w.grownBy wq vo.ownBlock → Fresh w vo voq → w.heap.size < wq.heap.size →
      wq.heap[w.heap.size]? = some (.cells #[.int .i64 k, .string s, .int .i64 n, .slice A ys.length cap, .int .i64 l, .int .i64 c] 26 (0, 0)) → outq.length + ExSize ys ≤ 4194304 →
      ∀ a : Act, True := fun _ _ _ _ _ _ _ _ _ _ => trivial
  obtain ⟨outq, hq1, hq2, hq3⟩ : ∃ outq, freeS (.mk k s n ys l c) out bound = freeSs k s ys 0 outq bound ∧ outq.length + ExSize ys ≤ 4194304 ∧ outq = (if k = 1 ∧ memS bound s = false then withS out s else out) := by
    refine ⟨_, by rw [freeS], ?_, rfl⟩
    have := withS_len out s
    split <;> omega
  have HF := Lib.hid hq1
  clear hq1 fin
  have hqq : (k = 1 ∧ memS bound s = false ∧ outq = withS out s) ∨ (k = 1 ∧ memS bound s = true ∧ outq = out) ∨ (¬ k = 1 ∧ outq = out) := by
    by_cases hk : k = 1
    · cases hm : memS bound s
      · exact .inl ⟨hk, rfl, by rw [hq3, if_pos ⟨hk, hm⟩]⟩
      · exact .inr (.inl ⟨hk, rfl, by rw [hq3, if_neg (fun h => by rw [hm] at h; cases h.2)]⟩)
    · exact .inr (.inr ⟨hk, by rw [hq3, if_neg (fun h => hk h.1)]⟩)
  clear hq3
  rcases hqq with ⟨hk, hm, hq⟩ | ⟨hk, hm, hq⟩ | ⟨hk, hq⟩
  have hk' : (k == 1) = true := by simp [hk]
  have HQ := Lib.hid hq
  have hbox := heap_alloc_new w (Obj.cells #[.int .i64 k, .string s, .int .i64 n, .slice A ys.length cap, .int .i64 l, .int .i64 c] 26)
  have hbx1 := below1 w (Obj.cells #[.int .i64 k, .string s, .int .i64 n, .slice A ys.length cap, .int .i64 l, .int .i64 c] 26)
  rw [hm] at HC
  clear hm hk hq
  go_enter Try.func55, Try.ntmps55
  go_wp2_with (first | (go_at_call 71; refine (HC _).out.mono ?_; rintro e w' ⟨rfl, rfl⟩) | (go_at_call 72; refine (HO _).out.mono ?_; rintro e wq ⟨voq, rfl, hoq, hgq, hfq⟩; have hxq := heap_grown (ho.alloc _) hbox hgq; have hzq : w.heap.size < wq.heap.size := (Array.getElem?_eq_some_iff.1 hxq).1; have x3 : wq.cell? ⟨w.heap.size, 3, none⟩ = some (.slice A ys.length cap) := by simp [World.cell?, hxq]))
  replace hgq := grown_after hbx1 hgq
  replace hfq := fresh_alloc hfq
  rw [← HQ.out] at hoq
  clear hbox hbx1 x3
  rotate_left
  have hk' : (k == 1) = true := by simp [hk]
  have hoq := ho.alloc (Obj.cells #[.int .i64 k, .string s, .int .i64 n, .slice A ys.length cap, .int .i64 l, .int .i64 c] 26)
  rw [← hq] at hoq
  rw [hm] at HC
  clear hm hk hq
  go_enter Try.func55, Try.ntmps55
  go_wp2_with (first | (go_at_call 71; refine (HC _).out.mono ?_; rintro e w' ⟨rfl, rfl⟩))
  have hxq := heap_alloc_new w (Obj.cells #[.int .i64 k, .string s, .int .i64 n, .slice A ys.length cap, .int .i64 l, .int .i64 c] 26)
  have hzq : w.heap.size < (w.alloc (Obj.cells #[.int .i64 k, .string s, .int .i64 n, .slice A ys.length cap, .int .i64 l, .int .i64 c] 26)).heap.size := by simp
  have hgq := grown_of_below vo.ownBlock (below1 w (Obj.cells #[.int .i64 k, .string s, .int .i64 n, .slice A ys.length cap, .int .i64 l, .int .i64 c] 26))
  have hfq := Fresh.refl w vo
  rotate_left
  have hk' : (k == 1) = false := by simp [hk]
  have hoq := ho.alloc (Obj.cells #[.int .i64 k, .string s, .int .i64 n, .slice A ys.length cap, .int .i64 l, .int .i64 c] 26)
  rw [← hq] at hoq
  clear hk hq
  go_enter Try.func55, Try.ntmps55
  go_wp2_with fail
  have hxq := heap_alloc_new w (Obj.cells #[.int .i64 k, .string s, .int .i64 n, .slice A ys.length cap, .int .i64 l, .int .i64 c] 26)
  have hzq : w.heap.size < (w.alloc (Obj.cells #[.int .i64 k, .string s, .int .i64 n, .slice A ys.length cap, .int .i64 l, .int .i64 c] 26)).heap.size := by simp
  have hgq := grown_of_below vo.ownBlock (below1 w (Obj.cells #[.int .i64 k, .string s, .int .i64 n, .slice A ys.length cap, .int .i64 l, .int .i64 c] 26))
  have hfq := Fresh.refl w vo
  rotate_left
  all_goals
    clear HC HO hk'
    go_loopw [0, 26] (fun t i wr => FreeRel w0 B k s #[.int .i64 k, .string s, .int .i64 n, .slice A ys.length cap, .int .i64 l, .int .i64 c] ys w vo outq bound t i wr) (fun _ i _ => ys.length - (intOf i).toNat)
    case atStart => exact ⟨0, rfl, Nat.zero_le _, by rw [List.take_zero, freeSs]; exact hoq, hgq, hfq, hxq, hzq⟩
    case round =>
      clear hoq hgq hxq hzq hfq
      obtain ⟨j, rfl, hj, hoj, hgj, hfj, hbx, hsz⟩ := hrel
      by_cases hlt : j < ys.length
      · obtain ⟨b, o, rfl, hat⟩ := hs.get j hlt
        have hb0 := h0.trans (below_of_grown ho hgj hB0 hB)
        have hz := ExSize_get hlt
        have hlen1 := freeSs_len k s (ys.take j) 0 outq bound
        have HT := Lib.hid (freeSs_take (k := k) (s := s) (i := 0) (out := outq) (bound := bound) hlt)
        rw [Nat.zero_add] at HT
        have HST := Lib.hid (ExSize_take hlt)
        have hle2 := ExSize_take_le (ys := ys) (j := j + 1)
        have hsum : (freeSs k s (ys.take j) 0 outq bound).length + (ys[j]).size ≤ 4194304 := by have := HST.out; omega
        generalize ys[j] = y at *
        generalize freeSs k s (ys.take j) 0 outq bound = outj at *
        have hbr : Below wr.heap.size wr wr := Below.refl _ _
        have hBr : B ≤ wr.heap.size := Nat.le_trans hB hgj.size
        have hbdr := hbd0.grown hap hgj
        have hapr := hap.fresh hfj hgj.size
        have x0 : wr.cell? ⟨w.heap.size, 0, none⟩ = some (.int .i64 k) := by simp [World.cell?, hbx]
        have x1 : wr.cell? ⟨w.heap.size, 1, none⟩ = some (.string s) := by simp [World.cell?, hbx]
        have HI := fun o v hv => Lib.hid (ih w0 y (wr.alloc o) v u0 (.slice A2 bound.length cap2) outj bound B (by omega) hv (hb0.alloc hb0.size o) hB0 (by simp; omega) (hoj.alloc o) (hbdr.below (below1 wr o) (Nat.le_refl _)) (hapr.fresh (Fresh.refl _ _) (by simp)) hsum (by omega))
        cases y with
        | mk k2 s2 n2 ys2 l2 c2 =>
        obtain ⟨A3, cap3, d0, d1, d2, d3, d4, d5, hv2⟩ := Ex.At.both hat hb0 (Nat.le_refl _)
        have HI2 := fun o => HI o _ hv2
        clear HI hat hs
        have h5 : ((k = 7 ∧ (j : Int) = 1) ∨ (¬ k = 7 ∧ k = 8 ∧ (j : Int) = 0)) ∨ ((k = 7 ∧ ¬ (j : Int) = 1 ∧ ¬ k = 8) ∨ (¬ k = 7 ∧ k = 8 ∧ ¬ (j : Int) = 0) ∨ (¬ k = 7 ∧ ¬ k = 8)) := by omega
        rcases h5 with h5 | h5
        · have hbn : bndS k s j bound = bound ++ [s] := by rw [bndS, if_pos (by omega)]
          rw [hbn] at HT
          clear hbn
          have g4 : ((k == 7) = true ∧ ((j : Int) == 1) = true) ∨ ((k == 7) = false ∧ (k == 8) = true ∧ ((j : Int) == 0) = true) := by
            rcases h5 with ⟨f1, f2⟩ | ⟨f1, f2, f3⟩
            · exact .inl ⟨by simp [f1], by simpa using f2⟩
            · exact .inr ⟨by simp [f1], by simp [f2], by simpa using f3⟩
          clear h5
          rcases g4 with ⟨g1, g2⟩ | ⟨g1, g2, g3⟩
          all_goals
            go_wp2_with fail
            clear x0 x1
            have hbW := below1 wr (.cells #[.int .i64 k2, .string s2, .int .i64 n2, .slice A3 ys2.length cap3, .int .i64 l2, .int .i64 c2] 26)
            have hx1W := (Below.heap_alloc wr (.cells #[.int .i64 k2, .string s2, .int .i64 n2, .slice A3 ys2.length cap3, .int .i64 l2, .int .i64 c2] 26) _ hsz).trans hbx
            have hx2W := heap_alloc_new wr (.cells #[.int .i64 k2, .string s2, .int .i64 n2, .slice A3 ys2.length cap3, .int .i64 l2, .int .i64 c2] 26)
            have hojW := hoj.alloc (.cells #[.int .i64 k2, .string s2, .int .i64 n2, .slice A3 ys2.length cap3, .int .i64 l2, .int .i64 c2] 26)
            obtain ⟨W, hW⟩ : ∃ W, W = wr.alloc (.cells #[.int .i64 k2, .string s2, .int .i64 n2, .slice A3 ys2.length cap3, .int .i64 l2, .int .i64 c2] 26) := ⟨_, rfl⟩
            have hWs : W.heap.size = wr.heap.size + 1 := by rw [hW]; simp
            rw [← hW] at hbW hx1W hx2W hojW ⊢
            have hl1 : w.heap.size < W.heap.size := by omega
            have hl2 : wr.heap.size < W.heap.size := by omega
            have hBW : B ≤ W.heap.size := by omega
            have HWS := Lib.hid hWs
            clear hW hWs
            have hbdW := hbdr.below hbW (Nat.le_refl _)
            have hb0W := hb0.thenCall hb0.size hbW
            have SW := conj7 hx1W hx2W
            have HSl : ∀ x, Below W.heap.size W x → StrSl x (.slice A2 bound.length cap2) bound := fun x hx => hbdW.below hx (Nat.le_refl _)
            have HI3 : ∀ x vb', Below W.heap.size W x → StrOwn x W.heap.size vb' (bound ++ [s]) → Hid (Calls Try.prog 55 #[u0, .agg #[.int .i64 k2, .string s2, .int .i64 n2, .slice A3 ys2.length cap3, .int .i64 l2, .int .i64 c2], vb'] x (StrGrew x B u0 (freeS (.mk k2 s2 n2 ys2 l2 c2) outj (bound ++ [s])))) := by
              intro x vb' hx hvb
              refine Lib.hid (ih w0 (.mk k2 s2 n2 ys2 l2 c2) x _ u0 vb' outj (bound ++ [s]) B (by omega) hv2 (hb0W.thenCall hb0W.size hx) hB0 (Nat.le_trans hBW hx.size) (own_below hojW hx (Nat.le_refl _)) (StrSl.of_own hvb (by simp; omega)) ?_ hsum (by simp; omega))
              intro q hq
              have h1 := own_block_lt hvb hq
              refine ⟨h1.2, fun e => ?_⟩
              have h2 := own_block_lt hojW e
              omega
            obtain ⟨i0, hi, hz0, hz1, hz2⟩ := info_parts info9
            have hgl1 : bound.length + 1 ≤ maxLen := by unfold maxLen; omega
            have hgl2 : (bound.length + 1) * 16 ≤ 140737488355328 := by omega
            have HSL := Lib.hid HSl
            have HI4 := Lib.hid HI3
            clear HI2 HSl HI3
            go_region_held3 (fun w' => w'.cell? ⟨w.heap.size, 1, none⟩ = some (.string s) ∧ w'.cell? ⟨wr.heap.size, 0, none⟩ = some (.int .i64 k2) ∧ w'.cell? ⟨wr.heap.size, 1, none⟩ = some (.string s2) ∧ w'.cell? ⟨wr.heap.size, 2, none⟩ = some (.int .i64 n2) ∧ w'.cell? ⟨wr.heap.size, 3, none⟩ = some (.slice A3 ys2.length cap3) ∧ w'.cell? ⟨wr.heap.size, 4, none⟩ = some (.int .i64 l2) ∧ w'.cell? ⟨wr.heap.size, 5, none⟩ = some (.int .i64 c2))
              (first | go_keep | exact SW3 | exact SW2 | exact SW1 | exact SW)
              (first
               | (go_at_call 73; refine (clone_any _ _ bound (HSL.out _ (by first | exact (Below.refl _ _).drew | exact ((Below.refl _ _).drew).alloc (Nat.le_refl _) _))).mono ?_; rintro e w1 ⟨vb1, rfl, hown1, hb1⟩; have hbW1 := (by first | exact (Below.refl W.heap.size W).drew.thenCall (Nat.le_refl _) hb1 | exact ((Below.refl W.heap.size W).drew.alloc (Nat.le_refl _) _).thenCall (by simp) hb1 : Below W.heap.size W w1); have hO1 := own_less hown1 (show W.heap.size ≤ _ from by first | exact Nat.le_refl _ | exact Nat.le_succ _ | simp); have SW1 := conj7 ((hbW1.block _ hl1).trans hx1W) ((hbW1.block _ hl2).trans hx2W))
               | (refine step_append_where (by rfl) (.tmp 50) (.tmp 53) 51 rfl W.heap.size 9 i0 _ 1 16 Try.underlying51 hi hz0 hz1 hz2 rfl (by omega) vb1 bound.length _ rfl (hO1.alloc _) (some ⟨w1.heap.size, 0, none⟩) 1 1 [.string s] rfl (Src.of_own (own_new w1 9 1 1 #[.string s] rfl (by omega))) (fun h => by cases h) (by simp [Value.oneCell']) hgl1 hgl2 (by have := hbW1.size; simp; omega) ?_; intro vb2 w2 hO2 hg2 hf2; have hbW2 := (hbW1.alloc hbW1.size _).trans (below_grown (hO1.alloc _) hg2 (by have := hbW1.size; simp; omega)); have SW2 := conj7 ((hbW2.block _ hl1).trans hx1W) ((hbW2.block _ hl2).trans hx2W))
               | (refine step_append_where (by rfl) (.tmp 50) (.tmp 53) 51 rfl W.heap.size 9 i0 _ 1 16 Try.underlying51 hi hz0 hz1 hz2 rfl (by omega) vb1 bound.length _ rfl hO1 (some ⟨W.heap.size, 0, none⟩) 1 1 [.string s] rfl ((Src.of_own (own_new W.drew 9 1 1 #[.string s] rfl (by omega))).below hb1 (Nat.le_refl _)) (fun h => by cases h) (by simp [Value.oneCell']) hgl1 hgl2 hbW1.size ?_; intro vb2 w2 hO2 hg2 hf2; have hbW2 := hbW1.trans (below_grown hO1 hg2 hbW1.size); have SW2 := conj7 ((hbW2.block _ hl1).trans hx1W) ((hbW2.block _ hl2).trans hx2W))
               | (go_at_call 55; refine ((HI4.out _ _ hbW2 (by simpa [StrOwn] using hO2)).out).mono ?_; rintro e w3 ⟨vo1, rfl, ho1, hg1, hf1⟩; have hz3 := heap_grown (own_below hojW hbW2 (Nat.le_refl _)) ((hbW2.block _ hl1).trans hx1W) hg1; have SW3 := conj7 hz3 (heap_grown (own_below hojW hbW2 (Nat.le_refl _)) ((hbW2.block _ hl2).trans hx2W) hg1)))
            all_goals
              go_wp2_with fail
              refine ⟨⟨j + 1, by go_num, by omega, by rw [HT.out]; exact ho1, grown_trans hgj (grown_after (hbW.thenCall hbW.size hbW2) hg1) hfj, hfj.trans (Fresh.trans (Fresh.refl wr u0) hf1 (hbW.thenCall hbW.size hbW2).size) hgj.size, hz3, ?_⟩, by simp [intOf]; omega⟩
              exact (Array.getElem?_eq_some_iff.1 hz3).1
        · have hbn : bndS k s j bound = bound := by rw [bndS, if_neg (by omega)]
          rw [hbn] at HT
          clear hbn
          rcases h5 with ⟨f1, f2, f3⟩ | ⟨f1, f2, f3⟩ | ⟨f1, f2⟩
          · have g1 : (k == 7) = true := by simp [f1]
            have g2 : ((j : Int) == 1) = false := by simpa using f2
            have g3 : (k == 8) = false := by simp [f3]
            clear f1 f2 f3
            go_wp2_with (go_at_call 55; refine (HI2 _).out.mono ?_; rintro e w1 ⟨vo1, rfl, ho1, hg1, hf1⟩)
            refine ⟨⟨j + 1, by go_num, by omega, by rw [HT.out]; exact ho1, grown_trans hgj (grown_after (below1 wr _) hg1) hfj, hfj.trans (fresh_alloc hf1) hgj.size, heap_grown (hoj.alloc _) ((Below.heap_alloc wr _ _ hsz).trans hbx) hg1, ?_⟩, by simp [intOf]; omega⟩
            have := hg1.size
            simp only [World.size_alloc] at this
            omega
          · have g1 : (k == 7) = false := by simp [f1]
            have g2 : (k == 8) = true := by simp [f2]
            have g3 : ((j : Int) == 0) = false := by simpa using f3
            clear f1 f2 f3
            go_wp2_with (go_at_call 55; refine (HI2 _).out.mono ?_; rintro e w1 ⟨vo1, rfl, ho1, hg1, hf1⟩)
            refine ⟨⟨j + 1, by go_num, by omega, by rw [HT.out]; exact ho1, grown_trans hgj (grown_after (below1 wr _) hg1) hfj, hfj.trans (fresh_alloc hf1) hgj.size, heap_grown (hoj.alloc _) ((Below.heap_alloc wr _ _ hsz).trans hbx) hg1, ?_⟩, by simp [intOf]; omega⟩
            have := hg1.size
            simp only [World.size_alloc] at this
            omega
          · have g1 : (k == 7) = false := by simp [f1]
            have g2 : (k == 8) = false := by simp [f2]
            clear f1 f2
            go_wp2_with (go_at_call 55; refine (HI2 _).out.mono ?_; rintro e w1 ⟨vo1, rfl, ho1, hg1, hf1⟩)
            refine ⟨⟨j + 1, by go_num, by omega, by rw [HT.out]; exact ho1, grown_trans hgj (grown_after (below1 wr _) hg1) hfj, hfj.trans (fresh_alloc hf1) hgj.size, heap_grown (hoj.alloc _) ((Below.heap_alloc wr _ _ hsz).trans hbx) hg1, ?_⟩, by simp [intOf]; omega⟩
            have := hg1.size
            simp only [World.size_alloc] at this
            omega
      · go_wp2_with fail
        go_ret
        rw [List.take_of_length_le (by omega)] at hoj
        exact ⟨_, rfl, by rw [HF.out]; exact hoj, hgj, hfj⟩
theorem free_all (N : Nat) : FreeOk N := by
  induction N with
  | zero => intro w0 e w v vo vb out bound B h; cases e; rw [Ex.size_mk] at h; omega
  | succ N ih => exact free_step N ih
end Go.Proofs.Ytnaakhnmbckpmaa.Strs
