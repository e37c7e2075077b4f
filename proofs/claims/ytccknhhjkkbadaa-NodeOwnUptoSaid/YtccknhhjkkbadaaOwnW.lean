/- The walk of NodeOwn. -/
import Derived.Test.YtccknhhjkkbadaaAwk
import Derived.Test.YtccknhhjkkbadaaOpenN
import Derived.Test.YtccknhhjkkbadaaMadeQ
import Derived.Test.YtccknhhjkkbadaaOwn2
import Derived.Test.YtccknhhjkkbadaaWord
namespace Go.Proofs.Ytccknhhjkkbadaa.nodeOwn
open Go.ChangeShapes Go.WideShapes Go.ChangeAt Go.RowKit Go.Proofs.Ytccknhhjkkbadaa.Lift Go.Proofs.Ytccknhhjkkbadaa.Arn Go.Proofs.Ytccknhhjkkbadaa.ArnN Go.Proofs.Ytccknhhjkkbadaa.Gr Go.Maps
set_option linter.unusedVariables false
set_option linter.unusedSimpArgs false
theorem box3 {V z : World} {b : Nat} {x : Nd} (h : V.heap[b]? = some (.cells #[.int .i64 x.k, .int .i64 x.n, .slice x.A x.len x.cap] 43)) (hz : Below V.heap.size V z) :
    z.cell? ⟨b, 0, none⟩ = some (.int .i64 x.k) ∧ z.cell? ⟨b, 1, none⟩ = some (.int .i64 x.n) ∧ z.cell? ⟨b, 2, none⟩ = some (.slice x.A x.len x.cap) := by
  have := (hz.block _ (Array.getElem?_eq_some_iff.1 h).1).trans h
  refine ⟨?_, ?_, ?_⟩ <;> simp [World.cell?, this]
theorem rows1 {w : World} {a : Nd} {la : List Int} (ha : Args w a la) :
    Lift.RowsIn (DdR (w.alloc (.cells #[.int .i64 0, .int .i64 0, .int .i64 a.k, .int .i64 a.n, .slice a.A a.len a.cap] 46)))
      (w.alloc (.cells #[.int .i64 0, .int .i64 0, .int .i64 a.k, .int .i64 a.n, .slice a.A a.len a.cap] 46)) 5 (some ⟨w.heap.size, 0, none⟩) [⟨0, 0, a, la⟩] := by
  have hal := (Below.refl w.heap.size w).alloc (Nat.le_refl _) (.cells #[.int .i64 0, .int .i64 0, .int .i64 a.k, .int .i64 a.n, .slice a.A a.len a.cap] 46)
  have hn := heap_alloc_new w (.cells #[.int .i64 0, .int .i64 0, .int .i64 a.k, .int .i64 a.n, .slice a.A a.len a.cap] 46)
  have ha' := ha.below hal
  generalize w.alloc _ = V at *
  have hlt := (Array.getElem?_eq_some_iff.1 hn).1
  intro i hi
  have : i = 0 := by simp at hi; omega
  subst this
  refine ⟨_, _, _, rfl, hlt, ⟨rfl, (show (Lit.int .i64 0).wf = true by decide), ha'⟩, rfl, fun j u hu => ?_⟩
  have hj := (List.getElem?_eq_some_iff.1 hu).1
  simp only [List.length_cons, List.length_nil] at hj
  rcases (by omega : j = 0 ∨ j = 1 ∨ j = 2 ∨ j = 3 ∨ j = 4) with rfl | rfl | rfl | rfl | rfl <;> (simp at hu; subst hu; simp [World.cell?, hn])
/-- arguments that are an owned row. -/
theorem args_own {w : World} {B n cap : Nat} {A : Option Addr} {k n' : Int} {l : List Int} (h : w.ownsRow B 3 1 (.slice A n cap) n (l.map (Value.int .i64))) (hn : n = l.length) (hm : l.length ≤ 1048576) : Args w ⟨k, n', A, n, cap⟩ l := by
  refine ⟨hn, fun j hj => ?_, hm, own_cap h⟩
  rcases h.2 with ⟨_, h0⟩ | ⟨g, cap2, cur, hv, h2, h3, h4, h5, h6, h7⟩
  · omega
  · injection hv with e1 e2 e3
    subst e1 e3
    refine ⟨g, 0, rfl, (Array.getElem?_eq_some_iff.1 h3).1, ?_⟩
    have := h.cellAt j (by omega)
    rw [Nat.zero_add, this, List.getElem?_map, List.getElem?_eq_getElem hj]
    simp [List.getD, List.getElem?_eq_getElem hj]
theorem args_src {w : World} {x : Nd} {l : List Int} (h : Args w x l) : Lift.Src w 1 x.A l.length (l.map (Value.int .i64)) := by
  refine ⟨by simp, ?_⟩
  rcases Nat.eq_zero_or_pos l.length with h0 | h0
  · exact .inl h0
  · obtain ⟨b, o, e, _, _⟩ := h.2.1 0 h0
    refine .inr ⟨b, o, e, fun j u hu => ?_⟩
    have hj := (List.getElem?_eq_some_iff.1 hu).1
    rw [List.length_map] at hj
    obtain ⟨b', o', e', _, hc⟩ := h.2.1 j hj
    rw [e] at e'
    injection e' with e'
    injection e' with e1 e2
    subst e1 e2
    rw [List.getElem?_map, List.getElem?_eq_getElem hj] at hu
    injection hu with hu
    rw [hc, ← hu]
    simp [List.getD, List.getElem?_eq_getElem hj]
theorem info3' : (Try.prog.info? 3).map (fun i => (i.zero, i.size, i.bytes)) = some (some (.int .i64 0), 1, 8) := by kernel_rfl
theorem belA (w : World) (o : Obj) : Below w.heap.size w (w.alloc o).drew := ((Below.refl _ _).alloc (Nat.le_refl _) _).drew
theorem belB (w : World) (o o' : Obj) : Below w.heap.size w ((w.alloc o).alloc o').drew := (((Below.refl _ _).alloc (Nat.le_refl _) _).alloc (by simp) _).drew
theorem belC (w : World) (o o' : Obj) : Below w.heap.size w ((w.alloc o).alloc o') := (((Below.refl _ _).alloc (Nat.le_refl _) _).alloc (by simp) _)
theorem rowA (w : World) (o : Obj) : ((w.alloc (.cells #[.int .i64 5] 3)).alloc o).drew.ownsRow w.heap.size 3 1 (.slice (some ⟨w.heap.size, 0, none⟩) 1 1) 1 [.int .i64 5] :=
  own_below (own_new w 3 1 1 #[.int .i64 5] rfl (by omega)) (((Below.refl _ _).alloc (Nat.le_refl _) _).drew) (Nat.le_refl _)
theorem rowB (w : World) (o : Obj) : ((w.alloc o).alloc (.cells #[.int .i64 5] 3)).drew.ownsRow w.heap.size 3 1 (.slice (some ⟨w.heap.size + 1, 0, none⟩) 1 1) 1 [.int .i64 5] :=
  own_below (own_new2 w o 3 1 1 #[.int .i64 5] rfl (by omega)) ((Below.refl _ _).drew) (Nat.le_refl _)
theorem rowC (w : World) : (w.alloc (.cells #[.int .i64 5] 3)).drew.ownsRow w.heap.size 3 1 (.slice (some ⟨w.heap.size, 0, none⟩) 1 1) 1 [.int .i64 5] :=
  own_below (own_new w 3 1 1 #[.int .i64 5] rfl (by omega)) ((Below.refl _ _).drew) (Nat.le_refl _)
theorem keepA {y x : World} {s n c b : Nat} (hG : y.grownBy x (Value.slice (some ⟨s, 0, none⟩) n c).ownBlock) (hb : b < y.heap.size) (hne : b ≠ s) : x.heap[b]? = y.heap[b]? :=
  hG.block b hb (fun e => hne (Option.some.inj e))
theorem heapA (w : World) (o p : Obj) : ((w.alloc o).alloc p).drew.heap[w.heap.size + 1]? = some p := by
  have := heap_alloc_new (w.alloc o) p
  rwa [World.size_alloc] at this
theorem heapB (w : World) (o p : Obj) : ((w.alloc o).alloc p).drew.heap[w.heap.size]? = some o := by
  show ((w.alloc o).alloc p).heap[w.heap.size]? = some o
  rw [Below.heap_alloc _ _ _ (by simp)]
  exact heap_alloc_new w o
theorem cells3 {w : World} {b : Nat} {v0 v1 v2 : Value} {t : TypeId} (h : w.heap[b]? = some (.cells #[v0, v1, v2] t (0, 0))) : w.cell? ⟨b, 0, none⟩ = some v0 ∧ w.cell? ⟨b, 1, none⟩ = some v1 ∧ w.cell? ⟨b, 2, none⟩ = some v2 := by
  refine ⟨?_, ?_, ?_⟩ <;> simp [World.cell?, h]
/-- what lies behind 'own := ..'. -/
def OwnCut (w : World) (xk xn : Int) (lx : List Int) (u : Value) (wx : World) : Prop :=
  ∃ Bo A1 cap1, u = .pointer (some ⟨Bo, 0, none⟩) ∧ w.heap.size ≤ Bo ∧ wx.heap[Bo]? = some (.cells #[.int .i64 xk, .int .i64 xn, .slice A1 (1 + lx.length) cap1] 43 (0, 0)) ∧
    wx.ownsRow w.heap.size 3 1 (.slice A1 (1 + lx.length) cap1) (1 + lx.length) ((5 :: lx).map (Value.int .i64)) ∧ Below w.heap.size w wx
@[reducible] def zero43 : Obj := .cells #[.int .i64 0, .int .i64 0, .slice none 0 0] 43
theorem ownAB {w x : World} {xk xn : Int} {lx : List Int} {Bo cap1 : Nat} {A1 : Option Addr} (hB : w.heap.size ≤ Bo) (h0 : x.heap[Bo]? = some zero43) (hO : x.ownsRow w.heap.size 3 1 (.slice A1 (1 + lx.length) cap1) (1 + lx.length) ([.int .i64 5] ++ lx.map (Value.int .i64))) (hb : Below w.heap.size w x) :
    OwnCut w xk xn lx (.pointer (some ⟨Bo, 0, none⟩)) (((x.setCell ⟨Bo, 0, none⟩ (.int .i64 xk)).setCell ⟨Bo, 1, none⟩ (.int .i64 xn)).setCell ⟨Bo, 2, none⟩ (.slice A1 (1 + lx.length) cap1)) := by
  have h1 := heap_set (o := 0) (.int .i64 xk) h0
  have h2 := heap_set (o := 1) (.int .i64 xn) h1
  have h3 := heap_set (o := 2) (.slice A1 (1 + lx.length) cap1) h2
  have r1 := own_set_type hO (a := ⟨Bo, 0, none⟩) h0 (by decide) (.int .i64 xk)
  have r2 := own_set_type r1 (a := ⟨Bo, 1, none⟩) h1 (by decide) (.int .i64 xn)
  have r3 := own_set_type r2 (a := ⟨Bo, 2, none⟩) h2 (by decide) (.slice A1 (1 + lx.length) cap1)
  exact ⟨Bo, A1, cap1, rfl, hB, h3, r3, ((hb.setCell hB _).setCell hB _).setCell hB _⟩
theorem ownC {w x : World} {xk xn : Int} {lx : List Int} {cap1 : Nat} {A1 : Option Addr} (hs : w.heap.size ≤ x.heap.size) (hO : x.ownsRow w.heap.size 3 1 (.slice A1 (1 + lx.length) cap1) (1 + lx.length) ([.int .i64 5] ++ lx.map (Value.int .i64))) (hb : Below w.heap.size w x) :
    OwnCut w xk xn lx (.pointer (some ⟨x.heap.size, 0, none⟩)) (x.alloc (.cells #[.int .i64 xk, .int .i64 xn, .slice A1 (1 + lx.length) cap1] 43)) :=
  ⟨x.heap.size, A1, cap1, rfl, hs, heap_alloc_new x _, own_below hO ((Below.refl _ _).alloc (Nat.le_refl _) _) (Nat.le_refl _), hb.alloc hs _⟩
theorem wordE {a : Int} (h : a < 1 ∨ 11 < a) : wordOf a = ⟨#[]⟩ := by
  unfold wordOf
  by_cases h0 : a < 0
  · rw [if_pos h0]
  · rw [if_neg h0]
    by_cases h1 : a = 0
    · subst h1; rfl
    · have : wordsL.length ≤ a.toNat := by show 12 ≤ a.toNat; omega
      simp [List.getD, List.getElem?_eq_none this]
theorem word_in {a : Int} (h1 : 1 ≤ a) (h2 : a ≤ 11) : a = 1 ∨ a = 2 ∨ a = 3 ∨ a = 4 ∨ a = 5 ∨ a = 6 ∨ a = 7 ∨ a = 8 ∨ a = 9 ∨ a = 10 ∨ a = 11 := by omega
theorem wordN {a : Int} (h1 : 1 ≤ a) (h2 : a ≤ 11) : wordOf a ≠ ⟨#[]⟩ := by
  rcases word_in h1 h2 with rfl | rfl | rfl | rfl | rfl | rfl | rfl | rfl | rfl | rfl | rfl <;> decide
theorem wordI {a b : Int} (h1 : 1 ≤ a) (h2 : a ≤ 11) (hne : ¬ a = b) : wordOf a ≠ wordOf b := by
  by_cases hb : b < 1 ∨ 11 < b
  · rw [wordE hb]
    exact wordN h1 h2
  · rcases word_in h1 h2 with rfl | rfl | rfl | rfl | rfl | rfl | rfl | rfl | rfl | rfl | rfl <;>
      rcases word_in (a := b) (by omega) (by omega) with rfl | rfl | rfl | rfl | rfl | rfl | rfl | rfl | rfl | rfl | rfl <;>
      first | exact absurd rfl hne | decide
theorem word_cases (a b : Int) : ((a < 1 ∨ 11 < a) ∧ wordOf a = ⟨#[]⟩) ∨ (1 ≤ a ∧ a ≤ 11 ∧ wordOf a ≠ ⟨#[]⟩ ∧ (¬ a = b → wordOf a ≠ wordOf b)) := by
  by_cases h : a < 1 ∨ 11 < a
  · exact .inl ⟨h, wordE h⟩
  · exact .inr ⟨by omega, by omega, wordN (by omega) (by omega), fun hne => wordI (by omega) (by omega) hne⟩
theorem tl_ne {p : ByteArray} (h : p ≠ ⟨#[]⟩) : ¬ p.toList = [] ∧ p.toList.isEmpty = false := by
  have h0 : ¬ p.toList = [] := fun e => h (by rw [ByteArray.toList_eq] at e; exact Go.WideShapes.bytes_inj (b := ⟨#[]⟩) e)
  exact ⟨h0, by simpa using h0⟩
theorem tl_ne2 {p q : ByteArray} (h : p ≠ q) : ¬ p.toList = q.toList ∧ (p.toList == q.toList) = false := by
  have h0 : ¬ p.toList = q.toList := fun e => h (by rw [ByteArray.toList_eq, ByteArray.toList_eq] at e; exact Go.WideShapes.bytes_inj e)
  exact ⟨h0, by simpa using h0⟩
theorem turn_set (w : World) (b o : Nat) (v : Value) : Turn (fun x => x = b) w (w.setCell ⟨b, o, none⟩ v) := (Turn.refl (fun x => x = b) w).setCell (a := ⟨b, o, none⟩) (.inl rfl) v
/-- between two calls: the arena's blocks are new. -/
structure Sq (V z : World) (F : Nat → Prop) : Prop where
  hF : ∀ b, F b → V.heap.size ≤ b
  hb : Below V.heap.size V z
  hs : V.heap.size ≤ z.heap.size
theorem Sq.turn {V z z' : World} {F F' : Nat → Prop} (h : Sq V z F) (hg : Grows F F' z z') (ht : Turn F z z') : Sq V z' F' :=
  have h3 := put_old h.hF h.hb h.hs hg ht
  ⟨h3.1, h3.2.1, h3.2.2⟩
theorem Sq.below {V z z' : World} {F : Nat → Prop} (h : Sq V z F) (hb : Below z.heap.size z z') : Sq V z' F := h.turn (Grows.refl _ _ _) (Turn.of_below hb)
theorem Sq.set {V z : World} {F : Nat → Prop} (h : Sq V z F) {p : Addr} (hp : V.heap.size ≤ p.block) (v : Value) : Sq V (z.setCell p v) F :=
  ⟨h.hF, h.hb.setCell hp v, by simpa [World.setCell] using h.hs⟩
set_option maxRecDepth 100000 in
set_option maxHeartbeats 16000000 in
theorem walk (W : World) (n : Int) (A : Option Addr) (cap : Nat) (ds : List Dd) (x : Nd) (lx : List Int) (a b : Int) (hR : Lift.RowsIn (DdR W) W 5 A ds) (hm : ds.length ≤ 1048576) (hx : Args W x lx) :
    Calls Try.prog 6 #[.int .i64 n, .slice A ds.length cap, enc x, .int .i64 a, .int .i64 b] W fun e w' => e = .returned (.bool true) ∧ Below W.heap.size W w' := by
  obtain ⟨V, hV⟩ : ∃ V, V = (W.alloc (.cells #[.int .i64 x.k, .int .i64 x.n, .slice x.A x.len x.cap] 43)) := ⟨_, rfl⟩
  have hWV : Below W.heap.size W V := by rw [hV]; exact ((Below.refl _ _).alloc (Nat.le_refl _) _)
  have bx : V.heap[W.heap.size]? = some (.cells #[.int .i64 x.k, .int .i64 x.n, .slice x.A x.len x.cap] 43) := by
    rw [hV]
    exact heap_alloc_new W _
  have hWlt : W.heap.size < V.heap.size := by rw [hV, World.size_alloc]; omega
  have hxV := hx.below hWV
  have CX : Hid (∀ z, Below V.heap.size V z → z.cell? ⟨W.heap.size, 0, none⟩ = some (.int .i64 x.k) ∧ z.cell? ⟨W.heap.size, 1, none⟩ = some (.int .i64 x.n) ∧ z.cell? ⟨W.heap.size, 2, none⟩ = some (.slice x.A x.len x.cap)) := Lib.hid (fun z hz => box3 bx hz)
  have AX : Hid (∀ z, Below V.heap.size V z → Args z x lx) := Lib.hid (fun z hz => hxV.below hz)
  have HR := Lib.hid hR
  have HV := Lib.hid hV
  clear hV bx hxV hx hR
  obtain ⟨xk, xn, xA, xl, xc⟩ := x
  unfold enc
  dsimp only at *
  go_enter Try.func6, Try.ntmps6
  go_wp2_with fail
  rw [← HV.out]
  refine (awake24_any V).mono ?_
  rintro _ w2 ⟨rfl, hb2⟩
  go_wp2_with fail
  refine (few_any W A cap ds HR.out hm w2 (hWV.thenCall hWV.size hb2)).mono ?_
  rintro _ w3 ⟨rfl, q3⟩
  have hb3 := hb2.thenCall hb2.size q3
  cases hf1 : fewD ds with
  | false =>
    go_wp2_with fail
    go_ret
    exact ⟨rfl, hWV.thenCall hWV.size hb3⟩
  | true =>
    obtain ⟨k0, k1, k2⟩ := CX.out _ hb3
    go_wp2_with fail
    have hal := (Below.refl w3.heap.size w3).alloc (Nat.le_refl _) (.cells #[.int .i64 0, .int .i64 0, .int .i64 xk, .int .i64 xn, .slice xA xl xc] 46)
    have hr2 := rows1 (AX.out _ hb3)
    have CF := few_any _ (some ⟨w3.heap.size, 0, none⟩) 1 _ hr2 (by simp) _ (Below.refl _ _)
    refine CF.mono ?_
    rintro _ w4 ⟨rfl, q4⟩
    have hb4 := hb3.thenCall hb3.size (hal.thenCall hal.size q4)
    clear CF hr2 q4 hal k0 k1 k2 hb3 q3 hb2
    cases hf2 : fewD [⟨0, 0, ⟨xk, xn, xA, xl, xc⟩, lx⟩] with
    | false =>
      go_wp2_with fail
      go_ret
      exact ⟨rfl, hWV.thenCall hWV.size hb4⟩
    | true =>
      by_cases hn : (200 : Int) < n
      · go_wp2_with fail
        go_ret
        exact ⟨rfl, hWV.thenCall hWV.size hb4⟩
      · by_cases hn1 : n < 1
        · go_wp2_with fail
          go_ret
          exact ⟨rfl, hWV.thenCall hWV.size hb4⟩
        · have hd60 : ds.length ≤ 1000 := by
            unfold fewD at hf1
            rw [Bool.and_eq_true] at hf1
            have := of_decide_eq_true hf1.2
            omega
          have hl20 : lx.length ≤ 1000000 := by
            unfold fewD at hf2
            rw [Bool.and_eq_true, List.all_eq_true] at hf2
            have e1 := of_decide_eq_true (hf2.1 _ (List.mem_cons_self))
            dsimp only at e1
            omega
          clear hf1 hf2
          go_wp2_with fail
          refine (madeq_any W n A cap ds HR.out hd60 w4 (hWV.thenCall hWV.size hb4)).mono ?_
          rintro _ w5 ⟨gg, g, m, rfl, ⟨F, xs, us, low, hG, hM, hFm, hBF, hb5⟩, hgg5, hm5⟩
          have hS : Sq V w5 F := ⟨fun b hb => Nat.le_trans hb4.size (hBF b hb), hb4.thenCall hb4.size hb5, Nat.le_trans hb4.size hb5.size⟩
          have hlen := gr_len hG
          have hXV : ∀ i : Int, (Lit.int .i64 i).wf = true → ∃ l, XV w5 F (getX xs us i) l := fun i hi => by
            obtain ⟨D, _, _, _, h4⟩ := hM
            obtain ⟨y, l, _, _, _, _, h5⟩ := h4 i hi
            exact ⟨l, h5⟩
          clear hBF hb5 hgg5 hm5 hM hFm hb4
          have hFw := hG.2.2.2
          have HCp := Lib.hid (gcopy_any hG)
          go_wp2_with fail
          refine HCp.out.mono ?_
          rintro _ w6 ⟨gg2, g2, F2, rfl, hG2, hF2, hgg2, q6⟩
          have hd2 : ∀ b, F2 b → ¬ F b := fun b h2 h1 => by have := hFw _ h1; have := hF2 _ h2; omega
          have hgF : ¬ F gg2 := fun h1 => by have := hFw _ h1; omega
          have hS6 := hS.below q6
          have hG6 := hG.below q6
          have hX6 : ∀ i : Int, (Lit.int .i64 i).wf = true → ∃ l, XV w6 F (getX xs us i) l := fun i hi => by
            obtain ⟨l, hl⟩ := hXV i hi
            exact ⟨l, hl.turn (Turn.of_below q6) (Grows.refl _ _ _)⟩
          have hFw6 : ∀ b, F b → b < w6.heap.size := hG6.2.2.2
          have hFF2 : ∀ b, F2 b → b < w6.heap.size := hG2.2.2.2
          clear hXV hFw HCp hF2 hgg2 q6 hS hG
          have HL := Lib.hid (glen_any hG2)
          go_wp2_with fail
          refine HL.out.mono ?_
          rintro _ w7 ⟨rfl, rfl⟩
          clear HL
          have hAx := AX.out _ hS6.hb
          have hxl : xl = lx.length := hAx.1
          have hcx := hAx.2.2.2
          subst hxl
          have MS : Hid (∀ y, Below w6.heap.size w6 y → (fun w' : World => w'.cell? ⟨W.heap.size, 0, none⟩ = some (.int .i64 xk) ∧ w'.cell? ⟨W.heap.size, 1, none⟩ = some (.int .i64 xn) ∧ w'.cell? ⟨W.heap.size, 2, none⟩ = some (.slice xA lx.length xc)) y) := Lib.hid (fun y hy => CX.out _ (hS6.hb.thenCall hS6.hs hy))
          have HSrc : Hid (∀ y, Below w6.heap.size w6 y → Lift.Src y 1 xA lx.length (lx.map (Value.int .i64))) := Lib.hid (fun y hy => args_src (hAx.below hy))
          have hB0 : Below w6.heap.size w6 w6.drew := (Below.refl _ _).drew
          obtain ⟨i0, hi, hz0, hz1, hz2⟩ := info_parts info3'
          have hone : ∀ u ∈ lx.map (Value.int .i64), u.oneCell' = true := fun u hu => by
            obtain ⟨z, _, rfl⟩ := List.mem_map.1 hu
            rfl
          have hg1 : 1 + lx.length ≤ maxLen := by unfold maxLen; omega
          have hg2' : (1 + lx.length) * 8 ≤ 140737488355328 := by omega
          have HS6 := Lib.hid hS6
          have HG6 := Lib.hid hG6
          have HG2 := Lib.hid hG2
          have HX6 := Lib.hid hX6
          have HFF : Hid (∀ b, F b → b < w6.heap.size) := Lib.hid hFw6
          have HFF2 : Hid (∀ b, F2 b → b < w6.heap.size) := Lib.hid hFF2
          have HD2 : Hid (∀ b, F2 b → ¬ F b) := Lib.hid hd2
          have HgF : Hid (¬ F gg2) := Lib.hid hgF
          have HLen := Lib.hid hlen
          have HAx := Lib.hid hAx
          clear hS6 hG6 hG2 hX6 hFw6 hFF2 hd2 hgF hlen hAx
          go_upto_region 8 with fail
          go_cut [15] (fun u wx => OwnCut w6 xk xn lx u wx)
          case first =>
            have FA := fun (x1 : World) (A1 : Option Addr) (cap1 Bo : Nat) hB h0 hO hb => Lib.hid (ownAB (w := w6) (x := x1) (xk := xk) (xn := xn) (lx := lx) (Bo := Bo) (cap1 := cap1) (A1 := A1) hB h0 hO hb)
            have FC := fun (x1 : World) (A1 : Option Addr) (cap1 : Nat) hs hO hb => Lib.hid (ownC (w := w6) (x := x1) (xk := xk) (xn := xn) (lx := lx) (cap1 := cap1) (A1 := A1) hs hO hb)
            have hS0 : (fun y : World => y.cell? ⟨W.heap.size, 0, none⟩ = some (.int .i64 xk) ∧ y.cell? ⟨W.heap.size, 1, none⟩ = some (.int .i64 xn) ∧ y.cell? ⟨W.heap.size, 2, none⟩ = some (.slice xA lx.length xc)) w6.drew := MS.out _ hB0
            refine Stage.region_G (st := fun s => s == 10) (S := (fun y : World => y.cell? ⟨W.heap.size, 0, none⟩ = some (.int .i64 xk) ∧ y.cell? ⟨W.heap.size, 1, none⟩ = some (.int .i64 xn) ∧ y.cell? ⟨W.heap.size, 2, none⟩ = some (.slice xA lx.length xc))) (by kernel_rfl) ?_
            (refine Stage.anyG_takeY (i := 0) (oi := ?_) (v := ?_) ?_ (by kernel_rfl) (by kernel_rfl) (by kernel_rfl) (by kernel_rfl) ?_ ?_ hS0 ?_; rotate_left 2; (simp only [List.getElem?_toArray, List.getElem?_cons_succ, List.getElem?_cons_zero]; rfl); (exact fun _ _ _ h => h); (refine Or.inl ⟨by rfl, ?_⟩; intro w hSw; (try dsimp only at hSw); go_simp; try with_reducible rfl); try simp only [Act.put, List.setIfInBounds_toArray, List.set_cons_zero, List.set_cons_succ])
            (refine Stage.anyG_take (i := 1) (oi := ?_) (v := ?_) ?_ (by kernel_rfl) (by kernel_rfl) (by kernel_rfl) (by kernel_rfl) ?_ ?_ hS0 ?_; rotate_left 2; (simp only [List.getElem?_toArray, List.getElem?_cons_succ, List.getElem?_cons_zero]; rfl); (exact fun _ _ _ h => h); (refine Or.inl ⟨by rfl, ?_⟩; intro w hSw; (try dsimp only at hSw); go_simp; try with_reducible rfl); try simp only [Act.put, List.setIfInBounds_toArray, List.set_cons_zero, List.set_cons_succ])
            (refine Stage.anyG_takeY (i := 2) (oi := ?_) (v := ?_) ?_ (by kernel_rfl) (by kernel_rfl) (by kernel_rfl) (by kernel_rfl) ?_ ?_ hS0 ?_; rotate_left 2; (simp only [List.getElem?_toArray, List.getElem?_cons_succ, List.getElem?_cons_zero]; rfl); (exact fun _ _ _ h => h); (refine Or.inl ⟨by rfl, ?_⟩; intro w hSw; (try dsimp only at hSw); go_simp; try with_reducible rfl); try simp only [Act.put, List.setIfInBounds_toArray, List.set_cons_zero, List.set_cons_succ])
            (refine Stage.anyG_take (i := 3) (oi := ?_) (v := ?_) ?_ (by kernel_rfl) (by kernel_rfl) (by kernel_rfl) (by kernel_rfl) ?_ ?_ hS0 ?_; rotate_left 2; (simp only [List.getElem?_toArray, List.getElem?_cons_succ, List.getElem?_cons_zero]; rfl); (exact fun _ _ _ h => h); (refine Or.inl ⟨by rfl, ?_⟩; intro w hSw; (try dsimp only at hSw); go_simp; try with_reducible rfl); try simp only [Act.put, List.setIfInBounds_toArray, List.set_cons_zero, List.set_cons_succ])
            (refine Stage.anyG_takeY (i := 5) (oi := ?_) (v := ?_) ?_ (by kernel_rfl) (by kernel_rfl) (by kernel_rfl) (by kernel_rfl) ?_ ?_ hS0 ?_; rotate_left 2; (simp only [List.getElem?_toArray, List.getElem?_cons_succ, List.getElem?_cons_zero]; rfl); (exact fun _ _ _ h => h); (refine Or.inl ⟨by rfl, ?_⟩; intro w hSw; (try dsimp only at hSw); go_simp; try with_reducible rfl); try simp only [Act.put, List.setIfInBounds_toArray, List.set_cons_zero, List.set_cons_succ])
            (refine Stage.anyG_take (i := 6) (oi := ?_) (v := ?_) ?_ (by kernel_rfl) (by kernel_rfl) (by kernel_rfl) (by kernel_rfl) ?_ ?_ hS0 ?_; rotate_left 2; (simp only [List.getElem?_toArray, List.getElem?_cons_succ, List.getElem?_cons_zero]; rfl); (exact fun _ _ _ h => h); (refine Or.inl ⟨by rfl, ?_⟩; intro w hSw; (try dsimp only at hSw); go_simp; try with_reducible rfl); try simp only [Act.put, List.setIfInBounds_toArray, List.set_cons_zero, List.set_cons_succ])
            refine Stage.anyG_ready (rs := [4, 9]) (by kernel_rfl) (by simp) ?_
            refine Stage.AllG.cons (o := ?o1_0) ?ho1_0 (fun K hK => ?h1_0) ?r1_0
            case ho1_0 => (simp only [List.getElem?_toArray, List.getElem?_cons_succ, List.getElem?_cons_zero]; rfl)
            case h1_0 =>
              go_simp
              refine hK.out _ _ (fun _ => MS.out _ (by first | exact belA _ _ | exact belB _ _ _ | exact (Below.refl _ _).alloc (Nat.le_refl _) _)) ?_
              clear hK K
              try simp only [Act.put, List.setIfInBounds_toArray, List.set_cons_zero, List.set_cons_succ]
              refine Stage.anyG_ready (rs := [7, 9]) (by kernel_rfl) (by simp) ?_
              refine Stage.AllG.cons (o := ?o2_0) ?ho2_0 (fun K hK => ?h2_0) ?r2_0
              case ho2_0 => (simp only [List.getElem?_toArray, List.getElem?_cons_succ, List.getElem?_cons_zero]; rfl)
              case h2_0 =>
                refine step_append_where (by rfl) (.tmp 62) (.tmp 64) 41 rfl w6.heap.size 3 i0 _ 1 8 Try.underlying41 hi hz0 hz1 hz2 rfl Nat.one_pos (.slice (some ⟨w6.heap.size, 0, none⟩) 1 1) 1 [.int .i64 5] rfl (rowC w6) xA lx.length xc (lx.map (Value.int .i64)) rfl (HSrc.out _ (belA w6 _)) hcx hone hg1 hg2' (belA w6 _).size ?_
                intro v1 x1 hO1 hG1 hf1
                obtain ⟨A1, cap1, rfl, -, -⟩ := own_form hO1
                have hB1 := (belA w6 _).trans (below_grown (rowC w6) hG1 (belA w6 _).size)
                have FIN := FC _ _ _ hB1.size hO1 hB1
                refine hK.out _ _ (fun _ => MS.out _ hB1) ?_
                clear hK K
                try simp only [Act.put, List.setIfInBounds_toArray, List.set_cons_zero, List.set_cons_succ]
                refine Stage.anyG_ready (rs := [8, 9]) (by kernel_rfl) (by simp) ?_
                refine Stage.AllG.cons (o := ?o3_0) ?ho3_0 (fun K hK => ?h3_0) ?r3_0
                case ho3_0 => (simp only [List.getElem?_toArray, List.getElem?_cons_succ, List.getElem?_cons_zero]; rfl)
                case h3_0 =>
                  go_simp
                  refine hK.out _ _ (fun _ => MS.out _ hB1) ?_
                  clear hK K
                  try simp only [Act.put, List.setIfInBounds_toArray, List.set_cons_zero, List.set_cons_succ]
                  refine Stage.anyG_ready (rs := [9]) (by kernel_rfl) (by simp) ?_
                  refine Stage.AllG.cons (o := ?o4_0) ?ho4_0 (fun K hK => ?h4_0) ?r4_0
                  case ho4_0 => (simp only [List.getElem?_toArray, List.getElem?_cons_succ, List.getElem?_cons_zero]; rfl)
                  case h4_0 =>
                    go_simp
                    refine hK.out _ _ (fun _ => MS.out _ (hB1.alloc hB1.size _)) ?_
                    clear hK K
                    try simp only [Act.put, List.setIfInBounds_toArray, List.set_cons_zero, List.set_cons_succ]
                    refine Stage.anyG_ready (rs := [10]) (by kernel_rfl) (by simp) ?_
                    refine Stage.AllG.cons (o := ?o5_0) ?ho5_0 (fun K hK => ?h5_0) ?r5_0
                    case ho5_0 => (simp only [List.getElem?_toArray, List.getElem?_cons_succ, List.getElem?_cons_zero]; rfl)
                    case h5_0 =>
                      go_simp
                      refine hK.out _ _ (fun hl => Bool.noConfusion ((show Stage.late _ _ = true by kernel_rfl).symm.trans hl)) ?_
                      clear hK K
                      try simp only [Act.put, List.setIfInBounds_toArray, List.set_cons_zero, List.set_cons_succ]
                      refine Stage.anyG_done (by kernel_rfl) ?_ _
                      go_wp2_with fail
                      go_meet
                      exact FIN.out
                    case r5_0 =>
                      exact Stage.AllG.nil
                  case r4_0 =>
                    exact Stage.AllG.nil
                case r3_0 =>
                  refine Stage.AllG.cons (o := ?o3_1) ?ho3_1 (fun K hK => ?h3_1) ?r3_1
                  case ho3_1 => (simp only [List.getElem?_toArray, List.getElem?_cons_succ, List.getElem?_cons_zero]; rfl)
                  case h3_1 =>
                    go_simp
                    refine hK.out _ _ (fun _ => MS.out _ (hB1.alloc hB1.size _)) ?_
                    clear hK K
                    try simp only [Act.put, List.setIfInBounds_toArray, List.set_cons_zero, List.set_cons_succ]
                    refine Stage.anyG_ready (rs := [8]) (by kernel_rfl) (by simp) ?_
                    refine Stage.AllG.cons (o := ?o6_0) ?ho6_0 (fun K hK => ?h6_0) ?r6_0
                    case ho6_0 => (simp only [List.getElem?_toArray, List.getElem?_cons_succ, List.getElem?_cons_zero]; rfl)
                    case h6_0 =>
                      go_simp
                      refine hK.out _ _ (fun _ => MS.out _ (hB1.alloc hB1.size _)) ?_
                      clear hK K
                      try simp only [Act.put, List.setIfInBounds_toArray, List.set_cons_zero, List.set_cons_succ]
                      refine Stage.anyG_ready (rs := [10]) (by kernel_rfl) (by simp) ?_
                      refine Stage.AllG.cons (o := ?o7_0) ?ho7_0 (fun K hK => ?h7_0) ?r7_0
                      case ho7_0 => (simp only [List.getElem?_toArray, List.getElem?_cons_succ, List.getElem?_cons_zero]; rfl)
                      case h7_0 =>
                        go_simp
                        refine hK.out _ _ (fun hl => Bool.noConfusion ((show Stage.late _ _ = true by kernel_rfl).symm.trans hl)) ?_
                        clear hK K
                        try simp only [Act.put, List.setIfInBounds_toArray, List.set_cons_zero, List.set_cons_succ]
                        refine Stage.anyG_done (by kernel_rfl) ?_ _
                        go_wp2_with fail
                        go_meet
                        exact FIN.out
                      case r7_0 =>
                        exact Stage.AllG.nil
                    case r6_0 =>
                      exact Stage.AllG.nil
                  case r3_1 =>
                    exact Stage.AllG.nil
              case r2_0 =>
                refine Stage.AllG.cons (o := ?o2_1) ?ho2_1 (fun K hK => ?h2_1) ?r2_1
                case ho2_1 => (simp only [List.getElem?_toArray, List.getElem?_cons_succ, List.getElem?_cons_zero]; rfl)
                case h2_1 =>
                  go_simp
                  refine hK.out _ _ (fun _ => MS.out _ (by first | exact belA _ _ | exact belB _ _ _ | exact (Below.refl _ _).alloc (Nat.le_refl _) _)) ?_
                  clear hK K
                  try simp only [Act.put, List.setIfInBounds_toArray, List.set_cons_zero, List.set_cons_succ]
                  refine Stage.anyG_ready (rs := [7]) (by kernel_rfl) (by simp) ?_
                  refine Stage.AllG.cons (o := ?o8_0) ?ho8_0 (fun K hK => ?h8_0) ?r8_0
                  case ho8_0 => (simp only [List.getElem?_toArray, List.getElem?_cons_succ, List.getElem?_cons_zero]; rfl)
                  case h8_0 =>
                    refine step_append_where (by rfl) (.tmp 62) (.tmp 64) 41 rfl w6.heap.size 3 i0 _ 1 8 Try.underlying41 hi hz0 hz1 hz2 rfl Nat.one_pos (.slice (some ⟨w6.heap.size, 0, none⟩) 1 1) 1 [.int .i64 5] rfl (rowA w6 zero43) xA lx.length xc (lx.map (Value.int .i64)) rfl (HSrc.out _ (belB w6 _ _)) hcx hone hg1 hg2' (belB w6 _ _).size ?_
                    intro v1 x1 hO1 hG1 hf1
                    obtain ⟨A1, cap1, rfl, -, -⟩ := own_form hO1
                    have hB1 := (belB w6 _ _).trans (below_grown (rowA w6 zero43) hG1 (belB w6 _ _).size)
                    have K := (keepA hG1 (b := w6.heap.size + 1) (show _ < ((w6.alloc _).alloc _).heap.size by rw [World.size_alloc, World.size_alloc]; omega) (Nat.succ_ne_self _)).trans (heapA w6 _ _)
                    have z0 := free5 K 0
                    have z1 := free5 K 1
                    have z2 := free5 K 2
                    obtain ⟨y0, y1, y2⟩ := cells3 K
                    have FIN := FA _ _ _ _ (Nat.le_succ _) K hO1 hB1
                    clear K
                    refine hK.out _ _ (fun _ => MS.out _ hB1) ?_
                    clear hK K
                    try simp only [Act.put, List.setIfInBounds_toArray, List.set_cons_zero, List.set_cons_succ]
                    refine Stage.anyG_ready (rs := [8]) (by kernel_rfl) (by simp) ?_
                    refine Stage.AllG.cons (o := ?o9_0) ?ho9_0 (fun K hK => ?h9_0) ?r9_0
                    case ho9_0 => (simp only [List.getElem?_toArray, List.getElem?_cons_succ, List.getElem?_cons_zero]; rfl)
                    case h9_0 =>
                      go_simp
                      refine hK.out _ _ (fun _ => MS.out _ hB1) ?_
                      clear hK K
                      try simp only [Act.put, List.setIfInBounds_toArray, List.set_cons_zero, List.set_cons_succ]
                      refine Stage.anyG_ready (rs := [10]) (by kernel_rfl) (by simp) ?_
                      refine Stage.AllG.cons (o := ?o10_0) ?ho10_0 (fun K hK => ?h10_0) ?r10_0
                      case ho10_0 => (simp only [List.getElem?_toArray, List.getElem?_cons_succ, List.getElem?_cons_zero]; rfl)
                      case h10_0 =>
                        go_simp
                        refine hK.out _ _ (fun hl => Bool.noConfusion ((show Stage.late _ _ = true by kernel_rfl).symm.trans hl)) ?_
                        clear hK K
                        try simp only [Act.put, List.setIfInBounds_toArray, List.set_cons_zero, List.set_cons_succ]
                        refine Stage.anyG_done (by kernel_rfl) ?_ _
                        go_wp2_with fail
                        go_meet
                        exact FIN.out
                      case r10_0 =>
                        exact Stage.AllG.nil
                    case r9_0 =>
                      exact Stage.AllG.nil
                  case r8_0 =>
                    exact Stage.AllG.nil
                case r2_1 =>
                  exact Stage.AllG.nil
            case r1_0 =>
              refine Stage.AllG.cons (o := ?o1_1) ?ho1_1 (fun K hK => ?h1_1) ?r1_1
              case ho1_1 => (simp only [List.getElem?_toArray, List.getElem?_cons_succ, List.getElem?_cons_zero]; rfl)
              case h1_1 =>
                go_simp
                refine hK.out _ _ (fun _ => MS.out _ (by first | exact belA _ _ | exact belB _ _ _ | exact (Below.refl _ _).alloc (Nat.le_refl _) _)) ?_
                clear hK K
                try simp only [Act.put, List.setIfInBounds_toArray, List.set_cons_zero, List.set_cons_succ]
                refine Stage.anyG_ready (rs := [4]) (by kernel_rfl) (by simp) ?_
                refine Stage.AllG.cons (o := ?o11_0) ?ho11_0 (fun K hK => ?h11_0) ?r11_0
                case ho11_0 => (simp only [List.getElem?_toArray, List.getElem?_cons_succ, List.getElem?_cons_zero]; rfl)
                case h11_0 =>
                  go_simp
                  refine hK.out _ _ (fun _ => MS.out _ (by first | exact belA _ _ | exact belB _ _ _ | exact (Below.refl _ _).alloc (Nat.le_refl _) _)) ?_
                  clear hK K
                  try simp only [Act.put, List.setIfInBounds_toArray, List.set_cons_zero, List.set_cons_succ]
                  refine Stage.anyG_ready (rs := [7]) (by kernel_rfl) (by simp) ?_
                  refine Stage.AllG.cons (o := ?o12_0) ?ho12_0 (fun K hK => ?h12_0) ?r12_0
                  case ho12_0 => (simp only [List.getElem?_toArray, List.getElem?_cons_succ, List.getElem?_cons_zero]; rfl)
                  case h12_0 =>
                    refine step_append_where (by rfl) (.tmp 62) (.tmp 64) 41 rfl w6.heap.size 3 i0 _ 1 8 Try.underlying41 hi hz0 hz1 hz2 rfl Nat.one_pos (.slice (some ⟨w6.heap.size + 1, 0, none⟩) 1 1) 1 [.int .i64 5] rfl (rowB w6 zero43) xA lx.length xc (lx.map (Value.int .i64)) rfl (HSrc.out _ (belB w6 _ _)) hcx hone hg1 hg2' (belB w6 _ _).size ?_
                    intro v1 x1 hO1 hG1 hf1
                    obtain ⟨A1, cap1, rfl, -, -⟩ := own_form hO1
                    have hB1 := (belB w6 _ _).trans (below_grown (rowB w6 zero43) hG1 (belB w6 _ _).size)
                    have K := (keepA hG1 (b := w6.heap.size) (show _ < ((w6.alloc _).alloc _).heap.size by rw [World.size_alloc, World.size_alloc]; omega) (Nat.succ_ne_self _).symm).trans (heapB w6 _ _)
                    have z0 := free5 K 0
                    have z1 := free5 K 1
                    have z2 := free5 K 2
                    obtain ⟨y0, y1, y2⟩ := cells3 K
                    have FIN := FA _ _ _ _ (Nat.le_refl _) K hO1 hB1
                    clear K
                    refine hK.out _ _ (fun _ => MS.out _ hB1) ?_
                    clear hK K
                    try simp only [Act.put, List.setIfInBounds_toArray, List.set_cons_zero, List.set_cons_succ]
                    refine Stage.anyG_ready (rs := [8]) (by kernel_rfl) (by simp) ?_
                    refine Stage.AllG.cons (o := ?o13_0) ?ho13_0 (fun K hK => ?h13_0) ?r13_0
                    case ho13_0 => (simp only [List.getElem?_toArray, List.getElem?_cons_succ, List.getElem?_cons_zero]; rfl)
                    case h13_0 =>
                      go_simp
                      refine hK.out _ _ (fun _ => MS.out _ hB1) ?_
                      clear hK K
                      try simp only [Act.put, List.setIfInBounds_toArray, List.set_cons_zero, List.set_cons_succ]
                      refine Stage.anyG_ready (rs := [10]) (by kernel_rfl) (by simp) ?_
                      refine Stage.AllG.cons (o := ?o14_0) ?ho14_0 (fun K hK => ?h14_0) ?r14_0
                      case ho14_0 => (simp only [List.getElem?_toArray, List.getElem?_cons_succ, List.getElem?_cons_zero]; rfl)
                      case h14_0 =>
                        go_simp
                        refine hK.out _ _ (fun hl => Bool.noConfusion ((show Stage.late _ _ = true by kernel_rfl).symm.trans hl)) ?_
                        clear hK K
                        try simp only [Act.put, List.setIfInBounds_toArray, List.set_cons_zero, List.set_cons_succ]
                        refine Stage.anyG_done (by kernel_rfl) ?_ _
                        go_wp2_with fail
                        go_meet
                        exact FIN.out
                      case r14_0 =>
                        exact Stage.AllG.nil
                    case r13_0 =>
                      exact Stage.AllG.nil
                  case r12_0 =>
                    exact Stage.AllG.nil
                case r11_0 =>
                  exact Stage.AllG.nil
              case r1_1 =>
                exact Stage.AllG.nil
          case rest =>
            obtain ⟨Bo, A1, cap1, rfl, hBo, hbo, hown, hbc⟩ := hcut
            rw [Nat.add_comm 1 lx.length] at hown hbo
            have hown : OwnR wc w6.heap.size A1 cap1 (5 :: lx) := hown
            have hSc := HS6.out.below hbc
            have hGc := HG6.out.below hbc
            have hG2c := HG2.out.below hbc
            have hargs : Args wc ⟨xk, xn, A1, lx.length + 1, cap1⟩ (5 :: lx) := hown.args (by simp only [List.length_cons]; omega)
            obtain ⟨g1, cur1, rfl, hg1B, hg1h, hg1c, hg1f⟩ := hown.first
            have hFg1 : ¬ F g1 := fun e => by have := HFF.out _ e; omega
            have hFBo : ¬ F Bo := fun e => by have := HFF.out _ e; omega
            have hF2g : ¬ F2 g1 := fun e => by have := HFF2.out _ e; omega
            obtain ⟨k0, k1, k2⟩ := cells3 hbo
            have hle : us.count true ≤ mostN n := by
              obtain ⟨_, ⟨_, _, _, _, hh⟩, _⟩ := hGc
              exact Nat.le_trans List.count_le_length hh.2.2.2.2.2.2.2.1
            have hg1l := (Array.getElem?_eq_some_iff.1 hg1h).1
            have hBol := (Array.getElem?_eq_some_iff.1 hbo).1
            have hmo : mostN n ≤ 65536 := by unfold mostN; omega
            have hg1V : V.heap.size ≤ g1 := Nat.le_trans HS6.out.hs hg1B
            have HOwn := Lib.hid hown
            clear hown
            rcases Nat.lt_or_eq_of_le hle with hc | hc
            · have hP := Lib.hid (gput2_room _ (5 :: lx) hGc hc hargs)
              have hus1 : hasB (setU us) (firstF us) = true := by rw [hasB_setU, if_pos rfl]
              have hgp := fun x => getX_hit HLen.out x
              have HG2c := Lib.hid hG2c
              clear hGc hG2c hargs
              go_wp2_with fail
              refine hP.out.mono ?_
              rintro _ w7 ⟨rfl, F1, x1, hG1, e1, e2, a1, o1, gr1, t1, bl1⟩
              have hS7 := hSc.turn gr1 t1
              have hG27 := HG2c.out.keepT t1 HD2.out HgF.out
              have hF1g : ¬ F1 g1 := fun e => (gr1 _ e).elim hFg1 (fun e => by omega)
              have hbo7 := (t1.block _ hBol hFBo).trans hbo
              have hg17 := (t1.block _ hg1l hFg1).trans hg1h
              have hcz : w7.cell? ⟨g1, 0, none⟩ = some (.int .i64 5) := (World.cell?_of_block (a := ⟨g1, 0, none⟩) (t1.block _ hg1l hFg1)).trans hg1c
              have hfz : w7.frozen? ⟨g1, 0, none⟩ = false := free5 hg17 0
              have hx1 : ∀ a, x1.A = some a → a.block ≠ g1 := fun a ha e => by have := bl1 a ha; omega
              have hgg1 : ¬ gg = g1 := ne_type hG1.1 hg17 (by decide)
              have hgg2 : ¬ gg2 = g1 := ne_type hG27.1 hg17 (by decide)
              clear k0 k1 k2
              obtain ⟨k0, k1, k2⟩ := cells3 hbo7
              have hgx := hgp x1
              have hT8 : Turn (fun b => b = g1) w7 (w7.setCell ⟨g1, 0, none⟩ (.int .i64 6)) := turn_set _ _ _ _
              have hG8 := hG1.keepT hT8 (fun b hb e => hF1g (e ▸ hb)) hgg1
              have hG28 := hG27.keepT hT8 (fun b hb e => hF2g (e ▸ hb)) hgg2
              have hS8 := hS7.set (p := ⟨g1, 0, none⟩) hg1V (.int .i64 6)
              have ha8 : Args (w7.setCell ⟨g1, 0, none⟩ (.int .i64 6)) x1 (5 :: lx) := ⟨a1.1, a1.2.1.setCell _ hx1, a1.2.2⟩
              have hxlt : ∀ a, x1.A = some a → a.block < w7.heap.size := fun a ha => by
                obtain ⟨b, o, e, hl, _⟩ := a1.2.1 0 (by simp)
                rw [ha] at e
                injection e with e
                rw [e]
                exact hl
              dsimp only at e1 e2
              have hPG := gget2_any (firstF us : Int) (5 :: lx) hG8 (by rw [hgx]; exact ha8)
              rw [hgx, hus1, e1, e2] at hPG
              have HPG := Lib.hid hPG
              have HG8 := Lib.hid hG8
              have HG28 := Lib.hid hG28
              have HS8 := Lib.hid hS8
              have HA8 := Lib.hid ha8
              have HXL := Lib.hid hxlt
              have HUS := Lib.hid hus1
              have HGX := Lib.hid hgx
              have hz8 : (w7.setCell ⟨g1, 0, none⟩ (.int .i64 6)).heap.size = w7.heap.size := by simp [World.setCell]
              have HZ8 := Lib.hid hz8
              clear hP hS7 hG1 hG27 gr1 t1 hbo7 hg17 hT8 a1 hgp hPG hG8 hG28 hS8 ha8 hxlt hus1 hgx hx1 bl1 o1 hz8 hSc HG2c hg1h hbo
              go_wp2_with fail
              refine HPG.out.mono ?_
              rintro _ w9 ⟨A2, cap2, rfl, r2, q9⟩
              obtain ⟨g2', cur2, rfl, h2B, h2h, h2c, h2f⟩ := r2.first
              rw [HZ8.out] at h2B
              have hS9 := HS8.out.below q9
              have hG9 := HG8.out.below q9
              have hG29 := HG28.out.below q9
              have ha9 := HA8.out.below q9
              have h2l := (Array.getElem?_eq_some_iff.1 h2h).1
              have y2 := fun O => (World.cell?_alloc_lt w9 O ⟨g2', 0, none⟩ h2l).trans h2c
              have hF1g2 : ¬ F1 g2' := fun e => by have := HG8.out.2.2.2 _ e; rw [HZ8.out] at this; omega
              have hF2g2 : ¬ F2 g2' := fun e => by have := HG28.out.2.2.2 _ e; rw [HZ8.out] at this; omega
              have hgg3 : ¬ gg = g2' := ne_type hG9.1 h2h (by decide)
              have hgg4 : ¬ gg2 = g2' := ne_type hG29.1 h2h (by decide)
              have hx2 : ∀ a, x1.A = some a → a.block ≠ g2' := fun a ha e => by have := HXL.out a ha; omega
              have hT11 := turn_set w9 g2' 0 (.int .i64 7)
              have hG10 := hG9.keepT hT11 (fun b hb e => hF1g2 (e ▸ hb)) hgg3
              have hG210 := hG29.keepT hT11 (fun b hb e => hF2g2 (e ▸ hb)) hgg4
              have hs7 : V.heap.size ≤ w7.heap.size := by rw [← HZ8.out]; exact HS8.out.hs
              have hS10 := hS9.set (p := ⟨g2', 0, none⟩) (Nat.le_trans hs7 h2B) (.int .i64 7)
              have ha10 : Args (w9.setCell ⟨g2', 0, none⟩ (.int .i64 7)) x1 (5 :: lx) := ⟨ha9.1, ha9.2.1.setCell _ hx2, ha9.2.2⟩
              have hal := (Below.refl (w9.setCell ⟨g2', 0, none⟩ (.int .i64 7)).heap.size (w9.setCell ⟨g2', 0, none⟩ (.int .i64 7))).alloc (Nat.le_refl _) (.cells #[.int .i64 xk, .int .i64 xn, .slice (some ⟨g2', 0, none⟩) (5 :: lx).length cap2] 43)
              have hS11 := hS10.below hal
              have hG11 := hG10.below hal
              have hG211 := hG210.below hal
              have ha11 := ha10.below hal
              have hPG := gget2_any (firstF us : Int) (5 :: lx) hG11 (by rw [HGX.out]; exact ha11)
              rw [HGX.out, HUS.out, e1, e2] at hPG
              have HPG2 := Lib.hid hPG
              have HS11 := Lib.hid hS11
              have HG211 := Lib.hid hG211
              clear hPG hS11 hG211 hG11 ha11 hT11 hS10 hG10 hG210 ha10 hS9 hG9 hG29 ha9 HPG HG8 HG28 HS8 HA8 HXL HZ8 hx2 hal q9 r2 h2h k0 k1 k2 hcz hfz
              have hlen2 : (((5 :: lx).length : Nat) : Int) = lx.length + 1 := by simp
              have hlen3 : (5 :: lx).length = lx.length + 1 := rfl
              rw [hlen3] at HPG2 HS11 HG211 ⊢
              go_wp2_with fail
              refine HPG2.out.mono ?_
              rintro _ w12 ⟨A3, cap3, rfl, r3, q12⟩
              obtain ⟨g3', cur3, rfl, h3B, h3h, h3c, h3f⟩ := r3.first
              have hS12 := HS11.out.below q12
              have hG212 := HG211.out.below q12
              have h3l := (Array.getElem?_eq_some_iff.1 h3h).1
              have y3 := fun O => (World.cell?_alloc_lt w12 O ⟨g3', 0, none⟩ h3l).trans h3c
              have hal := (Below.refl w12.heap.size w12).alloc (Nat.le_refl _) (.cells #[.int .i64 xk, .int .i64 xn, .slice (some ⟨g3', 0, none⟩) (lx.length + 1) cap3] 43)
              have hS13 := hS12.below hal
              have hG213 := hG212.below hal
              have HS13 := Lib.hid hS13
              have HG213 := Lib.hid hG213
              clear hS12 hG212 hS13 hG213 HS11 HG211 HPG2 q12 r3 h3h hal y2 h2c h2f h2l
              have HW1 := fun z => Lib.hid (word_any a z)
              have HW2 := fun z => Lib.hid (word_any b z)
              have HGz := HG213
              have HSz := HS13
              rcases word_cases a b with ⟨h1, hE⟩ | ⟨h1, h2, hN, hI⟩
              · rw [hE] at HW1
                clear hE
                rcases h1 with h1 | h1
                all_goals
                  as_aux_lemma =>
                    go_wp2_with fail
                    refine (HW1 _).out.mono ?_
                    rintro _ z1 ⟨rfl, p1⟩
                    have hB1 := HSz.out.hb.thenCall HSz.out.hs p1
                    have hs1 := Nat.le_trans HSz.out.hs p1.size
                    have hG1 := HGz.out.below p1
                    go_wp2_with fail
                    refine (HW2 _).out.mono ?_
                    rintro _ z2 ⟨rfl, p2⟩
                    have hB2 := hB1.thenCall hs1 p2
                    have hs2 := Nat.le_trans hs1 p2.size
                    have hG2 := hG1.below p2
                    obtain ⟨k0, k1, k2⟩ := CX.out _ hB2
                    have hAz := AX.out _ hB2
                    have HP := Lib.hid (gput_nil _ _ lx hAz)
                    clear hAz hB1 hs1 hG1 p1 p2
                    go_wp2_with fail
                    refine HP.out.mono ?_
                    rintro _ z3 ⟨rfl, p3⟩
                    have hB3 := hB2.thenCall hs2 p3
                    have hL := Lib.hid (glen_any (hG2.below p3))
                    clear HP hG2 k0 k1 k2
                    go_wp2_with (first
                      | (go_at_call 34; first | ((with_reducible refine hL.out.mono ?_); rintro _ z4 ⟨rfl, rfl⟩) | ((with_reducible refine (glen_nil _).mono ?_); rintro _ z5 ⟨rfl, rfl⟩))
                      | (go_at_call 37; refine (lazy_any _ _).mono ?_; rintro _ z6 ⟨rfl, rfl⟩)
                      | (go_at_call 28; refine (gmost_nil _).mono ?_; rintro _ z7 ⟨rfl, rfl⟩)
                      | (go_at_call 38; refine (gfollow_nil _ _).mono ?_; rintro _ z8 ⟨rfl, rfl⟩)
                      | (go_at_call 35; refine (gcopy_nil _).mono ?_; rintro _ z9 ⟨rfl, rfl⟩)
                      | (go_at_call 29; refine (groom_nil _).mono ?_; rintro _ z10 ⟨rfl, rfl⟩))
                    all_goals
                      go_ret
                      exact ⟨rfl, hWV.thenCall hWV.size hB3⟩
              · have h3 : a = 2 ∨ a = 9 ∨ a = 10 ∨ (¬ a = 2 ∧ ¬ a = 9 ∧ ¬ a = 10) := by omega
                rcases h3 with rfl | rfl | rfl | ⟨m1, m2, m3⟩
                · by_cases hab : 2 = b
                  · subst hab
                    clear hI h1 h2
                    obtain ⟨hN0, hN1⟩ := tl_ne hN
                    clear hN
                    generalize wordOf 2 = p at *
                    as_aux_lemma =>
                      go_wp2_with fail
                      refine (HW1 _).out.mono ?_
                      rintro _ z1 ⟨rfl, p1⟩
                      have hB1 := HSz.out.hb.thenCall HSz.out.hs p1
                      have hs1 := Nat.le_trans HSz.out.hs p1.size
                      have hG1 := HGz.out.below p1
                      go_wp2_with fail
                      refine (HW2 _).out.mono ?_
                      rintro _ z2 ⟨rfl, p2⟩
                      have hB2 := hB1.thenCall hs1 p2
                      have hs2 := Nat.le_trans hs1 p2.size
                      have hG2 := hG1.below p2
                      obtain ⟨k0, k1, k2⟩ := CX.out _ hB2
                      have hAz := AX.out _ hB2
                      have HP := Lib.hid (gput_nil _ _ lx hAz)
                      clear hAz hB1 hs1 hG1 p1 p2
                      go_wp2_with fail
                      refine HP.out.mono ?_
                      rintro _ z3 ⟨rfl, p3⟩
                      have hB3 := hB2.thenCall hs2 p3
                      have hL := Lib.hid (glen_any (hG2.below p3))
                      clear HP hG2 k0 k1 k2
                      go_wp2_with (first
                        | (go_at_call 34; first | ((with_reducible refine hL.out.mono ?_); rintro _ z4 ⟨rfl, rfl⟩) | ((with_reducible refine (glen_nil _).mono ?_); rintro _ z5 ⟨rfl, rfl⟩))
                        | (go_at_call 37; refine (lazy_any _ _).mono ?_; rintro _ z6 ⟨rfl, rfl⟩)
                        | (go_at_call 28; refine (gmost_nil _).mono ?_; rintro _ z7 ⟨rfl, rfl⟩)
                        | (go_at_call 38; refine (gfollow_nil _ _).mono ?_; rintro _ z8 ⟨rfl, rfl⟩)
                        | (go_at_call 35; refine (gcopy_nil _).mono ?_; rintro _ z9 ⟨rfl, rfl⟩)
                        | (go_at_call 29; refine (groom_nil _).mono ?_; rintro _ z10 ⟨rfl, rfl⟩))
                      all_goals
                        go_ret
                        exact ⟨rfl, hWV.thenCall hWV.size hB3⟩
                  · have hPQ := hI hab
                    have hab1 : (2 == b) = false := by simpa using hab
                    clear hI h1 h2
                    obtain ⟨hN0, hN1⟩ := tl_ne hN
                    obtain ⟨hPQ0, hPQ1⟩ := tl_ne2 hPQ
                    clear hN hPQ
                    generalize wordOf 2 = p at *
                    generalize wordOf b = q at *
                    as_aux_lemma =>
                      go_wp2_with fail
                      refine (HW1 _).out.mono ?_
                      rintro _ z1 ⟨rfl, p1⟩
                      have hB1 := HSz.out.hb.thenCall HSz.out.hs p1
                      have hs1 := Nat.le_trans HSz.out.hs p1.size
                      have hG1 := HGz.out.below p1
                      go_wp2_with fail
                      refine (HW2 _).out.mono ?_
                      rintro _ z2 ⟨rfl, p2⟩
                      have hB2 := hB1.thenCall hs1 p2
                      have hs2 := Nat.le_trans hs1 p2.size
                      have hG2 := hG1.below p2
                      obtain ⟨k0, k1, k2⟩ := CX.out _ hB2
                      have hAz := AX.out _ hB2
                      have HP := Lib.hid (gput_nil _ _ lx hAz)
                      clear hAz hB1 hs1 hG1 p1 p2
                      go_wp2_with fail
                      refine HP.out.mono ?_
                      rintro _ z3 ⟨rfl, p3⟩
                      have hB3 := hB2.thenCall hs2 p3
                      have hL := Lib.hid (glen_any (hG2.below p3))
                      clear HP hG2 k0 k1 k2
                      go_wp2_with (first
                        | (go_at_call 34; first | ((with_reducible refine hL.out.mono ?_); rintro _ z4 ⟨rfl, rfl⟩) | ((with_reducible refine (glen_nil _).mono ?_); rintro _ z5 ⟨rfl, rfl⟩))
                        | (go_at_call 37; refine (lazy_any _ _).mono ?_; rintro _ z6 ⟨rfl, rfl⟩)
                        | (go_at_call 28; refine (gmost_nil _).mono ?_; rintro _ z7 ⟨rfl, rfl⟩)
                        | (go_at_call 38; refine (gfollow_nil _ _).mono ?_; rintro _ z8 ⟨rfl, rfl⟩)
                        | (go_at_call 35; refine (gcopy_nil _).mono ?_; rintro _ z9 ⟨rfl, rfl⟩)
                        | (go_at_call 29; refine (groom_nil _).mono ?_; rintro _ z10 ⟨rfl, rfl⟩))
                      all_goals
                        go_ret
                        exact ⟨rfl, hWV.thenCall hWV.size hB3⟩
                · by_cases hab : 9 = b
                  · subst hab
                    clear hI h1 h2
                    obtain ⟨hN0, hN1⟩ := tl_ne hN
                    clear hN
                    generalize wordOf 9 = p at *
                    as_aux_lemma =>
                      go_wp2_with fail
                      refine (HW1 _).out.mono ?_
                      rintro _ z1 ⟨rfl, p1⟩
                      have hB1 := HSz.out.hb.thenCall HSz.out.hs p1
                      have hs1 := Nat.le_trans HSz.out.hs p1.size
                      have hG1 := HGz.out.below p1
                      go_wp2_with fail
                      refine (HW2 _).out.mono ?_
                      rintro _ z2 ⟨rfl, p2⟩
                      have hB2 := hB1.thenCall hs1 p2
                      have hs2 := Nat.le_trans hs1 p2.size
                      have hG2 := hG1.below p2
                      obtain ⟨k0, k1, k2⟩ := CX.out _ hB2
                      have hAz := AX.out _ hB2
                      have HP := Lib.hid (gput_nil _ _ lx hAz)
                      clear hAz hB1 hs1 hG1 p1 p2
                      go_wp2_with fail
                      refine HP.out.mono ?_
                      rintro _ z3 ⟨rfl, p3⟩
                      have hB3 := hB2.thenCall hs2 p3
                      have hL := Lib.hid (glen_any (hG2.below p3))
                      clear HP hG2 k0 k1 k2
                      go_wp2_with (first
                        | (go_at_call 34; first | ((with_reducible refine hL.out.mono ?_); rintro _ z4 ⟨rfl, rfl⟩) | ((with_reducible refine (glen_nil _).mono ?_); rintro _ z5 ⟨rfl, rfl⟩))
                        | (go_at_call 37; refine (lazy_any _ _).mono ?_; rintro _ z6 ⟨rfl, rfl⟩)
                        | (go_at_call 28; refine (gmost_nil _).mono ?_; rintro _ z7 ⟨rfl, rfl⟩)
                        | (go_at_call 38; refine (gfollow_nil _ _).mono ?_; rintro _ z8 ⟨rfl, rfl⟩)
                        | (go_at_call 35; refine (gcopy_nil _).mono ?_; rintro _ z9 ⟨rfl, rfl⟩)
                        | (go_at_call 29; refine (groom_nil _).mono ?_; rintro _ z10 ⟨rfl, rfl⟩))
                      all_goals
                        go_ret
                        exact ⟨rfl, hWV.thenCall hWV.size hB3⟩
                  · have hPQ := hI hab
                    have hab1 : (9 == b) = false := by simpa using hab
                    clear hI h1 h2
                    obtain ⟨hN0, hN1⟩ := tl_ne hN
                    obtain ⟨hPQ0, hPQ1⟩ := tl_ne2 hPQ
                    clear hN hPQ
                    generalize wordOf 9 = p at *
                    generalize wordOf b = q at *
                    as_aux_lemma =>
                      go_wp2_with fail
                      refine (HW1 _).out.mono ?_
                      rintro _ z1 ⟨rfl, p1⟩
                      have hB1 := HSz.out.hb.thenCall HSz.out.hs p1
                      have hs1 := Nat.le_trans HSz.out.hs p1.size
                      have hG1 := HGz.out.below p1
                      go_wp2_with fail
                      refine (HW2 _).out.mono ?_
                      rintro _ z2 ⟨rfl, p2⟩
                      have hB2 := hB1.thenCall hs1 p2
                      have hs2 := Nat.le_trans hs1 p2.size
                      have hG2 := hG1.below p2
                      obtain ⟨k0, k1, k2⟩ := CX.out _ hB2
                      have hAz := AX.out _ hB2
                      have HP := Lib.hid (gput_nil _ _ lx hAz)
                      clear hAz hB1 hs1 hG1 p1 p2
                      go_wp2_with fail
                      refine HP.out.mono ?_
                      rintro _ z3 ⟨rfl, p3⟩
                      have hB3 := hB2.thenCall hs2 p3
                      have hL := Lib.hid (glen_any (hG2.below p3))
                      clear HP hG2 k0 k1 k2
                      go_wp2_with (first
                        | (go_at_call 34; first | ((with_reducible refine hL.out.mono ?_); rintro _ z4 ⟨rfl, rfl⟩) | ((with_reducible refine (glen_nil _).mono ?_); rintro _ z5 ⟨rfl, rfl⟩))
                        | (go_at_call 37; refine (lazy_any _ _).mono ?_; rintro _ z6 ⟨rfl, rfl⟩)
                        | (go_at_call 28; refine (gmost_nil _).mono ?_; rintro _ z7 ⟨rfl, rfl⟩)
                        | (go_at_call 38; refine (gfollow_nil _ _).mono ?_; rintro _ z8 ⟨rfl, rfl⟩)
                        | (go_at_call 35; refine (gcopy_nil _).mono ?_; rintro _ z9 ⟨rfl, rfl⟩)
                        | (go_at_call 29; refine (groom_nil _).mono ?_; rintro _ z10 ⟨rfl, rfl⟩))
                      all_goals
                        go_ret
                        exact ⟨rfl, hWV.thenCall hWV.size hB3⟩
                · by_cases hab : 10 = b
                  · subst hab
                    clear hI h1 h2
                    obtain ⟨hN0, hN1⟩ := tl_ne hN
                    clear hN
                    generalize wordOf 10 = p at *
                    as_aux_lemma =>
                      go_wp2_with fail
                      refine (HW1 _).out.mono ?_
                      rintro _ z1 ⟨rfl, p1⟩
                      have hB1 := HSz.out.hb.thenCall HSz.out.hs p1
                      have hs1 := Nat.le_trans HSz.out.hs p1.size
                      have hG1 := HGz.out.below p1
                      go_wp2_with fail
                      refine (HW2 _).out.mono ?_
                      rintro _ z2 ⟨rfl, p2⟩
                      have hB2 := hB1.thenCall hs1 p2
                      have hs2 := Nat.le_trans hs1 p2.size
                      have hG2 := hG1.below p2
                      obtain ⟨k0, k1, k2⟩ := CX.out _ hB2
                      have hAz := AX.out _ hB2
                      have HP := Lib.hid (gput_nil _ _ lx hAz)
                      clear hAz hB1 hs1 hG1 p1 p2
                      go_wp2_with fail
                      refine HP.out.mono ?_
                      rintro _ z3 ⟨rfl, p3⟩
                      have hB3 := hB2.thenCall hs2 p3
                      have hL := Lib.hid (glen_any (hG2.below p3))
                      clear HP hG2 k0 k1 k2
                      go_wp2_with (first
                        | (go_at_call 34; first | ((with_reducible refine hL.out.mono ?_); rintro _ z4 ⟨rfl, rfl⟩) | ((with_reducible refine (glen_nil _).mono ?_); rintro _ z5 ⟨rfl, rfl⟩))
                        | (go_at_call 37; refine (lazy_any _ _).mono ?_; rintro _ z6 ⟨rfl, rfl⟩)
                        | (go_at_call 28; refine (gmost_nil _).mono ?_; rintro _ z7 ⟨rfl, rfl⟩)
                        | (go_at_call 38; refine (gfollow_nil _ _).mono ?_; rintro _ z8 ⟨rfl, rfl⟩)
                        | (go_at_call 35; refine (gcopy_nil _).mono ?_; rintro _ z9 ⟨rfl, rfl⟩)
                        | (go_at_call 29; refine (groom_nil _).mono ?_; rintro _ z10 ⟨rfl, rfl⟩))
                      all_goals
                        go_ret
                        exact ⟨rfl, hWV.thenCall hWV.size hB3⟩
                  · have hPQ := hI hab
                    have hab1 : (10 == b) = false := by simpa using hab
                    clear hI h1 h2
                    obtain ⟨hN0, hN1⟩ := tl_ne hN
                    obtain ⟨hPQ0, hPQ1⟩ := tl_ne2 hPQ
                    clear hN hPQ
                    generalize wordOf 10 = p at *
                    generalize wordOf b = q at *
                    as_aux_lemma =>
                      go_wp2_with fail
                      refine (HW1 _).out.mono ?_
                      rintro _ z1 ⟨rfl, p1⟩
                      have hB1 := HSz.out.hb.thenCall HSz.out.hs p1
                      have hs1 := Nat.le_trans HSz.out.hs p1.size
                      have hG1 := HGz.out.below p1
                      go_wp2_with fail
                      refine (HW2 _).out.mono ?_
                      rintro _ z2 ⟨rfl, p2⟩
                      have hB2 := hB1.thenCall hs1 p2
                      have hs2 := Nat.le_trans hs1 p2.size
                      have hG2 := hG1.below p2
                      obtain ⟨k0, k1, k2⟩ := CX.out _ hB2
                      have hAz := AX.out _ hB2
                      have HP := Lib.hid (gput_nil _ _ lx hAz)
                      clear hAz hB1 hs1 hG1 p1 p2
                      go_wp2_with fail
                      refine HP.out.mono ?_
                      rintro _ z3 ⟨rfl, p3⟩
                      have hB3 := hB2.thenCall hs2 p3
                      have hL := Lib.hid (glen_any (hG2.below p3))
                      clear HP hG2 k0 k1 k2
                      go_wp2_with (first
                        | (go_at_call 34; first | ((with_reducible refine hL.out.mono ?_); rintro _ z4 ⟨rfl, rfl⟩) | ((with_reducible refine (glen_nil _).mono ?_); rintro _ z5 ⟨rfl, rfl⟩))
                        | (go_at_call 37; refine (lazy_any _ _).mono ?_; rintro _ z6 ⟨rfl, rfl⟩)
                        | (go_at_call 28; refine (gmost_nil _).mono ?_; rintro _ z7 ⟨rfl, rfl⟩)
                        | (go_at_call 38; refine (gfollow_nil _ _).mono ?_; rintro _ z8 ⟨rfl, rfl⟩)
                        | (go_at_call 35; refine (gcopy_nil _).mono ?_; rintro _ z9 ⟨rfl, rfl⟩)
                        | (go_at_call 29; refine (groom_nil _).mono ?_; rintro _ z10 ⟨rfl, rfl⟩))
                      all_goals
                        go_ret
                        exact ⟨rfl, hWV.thenCall hWV.size hB3⟩
                · have u1 : decide (a < 1) = false := decide_eq_false (by omega)
                  have u2 : decide (11 < a) = false := decide_eq_false (by omega)
                  by_cases hab : a = b
                  · subst hab
                    clear hI
                    obtain ⟨hN0, hN1⟩ := tl_ne hN
                    clear hN
                    generalize wordOf a = p at *
                    as_aux_lemma =>
                      go_wp2_with fail
                      refine (HW1 _).out.mono ?_
                      rintro _ z1 ⟨rfl, p1⟩
                      have hB1 := HSz.out.hb.thenCall HSz.out.hs p1
                      have hs1 := Nat.le_trans HSz.out.hs p1.size
                      have hG1 := HGz.out.below p1
                      go_wp2_with fail
                      refine (HW2 _).out.mono ?_
                      rintro _ z2 ⟨rfl, p2⟩
                      have hB2 := hB1.thenCall hs1 p2
                      have hs2 := Nat.le_trans hs1 p2.size
                      have hG2 := hG1.below p2
                      obtain ⟨k0, k1, k2⟩ := CX.out _ hB2
                      have hAz := AX.out _ hB2
                      have HP := Lib.hid (gput_nil _ _ lx hAz)
                      clear hAz hB1 hs1 hG1 p1 p2
                      go_wp2_with fail
                      refine HP.out.mono ?_
                      rintro _ z3 ⟨rfl, p3⟩
                      have hB3 := hB2.thenCall hs2 p3
                      have hL := Lib.hid (glen_any (hG2.below p3))
                      clear HP hG2 k0 k1 k2
                      go_wp2_with (first
                        | (go_at_call 34; first | ((with_reducible refine hL.out.mono ?_); rintro _ z4 ⟨rfl, rfl⟩) | ((with_reducible refine (glen_nil _).mono ?_); rintro _ z5 ⟨rfl, rfl⟩))
                        | (go_at_call 37; refine (lazy_any _ _).mono ?_; rintro _ z6 ⟨rfl, rfl⟩)
                        | (go_at_call 28; refine (gmost_nil _).mono ?_; rintro _ z7 ⟨rfl, rfl⟩)
                        | (go_at_call 38; refine (gfollow_nil _ _).mono ?_; rintro _ z8 ⟨rfl, rfl⟩)
                        | (go_at_call 35; refine (gcopy_nil _).mono ?_; rintro _ z9 ⟨rfl, rfl⟩)
                        | (go_at_call 29; refine (groom_nil _).mono ?_; rintro _ z10 ⟨rfl, rfl⟩))
                      all_goals
                        go_ret
                        exact ⟨rfl, hWV.thenCall hWV.size hB3⟩
                  · have hPQ := hI hab
                    have hab1 : (a == b) = false := by simpa using hab
                    clear hI
                    obtain ⟨hN0, hN1⟩ := tl_ne hN
                    obtain ⟨hPQ0, hPQ1⟩ := tl_ne2 hPQ
                    clear hN hPQ
                    generalize wordOf a = p at *
                    generalize wordOf b = q at *
                    as_aux_lemma =>
                      go_wp2_with fail
                      refine (HW1 _).out.mono ?_
                      rintro _ z1 ⟨rfl, p1⟩
                      have hB1 := HSz.out.hb.thenCall HSz.out.hs p1
                      have hs1 := Nat.le_trans HSz.out.hs p1.size
                      have hG1 := HGz.out.below p1
                      go_wp2_with fail
                      refine (HW2 _).out.mono ?_
                      rintro _ z2 ⟨rfl, p2⟩
                      have hB2 := hB1.thenCall hs1 p2
                      have hs2 := Nat.le_trans hs1 p2.size
                      have hG2 := hG1.below p2
                      obtain ⟨k0, k1, k2⟩ := CX.out _ hB2
                      have hAz := AX.out _ hB2
                      have HP := Lib.hid (gput_nil _ _ lx hAz)
                      clear hAz hB1 hs1 hG1 p1 p2
                      go_wp2_with fail
                      refine HP.out.mono ?_
                      rintro _ z3 ⟨rfl, p3⟩
                      have hB3 := hB2.thenCall hs2 p3
                      have hL := Lib.hid (glen_any (hG2.below p3))
                      clear HP hG2 k0 k1 k2
                      go_wp2_with (first
                        | (go_at_call 34; first | ((with_reducible refine hL.out.mono ?_); rintro _ z4 ⟨rfl, rfl⟩) | ((with_reducible refine (glen_nil _).mono ?_); rintro _ z5 ⟨rfl, rfl⟩))
                        | (go_at_call 37; refine (lazy_any _ _).mono ?_; rintro _ z6 ⟨rfl, rfl⟩)
                        | (go_at_call 28; refine (gmost_nil _).mono ?_; rintro _ z7 ⟨rfl, rfl⟩)
                        | (go_at_call 38; refine (gfollow_nil _ _).mono ?_; rintro _ z8 ⟨rfl, rfl⟩)
                        | (go_at_call 35; refine (gcopy_nil _).mono ?_; rintro _ z9 ⟨rfl, rfl⟩)
                        | (go_at_call 29; refine (groom_nil _).mono ?_; rintro _ z10 ⟨rfl, rfl⟩))
                      all_goals
                        go_ret
                        exact ⟨rfl, hWV.thenCall hWV.size hB3⟩
            · have hP := Lib.hid (gput_full _ (5 :: lx) hGc hc hargs)
              obtain ⟨l0, hX0⟩ := HX6.out 0 (by decide)
              have hX0 : XV w6 (fun b => w6.heap.size ≤ b) (getX xs us 0) l0 := ⟨hX0.1, hX0.2.1, hX0.2.2.1, fun k hk => by obtain ⟨b, o, e1, e2, _, e4⟩ := hX0.2.2.2 k hk; exact ⟨b, o, e1, e2, by omega, e4⟩⟩
              have HGc := Lib.hid hGc
              have HG2c := Lib.hid hG2c
              clear hGc hG2c hargs
              go_wp2_with fail
              refine hP.out.mono ?_
              rintro _ w7 ⟨rfl, q7⟩
              have hS7 := hSc.below q7
              have hG7 := HGc.out.below q7
              have hG27 := HG2c.out.below q7
              have hbo7 := (q7.block _ hBol).trans hbo
              have hg17 := (q7.block _ hg1l).trans hg1h
              have hcz : w7.cell? ⟨g1, 0, none⟩ = some (.int .i64 5) := (World.cell?_of_block (a := ⟨g1, 0, none⟩) (q7.block _ hg1l)).trans hg1c
              have hfz : w7.frozen? ⟨g1, 0, none⟩ = false := free5 hg17 0
              have hgg1 : ¬ gg = g1 := ne_type hG7.1 hg17 (by decide)
              have hgg2 : ¬ gg2 = g1 := ne_type hG27.1 hg17 (by decide)
              clear k0 k1 k2
              obtain ⟨k0, k1, k2⟩ := cells3 hbo7
              have hT8 := turn_set w7 g1 0 (.int .i64 6)
              have hG8 := hG7.keepT hT8 (fun b hb e => hFg1 (e ▸ hb)) hgg1
              have hG28 := hG27.keepT hT8 (fun b hb e => hF2g (e ▸ hb)) hgg2
              have hS8 := hS7.set (p := ⟨g1, 0, none⟩) hg1V (.int .i64 6)
              have ha8 : Args (w7.setCell ⟨g1, 0, none⟩ (.int .i64 6)) (getX xs us 0) l0 := (hX0.turn (F' := fun b => w6.heap.size ≤ b) ((Turn.of_below (hbc.thenCall hbc.size q7)).setCell (a := ⟨g1, 0, none⟩) (.inl hg1B) (.int .i64 6)) (Grows.refl _ _ _)).args
              have hPG := gget2_any 0 l0 hG8 ha8
              generalize (getX xs us 0).k = kk at hPG
              generalize (getX xs us 0).n = nn at hPG
              generalize hasB us 0 = bb at hPG
              have HPG := Lib.hid hPG
              have HG28 := Lib.hid hG28
              have HS8 := Lib.hid hS8
              clear hP hS7 hG7 hG27 q7 hbo7 hg17 hT8 hPG hG8 hG28 hS8 ha8 hX0 hSc HG2c HGc hg1h hbo
              go_wp2_with fail
              refine HPG.out.mono ?_
              rintro _ w9 ⟨A2, cap2, rfl, r2, q9⟩
              have hS9 := HS8.out.below q9
              have hG29 := HG28.out.below q9
              have hal := (Below.refl w9.heap.size w9).alloc (Nat.le_refl _) (.cells #[.int .i64 kk, .int .i64 nn, .slice A2 l0.length cap2] 43)
              have HS13 := Lib.hid (hS9.below hal)
              have HG213 := Lib.hid (hG29.below hal)
              clear hS9 hG29 hal HPG HG28 HS8 q9 r2 k0 k1 k2 hcz hfz
              have HW1 := fun z => Lib.hid (word_any a z)
              have HW2 := fun z => Lib.hid (word_any b z)
              have HGz := HG213
              have HSz := HS13
              rcases word_cases a b with ⟨h1, hE⟩ | ⟨h1, h2, hN, hI⟩
              · rw [hE] at HW1
                clear hE
                rcases h1 with h1 | h1
                all_goals
                  as_aux_lemma =>
                    go_wp2_with fail
                    refine (HW1 _).out.mono ?_
                    rintro _ z1 ⟨rfl, p1⟩
                    have hB1 := HSz.out.hb.thenCall HSz.out.hs p1
                    have hs1 := Nat.le_trans HSz.out.hs p1.size
                    have hG1 := HGz.out.below p1
                    go_wp2_with fail
                    refine (HW2 _).out.mono ?_
                    rintro _ z2 ⟨rfl, p2⟩
                    have hB2 := hB1.thenCall hs1 p2
                    have hs2 := Nat.le_trans hs1 p2.size
                    have hG2 := hG1.below p2
                    obtain ⟨k0, k1, k2⟩ := CX.out _ hB2
                    have hAz := AX.out _ hB2
                    have HP := Lib.hid (gput_nil _ _ lx hAz)
                    clear hAz hB1 hs1 hG1 p1 p2
                    go_wp2_with fail
                    refine HP.out.mono ?_
                    rintro _ z3 ⟨rfl, p3⟩
                    have hB3 := hB2.thenCall hs2 p3
                    have hL := Lib.hid (glen_any (hG2.below p3))
                    clear HP hG2 k0 k1 k2
                    go_wp2_with (first
                      | (go_at_call 34; first | ((with_reducible refine hL.out.mono ?_); rintro _ z4 ⟨rfl, rfl⟩) | ((with_reducible refine (glen_nil _).mono ?_); rintro _ z5 ⟨rfl, rfl⟩))
                      | (go_at_call 37; refine (lazy_any _ _).mono ?_; rintro _ z6 ⟨rfl, rfl⟩)
                      | (go_at_call 28; refine (gmost_nil _).mono ?_; rintro _ z7 ⟨rfl, rfl⟩)
                      | (go_at_call 38; refine (gfollow_nil _ _).mono ?_; rintro _ z8 ⟨rfl, rfl⟩)
                      | (go_at_call 35; refine (gcopy_nil _).mono ?_; rintro _ z9 ⟨rfl, rfl⟩)
                      | (go_at_call 29; refine (groom_nil _).mono ?_; rintro _ z10 ⟨rfl, rfl⟩))
                    all_goals
                      go_ret
                      exact ⟨rfl, hWV.thenCall hWV.size hB3⟩
              · have h3 : a = 2 ∨ a = 9 ∨ a = 10 ∨ (¬ a = 2 ∧ ¬ a = 9 ∧ ¬ a = 10) := by omega
                rcases h3 with rfl | rfl | rfl | ⟨m1, m2, m3⟩
                · by_cases hab : 2 = b
                  · subst hab
                    clear hI h1 h2
                    obtain ⟨hN0, hN1⟩ := tl_ne hN
                    clear hN
                    generalize wordOf 2 = p at *
                    as_aux_lemma =>
                      go_wp2_with fail
                      refine (HW1 _).out.mono ?_
                      rintro _ z1 ⟨rfl, p1⟩
                      have hB1 := HSz.out.hb.thenCall HSz.out.hs p1
                      have hs1 := Nat.le_trans HSz.out.hs p1.size
                      have hG1 := HGz.out.below p1
                      go_wp2_with fail
                      refine (HW2 _).out.mono ?_
                      rintro _ z2 ⟨rfl, p2⟩
                      have hB2 := hB1.thenCall hs1 p2
                      have hs2 := Nat.le_trans hs1 p2.size
                      have hG2 := hG1.below p2
                      obtain ⟨k0, k1, k2⟩ := CX.out _ hB2
                      have hAz := AX.out _ hB2
                      have HP := Lib.hid (gput_nil _ _ lx hAz)
                      clear hAz hB1 hs1 hG1 p1 p2
                      go_wp2_with fail
                      refine HP.out.mono ?_
                      rintro _ z3 ⟨rfl, p3⟩
                      have hB3 := hB2.thenCall hs2 p3
                      have hL := Lib.hid (glen_any (hG2.below p3))
                      clear HP hG2 k0 k1 k2
                      go_wp2_with (first
                        | (go_at_call 34; first | ((with_reducible refine hL.out.mono ?_); rintro _ z4 ⟨rfl, rfl⟩) | ((with_reducible refine (glen_nil _).mono ?_); rintro _ z5 ⟨rfl, rfl⟩))
                        | (go_at_call 37; refine (lazy_any _ _).mono ?_; rintro _ z6 ⟨rfl, rfl⟩)
                        | (go_at_call 28; refine (gmost_nil _).mono ?_; rintro _ z7 ⟨rfl, rfl⟩)
                        | (go_at_call 38; refine (gfollow_nil _ _).mono ?_; rintro _ z8 ⟨rfl, rfl⟩)
                        | (go_at_call 35; refine (gcopy_nil _).mono ?_; rintro _ z9 ⟨rfl, rfl⟩)
                        | (go_at_call 29; refine (groom_nil _).mono ?_; rintro _ z10 ⟨rfl, rfl⟩))
                      all_goals
                        go_ret
                        exact ⟨rfl, hWV.thenCall hWV.size hB3⟩
                  · have hPQ := hI hab
                    have hab1 : (2 == b) = false := by simpa using hab
                    clear hI h1 h2
                    obtain ⟨hN0, hN1⟩ := tl_ne hN
                    obtain ⟨hPQ0, hPQ1⟩ := tl_ne2 hPQ
                    clear hN hPQ
                    generalize wordOf 2 = p at *
                    generalize wordOf b = q at *
                    as_aux_lemma =>
                      go_wp2_with fail
                      refine (HW1 _).out.mono ?_
                      rintro _ z1 ⟨rfl, p1⟩
                      have hB1 := HSz.out.hb.thenCall HSz.out.hs p1
                      have hs1 := Nat.le_trans HSz.out.hs p1.size
                      have hG1 := HGz.out.below p1
                      go_wp2_with fail
                      refine (HW2 _).out.mono ?_
                      rintro _ z2 ⟨rfl, p2⟩
                      have hB2 := hB1.thenCall hs1 p2
                      have hs2 := Nat.le_trans hs1 p2.size
                      have hG2 := hG1.below p2
                      obtain ⟨k0, k1, k2⟩ := CX.out _ hB2
                      have hAz := AX.out _ hB2
                      have HP := Lib.hid (gput_nil _ _ lx hAz)
                      clear hAz hB1 hs1 hG1 p1 p2
                      go_wp2_with fail
                      refine HP.out.mono ?_
                      rintro _ z3 ⟨rfl, p3⟩
                      have hB3 := hB2.thenCall hs2 p3
                      have hL := Lib.hid (glen_any (hG2.below p3))
                      clear HP hG2 k0 k1 k2
                      go_wp2_with (first
                        | (go_at_call 34; first | ((with_reducible refine hL.out.mono ?_); rintro _ z4 ⟨rfl, rfl⟩) | ((with_reducible refine (glen_nil _).mono ?_); rintro _ z5 ⟨rfl, rfl⟩))
                        | (go_at_call 37; refine (lazy_any _ _).mono ?_; rintro _ z6 ⟨rfl, rfl⟩)
                        | (go_at_call 28; refine (gmost_nil _).mono ?_; rintro _ z7 ⟨rfl, rfl⟩)
                        | (go_at_call 38; refine (gfollow_nil _ _).mono ?_; rintro _ z8 ⟨rfl, rfl⟩)
                        | (go_at_call 35; refine (gcopy_nil _).mono ?_; rintro _ z9 ⟨rfl, rfl⟩)
                        | (go_at_call 29; refine (groom_nil _).mono ?_; rintro _ z10 ⟨rfl, rfl⟩))
                      all_goals
                        go_ret
                        exact ⟨rfl, hWV.thenCall hWV.size hB3⟩
                · by_cases hab : 9 = b
                  · subst hab
                    clear hI h1 h2
                    obtain ⟨hN0, hN1⟩ := tl_ne hN
                    clear hN
                    generalize wordOf 9 = p at *
                    as_aux_lemma =>
                      go_wp2_with fail
                      refine (HW1 _).out.mono ?_
                      rintro _ z1 ⟨rfl, p1⟩
                      have hB1 := HSz.out.hb.thenCall HSz.out.hs p1
                      have hs1 := Nat.le_trans HSz.out.hs p1.size
                      have hG1 := HGz.out.below p1
                      go_wp2_with fail
                      refine (HW2 _).out.mono ?_
                      rintro _ z2 ⟨rfl, p2⟩
                      have hB2 := hB1.thenCall hs1 p2
                      have hs2 := Nat.le_trans hs1 p2.size
                      have hG2 := hG1.below p2
                      obtain ⟨k0, k1, k2⟩ := CX.out _ hB2
                      have hAz := AX.out _ hB2
                      have HP := Lib.hid (gput_nil _ _ lx hAz)
                      clear hAz hB1 hs1 hG1 p1 p2
                      go_wp2_with fail
                      refine HP.out.mono ?_
                      rintro _ z3 ⟨rfl, p3⟩
                      have hB3 := hB2.thenCall hs2 p3
                      have hL := Lib.hid (glen_any (hG2.below p3))
                      clear HP hG2 k0 k1 k2
                      go_wp2_with (first
                        | (go_at_call 34; first | ((with_reducible refine hL.out.mono ?_); rintro _ z4 ⟨rfl, rfl⟩) | ((with_reducible refine (glen_nil _).mono ?_); rintro _ z5 ⟨rfl, rfl⟩))
                        | (go_at_call 37; refine (lazy_any _ _).mono ?_; rintro _ z6 ⟨rfl, rfl⟩)
                        | (go_at_call 28; refine (gmost_nil _).mono ?_; rintro _ z7 ⟨rfl, rfl⟩)
                        | (go_at_call 38; refine (gfollow_nil _ _).mono ?_; rintro _ z8 ⟨rfl, rfl⟩)
                        | (go_at_call 35; refine (gcopy_nil _).mono ?_; rintro _ z9 ⟨rfl, rfl⟩)
                        | (go_at_call 29; refine (groom_nil _).mono ?_; rintro _ z10 ⟨rfl, rfl⟩))
                      all_goals
                        go_ret
                        exact ⟨rfl, hWV.thenCall hWV.size hB3⟩
                  · have hPQ := hI hab
                    have hab1 : (9 == b) = false := by simpa using hab
                    clear hI h1 h2
                    obtain ⟨hN0, hN1⟩ := tl_ne hN
                    obtain ⟨hPQ0, hPQ1⟩ := tl_ne2 hPQ
                    clear hN hPQ
                    generalize wordOf 9 = p at *
                    generalize wordOf b = q at *
                    as_aux_lemma =>
                      go_wp2_with fail
                      refine (HW1 _).out.mono ?_
                      rintro _ z1 ⟨rfl, p1⟩
                      have hB1 := HSz.out.hb.thenCall HSz.out.hs p1
                      have hs1 := Nat.le_trans HSz.out.hs p1.size
                      have hG1 := HGz.out.below p1
                      go_wp2_with fail
                      refine (HW2 _).out.mono ?_
                      rintro _ z2 ⟨rfl, p2⟩
                      have hB2 := hB1.thenCall hs1 p2
                      have hs2 := Nat.le_trans hs1 p2.size
                      have hG2 := hG1.below p2
                      obtain ⟨k0, k1, k2⟩ := CX.out _ hB2
                      have hAz := AX.out _ hB2
                      have HP := Lib.hid (gput_nil _ _ lx hAz)
                      clear hAz hB1 hs1 hG1 p1 p2
                      go_wp2_with fail
                      refine HP.out.mono ?_
                      rintro _ z3 ⟨rfl, p3⟩
                      have hB3 := hB2.thenCall hs2 p3
                      have hL := Lib.hid (glen_any (hG2.below p3))
                      clear HP hG2 k0 k1 k2
                      go_wp2_with (first
                        | (go_at_call 34; first | ((with_reducible refine hL.out.mono ?_); rintro _ z4 ⟨rfl, rfl⟩) | ((with_reducible refine (glen_nil _).mono ?_); rintro _ z5 ⟨rfl, rfl⟩))
                        | (go_at_call 37; refine (lazy_any _ _).mono ?_; rintro _ z6 ⟨rfl, rfl⟩)
                        | (go_at_call 28; refine (gmost_nil _).mono ?_; rintro _ z7 ⟨rfl, rfl⟩)
                        | (go_at_call 38; refine (gfollow_nil _ _).mono ?_; rintro _ z8 ⟨rfl, rfl⟩)
                        | (go_at_call 35; refine (gcopy_nil _).mono ?_; rintro _ z9 ⟨rfl, rfl⟩)
                        | (go_at_call 29; refine (groom_nil _).mono ?_; rintro _ z10 ⟨rfl, rfl⟩))
                      all_goals
                        go_ret
                        exact ⟨rfl, hWV.thenCall hWV.size hB3⟩
                · by_cases hab : 10 = b
                  · subst hab
                    clear hI h1 h2
                    obtain ⟨hN0, hN1⟩ := tl_ne hN
                    clear hN
                    generalize wordOf 10 = p at *
                    as_aux_lemma =>
                      go_wp2_with fail
                      refine (HW1 _).out.mono ?_
                      rintro _ z1 ⟨rfl, p1⟩
                      have hB1 := HSz.out.hb.thenCall HSz.out.hs p1
                      have hs1 := Nat.le_trans HSz.out.hs p1.size
                      have hG1 := HGz.out.below p1
                      go_wp2_with fail
                      refine (HW2 _).out.mono ?_
                      rintro _ z2 ⟨rfl, p2⟩
                      have hB2 := hB1.thenCall hs1 p2
                      have hs2 := Nat.le_trans hs1 p2.size
                      have hG2 := hG1.below p2
                      obtain ⟨k0, k1, k2⟩ := CX.out _ hB2
                      have hAz := AX.out _ hB2
                      have HP := Lib.hid (gput_nil _ _ lx hAz)
                      clear hAz hB1 hs1 hG1 p1 p2
                      go_wp2_with fail
                      refine HP.out.mono ?_
                      rintro _ z3 ⟨rfl, p3⟩
                      have hB3 := hB2.thenCall hs2 p3
                      have hL := Lib.hid (glen_any (hG2.below p3))
                      clear HP hG2 k0 k1 k2
                      go_wp2_with (first
                        | (go_at_call 34; first | ((with_reducible refine hL.out.mono ?_); rintro _ z4 ⟨rfl, rfl⟩) | ((with_reducible refine (glen_nil _).mono ?_); rintro _ z5 ⟨rfl, rfl⟩))
                        | (go_at_call 37; refine (lazy_any _ _).mono ?_; rintro _ z6 ⟨rfl, rfl⟩)
                        | (go_at_call 28; refine (gmost_nil _).mono ?_; rintro _ z7 ⟨rfl, rfl⟩)
                        | (go_at_call 38; refine (gfollow_nil _ _).mono ?_; rintro _ z8 ⟨rfl, rfl⟩)
                        | (go_at_call 35; refine (gcopy_nil _).mono ?_; rintro _ z9 ⟨rfl, rfl⟩)
                        | (go_at_call 29; refine (groom_nil _).mono ?_; rintro _ z10 ⟨rfl, rfl⟩))
                      all_goals
                        go_ret
                        exact ⟨rfl, hWV.thenCall hWV.size hB3⟩
                  · have hPQ := hI hab
                    have hab1 : (10 == b) = false := by simpa using hab
                    clear hI h1 h2
                    obtain ⟨hN0, hN1⟩ := tl_ne hN
                    obtain ⟨hPQ0, hPQ1⟩ := tl_ne2 hPQ
                    clear hN hPQ
                    generalize wordOf 10 = p at *
                    generalize wordOf b = q at *
                    as_aux_lemma =>
                      go_wp2_with fail
                      refine (HW1 _).out.mono ?_
                      rintro _ z1 ⟨rfl, p1⟩
                      have hB1 := HSz.out.hb.thenCall HSz.out.hs p1
                      have hs1 := Nat.le_trans HSz.out.hs p1.size
                      have hG1 := HGz.out.below p1
                      go_wp2_with fail
                      refine (HW2 _).out.mono ?_
                      rintro _ z2 ⟨rfl, p2⟩
                      have hB2 := hB1.thenCall hs1 p2
                      have hs2 := Nat.le_trans hs1 p2.size
                      have hG2 := hG1.below p2
                      obtain ⟨k0, k1, k2⟩ := CX.out _ hB2
                      have hAz := AX.out _ hB2
                      have HP := Lib.hid (gput_nil _ _ lx hAz)
                      clear hAz hB1 hs1 hG1 p1 p2
                      go_wp2_with fail
                      refine HP.out.mono ?_
                      rintro _ z3 ⟨rfl, p3⟩
                      have hB3 := hB2.thenCall hs2 p3
                      have hL := Lib.hid (glen_any (hG2.below p3))
                      clear HP hG2 k0 k1 k2
                      go_wp2_with (first
                        | (go_at_call 34; first | ((with_reducible refine hL.out.mono ?_); rintro _ z4 ⟨rfl, rfl⟩) | ((with_reducible refine (glen_nil _).mono ?_); rintro _ z5 ⟨rfl, rfl⟩))
                        | (go_at_call 37; refine (lazy_any _ _).mono ?_; rintro _ z6 ⟨rfl, rfl⟩)
                        | (go_at_call 28; refine (gmost_nil _).mono ?_; rintro _ z7 ⟨rfl, rfl⟩)
                        | (go_at_call 38; refine (gfollow_nil _ _).mono ?_; rintro _ z8 ⟨rfl, rfl⟩)
                        | (go_at_call 35; refine (gcopy_nil _).mono ?_; rintro _ z9 ⟨rfl, rfl⟩)
                        | (go_at_call 29; refine (groom_nil _).mono ?_; rintro _ z10 ⟨rfl, rfl⟩))
                      all_goals
                        go_ret
                        exact ⟨rfl, hWV.thenCall hWV.size hB3⟩
                · have u1 : decide (a < 1) = false := decide_eq_false (by omega)
                  have u2 : decide (11 < a) = false := decide_eq_false (by omega)
                  by_cases hab : a = b
                  · subst hab
                    clear hI
                    obtain ⟨hN0, hN1⟩ := tl_ne hN
                    clear hN
                    generalize wordOf a = p at *
                    as_aux_lemma =>
                      go_wp2_with fail
                      refine (HW1 _).out.mono ?_
                      rintro _ z1 ⟨rfl, p1⟩
                      have hB1 := HSz.out.hb.thenCall HSz.out.hs p1
                      have hs1 := Nat.le_trans HSz.out.hs p1.size
                      have hG1 := HGz.out.below p1
                      go_wp2_with fail
                      refine (HW2 _).out.mono ?_
                      rintro _ z2 ⟨rfl, p2⟩
                      have hB2 := hB1.thenCall hs1 p2
                      have hs2 := Nat.le_trans hs1 p2.size
                      have hG2 := hG1.below p2
                      obtain ⟨k0, k1, k2⟩ := CX.out _ hB2
                      have hAz := AX.out _ hB2
                      have HP := Lib.hid (gput_nil _ _ lx hAz)
                      clear hAz hB1 hs1 hG1 p1 p2
                      go_wp2_with fail
                      refine HP.out.mono ?_
                      rintro _ z3 ⟨rfl, p3⟩
                      have hB3 := hB2.thenCall hs2 p3
                      have hL := Lib.hid (glen_any (hG2.below p3))
                      clear HP hG2 k0 k1 k2
                      go_wp2_with (first
                        | (go_at_call 34; first | ((with_reducible refine hL.out.mono ?_); rintro _ z4 ⟨rfl, rfl⟩) | ((with_reducible refine (glen_nil _).mono ?_); rintro _ z5 ⟨rfl, rfl⟩))
                        | (go_at_call 37; refine (lazy_any _ _).mono ?_; rintro _ z6 ⟨rfl, rfl⟩)
                        | (go_at_call 28; refine (gmost_nil _).mono ?_; rintro _ z7 ⟨rfl, rfl⟩)
                        | (go_at_call 38; refine (gfollow_nil _ _).mono ?_; rintro _ z8 ⟨rfl, rfl⟩)
                        | (go_at_call 35; refine (gcopy_nil _).mono ?_; rintro _ z9 ⟨rfl, rfl⟩)
                        | (go_at_call 29; refine (groom_nil _).mono ?_; rintro _ z10 ⟨rfl, rfl⟩))
                      all_goals
                        go_ret
                        exact ⟨rfl, hWV.thenCall hWV.size hB3⟩
                  · have hPQ := hI hab
                    have hab1 : (a == b) = false := by simpa using hab
                    clear hI
                    obtain ⟨hN0, hN1⟩ := tl_ne hN
                    obtain ⟨hPQ0, hPQ1⟩ := tl_ne2 hPQ
                    clear hN hPQ
                    generalize wordOf a = p at *
                    generalize wordOf b = q at *
                    as_aux_lemma =>
                      go_wp2_with fail
                      refine (HW1 _).out.mono ?_
                      rintro _ z1 ⟨rfl, p1⟩
                      have hB1 := HSz.out.hb.thenCall HSz.out.hs p1
                      have hs1 := Nat.le_trans HSz.out.hs p1.size
                      have hG1 := HGz.out.below p1
                      go_wp2_with fail
                      refine (HW2 _).out.mono ?_
                      rintro _ z2 ⟨rfl, p2⟩
                      have hB2 := hB1.thenCall hs1 p2
                      have hs2 := Nat.le_trans hs1 p2.size
                      have hG2 := hG1.below p2
                      obtain ⟨k0, k1, k2⟩ := CX.out _ hB2
                      have hAz := AX.out _ hB2
                      have HP := Lib.hid (gput_nil _ _ lx hAz)
                      clear hAz hB1 hs1 hG1 p1 p2
                      go_wp2_with fail
                      refine HP.out.mono ?_
                      rintro _ z3 ⟨rfl, p3⟩
                      have hB3 := hB2.thenCall hs2 p3
                      have hL := Lib.hid (glen_any (hG2.below p3))
                      clear HP hG2 k0 k1 k2
                      go_wp2_with (first
                        | (go_at_call 34; first | ((with_reducible refine hL.out.mono ?_); rintro _ z4 ⟨rfl, rfl⟩) | ((with_reducible refine (glen_nil _).mono ?_); rintro _ z5 ⟨rfl, rfl⟩))
                        | (go_at_call 37; refine (lazy_any _ _).mono ?_; rintro _ z6 ⟨rfl, rfl⟩)
                        | (go_at_call 28; refine (gmost_nil _).mono ?_; rintro _ z7 ⟨rfl, rfl⟩)
                        | (go_at_call 38; refine (gfollow_nil _ _).mono ?_; rintro _ z8 ⟨rfl, rfl⟩)
                        | (go_at_call 35; refine (gcopy_nil _).mono ?_; rintro _ z9 ⟨rfl, rfl⟩)
                        | (go_at_call 29; refine (groom_nil _).mono ?_; rintro _ z10 ⟨rfl, rfl⟩))
                      all_goals
                        go_ret
                        exact ⟨rfl, hWV.thenCall hWV.size hB3⟩
end Go.Proofs.Ytccknhhjkkbadaa.nodeOwn
