/- A queue of numbers: a slice of the call's own that begins in the middle of its row; append onto it. The plain law of rings. -/
import Derived.Test.YtccknhhjkkbadaaWmK
import Derived.Deep.AppendSrc
import Derived.Deep.Upon
namespace Go.Proofs.Ytccknhhjkkbadaa.Wm
open Go.ChangeShapes Go.WideShapes Go.ChangeAt Go.RowKit Go.Proofs.Ytccknhhjkkbadaa.Lift Go.Proofs.Ytccknhhjkkbadaa.Arn Go.Proofs.Ytccknhhjkkbadaa.ArnN Go.Proofs.Ytccknhhjkkbadaa.Gr Go.Maps
set_option linter.unusedVariables false
set_option linter.unusedSimpArgs false
/-- numbers, from the middle of a row on. -/
def Mid (w : World) (B : Nat) (v : Value) (l : List Int) : Prop :=
  (v = .slice none 0 0 ∧ l = []) ∨ ∃ gb o cap cur, v = .slice (some ⟨gb, o, none⟩) l.length cap ∧ B ≤ gb ∧ w.heap[gb]? = some (.cells cur 3 (0, 0)) ∧ l.length ≤ cap ∧ cap ≤ maxLen ∧ o + cap ≤ cur.size ∧ ∀ j, j < l.length → w.cell? ⟨gb, o + j, none⟩ = some (.int .i64 (l.getD j 0))
theorem Mid.keep {w w' : World} {B : Nat} {v : Value} {l : List Int} {F : Nat → Prop} (h : Mid w B v l) (ht : Turn F w w') (hF : ∀ b cur, w.heap[b]? = some (.cells cur 3 (0, 0)) → ¬ F b) : Mid w' B v l := by
  rcases h with h | ⟨gb, o, cap, cur, h1, h2, h3, h4, h5, h6, h7⟩
  · exact .inl h
  · have hb := ht.block gb (Array.getElem?_eq_some_iff.1 h3).1 (hF gb cur h3)
    exact .inr ⟨gb, o, cap, cur, h1, h2, hb.trans h3, h4, h5, h6, fun j hj => (World.cell?_of_block (a := ⟨gb, o + j, none⟩) hb).trans (h7 j hj)⟩
theorem Mid.below {w w' : World} {B : Nat} {v : Value} {l : List Int} (h : Mid w B v l) (hb : Below w.heap.size w w') : Mid w' B v l := h.keep (Turn.of_below (F := fun _ => False) hb) (fun _ _ _ => id)
theorem setCells_block : ∀ (vs : List Value) (o : Nat) (w : World) (g : Nat) (cur : Array Value) (t : TypeId), w.heap[g]? = some (.cells cur t (0, 0)) → ∃ cur' : Array Value, (w.setCells g o vs).heap[g]? = some (.cells cur' t (0, 0)) ∧ cur'.size = cur.size
  | [], o, w, g, cur, t, h => ⟨cur, h, rfl⟩
  | v :: r, o, w, g, cur, t, h => by
    obtain ⟨c', h1, h2⟩ := setCells_block r (o + 1) (w.setCell ⟨g, o, none⟩ v) g _ t (heap_set v h)
    exact ⟨c', h1, by rw [h2]; simp⟩
theorem setCells_turn : ∀ (vs : List Value) (o : Nat) (w a : World) (g : Nat), Turn (· = g) a w → Turn (· = g) a (w.setCells g o vs)
  | [], o, w, a, g, h => h
  | v :: r, o, w, a, g, h => setCells_turn r (o + 1) _ a g (h.setCell (a := ⟨g, o, none⟩) (.inl rfl) v)
theorem turn_alloc_drew {F : Nat → Prop} (w : World) (o : Obj) : Turn F w (w.drew.alloc o) := ⟨rfl, rfl, rfl, by simp, fun b hb _ => by
  rw [Below.heap_alloc _ _ _ (by simpa using hb)]; rfl⟩
theorem getD_app1 {l m : List Int} {j : Nat} (h : j < l.length) : (l ++ m).getD j 0 = l.getD j 0 := by simp [List.getD, List.getElem?_append_left h]
theorem getD_app2 {l m : List Int} {j : Nat} (h : ¬ j < l.length) : (l ++ m).getD j 0 = m.getD (j - l.length) 0 := by simp [List.getD, List.getElem?_append_right (show l.length ≤ j by omega)]
theorem info3' : (Try.prog.info? 3).map (fun i => (i.zero, i.size, i.bytes)) = some (some (.int .i64 0), 1, 8) := by kernel_rfl
/-- numbers of a node, as a source. -/
theorem args_src {w : World} {A : Option Addr} {k n : Int} {m : List Int} {cap : Nat} (h : Args w ⟨k, n, A, m.length, cap⟩ m) : (m.length = 0 ∨ ∃ b o, A = some ⟨b, o, none⟩ ∧ ∀ j, j < m.length → w.cell? ⟨b, o + j, none⟩ = some (.int .i64 (m.getD j 0))) ∧ (A = none → cap = 0) := by
  refine ⟨?_, h.2.2.2⟩
  by_cases h0 : m.length = 0
  · exact .inl h0
  · obtain ⟨b, o, e1, e2, e3⟩ := h.2.1 0 (by omega)
    refine .inr ⟨b, o, e1, fun j hj => ?_⟩
    obtain ⟨b', o', d1, d2, d3⟩ := h.2.1 j hj
    dsimp only at e1 d1
    rw [e1] at d1
    injection d1 with d1
    injection d1 with z1 z2
    subst z1 z2
    exact d3
theorem mid_new {w w' : World} (hw : w'.heap.size = w.heap.size) (l m : List Int) (G B : Nat) (hB : B ≤ w.heap.size) (hG : l.length + m.length ≤ G) (hm : G ≤ maxLen) :
    Mid (w'.alloc (.cells ((l.map (Value.int .i64) ++ m.map (Value.int .i64)).toArray ++ Builtin.zeroCells (Value.int .i64 0).cells (G - (l.length + m.length))) 3)) B (.slice (some ⟨w.heap.size, 0, none⟩) (l.length + m.length) G) (l ++ m) := by
  have hs : ((l.map (Value.int .i64) ++ m.map (Value.int .i64)).toArray ++ Builtin.zeroCells (Value.int .i64 0).cells (G - (l.length + m.length))).size = G := by
    rw [Array.size_append, size_zeroCells]
    simp [Value.cells]
    omega
  have hh := heap_alloc_new w' (.cells ((l.map (Value.int .i64) ++ m.map (Value.int .i64)).toArray ++ Builtin.zeroCells (Value.int .i64 0).cells (G - (l.length + m.length))) 3)
  rw [hw] at hh
  refine .inr ⟨w.heap.size, 0, G, _, by rw [List.length_append], hB, hh, by rw [List.length_append]; exact hG, hm, by rw [hs]; omega, fun j hj => ?_⟩
  rw [List.length_append] at hj
  simp only [World.cell?, hh, Nat.zero_add]
  rw [Array.getElem?_append_left (by simp; omega), List.getElem?_toArray, ← List.map_append, List.getElem?_map, List.getElem?_eq_getElem (by rw [List.length_append]; exact hj), List.getD_eq_getElem?_getD, List.getElem?_eq_getElem (by rw [List.length_append]; exact hj)]
  rfl
set_option maxRecDepth 100000 in
/-- APPEND ONTO SUCH A SLICE. -/
theorem run_append_mid {w : World} {B : Nat} {v : Value} {l : List Int} (h : Mid w B v l) (hB : B ≤ w.heap.size) (ty : TypeId) (A : Option Addr) (m : List Int) (cap : Nat)
    (hs : m.length = 0 ∨ ∃ b o, A = some ⟨b, o, none⟩ ∧ ∀ j, j < m.length → w.cell? ⟨b, o + j, none⟩ = some (.int .i64 (m.getD j 0))) (hA : A = none → cap = 0) (hle : l.length + m.length ≤ 100000000000) :
    ∃ v' w', (Builtin.append_ #[41, 41] ty #[v, .slice A m.length cap]).run Try.prog w = .ok v' w' ∧ Mid w' B v' (l ++ m) ∧ Turn (fun b => some b = v.ownBlock) w w' := by
  obtain ⟨i0, hi, hz0, hz1, hz2⟩ := info_parts info3'
  have hsrc : Go.Src Try.prog i0.size 41 (.slice A m.length cap) m.length (m.map (Value.int .i64)) w := by
    rw [hz1]
    cases A with
    | none =>
      have hm : m.length = 0 := by
        rcases hs with h | ⟨b, o, e, _⟩
        · exact h
        · cases e
      have := hA rfl
      subst this
      have hm0 : m = [] := List.eq_nil_of_length_eq_zero hm
      subst hm0
      exact Go.Src.ofNil w Try.underlying41 0
    | some a =>
      refine Go.Src.ofSlice w Try.underlying41 a m.length cap _ (by simp) (fun j u hu => ?_) (fun u hu => by obtain ⟨x, _, rfl⟩ := List.mem_map.1 hu; rfl)
      rw [List.getElem?_map] at hu
      have hj : j < m.length := by
        rcases Nat.lt_or_ge j m.length with h | h
        · exact h
        · rw [List.getElem?_eq_none h] at hu; cases hu
      rcases hs with h0 | ⟨b, o, e, hc⟩
      · omega
      · injection e with e
        subst e
        rw [show (⟨b, o, none⟩ : Addr).add j = ⟨b, o + j, none⟩ by unfold Addr.add; split <;> simp_all, hc j hj]
        rw [List.getElem?_eq_getElem hj] at hu
        simp only [Option.map_some, Option.some.injEq] at hu
        rw [← hu, List.getD_eq_getElem?_getD, List.getElem?_eq_getElem hj]
        rfl
  rcases h with ⟨rfl, rfl⟩ | ⟨gb, o, cp, cur, rfl, h2, h3, h4, h5, h6, h7⟩
  · by_cases hm : m.length = 0
    · have hm0 : m = [] := List.eq_nil_of_length_eq_zero hm
      subst hm0
      have hnil : w.ownsRow B 3 1 (.slice none 0 0) 0 [] := World.ownsRow_nil _ _ _ _
      cases A with
      | none =>
        have := hA rfl
        subst this
        exact ⟨_, w, run_append_owned_none (P := Try.prog) (w := w) B 41 ty 3 i0 1 Try.underlying41 hi _ 0 [] hnil, .inl ⟨rfl, rfl⟩, Turn.refl _ _⟩
      | some a =>
        obtain ⟨v', w', hr, g1, g2, g3⟩ := run_append_own (P := Try.prog) w B 41 ty 3 i0 _ 1 8 Try.underlying41 hi hz0 hz1 hz2 rfl Nat.one_pos (.slice none 0 0) 0 [] hnil a 0 cap [] rfl (fun j u hu => by simp at hu) (fun u hu => by simp at hu) (by unfold maxLen; omega) (by omega) hB
        have hv := g3.2 ⟨rfl, rfl⟩
        subst hv
        exact ⟨_, w', hr, .inl ⟨rfl, rfl⟩, ⟨g2.os, g2.tape, g2.output, g2.size, fun b hb _ => g2.block b hb (fun e => by cases e)⟩⟩
    · have hr := run_append_grow_src (P := Try.prog) (w := w) 41 41 ty 3 i0 _ Try.underlying41 hi hz0 none 0 0 [] (by rw [hz1]; exact (Go.Src.ofNil (P := Try.prog) (size := 1) w Try.underlying41 0).cellsD) _ m.length _ hsrc (by omega) (by omega) (by rw [hz2]; exact growslice_fits (by omega) (by omega))
      have hn := mid_new (w := w) (w' := w.drew) rfl [] m (grownCap w (0 + m.length) 0 3) B hB (grownCap_ge _ _ _ _) (grownCap_le_maxLen _ _ _ _ (by unfold maxLen; omega))
      rw [List.length_nil] at hn
      exact ⟨_, _, hr, hn, turn_alloc_drew w _⟩
  · have hol : ∀ j u, (l.map (Value.int .i64))[j]? = some u → w.cell? ((⟨gb, o, none⟩ : Addr).add j) = some u := fun j u hu => by
      rw [show (⟨gb, o, none⟩ : Addr).add j = ⟨gb, o + j, none⟩ by unfold Addr.add; split <;> simp_all]
      have hj : j < l.length := by
        rcases Nat.lt_or_ge j l.length with h | h
        · exact h
        · rw [List.getElem?_map, List.getElem?_eq_none h] at hu; cases hu
      rw [h7 j hj]
      rw [List.getElem?_map, List.getElem?_eq_getElem hj] at hu
      simp only [Option.map_some, Option.some.injEq] at hu
      rw [← hu, List.getD_eq_getElem?_getD, List.getElem?_eq_getElem hj]
      rfl
    by_cases hroom : l.length + m.length ≤ cp
    · have hsome : ∀ j, j < cp → (w.cell? ⟨gb, o + j, none⟩).isSome = true := fun j hj => by
        simp only [World.cell?, h3]
        rw [Array.getElem?_eq_getElem (by omega)]
        rfl
      have hfro : ∀ j, w.frozen? ⟨gb, j, none⟩ = false := fun j => by simp [World.frozen?, h3]
      have hr := run_append_room_src (P := Try.prog) (w := w) 41 41 ty 3 i0 Try.underlying41 hi gb o l.length cp _ m.length _ hsrc hroom (fun j hj => by
        rw [hz1, Nat.mul_one, Nat.add_assoc]; rw [List.length_map] at hj; exact hsome _ (by omega)) (fun j _ => hfro _)
      rw [hz1, Nat.mul_one] at hr
      obtain ⟨cur', k1, k2⟩ := setCells_block (m.map (Value.int .i64)) (o + l.length) w gb cur 3 h3
      refine ⟨_, _, hr, .inr ⟨gb, o, cp, cur', by rw [List.length_append], h2, k1, by rw [List.length_append]; exact hroom, h5, by omega, fun j hj => ?_⟩, (setCells_turn _ _ _ _ gb (Turn.refl _ _)).mono (fun b e => by rw [e]; rfl)⟩
      by_cases hjl : j < l.length
      · rw [World.cell?_setCells_out _ _ _ _ _ (fun _ _ => .inl (by dsimp only; omega)), h7 j hjl, getD_app1 hjl]
      · rw [List.length_append] at hj
        have := World.cell?_setCells_in gb (m.map (Value.int .i64)) (o + l.length) w (fun j hj => by rw [Nat.add_assoc]; rw [List.length_map] at hj; exact hsome _ (by omega)) (j - l.length) (by rw [List.length_map]; omega)
        rw [show o + l.length + (j - l.length) = o + j by omega] at this
        rw [this, getD_app2 hjl, List.getElem_map, List.getD_eq_getElem?_getD, List.getElem?_eq_getElem (by omega)]
        rfl
    · have hr := run_append_grow_src (P := Try.prog) (w := w) 41 41 ty 3 i0 _ Try.underlying41 hi hz0 (some ⟨gb, o, none⟩) l.length cp (l.map (Value.int .i64)) (by
        rw [hz1]
        exact (Go.Src.ofSlice (P := Try.prog) (size := 1) w Try.underlying41 ⟨gb, o, none⟩ l.length cp _ (by simp) hol (fun u hu => by obtain ⟨x, _, rfl⟩ := List.mem_map.1 hu; rfl)).cellsD) _ m.length _ hsrc (by omega) (by omega) (by rw [hz2]; exact growslice_fits (by omega) (by omega))
      exact ⟨_, _, hr, mid_new (w := w) (w' := w.drew) rfl l m (grownCap w (l.length + m.length) cp 3) B hB (grownCap_ge _ _ _ _) (grownCap_le_maxLen _ _ _ _ (by unfold maxLen; omega)), turn_alloc_drew w _⟩
theorem wpList_append_mid {w : World} {ops : Array Oper} {rest : List Oper} {o : Oper} {a : Act} {Q : Exit → Act → World → Prop} (hgd : o.guard = none) (s x : Operand)
    (ho : o.op = .call { callee := .builtin .append, args := #[s, x], argTypes := #[41, 41] }) (B : Nat) (v : Value) (l : List Int) (hs : a.eval s = v) (h : Mid w B v l) (hB : B ≤ w.heap.size) (A : Option Addr) (m : List Int) (cap : Nat) (hx : a.eval x = .slice A m.length cap)
    (hm : m.length = 0 ∨ ∃ b o, A = some ⟨b, o, none⟩ ∧ ∀ j, j < m.length → w.cell? ⟨b, o + j, none⟩ = some (.int .i64 (m.getD j 0))) (hA : A = none → cap = 0) (hle : l.length + m.length ≤ 100000000000)
    (hK : ∀ v' w', Mid w' B v' (l ++ m) → Turn (fun b => some b = v.ownBlock) w w' → wpList Try.prog ops Q rest (a.put o.dst v') w') : wpList Try.prog ops Q (o :: rest) a w :=
  wpList_plain hgd fun K hK' => by
    obtain ⟨v', w', hrun, h1, h2⟩ := run_append_mid h hB o.type A m cap hm hA hle
    unfold Oper.wp
    simp [execOp, ho, resolve, invoke, builtin, hs, hx, hrun, Result.andThen]
    exact hK' _ _ (hK v' w' h1 h2)
/-- behind its first. -/
theorem Mid.tail {w : World} {B : Nat} {A : Option Addr} {cap : Nat} {x : Int} {l : List Int} (h : Mid w B (.slice A (l.length + 1) cap) (x :: l)) : ∃ gb o, A = some ⟨gb, o, none⟩ ∧ w.cell? ⟨gb, o, none⟩ = some (.int .i64 x) ∧ l.length + 1 ≤ cap ∧ cap ≤ 9223372036854775807 ∧ (cap = 1 → Mid w B (.slice (some ⟨gb, o, none⟩) 0 0) l) ∧ (¬ cap = 1 → Mid w B (.slice (some ⟨gb, o + 1, none⟩) l.length (cap - 1)) l) := by
  rcases h with ⟨e, _⟩ | ⟨gb, o, cp, cur, e, h2, h3, h4, h5, h6, h7⟩
  · injection e with _ e; cases e
  · injection e with e1 e2 e3
    subst e1 e3
    have h0 := h7 0 (by simp)
    rw [List.length_cons] at h4
    refine ⟨gb, o, rfl, h0, h4, by unfold maxLen at h5; omega, fun hc => ?_, fun hc => ?_⟩
    · have hl : l = [] := List.eq_nil_of_length_eq_zero (by omega)
      subst hl
      exact .inr ⟨gb, o, 0, cur, rfl, h2, h3, Nat.le_refl _, by unfold maxLen; omega, by omega, fun j hj => by simp at hj⟩
    · refine .inr ⟨gb, o + 1, cap - 1, cur, rfl, h2, h3, by omega, by omega, by omega, fun j hj => ?_⟩
      have := h7 (j + 1) (by simpa using hj)
      rw [show o + 1 + j = o + (j + 1) by omega, this]
      rfl
/-! ### rings, by definition and by a queue -/
open Classical in
/-- one of the first twenty places leads to itself. -/
noncomputable def ringB (g : Gph) : Bool := decide (∃ i : Nat, i < 20 ∧ Way g i i)
/-- a queue and what was reached. -/
structure Qu (g : Gph) (i : Int) (td ks : List Int) : Prop where
  t : ∀ x ∈ td, Way g i x
  s : ∀ x ∈ ks, Way g i x
  a0 : ∀ x ∈ g.a i, x ∈ ks ∨ x ∈ td
  a1 : ∀ k ∈ ks, ∀ x ∈ g.a k, x ∈ ks ∨ x ∈ td
  no : i ∉ ks
theorem Qu.start (g : Gph) (i : Int) : Qu g i (g.a i) [] := ⟨fun x h => .one h, by simp, fun x h => .inr h, by simp, by simp⟩
theorem Qu.done {g : Gph} {i : Int} {ks : List Int} (h : Qu g i [] ks) : ¬ Way g i i := by
  have : ∀ a j, Way g a j → a = i → j ∈ ks := by
    intro a j hw
    induction hw with
    | one e => rintro rfl; simpa using h.a0 _ e
    | more hw e ih =>
      intro ha
      have := h.a1 _ (ih ha) _ e
      simpa using this
  exact fun hw => h.no (this i i hw rfl)
theorem Qu.hit {g : Gph} {i : Int} {td ks : List Int} (h : Qu g i (i :: td) ks) : Way g i i := h.t i (by simp)
theorem Qu.old {g : Gph} {i k : Int} {td ks : List Int} (h : Qu g i (k :: td) ks) (hk : k ∈ ks) : Qu g i td ks := by
  refine ⟨fun x hx => h.t x (by simp [hx]), h.s, fun x hx => ?_, fun y hy x hx => ?_, h.no⟩
  · rcases h.a0 x hx with e | e
    · exact .inl e
    · rcases List.mem_cons.1 e with rfl | e
      · exact .inl hk
      · exact .inr e
  · rcases h.a1 y hy x hx with e | e
    · exact .inl e
    · rcases List.mem_cons.1 e with rfl | e
      · exact .inl hk
      · exact .inr e
theorem Qu.new {g : Gph} {i k : Int} {td ks : List Int} (h : Qu g i (k :: td) ks) (hne : ¬ k = i) : Qu g i (td ++ g.a k) (k :: ks) := by
  have hw := h.t k (by simp)
  refine ⟨fun x hx => ?_, fun x hx => ?_, fun x hx => ?_, fun y hy x hx => ?_, fun e => ?_⟩
  · rcases List.mem_append.1 hx with e | e
    · exact h.t x (by simp [e])
    · exact hw.more e
  · rcases List.mem_cons.1 hx with rfl | e
    · exact hw
    · exact h.s x e
  · rcases h.a0 x hx with e | e
    · exact .inl (by simp [e])
    · rcases List.mem_cons.1 e with rfl | e
      · exact .inl (by simp)
      · exact .inr (by simp [e])
  · rcases List.mem_cons.1 hy with rfl | e
    · exact .inr (by simp [hx])
    · rcases h.a1 y e x hx with e | e
      · exact .inl (by simp [e])
      · rcases List.mem_cons.1 e with rfl | e
        · exact .inl (by simp)
        · exact .inr (by simp [e])
  · rcases List.mem_cons.1 e with rfl | e
    · exact hne rfl
    · exact h.no e
/-- how much is left. -/
def left (g : Gph) (m ks : List Int) : Nat := (m.map (fun k => if k ∈ ks then 0 else (g.a k).length)).sum
theorem left_mono (g : Gph) (k : Int) (ks : List Int) : ∀ m : List Int, left g m (k :: ks) ≤ left g m ks
  | [] => Nat.le_refl _
  | x :: r => by
    have := left_mono g k ks r
    unfold left at this ⊢
    simp only [List.map_cons, List.sum_cons]
    by_cases h1 : x ∈ ks
    · rw [if_pos h1, if_pos (by simp [h1])]; omega
    · by_cases h2 : x ∈ k :: ks
      · rw [if_pos h2, if_neg h1]; omega
      · rw [if_neg h2, if_neg h1]; omega
theorem left_new (g : Gph) {k : Int} {ks : List Int} (hk : k ∉ ks) : ∀ m : List Int, (k ∈ m ∨ g.a k = []) → left g m (k :: ks) + (g.a k).length ≤ left g m ks
  | [], h => by
    rcases h with h | h
    · simp at h
    · rw [h]; simp [left]
  | x :: r, h => by
    by_cases e : x = k
    · subst e
      have := left_mono g x ks r
      unfold left at this ⊢
      simp only [List.map_cons, List.sum_cons]
      rw [if_pos (by simp), if_neg hk]
      omega
    · have := left_new g hk r (h.imp (fun h => by simpa [Ne.symm e] using h) id)
      unfold left at this ⊢
      simp only [List.map_cons, List.sum_cons]
      by_cases h1 : x ∈ ks
      · rw [if_pos h1, if_pos (by simp [h1])]; omega
      · rw [if_neg h1, if_neg (by simp [h1, e])]; omega
theorem left_le (g : Gph) (ks : List Int) (L : Nat) : ∀ m : List Int, (∀ k ∈ m, (g.a k).length ≤ L) → left g m ks ≤ m.length * L
  | [], _ => by simp [left]
  | x :: r, h => by
    have := left_le g ks L r (fun k hk => h k (by simp [hk]))
    have h0 := h x (by simp)
    unfold left at this ⊢
    simp only [List.map_cons, List.sum_cons, List.length_cons, Nat.add_mul]
    by_cases h1 : x ∈ ks
    · rw [if_pos h1]; omega
    · rw [if_neg h1]; omega
end Go.Proofs.Ytccknhhjkkbadaa.Wm
