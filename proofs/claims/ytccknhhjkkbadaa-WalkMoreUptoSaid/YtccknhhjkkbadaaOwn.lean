/- Contracts: node.own, Graph.places. -/
import Derived.Test.YtccknhhjkkbadaaArN
import Derived.Test.YtccknhhjkkbadaaRefInts
import Derived.Test.YtccknhhjkkbadaaShelf
namespace Go.Proofs.Ytccknhhjkkbadaa.Gr
open Go.ChangeShapes Go.WideShapes Go.ChangeAt Go.RowKit Go.Proofs.Ytccknhhjkkbadaa.Lift Go.Proofs.Ytccknhhjkkbadaa.Arn Go.Proofs.Ytccknhhjkkbadaa.ArnN
set_option linter.unusedVariables false
set_option linter.unusedSimpArgs false
/-- a node's arguments. -/
def Args (w : World) (x : Nd) (l : List Int) : Prop := x.len = l.length ∧ IntsAt w x.A l ∧ l.length ≤ 1048576 ∧ (x.A = none → x.cap = 0)
theorem Args.below {w w' : World} {x : Nd} {l : List Int} (h : Args w x l) (hb : Below w.heap.size w w') : Args w' x l := ⟨h.1, h.2.1.below hb (Nat.le_refl _), h.2.2⟩
theorem _root_.Go.Proofs.Ytccknhhjkkbadaa.Lift.IntsAt.setCell {w : World} {A : Option Addr} {l : List Int} (h : IntsAt w A l) {p : Addr} (v : Value) (hne : ∀ a, A = some a → a.block ≠ p.block) : IntsAt (w.setCell p v) A l := by
  intro k hk
  obtain ⟨b, o, e, hl, hc⟩ := h k hk
  refine ⟨b, o, e, by simpa [World.setCell] using hl, ?_⟩
  rw [← hc]
  exact World.cell?_of_block (a := ⟨b, o + k, none⟩) (Below.heap_setCell _ _ _ _ (hne ⟨b, o, none⟩ e))
theorem clone_any (w : World) (A : Option Addr) (cap : Nat) (l : List Int) (ha : IntsAt w A l) (hm : l.length ≤ 1048576) (hn : A = none → cap = 0) :
    Calls Try.prog 72 #[.slice A l.length cap] w fun e w' => ∃ A' cap', e = .returned (.slice A' l.length cap') ∧ IntsAt w' A' l ∧ (∀ a, A' = some a → w.heap.size ≤ a.block ∧ a.block < w'.heap.size) ∧ (A' = none → cap' = 0) ∧ Below w.heap.size w w' := by
  cases A with
  | none =>
    have h0 : l = [] := by
      rcases Nat.eq_zero_or_pos l.length with h | h
      · exact List.eq_nil_of_length_eq_zero h
      · obtain ⟨b, o, e, _⟩ := ha 0 h
        cases e
    subst h0
    refine (Try.slices_Clone_int_nil _ _ w).mono ?_
    rintro e w' ⟨rfl, rfl⟩
    exact ⟨none, 0, rfl, fun k hk => by simp at hk, (fun a h => by cases h), (fun _ => rfl), Below.refl _ _⟩
  | some a =>
    rcases Nat.eq_zero_or_pos l.length with h | h
    · have h0 := List.eq_nil_of_length_eq_zero h
      subst h0
      refine (Try.slices_Clone_int_zero a cap w).mono ?_
      rintro e w' ⟨v', rfl, hown, hne, hb⟩
      obtain ⟨A', cap', rfl, _, _⟩ := own_form hown
      refine ⟨A', cap', rfl, fun k hk => by simp at hk, fun a h => ?_, own_cap hown, hb⟩
      exact own_block_lt hown (by rw [h]; rfl)
    · obtain ⟨b, o, e, hbl, _⟩ := ha 0 h
      injection e with e
      subst e
      refine (Try.slices_Clone_int b o l.length cap l w (Nat.le_refl _) (by omega) (fun j hj => by
        obtain ⟨b', o', e', _, hc⟩ := ha j hj
        have e2 := Option.some.inj e'
        have e3 : b = b' ∧ o = o' := by
          injection e2 with a1 a2
          exact ⟨a1, a2⟩
        obtain ⟨rfl, rfl⟩ := e3
        exact hc)).mono ?_
      rintro e w' ⟨v', rfl, hown, hne, hb⟩
      rw [List.take_length] at hown
      obtain ⟨A', cap', rfl, _, _⟩ := own_form hown
      refine ⟨A', cap', rfl, fun k hk => ?_, fun a h => own_block_lt hown (by rw [h]; rfl), own_cap hown, hb⟩
      rcases hown.2 with ⟨_, h0⟩ | ⟨g, cap2, cur, hv, h2, h3, h4, h5, h6, h7⟩
      · omega
      · injection hv with e1 e2 e3
        subst e1 e3
        refine ⟨g, 0, rfl, (Array.getElem?_eq_some_iff.1 h3).1, ?_⟩
        have := hown.cellAt k (by omega)
        rw [Nat.zero_add, this, List.getElem?_map, List.getElem?_eq_getElem hk]
        simp [List.getD, List.getElem?_eq_getElem hk]
theorem own_any (w : World) (x : Nd) (l : List Int) (ha : Args w x l) :
    Calls Try.prog 77 #[enc x] w fun e w' => ∃ A' cap', e = .returned (enc ⟨x.k, x.n, A', l.length, cap'⟩) ∧ Args w' ⟨x.k, x.n, A', l.length, cap'⟩ l ∧ (∀ a, A' = some a → w.heap.size ≤ a.block ∧ a.block < w'.heap.size) ∧ Below w.heap.size w w' := by
  obtain ⟨xk, xn, xA, xl, xc⟩ := x
  obtain ⟨h1, h2, h3, h4⟩ := ha
  dsimp only at h1 h2 h4 ⊢
  subst h1
  have hbb : Below w.heap.size w ((w.alloc (.cells #[.int .i64 xk, .int .i64 xn, .slice xA l.length xc] 43)).alloc (.cells #[.int .i64 0, .int .i64 0, .slice none 0 0] 43)) := ((Below.refl _ _).alloc (Nat.le_refl _) _).alloc (by simp) _
  have HC := Lib.hid (clone_any _ xA xc l (h2.below hbb (Nat.le_refl _)) h3 h4)
  have hb0 : ((w.alloc (.cells #[.int .i64 xk, .int .i64 xn, .slice xA l.length xc] 43)).alloc (.cells #[.int .i64 0, .int .i64 0, .slice none 0 0] 43)).heap[w.heap.size]? = some (.cells #[.int .i64 xk, .int .i64 xn, .slice xA l.length xc] 43) := by
    rw [Below.heap_alloc _ _ _ (by simp)]
    exact heap_alloc_new w _
  have hb1 : ((w.alloc (.cells #[.int .i64 xk, .int .i64 xn, .slice xA l.length xc] 43)).alloc (.cells #[.int .i64 0, .int .i64 0, .slice none 0 0] 43)).heap[w.heap.size + 1]? = some (.cells #[.int .i64 0, .int .i64 0, .slice none 0 0] 43) := by
    have := heap_alloc_new (w.alloc (.cells #[.int .i64 xk, .int .i64 xn, .slice xA l.length xc] 43)) (.cells #[.int .i64 0, .int .i64 0, .slice none 0 0] 43)
    rwa [World.size_alloc] at this
  unfold enc
  dsimp only
  go_enter Try.func77, Try.ntmps77
  go_wp2_with fail
  refine HC.out.mono ?_
  rintro _ w1 ⟨A', cap', rfl, hi, hbl, hcn, hb⟩
  have k0 := (hb.block _ (Array.getElem?_eq_some_iff.1 hb0).1).trans hb0
  have k1 := (hb.block _ (Array.getElem?_eq_some_iff.1 hb1).1).trans hb1
  have d0 : w1.cell? ⟨w.heap.size, 0, none⟩ = some (.int .i64 xk) := by simp [World.cell?, k0]
  have d1 : w1.cell? ⟨w.heap.size, 1, none⟩ = some (.int .i64 xn) := by simp [World.cell?, k0]
  have d2 : w1.cell? ⟨w.heap.size, 2, none⟩ = some (.slice xA l.length xc) := by simp [World.cell?, k0]
  have f0 : w1.frozen? ⟨w.heap.size, 2, none⟩ = false := by simp [World.frozen?, k0]
  have g0 : w1.cell? ⟨w.heap.size + 1, 0, none⟩ = some (.int .i64 0) := by simp [World.cell?, k1]
  have g1 : w1.cell? ⟨w.heap.size + 1, 1, none⟩ = some (.int .i64 0) := by simp [World.cell?, k1]
  have g2 : w1.cell? ⟨w.heap.size + 1, 2, none⟩ = some (.slice none 0 0) := by simp [World.cell?, k1]
  have f1 : ∀ j, w1.frozen? ⟨w.heap.size + 1, j, none⟩ = false := fun j => by simp [World.frozen?, k1]
  have f10 := f1 0
  have f11 := f1 1
  have f12 := f1 2
  clear f1
  go_wp2_with fail
  have hz : w.heap.size + 1 < w1.heap.size := (Array.getElem?_eq_some_iff.1 k1).1
  refine bodyPost_ret (v := .agg #[.int .i64 xk, .int .i64 xn, .slice A' l.length cap']) (by simp [results, Try.results77, go_sem, g0, g1, g2]) rfl ⟨A', cap', rfl, ⟨rfl, ?_, h3, hcn⟩, ?_, ?_⟩
  · have hne : ∀ a, A' = some a → a.block ≠ w.heap.size ∧ a.block ≠ w.heap.size + 1 := fun a ha => by
      have := (hbl a ha).1
      simp only [World.size_alloc] at this
      omega
    exact (((hi.setCell _ (fun a ha => (hne a ha).1)).setCell _ (fun a ha => (hne a ha).2)).setCell _ (fun a ha => (hne a ha).2)).setCell _ (fun a ha => (hne a ha).2)
  · intro a ha
    have := hbl a ha
    simp only [World.size_alloc] at this
    simp only [World.setCell, Array.size_modify]
    omega
  · exact (((((hbb.thenCall hbb.size hb)).setCell (Nat.le_refl _) _).setCell (Nat.le_succ _) _).setCell (Nat.le_succ _) _).setCell (Nat.le_succ _) _
theorem places_any (w : World) (gg g : Nat) (h : w.heap[gg]? = some (.cells #[.pointer (some ⟨g, 0, none⟩)] 115 (0, 0))) :
    Calls Try.prog 75 #[.pointer (some ⟨gg, 0, none⟩)] w fun e w' => e = .returned (.pointer (some ⟨g, 0, none⟩)) ∧ w = w' := by
  have c0 : w.cell? ⟨gg, 0, none⟩ = some (.pointer (some ⟨g, 0, none⟩)) := by simp [World.cell?, h]
  clear h
  go_enter Try.func75, Try.ntmps75
  go_wp2_with fail
  go_ret
  exact ⟨rfl, rfl⟩
theorem places_nil (w : World) : Calls Try.prog 75 #[.pointer none] w fun e w' => e = .returned (.pointer none) ∧ w = w' := by
  go_enter Try.func75, Try.ntmps75
  go_wp2_with fail
  go_ret
  exact ⟨rfl, rfl⟩
end Go.Proofs.Ytccknhhjkkbadaa.Gr
