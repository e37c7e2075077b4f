/- Contracts: Arena.Copy at nodes, Graph.Copy. -/
import Derived.Test.YtccknhhjkkbadaaNil
namespace Go.Proofs.Ytccknhhjkkbadaa.Gr
open Go.ChangeShapes Go.WideShapes Go.ChangeAt Go.RowKit Go.Proofs.Ytccknhhjkkbadaa.Lift Go.Proofs.Ytccknhhjkkbadaa.Arn Go.Proofs.Ytccknhhjkkbadaa.ArnN Go.Maps
set_option linter.unusedVariables false
set_option linter.unusedSimpArgs false
theorem flat_one : ∀ (l : List Nd), ∀ u ∈ flat l, u.oneCell' = true
  | [], u, h => by simp [flat] at h
  | x :: r, u, h => by
    simp only [flat, List.mem_cons] at h
    rcases h with rfl | rfl | rfl | h
    · rfl
    · rfl
    · rfl
    · exact flat_one r u h
theorem row_src {w : World} {F : Nat → Prop} {e size n : Nat} {A : Option Addr} {cap : Nat} {xs : List Value} (h : Row w F e size (.slice A n cap) n xs) : Lift.Src w size A n xs ∧ (A = none → cap = 0) := ⟨Lift.Src.of_own h.1, own_cap h.1⟩
theorem row_fresh {w : World} {B e size n : Nat} {v : Value} {xs : List Value} (h : w.ownsRow B e size v n xs) : Row w (fun b => B ≤ b) e size v n xs := ⟨own_less h (Nat.zero_le _), fun b hb => (h.lt b hb).1⟩
theorem clone108_any (w : World) (A : Option Addr) (cap : Nat) (xs : List Nd) (hs : Lift.Src w 3 A xs.length (flat xs)) (hn : A = none → cap = 0) (hm : xs.length ≤ 65536) :
    Calls Try.prog 108 #[.slice A xs.length cap] w fun r w' => ∃ v', r = .returned v' ∧ w'.ownsRow w.heap.size 43 3 v' xs.length (flat xs) ∧ Below w.heap.size w w' := by
  cases A with
  | none =>
    have hc := hn rfl
    subst hc
    obtain rfl : xs = [] := by
      rcases hs.2 with h0 | ⟨b, o, e, _⟩
      · exact List.eq_nil_of_length_eq_zero h0
      · cases e
    have he := fun (w : World) => Lib.run_eql_slice_nil (P := Try.prog) w 144 43 none 0 0 0 0 Try.underlying144
    go_enter Try.func108, Try.ntmps108
    go_wp2_with fail
    go_ret
    exact ⟨_, rfl, World.ownsRow_nil _ _ _ _, Below.refl _ _⟩
  | some a =>
    have he := fun (w : World) => Lib.run_eql_slice_nil (P := Try.prog) w 144 43 (some a) xs.length cap 0 0 Try.underlying144
    obtain ⟨i0, hi, hz0, hz1, hz2⟩ := info_parts infoE
    have hone := flat_one xs
    have hb1 : Below w.heap.size w (w.alloc (.cells #[] 43)) := (Below.refl _ _).alloc (Nat.le_refl _) _
    have hown := own_new w 43 3 0 #[] rfl (by omega)
    have hs1 := hs.below hb1 (Nat.le_refl _)
    have hcap : some a = none → cap = 0 := fun h => by cases h
    have hg1 : 0 + xs.length ≤ maxLen := by unfold maxLen; omega
    have hg2 : (0 + xs.length) * 40 ≤ 140737488355328 := by omega
    clear hs hn
    go_enter Try.func108, Try.ntmps108
    go_wp2_with (at_builtin; refine wpList_append_src rfl (.tmp 5) (.tmp 6) 144 rfl w.heap.size 43 i0 _ 3 40 Try.underlying144 hi hz0 hz1 hz2 rfl (by omega) _ 0 [] rfl hown (some a) xs.length cap _ rfl hs1 hcap hone hg1 hg2 hb1.size ?_; intro v2 w2 hown2 hg2)
    go_ret
    have hb2 := below_grown hown hg2 hb1.size
    rw [Nat.zero_add] at hown2
    exact ⟨_, rfl, by simpa using hown2, hb1.trans hb2⟩
theorem info4' : (Try.prog.info? 4).map (fun i => (i.zero, i.size, i.bytes)) = some (some (.bool false), 1, 1) := by kernel_rfl
theorem clone73_any (w : World) (A : Option Addr) (cap : Nat) (us : List Bool) (hs : Lift.Src w 1 A us.length (us.map Value.bool)) (hn : A = none → cap = 0) (hm : us.length ≤ 65536) :
    Calls Try.prog 73 #[.slice A us.length cap] w fun r w' => ∃ v', r = .returned v' ∧ w'.ownsRow w.heap.size 4 1 v' us.length (us.map Value.bool) ∧ Below w.heap.size w w' := by
  cases A with
  | none =>
    have hc := hn rfl
    subst hc
    obtain rfl : us = [] := by
      rcases hs.2 with h0 | ⟨b, o, e, _⟩
      · exact List.eq_nil_of_length_eq_zero h0
      · cases e
    have he := fun (w : World) => Lib.run_eql_slice_nil (P := Try.prog) w 105 4 none 0 0 0 0 Try.underlying105
    go_enter Try.func73, Try.ntmps73
    go_wp2_with fail
    go_ret
    exact ⟨_, rfl, World.ownsRow_nil _ _ _ _, Below.refl _ _⟩
  | some a =>
    have he := fun (w : World) => Lib.run_eql_slice_nil (P := Try.prog) w 105 4 (some a) us.length cap 0 0 Try.underlying105
    obtain ⟨i0, hi, hz0, hz1, hz2⟩ := info_parts info4'
    have hone : ∀ u ∈ us.map Value.bool, u.oneCell' = true := fun u hu => by
      obtain ⟨x, _, rfl⟩ := List.mem_map.1 hu
      rfl
    have hb1 : Below w.heap.size w (w.alloc (.cells #[] 4)) := (Below.refl _ _).alloc (Nat.le_refl _) _
    have hown := own_new w 4 1 0 #[] rfl (by omega)
    have hs1 := hs.below hb1 (Nat.le_refl _)
    have hcap : some a = none → cap = 0 := fun h => by cases h
    have hg1 : 0 + us.length ≤ maxLen := by unfold maxLen; omega
    have hg2 : (0 + us.length) * 1 ≤ 140737488355328 := by omega
    clear hs hn
    go_enter Try.func73, Try.ntmps73
    go_wp2_with (at_builtin; refine wpList_append_src rfl (.tmp 5) (.tmp 6) 105 rfl w.heap.size 4 i0 _ 1 1 Try.underlying105 hi hz0 hz1 hz2 rfl (by omega) _ 0 [] rfl hown (some a) us.length cap _ rfl hs1 hcap hone hg1 hg2 hb1.size ?_; intro v2 w2 hown2 hg2)
    go_ret
    have hb2 := below_grown hown hg2 hb1.size
    rw [Nat.zero_add] at hown2
    exact ⟨_, rfl, by simpa using hown2, hb1.trans hb2⟩
section
variable {w : World} {F : Nat → Prop} {gg g : Nat} {xs : List Nd} {us : List Bool} {low most : Nat}
set_option maxRecDepth 100000 in
set_option maxHeartbeats 2000000 in
theorem acopy_any (h : Ar w F g xs us low most) : Calls Try.prog 83 #[.pointer (some ⟨g, 0, none⟩)] w fun e w' => ∃ g', e = .returned (.pointer (some ⟨g', 0, none⟩)) ∧ Ar w' (fun b => w.heap.size ≤ b) g' xs us low most ∧ Below w.heap.size w w' := by
  obtain ⟨Al, capl, Au, capu, h1, h2, h3, h4, h5, h6, h7, h8, h9⟩ := h
  have hxm : xs.length ≤ 65536 := by omega
  have hum : us.length ≤ 65536 := by omega
  have hgl := (Array.getElem?_eq_some_iff.1 h2).1
  obtain ⟨s3, n3⟩ := row_src h3
  obtain ⟨s4, n4⟩ := row_src h4
  have MS : Hid (∀ y, Below w.heap.size w y → (fun w' : World => w'.cell? ⟨g, 0, none⟩ = some (.slice Al xs.length capl) ∧ w'.cell? ⟨g, 1, none⟩ = some (.slice Au us.length capu) ∧ w'.cell? ⟨g, 2, none⟩ = some (.int .i64 (us.count true : Nat)) ∧ w'.cell? ⟨g, 3, none⟩ = some (.int .i64 (low : Nat)) ∧ w'.cell? ⟨g, 4, none⟩ = some (.int .i64 (most : Nat))) y) := Lib.hid (fun y hy => cells5 ((hy.block _ hgl).trans h2))
  have HC1 := fun y (hy : Below w.heap.size w y) => Lib.hid (clone108_any y Al capl xs (s3.below hy (Nat.le_refl _)) n3 hxm)
  have HC2 := fun y (hy : Below w.heap.size w y) => Lib.hid (clone73_any y Au capu us (s4.below hy (Nat.le_refl _)) n4 hum)
  have HFin : Hid (∀ y1 y2 v1 v2 (hB1 : Below w.heap.size w y1) (hB2 : Below w.heap.size w y2), y1.ownsRow w.heap.size 43 3 v1 xs.length (flat xs) → Below y1.heap.size y1 y2 → y2.ownsRow w.heap.size 4 1 v2 us.length (us.map Value.bool) →
      ∃ g', Ending.returned (.pointer (some ⟨y2.heap.size, 0, none⟩)) = Ending.returned (.pointer (some ⟨g', 0, none⟩)) ∧ Ar (y2.alloc (.cells #[v1, v2, .int .i64 (us.count true : Nat), .int .i64 (low : Nat), .int .i64 (most : Nat)] 146)) (fun b => w.heap.size ≤ b) g' xs us low most ∧ Below w.heap.size w (y2.alloc (.cells #[v1, v2, .int .i64 (us.count true : Nat), .int .i64 (low : Nat), .int .i64 (most : Nat)] 146))) := Lib.hid (fun y1 y2 v1 v2 hB1 hB2 r1 hb r2 => by
    have r1' := own_below r1 hb (Nat.le_refl _)
    have hal := (Below.refl y2.heap.size y2).alloc (Nat.le_refl _) (.cells #[v1, v2, .int .i64 (us.count true : Nat), .int .i64 (low : Nat), .int .i64 (most : Nat)] 146)
    have hn := heap_alloc_new y2 (.cells #[v1, v2, .int .i64 (us.count true : Nat), .int .i64 (low : Nat), .int .i64 (most : Nat)] 146)
    have q1 := own_below r1' hal (Nat.le_refl _)
    have q2 := own_below r2 hal (Nat.le_refl _)
    obtain ⟨A1, c1, rfl, -, -⟩ := own_form r1
    obtain ⟨A2, c2, rfl, -, -⟩ := own_form r2
    exact ⟨_, rfl, ⟨A1, c1, A2, c2, hB2.size, hn, row_fresh q1, row_fresh q2, h5, h6, h7, h8, h9⟩, hB2.thenCall hB2.size hal⟩)
  have hB0 : Below w.heap.size w w.drew := (Below.refl _ _).drew
  clear h1 h2 h3 h4 h5 h6 h7 h8 h9 s3 s4 n3 n4 hxm hum hgl
  go_enter Try.func83, Try.ntmps83
  go_wp2_with fail
  go_region_held3 (fun w' => w'.cell? ⟨g, 0, none⟩ = some (.slice Al xs.length capl) ∧ w'.cell? ⟨g, 1, none⟩ = some (.slice Au us.length capu) ∧ w'.cell? ⟨g, 2, none⟩ = some (.int .i64 (us.count true : Nat)) ∧ w'.cell? ⟨g, 3, none⟩ = some (.int .i64 (low : Nat)) ∧ w'.cell? ⟨g, 4, none⟩ = some (.int .i64 (most : Nat)))
    (first | exact MS.out _ (hB2.alloc hB2.size _) | exact MS.out _ hB2 | exact MS.out _ hB1 | exact MS.out _ hB0)
    (first
     | (go_at_call 108; ((with_reducible refine (HC1 _ hB0).out.mono ?_); rintro _ y1 ⟨v1, rfl, r1, q1⟩; obtain ⟨A1, c1, rfl, -, -⟩ := own_form r1; have hB1 := hB0.thenCall hB0.size q1))
     | (go_at_call 73; ((with_reducible refine (HC2 _ hB1).out.mono ?_); rintro _ y2 ⟨v2, rfl, r2, q2⟩; obtain ⟨A2, c2, rfl, -, -⟩ := own_form r2; have hB2 := hB1.thenCall hB1.size q2)))
  go_wp2_with fail
  go_ret
  exact HFin.out _ _ _ _ hB1 hB2 (own_less r1 hB0.size) q2 (own_less r2 hB1.size)
theorem gcopy_any (h : Gr w F gg g xs us low most) : Calls Try.prog 35 #[.pointer (some ⟨gg, 0, none⟩)] w fun e w' => ∃ gg' g' F', e = .returned (.pointer (some ⟨gg', 0, none⟩)) ∧ Gr w' F' gg' g' xs us low most ∧ (∀ b, F' b → w.heap.size ≤ b) ∧ w.heap.size ≤ gg' ∧ Below w.heap.size w w' := by
  have c0 : w.cell? ⟨gg, 0, none⟩ = some (.pointer (some ⟨g, 0, none⟩)) := by simp [World.cell?, h.1]
  have HC := Lib.hid (acopy_any h.2.1)
  clear h
  go_enter Try.func35, Try.ntmps35
  go_wp2_with (go_at_call 83; refine HC.out.mono ?_; rintro _ w1 ⟨g', rfl, hA, hb⟩)
  go_ret
  have hal := (Below.refl w1.heap.size w1).alloc (Nat.le_refl _) (.cells #[.pointer (some ⟨g', 0, none⟩)] 115)
  refine ⟨w1.heap.size, g', fun b => w.heap.size ≤ b ∧ b < w1.heap.size, rfl, ⟨heap_alloc_new w1 _, hA.tight.below hal, fun e => Nat.lt_irrefl _ e.2, fun b e => Nat.lt_of_lt_of_le e.2 hal.size⟩, fun b e => e.1, hb.size, hb.thenCall hb.size hal⟩
end
end Go.Proofs.Ytccknhhjkkbadaa.Gr
