/- Contracts: Arena.Copy at integers; an arena that is none. -/
import Derived.Test.YtccknhhjkkbadaaArI
import Derived.Test.YtccknhhjkkbadaaCpN
namespace Go.Proofs.Ytccknhhjkkbadaa.ArnI
open Go.ChangeShapes Go.WideShapes Go.ChangeAt Go.RowKit Go.Proofs.Ytccknhhjkkbadaa.Lift Go.Proofs.Ytccknhhjkkbadaa.Arn
set_option linter.unusedVariables false
set_option linter.unusedSimpArgs false
theorem len0 (w : World) : Calls Try.prog 19 #[.pointer none] w fun e w' => e = .returned (.int .i64 0) ∧ w = w' := len_nil w
theorem get_nil (w : World) (i : Int) : Calls Try.prog 18 #[.pointer none, .int .i64 i] w fun e w' => e = .returned (.tuple #[.int .i64 0, .bool false]) ∧ w = w' := by
  have H := Lib.hid (has_nil w i)
  go_enter Try.func18, Try.ntmps18
  go_wp2_with (go_at_call 70; refine H.out.mono ?_; rintro _ w1 ⟨rfl, rfl⟩)
  go_ret2
  exact ⟨rfl, rfl⟩
theorem set_nil (w : World) (i x : Int) : Calls Try.prog 15 #[.pointer none, .int .i64 i, .int .i64 x] w fun e w' => e = .returned (.bool false) ∧ w = w' := by
  have H := Lib.hid (has_nil w i)
  go_enter Try.func15, Try.ntmps15
  go_wp2_with (go_at_call 70; refine H.out.mono ?_; rintro _ w1 ⟨rfl, rfl⟩)
  go_ret
  exact ⟨rfl, rfl⟩
theorem free_nil (w : World) (i : Int) : Calls Try.prog 16 #[.pointer none, .int .i64 i] w fun e w' => e = .returned (.bool false) ∧ w = w' := by
  have H := Lib.hid (has_nil w i)
  go_enter Try.func16, Try.ntmps16
  go_wp2_with (go_at_call 70; refine H.out.mono ?_; rintro _ w1 ⟨rfl, rfl⟩)
  go_ret
  exact ⟨rfl, rfl⟩
theorem put_nil (w : World) (x : Int) : Calls Try.prog 17 #[.pointer none, .int .i64 x] w fun e w' => e = .returned (.tuple #[.int .i64 0, .bool false]) ∧ w = w' := by
  have H1 := Lib.hid (len_nil w)
  have H2 := Lib.hid (most_nil w)
  go_enter Try.func17, Try.ntmps17
  go_wp2_with (first | (go_at_call 19; refine H1.out.mono ?_; rintro _ w1 ⟨rfl, rfl⟩) | (go_at_call 20; refine H2.out.mono ?_; rintro _ w1 ⟨rfl, rfl⟩))
  go_ret2
  exact ⟨rfl, rfl⟩
theorem copy_nil (w : World) : Calls Try.prog 22 #[.pointer none] w fun e w' => e = .returned (.pointer none) ∧ w = w' := by
  go_enter Try.func22, Try.ntmps22
  go_wp2_with fail
  go_ret
  exact ⟨rfl, rfl⟩
theorem all_any (w : World) (p : Option Addr) : Calls Try.prog 21 #[.pointer p] w fun e w' => e = .returned (.func (.func 71) #[] #[.pointer (some ⟨w.heap.size, 0, none⟩)]) ∧ w' = w.alloc (.cells #[.pointer p] 24) := by
  go_enter Try.func21, Try.ntmps21
  go_wp2_with fail
  go_ret
  exact ⟨rfl, rfl⟩
theorem row_src {w : World} {F : Nat → Prop} {e size n : Nat} {A : Option Addr} {cap : Nat} {xs : List Value} (h : Row w F e size (.slice A n cap) n xs) : Lift.Src w size A n xs ∧ (A = none → cap = 0) := ⟨Lift.Src.of_own h.1, own_cap h.1⟩
theorem clone72_any (w : World) (A : Option Addr) (cap : Nat) (xs : List Int) (hs : Lift.Src w 1 A xs.length (xs.map enc)) (hn : A = none → cap = 0) (hm : xs.length ≤ 65536) :
    Calls Try.prog 72 #[.slice A xs.length cap] w fun r w' => ∃ v', r = .returned v' ∧ w'.ownsRow w.heap.size 3 1 v' xs.length (xs.map enc) ∧ Below w.heap.size w w' := by
  cases A with
  | none =>
    have hc := hn rfl
    subst hc
    obtain rfl : xs = [] := by
      rcases hs.2 with h0 | ⟨b, o, e, _⟩
      · exact List.eq_nil_of_length_eq_zero h0
      · cases e
    have he := fun (w : World) => Lib.run_eql_slice_nil (P := Try.prog) w 41 3 none 0 0 0 0 Try.underlying41
    go_enter Try.func72, Try.ntmps72
    go_wp2_with fail
    go_ret
    exact ⟨_, rfl, World.ownsRow_nil _ _ _ _, Below.refl _ _⟩
  | some a =>
    have he := fun (w : World) => Lib.run_eql_slice_nil (P := Try.prog) w 41 3 (some a) xs.length cap 0 0 Try.underlying41
    obtain ⟨i0, hi, hz0, hz1, hz2⟩ := info_parts infoE
    have hone : ∀ u ∈ xs.map enc, u.oneCell' = true := fun u hu => by
      obtain ⟨x, _, rfl⟩ := List.mem_map.1 hu
      rfl
    have hb1 : Below w.heap.size w (w.alloc (.cells #[] 3)) := (Below.refl _ _).alloc (Nat.le_refl _) _
    have hown := own_new w 3 1 0 #[] rfl (by omega)
    have hs1 := hs.below hb1 (Nat.le_refl _)
    have hcap : some a = none → cap = 0 := fun h => by cases h
    have hg1 : 0 + xs.length ≤ maxLen := by unfold maxLen; omega
    have hg2 : (0 + xs.length) * 8 ≤ 140737488355328 := by omega
    clear hs hn
    go_enter Try.func72, Try.ntmps72
    go_wp2_with (at_builtin; refine wpList_append_src rfl (.tmp 5) (.tmp 6) 41 rfl w.heap.size 3 i0 _ 1 8 Try.underlying41 hi hz0 hz1 hz2 rfl (by omega) _ 0 [] rfl hown (some a) xs.length cap _ rfl hs1 hcap hone hg1 hg2 hb1.size ?_; intro v2 w2 hown2 hg2)
    go_ret
    have hb2 := below_grown hown hg2 hb1.size
    rw [Nat.zero_add] at hown2
    exact ⟨_, rfl, by simpa using hown2, hb1.trans hb2⟩
theorem row_fresh {w : World} {B e size n : Nat} {v : Value} {xs : List Value} (h : w.ownsRow B e size v n xs) : Row w (fun b => B ≤ b) e size v n xs := ⟨own_less h (Nat.zero_le _), fun b hb => (h.lt b hb).1⟩
section
variable {w : World} {F : Nat → Prop} {g : Nat} {xs : List Int} {us : List Bool} {low most : Nat}
set_option maxRecDepth 100000 in
set_option maxHeartbeats 2000000 in
theorem copy_any (h : Ar w F g xs us low most) : Calls Try.prog 22 #[.pointer (some ⟨g, 0, none⟩)] w fun e w' => ∃ g', e = .returned (.pointer (some ⟨g', 0, none⟩)) ∧ Ar w' (fun b => w.heap.size ≤ b) g' xs us low most ∧ Below w.heap.size w w' := by
  obtain ⟨Al, capl, Au, capu, h1, h2, h3, h4, h5, h6, h7, h8, h9⟩ := h
  have hxm : xs.length ≤ 65536 := by omega
  have hum : us.length ≤ 65536 := by omega
  have hgl := (Array.getElem?_eq_some_iff.1 h2).1
  obtain ⟨s3, n3⟩ := row_src h3
  obtain ⟨s4, n4⟩ := row_src h4
  have MS : Hid (∀ y, Below w.heap.size w y → (fun w' : World => w'.cell? ⟨g, 0, none⟩ = some (.slice Al xs.length capl) ∧ w'.cell? ⟨g, 1, none⟩ = some (.slice Au us.length capu) ∧ w'.cell? ⟨g, 2, none⟩ = some (.int .i64 (us.count true : Nat)) ∧ w'.cell? ⟨g, 3, none⟩ = some (.int .i64 (low : Nat)) ∧ w'.cell? ⟨g, 4, none⟩ = some (.int .i64 (most : Nat))) y) := Lib.hid (fun y hy => cells5 ((hy.block _ hgl).trans h2))
  have HC1 := fun y (hy : Below w.heap.size w y) => Lib.hid (clone72_any y Al capl xs (s3.below hy (Nat.le_refl _)) n3 hxm)
  have HC2 := fun y (hy : Below w.heap.size w y) => Lib.hid (Gr.clone73_any y Au capu us (s4.below hy (Nat.le_refl _)) n4 hum)
  have HFin : Hid (∀ y1 y2 v1 v2 (hB1 : Below w.heap.size w y1) (hB2 : Below w.heap.size w y2), y1.ownsRow w.heap.size 3 1 v1 xs.length (xs.map enc) → Below y1.heap.size y1 y2 → y2.ownsRow w.heap.size 4 1 v2 us.length (us.map Value.bool) →
      ∃ g', Ending.returned (.pointer (some ⟨y2.heap.size, 0, none⟩)) = Ending.returned (.pointer (some ⟨g', 0, none⟩)) ∧ Ar (y2.alloc (.cells #[v1, v2, .int .i64 (us.count true : Nat), .int .i64 (low : Nat), .int .i64 (most : Nat)] 107)) (fun b => w.heap.size ≤ b) g' xs us low most ∧ Below w.heap.size w (y2.alloc (.cells #[v1, v2, .int .i64 (us.count true : Nat), .int .i64 (low : Nat), .int .i64 (most : Nat)] 107))) := Lib.hid (fun y1 y2 v1 v2 hB1 hB2 r1 hb r2 => by
    have r1' := own_below r1 hb (Nat.le_refl _)
    have hal := (Below.refl y2.heap.size y2).alloc (Nat.le_refl _) (.cells #[v1, v2, .int .i64 (us.count true : Nat), .int .i64 (low : Nat), .int .i64 (most : Nat)] 107)
    have hn := heap_alloc_new y2 (.cells #[v1, v2, .int .i64 (us.count true : Nat), .int .i64 (low : Nat), .int .i64 (most : Nat)] 107)
    have q1 := own_below r1' hal (Nat.le_refl _)
    have q2 := own_below r2 hal (Nat.le_refl _)
    obtain ⟨A1, c1, rfl, -, -⟩ := own_form r1
    obtain ⟨A2, c2, rfl, -, -⟩ := own_form r2
    exact ⟨_, rfl, ⟨A1, c1, A2, c2, hB2.size, hn, row_fresh q1, row_fresh q2, h5, h6, h7, h8, h9⟩, hB2.thenCall hB2.size hal⟩)
  have hB0 : Below w.heap.size w w.drew := (Below.refl _ _).drew
  clear h1 h2 h3 h4 h5 h6 h7 h8 h9 s3 s4 n3 n4 hxm hum hgl
  go_enter Try.func22, Try.ntmps22
  go_wp2_with fail
  go_region_held3 (fun w' => w'.cell? ⟨g, 0, none⟩ = some (.slice Al xs.length capl) ∧ w'.cell? ⟨g, 1, none⟩ = some (.slice Au us.length capu) ∧ w'.cell? ⟨g, 2, none⟩ = some (.int .i64 (us.count true : Nat)) ∧ w'.cell? ⟨g, 3, none⟩ = some (.int .i64 (low : Nat)) ∧ w'.cell? ⟨g, 4, none⟩ = some (.int .i64 (most : Nat)))
    (first | exact MS.out _ (hB2.alloc hB2.size _) | exact MS.out _ hB2 | exact MS.out _ hB1 | exact MS.out _ hB0)
    (first
     | (go_at_call 72; ((with_reducible refine (HC1 _ hB0).out.mono ?_); rintro _ y1 ⟨v1, rfl, r1, q1⟩; obtain ⟨A1, c1, rfl, -, -⟩ := own_form r1; have hB1 := hB0.thenCall hB0.size q1))
     | (go_at_call 73; ((with_reducible refine (HC2 _ hB1).out.mono ?_); rintro _ y2 ⟨v2, rfl, r2, q2⟩; obtain ⟨A2, c2, rfl, -, -⟩ := own_form r2; have hB2 := hB1.thenCall hB1.size q2)))
  go_wp2_with fail
  go_ret
  exact HFin.out _ _ _ _ hB1 hB2 (own_less r1 hB0.size) q2 (own_less r2 hB1.size)
end
end Go.Proofs.Ytccknhhjkkbadaa.ArnI
