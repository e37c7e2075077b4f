/- The walk of ArenaCopies. -/
import Derived.Test.YtccknhhjkkbadaaArC
import Derived.Test.YtccknhhjkkbadaaAw19
import Derived.Test.YtccknhhjkkbadaaRfn
import Derived.Test.YtccknhhjkkbadaaRowsIn
import Derived.Deep.QuietTactic
import Derived.BigQuiet
namespace Go.Proofs.Ytccknhhjkkbadaa.arenaCopies
open Go.ChangeShapes Go.WideShapes Go.ChangeAt Go.RowKit Go.Proofs.Ytccknhhjkkbadaa.Lift Go.Proofs.Ytccknhhjkkbadaa.Arn Go.Proofs.Ytccknhhjkkbadaa.ArnI Go.Proofs.Ytccknhhjkkbadaa.Rf
set_option linter.unusedVariables false
set_option linter.unusedSimpArgs false
/-- a deed: its kind, a place, a number. -/
structure Dc where
  kind : Int
  i : Int
  x : Int
def DcR (cs : List Value) (d : Dc) : Prop := cs = [.int .i64 d.kind, .int .i64 d.i, .int .i64 d.x]
theorem tight {w : World} {F : Nat → Prop} {g : Nat} {xs : List Int} {us : List Bool} {low most : Nat} (h : Ar w F g xs us low most) : Ar w (fun b => F b ∧ b < w.heap.size) g xs us low most := by
  obtain ⟨Al, capl, Au, capu, h1, h2, h3, h4, h5⟩ := h
  exact ⟨Al, capl, Au, capu, ⟨h1, (Array.getElem?_eq_some_iff.1 h2).1⟩, h2, ⟨h3.1, fun b hb => ⟨h3.2 b hb, (own_block_lt h3.1 hb).2⟩⟩, ⟨h4.1, fun b hb => ⟨h4.2 b hb, (own_block_lt h4.1 hb).2⟩⟩, h5⟩
theorem below_ar {w w' : World} {F : Nat → Prop} {g : Nat} {xs : List Int} {us : List Bool} {low most : Nat} (h : Ar w F g xs us low most) (hb : Below w.heap.size w w') : Ar w' F g xs us low most := by
  have ht := tight h
  exact (ht.keep (G := fun b => w.heap.size ≤ b) ((Turn.of_below hb).mono (fun b e => e)) (fun b e1 e2 => by have := e1.2; omega)).mono (fun b e => e.1)
theorem count_le {w : World} {F : Nat → Prop} {g : Nat} {xs : List Int} {us : List Bool} {low most : Nat} (h : Ar w F g xs us low most) : us.count true ≤ most := by
  obtain ⟨_, _, _, _, hh⟩ := h
  exact Nat.le_trans List.count_le_length hh.2.2.2.2.2.2.2.1
theorem ints_nil (w : World) : Calls Try.prog 23 #[.slice none 0 0, .slice none 0 0] w fun e w' => e = .returned (.bool true) ∧ w = w' := by
  go_enter Try.func23, Try.ntmps23
  go_wp2_with fail
  refine wp_loop_once ?_
  go_wp2_with fail
  go_ret
  exact ⟨rfl, rfl⟩
/-- an arena whose blocks are new. -/
def Own (B : Nat) (w0 wr : World) (g most : Nat) : Prop := ∃ (F : Nat → Prop) (xs : List Int) (us : List Bool) (low : Nat), Ar wr F g xs us low most ∧ (∀ b, F b → B ≤ b) ∧ Below B w0 wr ∧ B ≤ wr.heap.size
theorem Own.put {B g most : Nat} {w0 w w' : World} {F F' : Nat → Prop} {xs : List Int} {us : List Bool} {low : Nat} (hF : ∀ b, F b → B ≤ b) (hb : Below B w0 w) (hB : B ≤ w.heap.size) (hA : Ar w' F' g xs us low most) (hF' : ∀ b, F' b → F b ∨ w.heap.size ≤ b) (ht : Turn F w w') : Own B w0 w' g most :=
  ⟨F', xs, us, low, hA, fun b e => (hF' b e).elim (hF b) (fun e => Nat.le_trans hB e), hb.trans (ht.below hF hB), Nat.le_trans hB ht.size⟩
set_option maxRecDepth 100000 in
set_option maxHeartbeats 8000000 in
theorem walk (W : World) (n : Int) (A : Option Addr) (cap : Nat) (ds : List Dc) (i y : Int) (hR : Lift.RowsIn DcR W 3 A ds) (hm : ds.length ≤ 1048576) :
    Calls Try.prog 4 #[.int .i64 n, .slice A ds.length cap, .int .i64 i, .int .i64 y] W fun e w' => e = .returned (.bool true) ∧ Below W.heap.size W w' := by
  have HR := Lib.hid hR
  clear hR
  refine Rf.calls_of_wp_marks Try.func4 rfl ?_
  simp only [Try.ntmps4, List.size_toArray, List.length_cons, List.length_nil, Nat.reduceAdd, Nat.reduceSub, Array.replicate_succ, Array.replicate_zero, List.push_toArray, List.append_toArray, List.nil_append, List.cons_append]
  go_wp2_with fail
  refine (Aw19.awake13_any W).mono ?_
  rintro _ w1 ⟨rfl, hb1⟩
  by_cases hn1 : (60 : Int) < ds.length
  · have hn1' : 60 < ds.length := by omega
    go_wp2_with fail
    refine Rf.postM_ret (results_tmp rfl _ _ _) rfl ?_
    exact ⟨rfl, hb1⟩
  by_cases hn2 : (300 : Int) < n
  · have hn1' : ¬ 60 < ds.length := by omega
    go_wp2_with fail
    refine Rf.postM_ret (results_tmp rfl _ _ _) rfl ?_
    exact ⟨rfl, hb1⟩
  have hn1' : ¬ 60 < ds.length := by omega
  have HN := Lib.hid (new_any n w1)
  go_wp2_with fail
  refine HN.out.mono ?_
  rintro _ w2 ⟨rfl, hA2, hb2⟩
  have HO2 : Own w1.heap.size w1 w2 w1.heap.size (mostN n) := ⟨_, _, _, _, hA2, fun b h => h, hb2, hb2.size⟩
  have HO2 := Lib.hid HO2
  clear HN hA2
  go_wp2_with fail
  go_loopw [37] (fun c wr => ∃ j : Nat, c = .int .i64 j ∧ j ≤ ds.length ∧ Hid (Own w1.heap.size w1 wr w1.heap.size (mostN n))) (fun c _ => ds.length - (intOf c).toNat)
  case atStart => exact ⟨0, rfl, Nat.zero_le _, HO2⟩
  case round =>
    obtain ⟨j, rfl, hj, hOw⟩ := hrel
    by_cases hlt : j < ds.length
    · obtain ⟨F, xs, us, low, hA, hF, hb, hB⟩ := hOw.out
      obtain ⟨b, o, cs, rfl, hbl, hcs, hlen, hc⟩ := HR.out j hlt
      unfold DcR at hcs
      subst hcs
      have hbw := hb1.thenCall hb1.size hb
      have x0 := (hbw.cell (p := ⟨b, o + j * 3 + 0, none⟩) hbl).trans (hc 0 _ rfl)
      have x1 := (hbw.cell (p := ⟨b, o + j * 3 + 1, none⟩) hbl).trans (hc 1 _ rfl)
      have x2 := (hbw.cell (p := ⟨b, o + j * 3 + 2, none⟩) hbl).trans (hc 2 _ rfl)
      rw [Nat.add_zero] at x0
      clear hc
      generalize ds[j] = d at *
      obtain ⟨dk, di, dx⟩ := d
      dsimp only at *
      have hal := (Below.refl wr.heap.size wr).alloc (Nat.le_refl _) (.cells #[.int .i64 dk, .int .i64 di, .int .i64 dx] 28)
      have hA' := below_ar hA hal
      have hb' := hb.thenCall hB hal
      have hB' := Nat.le_trans hB hal.size
      by_cases hk : dk = 2
      · subst hk
        have HF := free_any di hA'
        generalize (if hasB us di then xs.set di.toNat 0 else xs) = X' at *
        generalize (if hasB us di then us.set di.toNat false else us) = U' at *
        generalize (if hasB us di then min low di.toNat else low) = L' at *
        generalize hasB us di = bb at *
        have HF := Lib.hid HF
        clear hA hA' hOw
        go_wp2_with fail
        refine HF.out.mono ?_
        rintro _ w3 ⟨rfl, hA3, t3⟩
        have HO3 := Lib.hid (Own.put hF hb' hB' hA3 (fun b e => .inl e) t3)
        clear hA3 t3 HF
        go_wp2_with fail
        exact ⟨⟨j + 1, by go_num, by omega, HO3⟩, by simp [intOf]; omega⟩
      · have hk2 : (dk == 2) = false := by simpa using hk
        rcases Nat.lt_or_eq_of_le (count_le hA') with hc | hc
        · have HP := Lib.hid (put_room dx hA' hc)
          clear hA hA' hOw hk
          go_wp2_with fail
          refine HP.out.mono ?_
          rintro _ w3 ⟨rfl, hA3, t3⟩
          have HO3 := Lib.hid (Own.put hF hb' hB' hA3 (fun b e => e) t3)
          clear hA3 t3 HP
          go_wp2_with fail
          exact ⟨⟨j + 1, by go_num, by omega, HO3⟩, by simp [intOf]; omega⟩
        · have HP := Lib.hid (put_full dx hA' hc)
          have HO3 : Hid (Own w1.heap.size w1 (wr.alloc (.cells #[.int .i64 dk, .int .i64 di, .int .i64 dx] 28)) w1.heap.size (mostN n)) := Lib.hid ⟨_, _, _, _, hA', hF, hb', hB'⟩
          clear hA hA' hOw hk
          go_wp2_with fail
          refine HP.out.mono ?_
          rintro _ w3 ⟨rfl, rfl⟩
          go_wp2_with fail
          exact ⟨⟨j + 1, by go_num, by omega, HO3⟩, by simp [intOf]; omega⟩
    · obtain ⟨F, xs, us, low, hA0, hF0, hb, hB⟩ := hOw.out
      have hA := tight hA0
      have hF : ∀ b, F b ∧ b < wr.heap.size → w1.heap.size ≤ b := fun b e => hF0 b e.1
      generalize hG : (fun b => F b ∧ b < wr.heap.size) = G at hA
      have hGl : ∀ b, G b → b < wr.heap.size ∧ w1.heap.size ≤ b := fun b e => by rw [← hG] at e; exact ⟨e.2, hF b e⟩
      have HCp := Lib.hid (copy_any hA)
      clear hOw hA0 hF0 hF hG
      go_wp2_with fail
      refine HCp.out.mono ?_
      rintro _ w3 ⟨g2, rfl, hC0, q3⟩
      have hC0' := tight hC0
      generalize hCd : (fun b => wr.heap.size ≤ b ∧ b < w3.heap.size) = C at hC0'
      have hCl : ∀ b, C b → b < w3.heap.size ∧ wr.heap.size ≤ b := fun b e => by rw [← hCd] at e; exact ⟨e.2, e.1⟩
      have hC := hC0'
      have hA3 := below_ar hA q3
      have hb3 := hb.thenCall hB q3
      have hB3 := Nat.le_trans hB q3.size
      have hCG : ∀ b, C b → ¬ G b := fun b e1 e2 => by have := (hCl b e1).2; have := (hGl b e2).1; omega
      have hGB : ∀ b, G b → w1.heap.size ≤ b := fun b e => (hGl b e).2
      have HLc := Lib.hid (len_any hC)
      have hGc0 := get_any i hC
      unfold enc at hGc0
      have HGc := Lib.hid hGc0
      clear hGc0 HCp hC0 hC0' hCd hA q3
      go_wp2_with fail
      refine HLc.out.mono ?_
      rintro _ w4 ⟨rfl, rfl⟩
      go_wp2_with fail
      refine HGc.out.mono ?_
      rintro _ w4 ⟨rfl, rfl⟩
      have HS := set_any i y hA3
      generalize (if hasB us i then xs.set i.toNat y else xs) = X4 at HS
      have HSe : Calls Try.prog 15 #[.pointer (some ⟨w1.heap.size, 0, none⟩), .int .i64 i, .int .i64 y] w3 _ := HS
      have HS := Lib.hid HSe
      clear HLc HGc hA3 HSe
      go_wp2_with fail
      refine HS.out.mono ?_
      rintro _ w4 ⟨rfl, hA4, t4⟩
      have hC4 := hC.keep t4 hCG
      have hb4 := hb3.trans (t4.below hGB hB3)
      have hB4 := Nat.le_trans hB3 t4.size
      have h34 := t4.size
      clear HS hC t4
      rcases Nat.lt_or_eq_of_le (count_le hA4) with hc | hc
      · have HP := Lib.hid (put_room y hA4 hc)
        clear hA4
        go_wp2_with fail
        refine HP.out.mono ?_
        rintro _ w5 ⟨rfl, hA5, t5⟩
        have hC5 := hC4.keep t5 hCG
        have hb5 := hb4.trans (t5.below hGB hB4)
        have hB5 := Nat.le_trans hB4 t5.size
        have hG5B : ∀ b, (G b ∨ w4.heap.size ≤ b) → w1.heap.size ≤ b := fun b e => e.elim (hGB b) (fun e => Nat.le_trans hB4 e)
        have hCG5 : ∀ b, C b → ¬ (G b ∨ w4.heap.size ≤ b) := fun b e1 e2 => by
          have := (hCl b e1).1
          rcases e2 with e2 | e2
          · exact hCG b e1 e2
          · omega
        generalize setX X4 us y = X5 at hA5
        generalize setU us = U5 at hA5
        generalize hL5 : firstF us = L5 at hA5
        clear HP t5 hC4 hL5
        have HG1 := Lib.hid (get_any i hC5)
        have HF := free_any i hA5
        generalize (if hasB U5 i then X5.set i.toNat 0 else X5) = X6 at HF
        generalize (if hasB U5 i then U5.set i.toNat false else U5) = U6 at HF
        generalize (if hasB U5 i then min L5 i.toNat else L5) = L6 at HF
        generalize hasB U5 i = b5 at HF
        have HF := Lib.hid HF
        clear hA5 HG1
        go_wp2_with fail
        refine HF.out.mono ?_
        rintro _ w6 ⟨rfl, hA6, t6⟩
        have hC6 := hC5.keep t6 hCG5
        have hb6 := hb5.trans (t6.below hG5B hB5)
        have hB6 := Nat.le_trans hB5 t6.size
        have HGt := get_any i hC6
        unfold enc at HGt
        have HLn := fun z (hz : Below w6.heap.size w6 z) => len_any (below_ar hC6 hz)
        generalize getX xs us i = vv at *
        generalize hasB us i = bb at *
        generalize (us.count true : Nat) = nc at *
        have HGt := Lib.hid HGt
        have HLn := fun z hz => Lib.hid (HLn z hz)
        have HC6 := Lib.hid hC6
        clear hA6 t6 HF hC5 hC6
        go_wp2_with fail
        refine HGt.out.mono ?_
        rintro _ w7 ⟨rfl, rfl⟩
        go_wp2_with fail
        refine (put_nil _ y).mono ?_
        rintro _ w7 ⟨rfl, rfl⟩
        go_wp2_with fail
        refine (get_nil _ 0).mono ?_
        rintro _ w7 ⟨rfl, rfl⟩
        go_wp2_with fail
        refine (all_any _ none).mono ?_
        rintro _ w8 ⟨rfl, rfl⟩
        have hk8 := (Below.refl w6.heap.size w6).alloc (Nat.le_refl _) (.cells #[.int .i64 0] 3)
        have hkb := heap_alloc_new w6 (.cells #[.int .i64 0] 3)
        have hpb := heap_alloc_new (w6.alloc (.cells #[.int .i64 0] 3)) (.cells #[.pointer none] 24)
        have h88 : Below w6.heap.size w6 ((w6.alloc (.cells #[.int .i64 0] 3)).alloc (.cells #[.pointer none] 24)) := hk8.alloc (by simp) _
        have hkb' : ((w6.alloc (.cells #[.int .i64 0] 3)).alloc (.cells #[.pointer none] 24)).heap[w6.heap.size]? = some (.cells #[.int .i64 0] 3 (0, 0)) := (Below.heap_alloc _ _ _ (by simp)).trans hkb
        rw [World.size_alloc] at hpb
        go_wp2_with fail
        refine Rf.wp_range_none (gf := 71) (lb := #[.pointer (some ⟨w6.heap.size + 1, 0, none⟩)]) (by simp [Act.eval]) (enters_of Try.func71 (by kernel_rfl) rfl) ?call ?done
        case call =>
          intro l WL hWL
          have hpl := (hWL.block _ (Array.getElem?_eq_some_iff.1 hpb).1).trans hpb
          have c0 : WL.cell? ⟨w6.heap.size + 1, 0, none⟩ = some (.pointer none) := by simp [World.cell?, hpl]
          clear hpl
          go_enter Try.func71, Try.ntmps71
          go_wp2_with fail
          refine bodyPost_ret (results_none rfl _ _ _) rfl ?_
          exact ⟨⟨_, rfl⟩, rfl⟩
        case done =>
          intro D WD hD hWD hK
          have h6D := h88.thenCall h88.size hWD
          have hkc : WD.cell? ⟨w6.heap.size, 0, none⟩ = some (.int .i64 0) := by
            have := (hWD.block _ (Array.getElem?_eq_some_iff.1 hkb').1).trans hkb'
            simp [World.cell?, this]
          have HLD := HLn WD.drew (h6D.drew)
          have hS0 : (fun y : World => y.cell? ⟨w6.heap.size, 0, none⟩ = some (.int .i64 0)) WD.drew := hkc
          have hFB := hb1.thenCall hb1.size (hb6.thenCall hB6 h6D)
          have hFD : W.heap.size ≤ D := Nat.le_trans hb1.size (Nat.le_trans hB6 (Nat.le_trans h88.size hD))
          have HK := Lib.hid hK
          clear HLn HC6 hkb hkb' hpb hk8 h88 hWD hK
          go_wp2_with fail
          go_region_held3 (fun y : World => y.cell? ⟨w6.heap.size, 0, none⟩ = some (.int .i64 0))
            (exact hS0)
            (first
             | (go_at_call 19; ((with_reducible refine HLD.out.mono ?_); rintro _ y1 ⟨rfl, rfl⟩))
             | (go_at_call 19; ((with_reducible refine (len_nil _).mono ?_); rintro _ y2 ⟨rfl, rfl⟩))
             | (go_at_call 15; ((with_reducible refine (set_nil _ _ _).mono ?_); rintro _ y3 ⟨rfl, rfl⟩))
             | (go_at_call 16; ((with_reducible refine (free_nil _ _).mono ?_); rintro _ y4 ⟨rfl, rfl⟩))
             | (go_at_call 20; ((with_reducible refine (most_nil _).mono ?_); rintro _ y5 ⟨rfl, rfl⟩))
             | (go_at_call 22; ((with_reducible refine (copy_nil _).mono ?_); rintro _ y6 ⟨rfl, rfl⟩))
             | (go_at_call 23; ((with_reducible refine (ints_nil _).mono ?_); rintro _ y7 ⟨rfl, rfl⟩)))
          go_wp2_with fail
          refine Rf.postM_ret1 rfl HK.out (fun w' => results_tmp rfl _ _ _) ?_
          exact ⟨rfl, Rf.below_put hFB.drew hFB.size hFD HK.out⟩
      · have HP := Lib.hid (put_full y hA4 hc)
        have hC5 := hC4
        have hb5 := hb4
        have hB5 := hB4
        have hA5 := hA4
        have hG5B := hGB
        have hCG5 := hCG
        obtain ⟨X5, hX5⟩ : ∃ X5, X5 = X4 := ⟨_, rfl⟩
        obtain ⟨U5, hU5⟩ : ∃ U5, U5 = us := ⟨_, rfl⟩
        obtain ⟨L5, hL5⟩ : ∃ L5, L5 = low := ⟨_, rfl⟩
        rw [← hX5, ← hU5, ← hL5] at hA5
        clear hA4 hX5 hU5 hL5
        go_wp2_with fail
        refine HP.out.mono ?_
        rintro _ w5 ⟨rfl, rfl⟩
        clear HP hC4
        have HG1 := Lib.hid (get_any i hC5)
        have HF := free_any i hA5
        generalize (if hasB U5 i then X5.set i.toNat 0 else X5) = X6 at HF
        generalize (if hasB U5 i then U5.set i.toNat false else U5) = U6 at HF
        generalize (if hasB U5 i then min L5 i.toNat else L5) = L6 at HF
        generalize hasB U5 i = b5 at HF
        have HF := Lib.hid HF
        clear hA5 HG1
        go_wp2_with fail
        refine HF.out.mono ?_
        rintro _ w6 ⟨rfl, hA6, t6⟩
        have hC6 := hC5.keep t6 hCG5
        have hb6 := hb5.trans (t6.below hG5B hB5)
        have hB6 := Nat.le_trans hB5 t6.size
        have HGt := get_any i hC6
        unfold enc at HGt
        have HLn := fun z (hz : Below w6.heap.size w6 z) => len_any (below_ar hC6 hz)
        generalize getX xs us i = vv at *
        generalize hasB us i = bb at *
        generalize (us.count true : Nat) = nc at *
        have HGt := Lib.hid HGt
        have HLn := fun z hz => Lib.hid (HLn z hz)
        have HC6 := Lib.hid hC6
        clear hA6 t6 HF hC5 hC6
        go_wp2_with fail
        refine HGt.out.mono ?_
        rintro _ w7 ⟨rfl, rfl⟩
        go_wp2_with fail
        refine (put_nil _ y).mono ?_
        rintro _ w7 ⟨rfl, rfl⟩
        go_wp2_with fail
        refine (get_nil _ 0).mono ?_
        rintro _ w7 ⟨rfl, rfl⟩
        go_wp2_with fail
        refine (all_any _ none).mono ?_
        rintro _ w8 ⟨rfl, rfl⟩
        have hk8 := (Below.refl w6.heap.size w6).alloc (Nat.le_refl _) (.cells #[.int .i64 0] 3)
        have hkb := heap_alloc_new w6 (.cells #[.int .i64 0] 3)
        have hpb := heap_alloc_new (w6.alloc (.cells #[.int .i64 0] 3)) (.cells #[.pointer none] 24)
        have h88 : Below w6.heap.size w6 ((w6.alloc (.cells #[.int .i64 0] 3)).alloc (.cells #[.pointer none] 24)) := hk8.alloc (by simp) _
        have hkb' : ((w6.alloc (.cells #[.int .i64 0] 3)).alloc (.cells #[.pointer none] 24)).heap[w6.heap.size]? = some (.cells #[.int .i64 0] 3 (0, 0)) := (Below.heap_alloc _ _ _ (by simp)).trans hkb
        rw [World.size_alloc] at hpb
        go_wp2_with fail
        refine Rf.wp_range_none (gf := 71) (lb := #[.pointer (some ⟨w6.heap.size + 1, 0, none⟩)]) (by simp [Act.eval]) (enters_of Try.func71 (by kernel_rfl) rfl) ?call ?done
        case call =>
          intro l WL hWL
          have hpl := (hWL.block _ (Array.getElem?_eq_some_iff.1 hpb).1).trans hpb
          have c0 : WL.cell? ⟨w6.heap.size + 1, 0, none⟩ = some (.pointer none) := by simp [World.cell?, hpl]
          clear hpl
          go_enter Try.func71, Try.ntmps71
          go_wp2_with fail
          refine bodyPost_ret (results_none rfl _ _ _) rfl ?_
          exact ⟨⟨_, rfl⟩, rfl⟩
        case done =>
          intro D WD hD hWD hK
          have h6D := h88.thenCall h88.size hWD
          have hkc : WD.cell? ⟨w6.heap.size, 0, none⟩ = some (.int .i64 0) := by
            have := (hWD.block _ (Array.getElem?_eq_some_iff.1 hkb').1).trans hkb'
            simp [World.cell?, this]
          have HLD := HLn WD.drew (h6D.drew)
          have hS0 : (fun y : World => y.cell? ⟨w6.heap.size, 0, none⟩ = some (.int .i64 0)) WD.drew := hkc
          have hFB := hb1.thenCall hb1.size (hb6.thenCall hB6 h6D)
          have hFD : W.heap.size ≤ D := Nat.le_trans hb1.size (Nat.le_trans hB6 (Nat.le_trans h88.size hD))
          have HK := Lib.hid hK
          clear HLn HC6 hkb hkb' hpb hk8 h88 hWD hK
          go_wp2_with fail
          go_region_held3 (fun y : World => y.cell? ⟨w6.heap.size, 0, none⟩ = some (.int .i64 0))
            (exact hS0)
            (first
             | (go_at_call 19; ((with_reducible refine HLD.out.mono ?_); rintro _ y1 ⟨rfl, rfl⟩))
             | (go_at_call 19; ((with_reducible refine (len_nil _).mono ?_); rintro _ y2 ⟨rfl, rfl⟩))
             | (go_at_call 15; ((with_reducible refine (set_nil _ _ _).mono ?_); rintro _ y3 ⟨rfl, rfl⟩))
             | (go_at_call 16; ((with_reducible refine (free_nil _ _).mono ?_); rintro _ y4 ⟨rfl, rfl⟩))
             | (go_at_call 20; ((with_reducible refine (most_nil _).mono ?_); rintro _ y5 ⟨rfl, rfl⟩))
             | (go_at_call 22; ((with_reducible refine (copy_nil _).mono ?_); rintro _ y6 ⟨rfl, rfl⟩))
             | (go_at_call 23; ((with_reducible refine (ints_nil _).mono ?_); rintro _ y7 ⟨rfl, rfl⟩)))
          go_wp2_with fail
          refine Rf.postM_ret1 rfl HK.out (fun w' => results_tmp rfl _ _ _) ?_
          exact ⟨rfl, Rf.below_put hFB.drew hFB.size hFD HK.out⟩
end Go.Proofs.Ytccknhhjkkbadaa.arenaCopies
