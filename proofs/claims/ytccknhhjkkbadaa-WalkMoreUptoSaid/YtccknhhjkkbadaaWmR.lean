/- Contract: the statement's own rings. -/
import Derived.Test.YtccknhhjkkbadaaWmQ
import Derived.Deep.LoopGhost
namespace Go.Proofs.Ytccknhhjkkbadaa.Wm
open Go.ChangeShapes Go.WideShapes Go.ChangeAt Go.RowKit Go.Proofs.Ytccknhhjkkbadaa.Lift Go.Proofs.Ytccknhhjkkbadaa.Arn Go.Proofs.Ytccknhhjkkbadaa.ArnN Go.Proofs.Ytccknhhjkkbadaa.Gr Go.Maps
set_option linter.unusedVariables false
set_option linter.unusedSimpArgs false
/-- a map of what was reached. -/
def Seen (w : World) (mr n : Nat) (ks : List Int) : Prop := ∃ D : DataW Unit, w.ownsMap Try.prog 3 (plainElem Try.prog 4) mr n D ∧ ∀ i, W64 i → D.atKey (.int .i64 i) (.lit (.bool false)) = .lit (.bool (decide (i ∈ ks)))
theorem Seen.lt {w : World} {mr n : Nat} {ks : List Int} (h : Seen w mr n ks) : mr < w.heap.size := by obtain ⟨D, h1, _⟩ := h; exact h1.lt
theorem Seen.keep {w w' : World} {mr n : Nat} {ks : List Int} (h : Seen w mr n ks) (hb : w'.heap[mr]? = w.heap[mr]?) : Seen w' mr n ks := by
  obtain ⟨D, ⟨es, cl, h1, h2⟩, h3⟩ := h
  exact ⟨D, ⟨es, cl, hb.trans h1, h2⟩, h3⟩
theorem Seen.made (w : World) : Seen (w.alloc (.map #[] 0)) w.heap.size 0 [] := ⟨.map [], World.ownsMap_made w Try.prog 3 _, fun i hi => rfl⟩
theorem Seen.ne {w : World} {mr n : Nat} {ks : List Int} (h : Seen w mr n ks) {b : Nat} {cur : Array Value} {t : TypeId} (hb : w.heap[b]? = some (.cells cur t (0, 0))) : ¬ b = mr := fun e => by
  obtain ⟨D, ⟨es, cl, h1, h2⟩, h3⟩ := h
  subst e
  rw [h1] at hb
  cases hb
set_option maxRecDepth 100000 in
theorem Seen.look {w : World} {mr n : Nat} {ks : List Int} (h : Seen w mr n ks) {i : Int} (hi : W64 i) : (Instr.lookup 135 (.map (some mr)) (.int .i64 i) false).run Try.prog w = .ok (.bool (decide (i ∈ ks))) w := by
  obtain ⟨D, h1, h6⟩ := h
  obtain ⟨v, ps, hrun, hv⟩ := h1.lookup law3 Try.underlying135 (Try.zeroValue4 _) (plainElem_bool Try.underlying4 false) (keyOf_int_mk Try.underlying3 hi)
  obtain ⟨x, rfl, hx⟩ := plainElem_bool_inv Try.underlying4 hv
  rw [h6 i hi] at hx
  injection hx with hx _
  injection hx with hx
  injection hx with hx
  rw [hrun, hx]
theorem seen_put {w' : World} {mr n : Nat} {ks : List Int} {i : Int} {D : DataW Unit} (hT : Tidy D) (h6 : ∀ i, W64 i → D.atKey (.int .i64 i) (.lit (.bool false)) = .lit (.bool (decide (i ∈ ks)))) (hi : W64 i) (hp : w'.ownsMap Try.prog 3 (plainElem Try.prog 4) mr (n + 1) (D.put (.int .i64 i) (.lit (.bool true)))) : Seen w' mr (n + 1) (i :: ks) := by
  refine ⟨_, hp, fun j hj => ?_⟩
  by_cases e : j = i
  · subst e
    rw [atKey_put_same hT.isMap (isKey _ hi)]
    simp
  · rw [atKey_put_other (lit_ne e), h6 j hj]
    simp [e]
/-- nodes that are not there have no arguments. -/
def Bare (g : Gph) : Prop := ∀ i, g.has i = false → g.a i = []
open Classical in
theorem ringB_yes {g : Gph} {i : Nat} (hi : i < 20) (h : Way g i i) : ringB g = true := by unfold ringB; exact decide_eq_true ⟨i, hi, h⟩
open Classical in
theorem ringB_no {g : Gph} (h : ∀ i : Nat, i < 20 → ¬ Way g i i) : ringB g = false := by unfold ringB; exact decide_eq_false (fun ⟨i, hi, hw⟩ => h i hi hw)
theorem mid_form {w : World} {B : Nat} {v : Value} {l : List Int} (h : Mid w B v l) : ∃ A cap, v = .slice A l.length cap := by
  rcases h with ⟨rfl, rfl⟩ | ⟨gb, o, cap, cur, rfl, _⟩
  · exact ⟨none, 0, rfl⟩
  · exact ⟨_, cap, rfl⟩
theorem turn_below {B : Nat} {w w' : World} {v : Value} {l : List Int} (h : Mid w B v l) (ht : Turn (fun b => some b = v.ownBlock) w w') (hB : B ≤ w.heap.size) : Below B w w' := ht.below (fun b e => by
  rcases h with ⟨rfl, rfl⟩ | ⟨gb, o, cap, cur, rfl, h2, _⟩
  · cases e
  · injection e with e; subst e; exact h2) hB
theorem Seen.turn {w w' : World} {mr n : Nat} {ks : List Int} {B : Nat} {v : Value} {l : List Int} (h : Seen w mr n ks) (hM : Mid w B v l) (ht : Turn (fun b => some b = v.ownBlock) w w') : Seen w' mr n ks := by
  refine h.keep (ht.block mr h.lt (fun e => ?_))
  rcases hM with ⟨rfl, rfl⟩ | ⟨gb, o, cap, cur, rfl, h2, h3, _⟩
  · cases e
  · injection e with e; exact h.ne h3 e.symm
set_option maxRecDepth 100000 in
set_option maxHeartbeats 4000000 in
theorem rings_any {w0 : World} {g : Gph} {N m : Nat} (hM : MapOk w0 g N m) (hk : Gok g N) (hF : Fin g N) (hbare : Bare g) (hLn : ∀ i, (g.a i).length ≤ 1048576) (w : World) (h0 : Below w0.heap.size w0 w) :
    Calls Try.prog 52 #[.map (some m)] w fun e w' => e = .returned (.bool (ringB g)) ∧ Below w.heap.size w w' := by
  have hmm := @run_makeMap Try.prog
  have HM := Lib.hid hM
  have HK := Lib.hid hk
  have HB := Lib.hid hbare
  obtain ⟨ml, hml1, hml2⟩ := hF
  have HML := Lib.hid hml2
  have HS0 : Hid (∀ i, W64 i → (g.a i).length + left g ml [] ≤ 70000000000) := Lib.hid (fun i hi => by
    have h1 := (hk.2 i hi).2.2
    have h2 : left g ml [] ≤ ml.length * 1048576 := left_le g [] 1048576 ml (fun k _ => hLn k)
    have h3 : ml.length ≤ 65536 := Nat.le_trans hml1 hk.1
    have h4 : ml.length * 1048576 ≤ 65536 * 1048576 := Nat.mul_le_mul_right _ h3
    omega)
  clear hM hk hbare hml2 hLn
  go_enter Try.func52, Try.ntmps52
  go_wp2_with fail
  go_loopw [3] (fun c wr => ∃ j : Nat, c = .int .i64 j ∧ j ≤ 20 ∧ Hid (∀ i : Nat, i < j → ¬ Way g i i) ∧ Below w.heap.size w wr) (fun c _ => 20 - (intOf c).toNat)
  case atStart => exact ⟨0, rfl, by omega, Lib.hid (fun i hi => absurd hi (Nat.not_lt_zero _)), Below.refl _ _⟩
  case round =>
    obtain ⟨j, rfl, hj, hno, hb⟩ := hrel
    by_cases hlt : j < 20
    · have hj64 : W64 (j : Int) := w64_of (by omega) (by omega)
      have hji : (j : Int) < 20 := by omega
      have h0r := h0.trans (hb.mono h0.size)
      have hbm : Below wr.heap.size wr (wr.alloc (.map #[] 0)) := (Below.refl _ _).alloc (Nat.le_refl _) _
      obtain ⟨A, cap, hrun, hA⟩ := HM.out.look0 (h0r.thenCall h0r.size hbm) hj64
      have hfd2 : ∀ (a b : Int) (A : Option Addr) (cap : Nat) (L : Nat) (w : World), (Instr.field 43 (.agg #[.int .i64 a, .int .i64 b, .slice A L cap]) 2).run Try.prog w = .ok (.slice A L cap) w := fun _ _ _ _ _ _ => by kernel_rfl
      have hs := args_src (hA.below (h0r.thenCall h0r.size hbm))
      have hsz := HS0.out j hj64
      have hle0 : ([] : List Int).length + (g.a j).length ≤ 100000000000 := by simp; omega
      have hBB : w.heap.size ≤ (wr.alloc (.map #[] 0)).heap.size := by rw [World.size_alloc]; have := hb.size; omega
      have HJ := Lib.hid hj64
      have HQ0 := Lib.hid (Qu.start g j)
      have HW0 : Hid (∀ x ∈ g.a j, W64 x) := Lib.hid (fun x hx => (HK.out.2 j hj64).2.1 x hx)
      have HSn := Lib.hid (Seen.made wr)
      have hbmw := hb.thenCall hb.size hbm
      clear hj64 hA
      generalize g.a j = la at *
      go_wp2_with (at_builtin; refine wpList_append_mid rfl _ _ rfl w.heap.size _ [] rfl (.inl ⟨rfl, rfl⟩) hBB A la cap rfl hs.1 hs.2 hle0 ?_; intro v1 w1 hm1 ht1)
      rw [List.nil_append] at hm1
      have hS1 := HSn.out.turn (B := w.heap.size) (.inl ⟨rfl, rfl⟩) ht1
      have hb1 := hbmw.trans (turn_below (B := w.heap.size) (l := []) (.inl ⟨rfl, rfl⟩) ht1 hBB)
      have hms : w.heap.size ≤ wr.heap.size := hb.size
      have HM1 := Lib.hid hm1
      have HS1 := Lib.hid hS1
      clear hrun hs hm1 hS1 ht1 hbm
      obtain ⟨mr, hmr⟩ : ∃ mr, mr = wr.heap.size := ⟨_, rfl⟩
      rw [← hmr] at HS1 hms ⊢
      clear hmr HSn
      go_loopg [5] (la.length + left g ml []) (fun k v wq => ∃ (td ks : List Int) (n : Nat), Mid wq w.heap.size v td ∧ Seen wq mr n ks ∧ Hid (Qu g j td ks) ∧ Hid (∀ x ∈ td, W64 x) ∧ td.length + left g ml ks ≤ k ∧ n + k ≤ 70000000000 ∧ Below w.heap.size w wq)
      case atStart => exact ⟨la, [], 0, HM1.out, HS1.out, HQ0, HW0, Nat.le_refl _, by omega, hb1⟩
      case round =>
        obtain ⟨td, ks, n, hm, hS, hQ, hW, hk1, hk2, hbq⟩ := hrel
        cases td with
        | nil =>
          have hno2 : Hid (∀ i : Nat, i < j + 1 → ¬ Way g i i) := Lib.hid (fun i hi => by
            by_cases e : i = j
            · subst e; exact hQ.out.done
            · exact hno.out i (by omega))
          obtain ⟨A2, cap2, rfl⟩ := mid_form hm
          clear hm hS hQ hW
          go_wp2_with fail
          exact ⟨⟨j + 1, by go_num, by omega, hno2, hbq⟩, by simp [intOf]; omega⟩
        | cons x td =>
          obtain ⟨A2, cap2, rfl⟩ := mid_form hm
          rw [List.length_cons] at hm hk1
          obtain ⟨gb, o, rfl, e1, e2, e3, e4, e5⟩ := hm.tail
          have hx64 := hW.out x (by simp)
          have hlen1 : (0 : Int) < (td.length + 1 : Nat) := by omega
          have hlen2 : td.length ≤ 70000000000 := by omega
          by_cases hxj : x = j
          · subst hxj
            have HF := Lib.hid (ringB_yes hlt hQ.out.hit)
            clear hm e4 e5 hS hQ hW
            have hc1 : cap2 = 1 ∨ ¬ cap2 = 1 := by omega
            rcases hc1 with rfl | hc1
            · go_wp2_with fail
              go_ret
              exact ⟨by rw [HF.out]; rfl, hbq⟩
            · go_wp2_with fail
              go_ret
              exact ⟨by rw [HF.out]; rfl, hbq⟩
          · have q1 : (x == (j : Int)) = false := by simpa using hxj
            have hc1 : cap2 = 1 ∨ ¬ cap2 = 1 := by omega
            have hbq0 := h0.trans (hbq.mono h0.size)
            have hxl := hS.look hx64
            have hkey := keyOf_int_mk Try.underlying3 hx64
            have hX := Lib.hid hx64
            have HWt : Hid (∀ y ∈ td, W64 y) := Lib.hid (fun y hy => hW.out y (by simp [hy]))
            have HXj := Lib.hid hxj
            have HSS := Lib.hid hS
            clear hm hS hxj hx64
            rcases hc1 with rfl | hc1
            case' inl => obtain ⟨v2, hv2, hm2⟩ : ∃ v2, v2 = Value.slice (some ⟨gb, o, none⟩) 0 0 ∧ Hid (Mid wr w.heap.size v2 td) := ⟨_, rfl, Lib.hid (e4 rfl)⟩
            case' inr => obtain ⟨v2, hv2, hm2⟩ : ∃ v2, v2 = Value.slice (some ⟨gb, o + 1, none⟩) td.length (cap2 - 1) ∧ Hid (Mid wr w.heap.size v2 td) := ⟨_, rfl, Lib.hid (e5 hc1)⟩
            all_goals
              have HV2 := Lib.hid hv2
              clear hv2 e4 e5
              go_upto_region 11 with fail
              rw [← HV2.out]
              clear HV2 e1
              by_cases hxk : x ∈ ks
              · have HQ2 := Lib.hid (hQ.out.old hxk)
                rw [decide_eq_true hxk] at hxl
                clear hxk hQ
                go_wp2_with fail
                go_roundg (gk - 1)
                case measure => omega
                case rel => exact ⟨td, ks, n, hm2.out, HSS.out, HQ2, HWt, by omega, by omega, hbq⟩
              · have HQ2 := Lib.hid (hQ.out.new HXj.out)
                have hlf := left_new g hxk ml (by
                  cases hh : g.has x with
                  | true => exact .inl (HML.out x hh)
                  | false => exact .inr (HB.out x hh))
                rw [decide_eq_false hxk] at hxl
                obtain ⟨D, hown, hat⟩ := HSS.out
                have hT := hown.tidy law3
                have HPut : Hid (∀ w', w'.ownsMap Try.prog 3 (plainElem Try.prog 4) mr (n + 1) (D.put (.int .i64 x) (.lit (.bool true))) → Seen w' mr (n + 1) (x :: ks)) := Lib.hid (fun w' hp => seen_put hT hat hX.out hp)
                have hnm : n < maxLen := by unfold maxLen; omega
                have HWn : Hid (∀ y ∈ td ++ g.a x, W64 y) := Lib.hid (fun y hy => (List.mem_append.1 hy).elim (HWt.out y) (fun h => (HK.out.2 x hX.out).2.1 y h))
                have hxa := (HK.out.2 x hX.out).2.2
                have HNe : Hid (∀ b cur, wr.heap[b]? = some (.cells cur 3 (0, 0)) → ¬ b = mr) := Lib.hid (fun b cur hb => HSS.out.ne hb)
                have hfd2 : ∀ (a b : Int) (A : Option Addr) (cap : Nat) (L : Nat) (w : World), (Instr.field 43 (.agg #[.int .i64 a, .int .i64 b, .slice A L cap]) 2).run Try.prog w = .ok (.slice A L cap) w := fun _ _ _ _ _ _ => by kernel_rfl
                have hle3 : td.length + (g.a x).length ≤ 100000000000 := by omega
                have hF3 : Hid (∀ w3, wr.grownBy w3 (some mr) → Below w.heap.size w w3 ∧ Mid w3 w.heap.size v2 td) := Lib.hid (fun w3 hg3 => ⟨hbq.trans ((turn_grown hg3).below (fun b e => by rw [e]; exact hms) hbq.size), hm2.out.keep (turn_grown hg3) HNe.out⟩)
                clear hxk hQ hat hT
                generalize hga : g.a x = xa at *
                have HGa := Lib.hid hga
                clear hga
                go_wp2_with (first
                  | (at_mapUpdate; refine wpList_mapUpdate_own _ rfl _ _ _ 135 rfl 3 4 law3 Try.underlying135 (plainElem Try.prog 4) mr n D rfl hown hnm _ _ _ rfl rfl hkey _ [] (plainElem_bool Try.underlying4 true) ?_; intro w3 hown3 hg3; have hS3 := HPut.out _ hown3; have hb3 := (hF3.out w3 hg3).1; have hm3 := (hF3.out w3 hg3).2; obtain ⟨A3, cap3, hrun3, hA3⟩ := HM.out.look0 (h0.trans (hb3.mono h0.size)) hX.out; rw [HGa.out] at hrun3 hA3; have hs3 := args_src (hA3.below (h0.trans (hb3.mono h0.size))); have HS3 := Lib.hid hS3; clear hS3 hA3 hown3 hg3)
                  | (at_builtin; refine wpList_append_mid rfl _ _ rfl w.heap.size v2 td rfl hm3 hb3.size A3 xa cap3 rfl hs3.1 hs3.2 hle3 ?_; intro v4 w4 hm4 ht4))
                go_roundg (gk - 1)
                case measure => omega
                case rel => exact ⟨td ++ xa, x :: ks, n + 1, hm4, HS3.out.turn hm3 ht4, HQ2, HWn, by rw [List.length_append]; omega, by omega, hb3.trans (turn_below hm3 ht4 hb3.size)⟩
    · obtain rfl : j = 20 := by omega
      have HF := Lib.hid (ringB_no hno.out)
      go_wp2_with fail
      go_ret
      exact ⟨by rw [HF.out]; rfl, hb⟩
end Go.Proofs.Ytccknhhjkkbadaa.Wm
