/- The walk of ArenaDoes. -/
import Derived.Test.YtccknhhjkkbadaaArO
import Derived.Test.YtccknhhjkkbadaaAw19
import Derived.Test.YtccknhhjkkbadaaRfn
import Derived.Test.YtccknhhjkkbadaaRowsIn
import Derived.Deep.QuietTactic
import Derived.BigQuiet
import Derived.Deep.RegionHeld3
import Derived.RangeFuncBox
import Derived.RangeFuncNested
import Derived.OwnWalkIn
import Derived.TacticsInMore
import Derived.LoopNIn
import Derived.LoopIn
import Derived.Maps.OwnIn
namespace Go.Proofs.Ytccknhhjkkbadaa.arenaDoes
open Go.ChangeShapes Go.WideShapes Go.ChangeAt Go.RowKit Go.Shelf Go.Proofs.Ytccknhhjkkbadaa.Lift Go.Proofs.Ytccknhhjkkbadaa.Arn Go.Proofs.Ytccknhhjkkbadaa.ArnI Go.Proofs.Ytccknhhjkkbadaa.ArD Go.Maps
attribute [local go_sem] Oper.semAt_some
set_option linter.unusedVariables false
set_option linter.unusedSimpArgs false
/-- a deed: its kind, a place, a number. -/
structure Dc where
  kind : Int
  i : Int
  x : Int
def DcR (cs : List Value) (d : Dc) : Prop := cs = [.int .i64 d.kind, .int .i64 d.i, .int .i64 d.x] ∧ (Lit.int .i64 d.i).wf = true ∧ (Lit.int .i64 d.x).wf = true
theorem tight {w : World} {F : Nat → Prop} {g : Nat} {xs : List Int} {us : List Bool} {low most : Nat} (h : Ar w F g xs us low most) : Ar w (fun b => F b ∧ b < w.heap.size) g xs us low most := by
  obtain ⟨Al, capl, Au, capu, h1, h2, h3, h4, h5⟩ := h
  exact ⟨Al, capl, Au, capu, ⟨h1, (Array.getElem?_eq_some_iff.1 h2).1⟩, h2, ⟨h3.1, fun b hb => ⟨h3.2 b hb, (own_block_lt h3.1 hb).2⟩⟩, ⟨h4.1, fun b hb => ⟨h4.2 b hb, (own_block_lt h4.1 hb).2⟩⟩, h5⟩
theorem count_le {w : World} {F : Nat → Prop} {g : Nat} {xs : List Int} {us : List Bool} {low most : Nat} (h : Ar w F g xs us low most) : us.count true ≤ most := by
  obtain ⟨_, _, _, _, hh⟩ := h
  exact Nat.le_trans List.count_le_length hh.2.2.2.2.2.2.2.1
theorem len_eq {w : World} {F : Nat → Prop} {g : Nat} {xs : List Int} {us : List Bool} {low most : Nat} (h : Ar w F g xs us low most) : xs.length = us.length := by
  obtain ⟨_, _, _, _, hh⟩ := h
  exact hh.2.2.2.2.1
theorem len_le {w : World} {F : Nat → Prop} {g : Nat} {xs : List Int} {us : List Bool} {low most : Nat} (h : Ar w F g xs us low most) : us.length ≤ 65536 := by
  obtain ⟨_, _, _, _, hh⟩ := h
  exact Nat.le_trans hh.2.2.2.2.2.2.2.1 hh.2.2.2.2.2.2.2.2
theorem turn_grown {w w' : World} {m : Nat} (h : w.grownBy w' (some m)) : Turn (fun b => b = m) w w' := ⟨h.os, h.tape, h.output, h.size, fun b hb hn => h.block b hb (fun e => hn (by injection e))⟩
/-- how things stand between two deeds. -/
structure StX (W : World) (sp : Int) (w : World) (K r g m most n : Nat) (F : Nat → Prop) (xs : List Int) (us : List Bool) (low : Nat) : Prop where
  ar : Ar w F g xs us low most
  fk : ∀ b, F b → K ≤ b
  fl : ∀ b, F b → b < w.heap.size
  fm : ¬ F m
  fm1 : ¬ F (m + 1)
  rk : r < K
  mi : Mi w m n xs us
  bm : Boxed w (m + 1) 26 (.map (some m))
  br : Boxed w r 4 (.bool false)
  be : Below W.heap.size W w
  kk : K ≤ w.heap.size
  wk : W.heap.size ≤ K
  km : K ≤ m
  bs : Boxed w W.heap.size 3 (.int .i64 sp)
  sk : W.heap.size < K
def St (W : World) (sp : Int) (w : World) (K r g m most j : Nat) : Prop := ∃ n F xs us low, StX W sp w K r g m most n F xs us low ∧ n ≤ j
theorem StX.below {W w w' : World} {sp : Int} {K r g m most n : Nat} {F : Nat → Prop} {xs : List Int} {us : List Bool} {low : Nat} (h : StX W sp w K r g m most n F xs us low) (hb : Below w.heap.size w w') : StX W sp w' K r g m most n F xs us low :=
  ⟨h.ar.keep (G := fun b => w.heap.size ≤ b) ((Turn.of_below hb).mono (fun b e => e)) (fun b e1 e2 => by have := h.fl b e1; omega), h.fk, fun b e => Nat.lt_of_lt_of_le (h.fl b e) hb.size, h.fm, h.fm1, h.rk,
    h.mi.keep (hb.block _ h.mi.lt), (hb.block _ h.bm.lt).trans h.bm, (hb.block _ h.br.lt).trans h.br, h.be.trans (hb.mono h.be.size), Nat.le_trans h.kk hb.size, h.wk, h.km, (hb.block _ h.bs.lt).trans h.bs, h.sk⟩
/-- the arena turned, the map not yet. -/
structure StY (W : World) (sp : Int) (w : World) (K r g m most n : Nat) (F : Nat → Prop) (xs : List Int) (us : List Bool) (low : Nat) (xs0 : List Int) (us0 : List Bool) : Prop where
  ar : Ar w F g xs us low most
  fk : ∀ b, F b → K ≤ b
  fl : ∀ b, F b → b < w.heap.size
  fm : ¬ F m
  fm1 : ¬ F (m + 1)
  rk : r < K
  mi : Mi w m n xs0 us0
  bm : Boxed w (m + 1) 26 (.map (some m))
  br : Boxed w r 4 (.bool false)
  be : Below W.heap.size W w
  kk : K ≤ w.heap.size
  wk : W.heap.size ≤ K
  km : K ≤ m
  bs : Boxed w W.heap.size 3 (.int .i64 sp)
  sk : W.heap.size < K
theorem StX.turn {W w w' : World} {sp : Int} {K r g m most n : Nat} {F F' : Nat → Prop} {xs xs' : List Int} {us us' : List Bool} {low low' : Nat} (h : StX W sp w K r g m most n F xs us low) (hA : Ar w' F' g xs' us' low' most) (hF : ∀ b, F' b → F b ∨ w.heap.size ≤ b) (ht : Turn F w w') :
    StY W sp w' K r g m most n (fun b => F' b ∧ b < w'.heap.size) xs' us' low' xs us := by
  have hml := h.mi.lt
  have hm1 := h.bm.lt
  have hrl := h.br.lt
  have hrk := h.rk
  have hkk := h.kk
  have hrf : ¬ F r := fun e => by have := h.fk r e; omega
  exact ⟨tight hA, fun b e => (hF b e.1).elim (h.fk b) (fun e => by omega), fun b e => e.2, fun e => (hF _ e.1).elim h.fm (fun e => by omega), fun e => (hF _ e.1).elim h.fm1 (fun e => by omega), h.rk,
    h.mi.keep (ht.block _ hml h.fm), (ht.block _ hm1 h.fm1).trans h.bm, (ht.block _ hrl hrf).trans h.br, h.be.trans (ht.below (fun b e => Nat.le_trans h.wk (h.fk b e)) (Nat.le_trans h.wk h.kk)), Nat.le_trans h.kk ht.size, h.wk, h.km, (ht.block _ h.bs.lt (fun e => by have := h.fk _ e; have := h.sk; omega)).trans h.bs, h.sk⟩
theorem StY.same {W w : World} {sp : Int} {K r g m most n : Nat} {F : Nat → Prop} {xs : List Int} {us : List Bool} {low : Nat} (h : StY W sp w K r g m most n F xs us low xs us) : StX W sp w K r g m most n F xs us low :=
  ⟨h.ar, h.fk, h.fl, h.fm, h.fm1, h.rk, h.mi, h.bm, h.br, h.be, h.kk, h.wk, h.km, h.bs, h.sk⟩
theorem StY.put {W w w' : World} {sp : Int} {K r g m most n n' : Nat} {F : Nat → Prop} {xs xs0 : List Int} {us us0 : List Bool} {low : Nat} (h : StY W sp w K r g m most n F xs us low xs0 us0) {D : DataW Unit} (hD : w'.ownsMap Try.prog 3 (plainElem Try.prog 3) m n' D) (hh : Holds D xs us) (hg : w.grownBy w' (some m)) :
    StX W sp w' K r g m most n' F xs us low :=
  ⟨h.ar.keep (turn_grown hg) (fun b e1 e2 => h.fm (e2 ▸ e1)), h.fk, fun b e => Nat.lt_of_lt_of_le (h.fl b e) hg.size, h.fm, h.fm1, h.rk, ⟨D, hD, hh⟩, h.bm.kept hg (fun e => by injection e with e; omega), h.br.kept hg (fun e => by
    injection e with e
    have := h.rk
    have := h.km
    omega), h.be.grown hg (Nat.le_trans h.wk h.kk) (fun k e => by injection e with e; have := h.km; have := h.wk; omega), Nat.le_trans h.kk hg.size, h.wk, h.km, h.bs.kept hg (fun e => by injection e with e; have := h.sk; have := h.km; omega), h.sk⟩
theorem len_op {H : Type} {P : Program} {o : Oper} {a : Act} {w : World} (m : Operand) (t : TypeId) (hop : o.op = Op.call { callee := Callee.builtin Builtin.len, args := #[m], argTypes := #[t] })
    (k e : TypeId) (ht : P.underlying t = some (.map k e)) (R : Value → Option (DataW H × List MemPlace)) (b n : Nat) (D : DataW H) (hm : a.eval m = .map (some b)) (hown : w.ownsMap P k R b n D) {K : Act → World → Prop} {Q : Exit → Act → World → Prop}
    (hK : K (a.put o.dst (.int .i64 (Maps.size D))) w) : Oper.wp P o a w K Q := by
  unfold Oper.wp
  simp [execOp, hop, resolve, invoke, builtin, hm, hown.len ht o.type, Result.andThen]
  exact hK
theorem step_len {H : Type} {P : Program} {ops : Array Oper} {o : Oper} {a : Act} {w : World} {K : Act → World → Prop} {Q : Exit → Act → World → Prop} {E : Prop} (hg : Region.wanted o (yielded ops a.tmps) = true) (m : Operand) (t : TypeId) (hop : o.op = Op.call { callee := Callee.builtin Builtin.len, args := #[m], argTypes := #[t] })
    (k e : TypeId) (ht : P.underlying t = some (.map k e)) (R : Value → Option (DataW H × List MemPlace)) (b n : Nat) (D : DataW H) (hm : a.eval m = .map (some b)) (hown : w.ownsMap P k R b n D)
    (hK : K (a.put o.dst (.int .i64 (Maps.size D))) w) : if Region.wanted o (yielded ops a.tmps) = true then Oper.wp P o a w K Q else E := by
  rw [if_pos hg]
  exact len_op m t hop k e ht R b n D hm hown hK
theorem ix_own {us : List Bool} (c : Code) (wr : World) (stop : Int) (B : Nat) (hB : wr.heap.size ≤ B) : OwnFrom B (fun (pre : List (Pl us)) Y => ((c = .exit 5 ∧ ∃ gs x, pre = gs ++ [x] ∧ ((gs.length : Nat) : Int) = stop ∧ Boxed Y (wr.heap.size + 1) 3 (.int .i64 (gs.length : Nat))) ∧ Below wr.heap.size wr Y) ∨ ¬ Rise pre) := by
  rintro s X Y row (⟨⟨rfl, gs, x, rfl, hs, hb⟩, h3⟩ | h) hg hrow
  · exact .inl ⟨⟨rfl, gs, x, rfl, hs, boxed_own (wr.heap.size + 1) 3 (fun pre : List (Pl us) => Value.int .i64 (pre.length : Nat)) gs X Y row hb hg (fun r e => (hrow r e).2)⟩, ownFrom_below (β := List (Pl us)) (Nat.le_refl _) hB gs X Y row h3 hg hrow⟩
  · exact .inr h
set_option maxRecDepth 100000 in
set_option maxHeartbeats 8000000 in
theorem walk (W : World) (n : Int) (A : Option Addr) (cap : Nat) (ds : List Dc) (i stop : Int) (hR : Lift.RowsIn DcR W 3 A ds) (hm : ds.length ≤ 1048576) (hwi : (Lit.int .i64 i).wf = true) :
    Calls Try.prog 3 #[.int .i64 n, .slice A ds.length cap, .int .i64 i, .int .i64 stop] W fun e w' => e = .returned (.bool true) ∧ Below W.heap.size W w' := by
  have HR := Lib.hid hR
  clear hR
  refine Rf.calls_of_wp_marks Try.func3 rfl ?_
  simp only [Try.ntmps3, List.size_toArray, List.length_cons, List.length_nil, Nat.reduceAdd, Nat.reduceSub, Array.replicate_succ, Array.replicate_zero, List.push_toArray, List.append_toArray, List.nil_append, List.cons_append]
  go_wp2_with fail
  refine (Aw19.awake13_any _).mono ?_
  rintro _ w1 ⟨rfl, hb1⟩
  have b7 := Boxed.new W 3 (.int .i64 stop)
  have b8 := Boxed.new (W.alloc (.cells #[.int .i64 stop] 3)) 4 (.bool false)
  rw [World.size_alloc] at b8
  have b7 := (hb1.block _ (b7.alloc (.cells #[.bool false] 4)).lt).trans (b7.alloc (.cells #[.bool false] 4))
  have b8 := (hb1.block _ b8.lt).trans b8
  have hW1 : Below W.heap.size W w1 := (((Below.refl W.heap.size W).alloc (Nat.le_refl _) (.cells #[.int .i64 stop] 3)).alloc (by simp) (.cells #[.bool false] 4)).trans (hb1.mono (by simp; omega))
  have hs1 := hb1.size
  rw [World.size_alloc, World.size_alloc] at hs1
  have b8' : Boxed w1 (W.heap.size + 1) 4 (.bool false) := b8
  have hrcc := b8'.cell
  have hrcf := b8'.frozen
  have hc5 := World.cell?_setCell_same' w1 ⟨W.heap.size + 1, 0, none⟩ (.bool true) (by rw [hrcc]; rfl)
  have hF1 : Below W.heap.size W (w1.setCell ⟨W.heap.size + 1, 0, none⟩ (.bool true)) := hW1.setCell (p := ⟨W.heap.size + 1, 0, none⟩) (Nat.le_succ _) _
  by_cases hn1 : (80 : Int) < ds.length
  · have hn1' : 80 < ds.length := by omega
    go_wp2_with fail
    refine Rf.postM_ret (v := .bool true) ?_ rfl ⟨rfl, hF1⟩
    simp [results, Try.f3, go_sem, hc5]
  by_cases hn2 : (300 : Int) < n
  · have hn1' : ¬ 80 < ds.length := by omega
    go_wp2_with fail
    refine Rf.postM_ret (v := .bool true) ?_ rfl ⟨rfl, hF1⟩
    simp [results, Try.f3, go_sem, hc5]
  clear b8' hrcc hrcf hc5 hF1
  have hn1' : ¬ 80 < ds.length := by omega
  have HN := Lib.hid (new_any n w1)
  go_wp2_with fail
  refine HN.out.mono ?_
  rintro _ w2 ⟨rfl, hA2, hb2⟩
  go_upto_region 6 with fail
  go_cut [10] from 42 to 44 (fun x wx => x = .int .i64 (mostN n : Nat) ∧ wx = w2)
  case first =>
    have hmn : (n < 0 ∧ (mostN n : Int) = 0) ∨ (¬ n < 0 ∧ (mostN n : Int) = n) := by unfold mostN; omega
    rcases hmn with ⟨h1, h2⟩ | ⟨h1, h2⟩
    · have h3 : n ≤ 65536 := by omega
      go_wp2_with fail
      go_meet
      exact ⟨by rw [h2], rfl⟩
    · have h3 : n ≤ 65536 := by omega
      go_wp2_with fail
      go_meet
      exact ⟨by rw [h2], rfl⟩
  case rest =>
    obtain ⟨rfl, rfl⟩ := hcut
    have hmm := @run_makeMap Try.prog
    have hs2 := hb2.size
    have hg2 : w1.heap.size < wc.heap.size := by
      obtain ⟨_, _, _, _, _, h, _⟩ := hA2
      exact (Array.getElem?_eq_some_iff.1 h).1
    have hmost : mostN n ≤ 65536 := Nat.min_le_right _ _
    have HS0 : Hid (St W stop ((wc.alloc (.map #[] 0)).alloc (.cells #[.map (some wc.heap.size)] 26)) w1.heap.size (W.heap.size + 1) w1.heap.size wc.heap.size (mostN n) 0) := Lib.hid (by
      have bm0 := Boxed.new (wc.alloc (.map #[] 0)) 26 (.map (some wc.heap.size))
      rw [World.size_alloc] at bm0
      have hV0 : Below wc.heap.size wc ((wc.alloc (.map #[] 0)).alloc (.cells #[.map (some wc.heap.size)] 26)) := ((Below.refl _ _).alloc (Nat.le_refl _) _).alloc (by simp) _
      have b82 := (hb2.block _ (Boxed.lt b8)).trans b8
      have b82' := (hV0.block _ (Boxed.lt b82)).trans b82
      have b72 := (hb2.block _ (Boxed.lt b7)).trans b7
      have b72' := (hV0.block _ (Boxed.lt b72)).trans b72
      refine ⟨0, _, [], [], 0, ⟨(tight hA2).keep (G := fun b => wc.heap.size ≤ b) ((Turn.of_below hV0).mono (fun b e => e)) (fun b e1 e2 => by have := e1.2; omega), fun b e => e.1, fun b e => by have := e.2; simp; omega, fun e => by have := e.2; omega, fun e => by have := e.2; omega, by omega, ?_, bm0, b82', hW1.trans ((hb2.trans (hV0.mono hs2)).mono (by omega)), by simp; omega, by omega, hs2, b72', by omega⟩, Nat.le_refl _⟩
      exact (Mi.made wc).keep (Below.heap_alloc _ _ _ (by simp)))
    clear hb1 b7 b8 hA2 hb2 HN
    go_wp2_with fail
    go_loopw [48] (fun c wr => ∃ j : Nat, c = .int .i64 j ∧ j ≤ ds.length ∧ Hid (St W stop wr w1.heap.size (W.heap.size + 1) w1.heap.size wc.heap.size (mostN n) j)) (fun c _ => ds.length - (intOf c).toNat)
    case atStart => exact ⟨0, rfl, Nat.zero_le _, HS0⟩
    case round =>
      obtain ⟨j, rfl, hj, hSt⟩ := hrel
      by_cases hlt : j < ds.length
      · obtain ⟨n', F, xs, us, low, hX, hnj⟩ := hSt.out
        obtain ⟨b, o, cs, rfl, hbl, hcs, hlen, hc⟩ := HR.out j hlt
        unfold DcR at hcs
        obtain ⟨hcs, hwd, hwx⟩ := hcs
        subst hcs
        have hbw := hX.be
        have x0 := (hbw.cell (p := ⟨b, o + j * 3 + 0, none⟩) hbl).trans (hc 0 _ rfl)
        have x1 := (hbw.cell (p := ⟨b, o + j * 3 + 1, none⟩) hbl).trans (hc 1 _ rfl)
        have x2 := (hbw.cell (p := ⟨b, o + j * 3 + 2, none⟩) hbl).trans (hc 2 _ rfl)
        rw [Nat.add_zero] at x0
        clear hc
        generalize ds[j] = d at *
        obtain ⟨dk, di, dx⟩ := d
        dsimp only at *
        have hal := (Below.refl wr.heap.size wr).alloc (Nat.le_refl _) (.cells #[.int .i64 dk, .int .i64 di, .int .i64 dx] 28)
        have hXV := hX.below hal
        have hnd : (wr.alloc (.cells #[.int .i64 dk, .int .i64 di, .int .i64 dx] 28)).heap[wr.heap.size]? = some (.cells #[.int .i64 dk, .int .i64 di, .int .i64 dx] 28 (0, 0)) := heap_alloc_new wr _
        have hFd : ¬ F wr.heap.size := fun e => by have := hX.fl _ e; omega
        have hkey := keyOf_int_mk Try.underlying3 hwd
        obtain ⟨D, hown, hh⟩ := hXV.mi
        have hle := len_eq hXV.ar
        have hl65 := len_le hXV.ar
        have hcl := count_le hXV.ar
        have hmV := hXV.mi.lt
        have hbmc := hXV.bm.cell
        have hTi := hown.tidy law3
        have hn' : n' < maxLen := by unfold maxLen; omega
        have HX := Lib.hid hXV
        have HH := hh.1 di hwd
        have hfm := hXV.fm
        clear hX hXV hSt hal hbw
        by_cases h1 : dk = 1
        · subst h1
          have HS := set_any di dx HX.out.ar
          unfold enc at HS
          cases hu : hasB us di with
          | false =>
            rw [hu] at HS HH
            rw [if_neg (by simp)] at HS
            have HS := Lib.hid HS
            have HH := Lib.hid HH
            go_wp2_with (at_lookup; refine wpList_lookup_own_ok_int _ rfl _ _ 26 rfl 3 3 .i64 law3 Try.underlying26 Try.underlying3 (Try.zeroValue3 _) wc.heap.size n' D rfl hown _ _ rfl hkey ?_; intro c hat hwc; rw [HH.out]; clear hat hwc)
            refine HS.out.mono ?_
            rintro _ w3 ⟨rfl, hA3, t3⟩
            have HO3 : Hid (St W stop w3 w1.heap.size (W.heap.size + 1) w1.heap.size wc.heap.size (mostN n) (j + 1)) := Lib.hid ⟨_, _, _, _, _, (HX.out.turn hA3 (fun b e => .inl e) t3).same, by omega⟩
            clear hA3 t3 HS
            go_wp2_with fail
            exact ⟨⟨j + 1, by go_num, by omega, HO3⟩, by simp [intOf]; omega⟩
          | true =>
            rw [hu] at HS HH
            rw [if_pos rfl] at HS
            have HS := Lib.hid HS
            have HH := Lib.hid HH
            have HP := Lib.hid (mi_set hTi hh hle hwd hu dx)
            go_wp2_with (at_lookup; refine wpList_lookup_own_ok_int _ rfl _ _ 26 rfl 3 3 .i64 law3 Try.underlying26 Try.underlying3 (Try.zeroValue3 _) wc.heap.size n' D rfl hown _ _ rfl hkey ?_; intro c hat hwc; rw [HH.out]; clear hat hwc)
            refine HS.out.mono ?_
            rintro _ w3 ⟨rfl, hA3, t3⟩
            have hY := HX.out.turn hA3 (fun b e => .inl e) t3
            have hown3 : w3.ownsMap Try.prog 3 (plainElem Try.prog 3) wc.heap.size n' D := by
              obtain ⟨es, cl, h1, h2⟩ := hown
              exact ⟨es, cl, (t3.block _ hmV hfm).trans h1, h2⟩
            have hnd3 := (t3.block _ (by simp) hFd).trans hnd
            have b1 : w3.cell? ⟨wr.heap.size, 1, none⟩ = some (.int .i64 di) := by simp [World.cell?, hnd3]
            have b2 : w3.cell? ⟨wr.heap.size, 2, none⟩ = some (.int .i64 dx) := by simp [World.cell?, hnd3]
            have b3 := hY.bm.cell
            have HI : Hid (∀ w4, w4.ownsMap Try.prog 3 (plainElem Try.prog 3) wc.heap.size (n' + 1) (D.put (.int .i64 di) (.lit (.int .i64 dx))) → w3.grownBy w4 (some wc.heap.size) → St W stop w4 w1.heap.size (W.heap.size + 1) w1.heap.size wc.heap.size (mostN n) (j + 1)) := Lib.hid (fun w4 hD4 hg4 => ⟨_, _, _, _, _, hY.put hD4 HP.out hg4, by omega⟩)
            clear hA3 t3 HS hY hnd3 HP
            go_wp2_with (at_mapUpdate; refine wpList_mapUpdate_own _ rfl _ _ _ 26 rfl 3 3 law3 Try.underlying26 (plainElem Try.prog 3) wc.heap.size n' D rfl hown3 hn' _ _ _ rfl rfl hkey _ [] (plainElem_int Try.underlying3 hwx) ?_; intro w4 hown4 hg4)
            exact ⟨⟨j + 1, by go_num, by omega, Lib.hid (HI.out _ hown4 hg4)⟩, by simp [intOf]; omega⟩
        · have q1 : (dk == 1) = false := by simpa using h1
          by_cases h2 : dk = 2
          · subst h2
            have HS := free_any di HX.out.ar
            have HP := mi_del hTi hh hle hwd
            have HS1 : ∃ xs' us' low', xs' = (if hasB us di then xs.set di.toNat 0 else xs) ∧ us' = (if hasB us di then us.set di.toNat false else us) ∧ low' = (if hasB us di then min low di.toNat else low) := ⟨_, _, _, rfl, rfl, rfl⟩
            obtain ⟨xs', us', low', e1, e2, e3⟩ := HS1
            rw [← e1, ← e2, ← e3] at HS
            rw [← e1, ← e2] at HP
            generalize hasB us di = bb at *
            have HS := Lib.hid HS
            have HH := Lib.hid HH
            have HP := Lib.hid HP
            clear e1 e2 e3 h1
            go_wp2_with (at_lookup; refine wpList_lookup_own_ok_int _ rfl _ _ 26 rfl 3 3 .i64 law3 Try.underlying26 Try.underlying3 (Try.zeroValue3 _) wc.heap.size n' D rfl hown _ _ rfl hkey ?_; intro c hat hwc; rw [HH.out]; clear hat hwc)
            refine HS.out.mono ?_
            rintro _ w3 ⟨rfl, hA3, t3⟩
            have hY := HX.out.turn hA3 (fun b e => .inl e) t3
            have hown3 : w3.ownsMap Try.prog 3 (plainElem Try.prog 3) wc.heap.size n' D := by
              obtain ⟨es, cl, h1, h2⟩ := hown
              exact ⟨es, cl, (t3.block _ hmV hfm).trans h1, h2⟩
            have hnd3 := (t3.block _ (by simp) hFd).trans hnd
            have b1 : w3.cell? ⟨wr.heap.size, 1, none⟩ = some (.int .i64 di) := by simp [World.cell?, hnd3]
            have b2 : w3.cell? ⟨wr.heap.size, 2, none⟩ = some (.int .i64 dx) := by simp [World.cell?, hnd3]
            have b3 := hY.bm.cell
            have HI : Hid (∀ w4, w4.ownsMap Try.prog 3 (plainElem Try.prog 3) wc.heap.size n' (D.del (.int .i64 di)) → w3.grownBy w4 (some wc.heap.size) → St W stop w4 w1.heap.size (W.heap.size + 1) w1.heap.size wc.heap.size (mostN n) (j + 1)) := Lib.hid (fun w4 hD4 hg4 => ⟨_, _, _, _, _, hY.put hD4 HP.out hg4, by omega⟩)
            clear hA3 t3 HS hY hnd3 HP
            go_wp2_with (at_delete; refine wpList_delete_own _ rfl _ _ 26 3 rfl 3 law3 Try.underlying26 (plainElem Try.prog 3) wc.heap.size n' D rfl hown3 _ _ rfl hkey ?_; intro w4 hown4 hg4)
            exact ⟨⟨j + 1, by go_num, by omega, Lib.hid (HI.out _ hown4 hg4.grown)⟩, by simp [intOf]; omega⟩
          · have q2 : (dk == 2) = false := by simpa using h2
            clear h1 h2
            have hsz := Lib.hid hh.2.2
            rcases Nat.lt_or_eq_of_le hcl with hct | hct
            · have hff := firstF_le us
              have hwf : ∀ k : Nat, k ≤ 65536 → (Lit.int .i64 (k : Int)).wf = true := fun k hk => WalkArith.wf_i64 (by omega)
              have HSx := put_room dx HX.out.ar hct
              unfold enc at HSx
              have HS := Lib.hid HSx
              clear HSx
              have HP := Lib.hid (mi_put hTi hh hle (hwf _ (by omega)) dx)
              have hct2 : ((us.count true : Nat) : Int) < (mostN n : Nat) := by omega
              have HHas : Hid (∀ k : Nat, k ≤ firstF us → Maps.has D (.int .i64 (k : Int)) = decide (k < firstF us)) := Lib.hid (fun k hk => by
                rw [hh.1 _ (hwf k (by omega))]
                by_cases e : k < firstF us
                · rw [decide_eq_true e, hasB_at (by omega)]
                  exact firstF_before (by omega) e
                · rw [decide_eq_false e]
                  obtain rfl : k = firstF us := by omega
                  exact hasB_first us)
              have HW := Lib.hid hwf
              generalize hff2 : firstF us = f at *
              generalize hcc : us.count true = cnt at *
              generalize hasB us di = bb at *
              have HH := Lib.hid HH
              have HFF := Lib.hid hff2
              have HCC := Lib.hid hcc
              clear hff2 hcc hwf
              go_wp2_with (at_lookup; refine wpList_lookup_own_ok_int _ rfl _ _ 26 rfl 3 3 .i64 law3 Try.underlying26 Try.underlying3 (Try.zeroValue3 _) wc.heap.size n' D rfl hown _ _ rfl hkey ?_; intro c hat hwc; rw [HH.out]; clear hat hwc)
              go_loopw [16] (fun c wq => ∃ k : Nat, c = .int .i64 k ∧ k ≤ f ∧ wq = wr.alloc (.cells #[.int .i64 dk, .int .i64 di, .int .i64 dx] 28)) (fun c _ => f - (intOf c).toNat)
              case atStart => exact ⟨0, rfl, Nat.zero_le _, rfl⟩
              case round =>
                obtain ⟨k, rfl, hk, rfl⟩ := hrel
                have hH2 := HHas.out k hk
                have hkey2 := keyOf_int_mk Try.underlying3 (HW.out k (by omega))
                by_cases hkf : k < f
                · rw [decide_eq_true hkf] at hH2
                  have hH2 := Lib.hid hH2
                  go_wp2_with (first | (at_len; refine wpList_len_own _ rfl _ 26 rfl 3 3 Try.underlying26 (plainElem Try.prog 3) wc.heap.size n' D rfl hown ?_; rw [hsz.out]) | (at_lookup; refine wpList_lookup_own_ok_int _ rfl _ _ 26 rfl 3 3 .i64 law3 Try.underlying26 Try.underlying3 (Try.zeroValue3 _) wc.heap.size n' D rfl hown _ _ rfl hkey2 ?_; intro c hat hwc; rw [hH2.out]; clear hat hwc))
                  exact ⟨⟨k + 1, by go_num, by omega, by trivial⟩, by simp [intOf]; omega⟩
                · rw [decide_eq_false hkf] at hH2
                  have hH2 := Lib.hid hH2
                  obtain rfl : k = f := by omega
                  go_wp2_with (first | (at_len; refine wpList_len_own _ rfl _ 26 rfl 3 3 Try.underlying26 (plainElem Try.prog 3) wc.heap.size n' D rfl hown ?_; rw [hsz.out]) | (at_lookup; refine wpList_lookup_own_ok_int _ rfl _ _ 26 rfl 3 3 .i64 law3 Try.underlying26 Try.underlying3 (Try.zeroValue3 _) wc.heap.size n' D rfl hown _ _ rfl hkey2 ?_; intro c hat hwc; rw [hH2.out]; clear hat hwc))
                  refine HS.out.mono ?_
                  rintro _ w3 ⟨rfl, hA3, t3⟩
                  have hY := HX.out.turn hA3 (fun b e => e) t3
                  have hown3 : w3.ownsMap Try.prog 3 (plainElem Try.prog 3) wc.heap.size n' D := by
                    obtain ⟨es, cl, h1, h2⟩ := hown
                    exact ⟨es, cl, (t3.block _ hmV hfm).trans h1, h2⟩
                  have hnd3 := (t3.block _ (by simp) hFd).trans hnd
                  have b1 : w3.cell? ⟨wr.heap.size, 1, none⟩ = some (.int .i64 di) := by simp [World.cell?, hnd3]
                  have b2 : w3.cell? ⟨wr.heap.size, 2, none⟩ = some (.int .i64 dx) := by simp [World.cell?, hnd3]
                  have b3 := hY.bm.cell
                  have HI : Hid (∀ w4, w4.ownsMap Try.prog 3 (plainElem Try.prog 3) wc.heap.size (n' + 1) (D.put (.int .i64 (k : Int)) (.lit (.int .i64 dx))) → w3.grownBy w4 (some wc.heap.size) → St W stop w4 w1.heap.size (W.heap.size + 1) w1.heap.size wc.heap.size (mostN n) (j + 1)) := Lib.hid (fun w4 hD4 hg4 => ⟨_, _, _, _, _, hY.put hD4 HP.out hg4, by omega⟩)
                  clear hA3 t3 HS hY hnd3 HP
                  go_wp2_with (first | (at_len; refine wpList_len_own _ rfl _ 26 rfl 3 3 Try.underlying26 (plainElem Try.prog 3) wc.heap.size n' D rfl hown3 ?_; rw [hsz.out]) | (at_mapUpdate; refine wpList_mapUpdate_own _ rfl _ _ _ 26 rfl 3 3 law3 Try.underlying26 (plainElem Try.prog 3) wc.heap.size n' D rfl hown3 hn' _ _ _ rfl rfl hkey2 _ [] (plainElem_int Try.underlying3 hwx) ?_; intro w4 hown4 hg4))
                  exact ⟨⟨j + 1, by go_num, by omega, Lib.hid (HI.out _ hown4 hg4)⟩, by simp [intOf]; omega⟩
            · have HS := put_full dx HX.out.ar hct
              unfold enc at HS
              have HS := Lib.hid HS
              have HO3 : Hid (St W stop (wr.alloc (.cells #[.int .i64 dk, .int .i64 di, .int .i64 dx] 28)) w1.heap.size (W.heap.size + 1) w1.heap.size wc.heap.size (mostN n) (j + 1)) := Lib.hid ⟨_, _, _, _, _, HX.out, by omega⟩
              have hcti : ((us.count true : Nat) : Int) = (mostN n : Nat) := by omega
              generalize hcc : us.count true = cnt at *
              generalize hasB us di = bb at *
              have HH := Lib.hid HH
              have HCC := Lib.hid hcc
              subst hct
              clear hcc hcti
              go_wp2_with (at_lookup; refine wpList_lookup_own_ok_int _ rfl _ _ 26 rfl 3 3 .i64 law3 Try.underlying26 Try.underlying3 (Try.zeroValue3 _) wc.heap.size n' D rfl hown _ _ rfl hkey ?_; intro c hat hwc; rw [HH.out]; clear hat hwc)
              refine wp_loop_once ?_
              go_wp2_with (at_len; refine wpList_len_own _ rfl _ 26 rfl 3 3 Try.underlying26 (plainElem Try.prog 3) wc.heap.size n' D rfl hown ?_; rw [hsz.out])
              refine HS.out.mono ?_
              rintro _ w3 ⟨rfl, rfl⟩
              go_wp2_with (at_len; refine wpList_len_own _ rfl _ 26 rfl 3 3 Try.underlying26 (plainElem Try.prog 3) wc.heap.size n' D rfl hown ?_; rw [hsz.out])
              exact ⟨⟨j + 1, by go_num, by omega, HO3⟩, by simp [intOf]; omega⟩
      · obtain rfl : j = ds.length := by omega
        as_aux_lemma =>
          obtain ⟨n', F, xs, us, low, hX, hnj⟩ := hSt.out
          obtain ⟨D, hown, hh⟩ := hX.mi
          have hle := len_eq hX.ar
          have hl65 := len_le hX.ar
          have HG := get_any i hX.ar
          unfold enc at HG
          have HG := Lib.hid HG
          have hkey := keyOf_int_mk Try.underlying3 hwi
          have hXd := fun q => hX.below (below_drewN (Below.refl wr.heap.size wr) q)
          have HL := fun q => len_any (hXd q).ar
          have HM := fun q => most_any (hXd q).ar
          have hbmc := hX.bm.cell
          have hsz := Lib.hid hh.2.2
          have hH := hh.1 i hwi
          have hA := hh.2.1 i hwi
          have HX := Lib.hid hX
          have HHH := Lib.hid hh
          generalize hg : getX xs us i = vv at *
          generalize hgb : hasB us i = bb at *
          generalize hcc : us.count true = cnt at *
          have hH := Lib.hid hH
          have hA := Lib.hid hA
          have HCC := Lib.hid hcc
          have HL := fun q => Lib.hid (HL q)
          have HM := fun q => Lib.hid (HM q)
          clear hX hXd hSt hg hgb hcc hh
          go_wp2_with fail
          refine HG.out.mono ?_
          rintro _ w3 ⟨rfl, rfl⟩
          go_wp2_with (at_lookup; refine wpList_lookup_own_ok_int _ rfl _ _ 26 rfl 3 3 .i64 law3 Try.underlying26 Try.underlying3 (Try.zeroValue3 _) wc.heap.size n' D rfl hown _ _ rfl hkey ?_; intro c hat hwc; have hcv : c = vv := (by rw [hA.out] at hat; injection hat with hat; injection hat with hat1 hat2; exact hat2.symm); rw [hH.out, hcv]; clear hat hwc hcv)
          have hlenE : ∀ q, (Builtin.len_ #[26] 3 #[.map (some wc.heap.size)]).run Try.prog (wr.drewN q) = .ok (.int .i64 (cnt : Nat)) (wr.drewN q) := fun q => by
            rw [(show (wr.drewN q).ownsMap Try.prog 3 (plainElem Try.prog 3) wc.heap.size n' D from hown).len Try.underlying26 3, hsz.out]
          go_quiet (first | (go_at_call 19; exact Calls.quiet_of_same ((HL _).out.mono fun _ _ h => ⟨h.1, h.2.symm⟩)) | (go_at_call 20; exact Calls.quiet_of_same ((HM _).out.mono fun _ _ h => ⟨h.1, h.2.symm⟩)))
          generalize hWq : World.drewN wr _ = Wq
          have HX := Lib.hid (HX.out.below (w' := Wq) (by rw [← hWq]; exact below_drewN (Below.refl _ _) _))
          have hown : Wq.ownsMap Try.prog 3 (plainElem Try.prog 3) wc.heap.size n' D := by rw [← hWq]; exact hown
          have hbmc := HX.out.bm.cell
          clear hWq hlenE HL HM
          go_wp2_with fail
          obtain ⟨V1, hV1⟩ : ∃ V1, V1 = ((Wq.alloc (.cells #[.int .i64 (-1)] 3)).alloc (.cells #[.int .i64 0] 3)) := ⟨_, rfl⟩
          have hBV : Below Wq.heap.size Wq V1 := by rw [hV1]; exact ((Below.refl _ _).alloc (Nat.le_refl _) _).alloc (by simp) _
          have bL : Boxed V1 Wq.heap.size 3 (.int .i64 (-1)) := by rw [hV1]; exact (Boxed.new Wq 3 (.int .i64 (-1))).alloc _
          have bC : Boxed V1 (Wq.heap.size + 1) 3 (.int .i64 0) := by
            have := Boxed.new (Wq.alloc (.cells #[.int .i64 (-1)] 3)) 3 (.int .i64 0)
            rw [World.size_alloc] at this
            rw [hV1]
            exact this
          have hC1 := bC.lt
          rw [← hV1]
          clear hV1
          refine (all_any V1 _).mono ?_
          rintro _ V2 ⟨rfl, rfl⟩
          have bN := Boxed.new V1 24 (.pointer (some ⟨w1.heap.size, 0, none⟩))
          have bL2 := bL.alloc (.cells #[.pointer (some ⟨w1.heap.size, 0, none⟩)] 24)
          have bC2 := bC.alloc (.cells #[.pointer (some ⟨w1.heap.size, 0, none⟩)] 24)
          have hB2 : Below Wq.heap.size Wq (V1.alloc (.cells #[.pointer (some ⟨w1.heap.size, 0, none⟩)] 24)) := hBV.alloc hBV.size _
          have hs12 : (V1.alloc (.cells #[.pointer (some ⟨w1.heap.size, 0, none⟩)] 24)).heap.size = V1.heap.size + 1 := by simp
          have hm1 := HX.out.bm.lt
          have hRd : ∃ Al capl Au capu, Rd Wq.heap.size (V1.alloc (.cells #[.pointer (some ⟨w1.heap.size, 0, none⟩)] 24)) V1.heap.size w1.heap.size Al capl Au capu xs us := by
            obtain ⟨Al, capl, Au, capu, hFg, hgh, hrl, hru, hsame, -, -, -, -⟩ := HX.out.ar
            obtain ⟨c0, c1, -, -, -⟩ := cells5 hgh
            have hgl := HX.out.fl _ hFg
            obtain ⟨_, _, e1, hl1, hl2⟩ := own_form hrl.1
            injection e1 with _ _ e1
            subst e1
            obtain ⟨_, _, e1, hu1, hu2⟩ := own_form hru.1
            injection e1 with _ _ e1
            subst e1
            refine ⟨Al, capl, Au, capu, bN.cell, (hB2.cell (p := ⟨w1.heap.size, 0, none⟩) hgl).trans c0, (hB2.cell (p := ⟨w1.heap.size, 1, none⟩) hgl).trans c1, hgl, fun h0 => ?_, hsame, hl65, hl1, hu1, hl2, hu2⟩
            obtain ⟨bl, _, rfl, hbl, -, -, -, hcl, -⟩ := row_at hrl (by omega)
            obtain ⟨bu, _, rfl, hbu, -, -, -, hcu, -⟩ := row_at hru h0
            refine ⟨bl, bu, rfl, rfl, HX.out.fl _ hbl, HX.out.fl _ hbu, fun j hj => ?_, fun j hj => ?_⟩
            · rw [hB2.cell (p := ⟨bu, j, none⟩) (HX.out.fl _ hbu), hcu j hj, List.getElem?_map, List.getElem?_eq_getElem hj]
              rfl
            · have hj' : j < xs.length := by omega
              rw [hB2.cell (p := ⟨bl, j, none⟩) (HX.out.fl _ hbl), hcl j (by omega), List.getElem?_map, List.getElem?_eq_getElem hj']
              simp [enc, List.getD, List.getElem?_eq_getElem hj']
          obtain ⟨Al, capl, Au, capu, hRd⟩ := hRd
          have HRd := Lib.hid hRd
          clear hRd hBV bL bC
          go_wp2_with fail
          refine Rf.wp_range_upto (k := 5) (gf := 71) (lb := #[.pointer (some ⟨V1.heap.size, 0, none⟩)]) rfl (enters_of Try.func71 (by kernel_rfl) rfl)
            (ArD.stops V1.heap.size Wq.heap.size w1.heap.size Al capl Au capu xs us _ hB2.size (by omega) HRd.out) (fun h k => h.trans k) (Kp.put hB2.size (by omega)) (fun _ => rfl)
            (fun pre Y => (Boxed Y Wq.heap.size 3 (.int .i64 (lastP pre)) ∧ Boxed Y (Wq.heap.size + 1) 3 (.int .i64 (pre.length : Nat))) ∧ Below Wq.heap.size Wq Y)
            (fun c pre Y => ((c = .exit 5 ∧ ∃ gs x, pre = gs ++ [x] ∧ ((gs.length : Nat) : Int) = stop ∧ Boxed Y (Wq.heap.size + 1) 3 (.int .i64 (gs.length : Nat))) ∧ Below Wq.heap.size Wq Y) ∨ ¬ Rise pre)
            ?I1 ?I2 ?I3 (fun a Y h => by simpa [Exit.inBlock] using h)
            (fun Y => (∃ c : Int, Boxed Y (Wq.heap.size + 1) 3 (.int .i64 c) ∧ (c = (cnt : Nat) ∨ c = stop)) ∧ Below Wq.heap.size Wq Y) ?E1 ?E2 ?ab ?done
          case I1 => exact OwnFrom.and (Own.from (fun s A B row hs hg hr => ⟨boxed_own Wq.heap.size 3 (fun pre : List (Pl us) => Value.int .i64 (lastP pre)) s A B row hs.1 hg hr, boxed_own (Wq.heap.size + 1) 3 (fun pre : List (Pl us) => Value.int .i64 (pre.length : Nat)) s A B row hs.2 hg hr⟩) _) (ownFrom_below (Nat.le_refl _) hB2.size)
          case I2 => exact fun c => ix_own c _ _ _ hB2.size
          case I3 => exact ⟨⟨bL2, bC2⟩, hB2⟩
          case E1 =>
            rintro ys Y rfl ⟨⟨h1, h2⟩, h3⟩
            exact ⟨⟨_, h2, .inl (by rw [len_all, HCC.out])⟩, h3⟩
          case E2 =>
            rintro c pre Y hp (⟨⟨rfl, gs, x, rfl, hs, hb⟩, h3⟩ | h)
            · exact ⟨rfl, ⟨_, hb, .inr hs⟩, h3⟩
            · exact absurd (rise_pre hp) h
          case ab =>
            have hA := Lib.hid HHH.out.2.1
            have hHs := Lib.hid HHH.out.1
            apply Exists.intro
            apply And.intro
            case left =>
              intro l x Y K hK
              gi_wp2
              exact hK
            case right =>
              rintro l pre x Y ⟨⟨hl, hc⟩, hB⟩ hlt2
              have hownY : Y.ownsMap Try.prog 3 (plainElem Try.prog 3) wc.heap.size n' D := by
                obtain ⟨es, cl, h1, h2⟩ := hown
                exact ⟨es, cl, (hB.block _ (by omega)).trans h1, h2⟩
              have b11 := (hB.cell (p := ⟨wc.heap.size + 1, 0, none⟩) hm1).trans hbmc
              have b7c := (hB.cell (p := ⟨W.heap.size, 0, none⟩) HX.out.bs.lt).trans HX.out.bs.cell
              have hrc : Boxed Y (W.heap.size + 1) 4 (.bool false) := (hB.block _ HX.out.br.lt).trans HX.out.br
              have hrcc := hrc.cell
              have hrcf := hrc.frozen
              have hlc := hl.cell
              have hlf := hl.frozen
              have hcc := hc.cell
              have hcf := hc.frozen
              obtain ⟨k, hk⟩ := x
              obtain ⟨_, hk2, e, -⟩ := (hasB_eq us k).1 hk
              have hk3 : k < us.length := by omega
              clear e hk2
              have hkw : (Lit.int .i64 (k : Int)).wf = true := WalkArith.wf_i64 (by omega)
              have hkeyk := keyOf_int_mk Try.underlying3 hkw
              have hHk := hHs.out k hkw
              have hAk := hA.out k hkw
              unfold getX at hAk
              rw [hk] at hHk
              rw [if_pos hk, Int.toNat_natCast] at hAk
              have hHk := Lib.hid hHk
              dsimp only
              rw [List.getD_eq_getElem?_getD] at hAk
              obtain ⟨z, hz⟩ : ∃ z, xs[k]?.getD 0 = z := ⟨_, rfl⟩
              rw [hz] at hAk ⊢
              clear hz
              have hAk := Lib.hid hAk
              have hne1 : V1.heap.size ≠ Wq.heap.size := by omega
              have hne2 : V1.heap.size ≠ Wq.heap.size + 1 := by omega
              obtain ⟨lp, hlp⟩ : ∃ lp, lastP pre = lp := ⟨_, rfl⟩
              rw [hlp] at hl hlc
              have HLP := Lib.hid hlp
              clear hlp
              by_cases hs : ((pre.length : Nat) : Int) = stop
              · have hsb : (((pre.length : Nat) : Int) == stop) = true := by simpa using hs
                have HS := Lib.hid hs
                clear hs
                gi_wp2_with (gi_at_lookup; refine wpListIn_lookup_own_ok_int _ rfl _ _ 26 rfl 3 3 .i64 law3 Try.underlying26 Try.underlying3 (Try.zeroValue3 _) wc.heap.size n' D rfl hownY _ _ rfl hkeyk ?_; intro c hat hwc; have hcv : c = z := (by rw [hAk.out] at hat; injection hat with hat; injection hat with hat1 hat2; exact hat2.symm); rw [hHk.out, hcv]; clear hat hwc hcv)
                exact ⟨KeepsOthers.refl _, .inl ⟨⟨rfl, pre, _, rfl, HS.out, hc⟩, hB⟩⟩
              · have hsb : (((pre.length : Nat) : Int) == stop) = false := by simpa using hs
                clear hs
                by_cases hkl : (k : Int) ≤ lp
                · gi_wp2_with (gi_at_lookup; refine wpListIn_lookup_own_ok_int _ rfl _ _ 26 rfl 3 3 .i64 law3 Try.underlying26 Try.underlying3 (Try.zeroValue3 _) wc.heap.size n' D rfl hownY _ _ rfl hkeyk ?_; intro c hat hwc; have hcv : c = z := (by rw [hAk.out] at hat; injection hat with hat; injection hat with hat1 hat2; exact hat2.symm); rw [hHk.out, hcv]; clear hat hwc hcv)
                  exact ⟨KeepsOthers.setCell _ _ _, .inr (fun h => by have := rise_last h; rw [HLP.out] at this; simp at this; omega)⟩
                · gi_wp2_with (gi_at_lookup; refine wpListIn_lookup_own_ok_int _ rfl _ _ 26 rfl 3 3 .i64 law3 Try.underlying26 Try.underlying3 (Try.zeroValue3 _) wc.heap.size n' D rfl hownY _ _ rfl hkeyk ?_; intro c hat hwc; have hcv : c = z := (by rw [hAk.out] at hat; injection hat with hat; injection hat with hat1 hat2; exact hat2.symm); rw [hHk.out, hcv]; clear hat hwc hcv)
                  refine ⟨(KeepsOthers.setCell _ _ _).trans (KeepsOthers.setCell _ _ _), ⟨((Below.refl Wq.heap.size Y).setCell (p := ⟨Wq.heap.size, 0, none⟩) (Nat.le_refl _) _).setCell (p := ⟨Wq.heap.size + 1, 0, none⟩) (Nat.le_succ _) _, (Below.heap_setCell _ _ _ _ hne2).trans (Below.heap_setCell _ _ _ _ hne1)⟩, ⟨?_, ?_⟩, (hB.setCell (p := ⟨Wq.heap.size, 0, none⟩) (Nat.le_refl _) _).setCell (p := ⟨Wq.heap.size + 1, 0, none⟩) (Nat.le_succ _) _⟩
                  · rw [lastP_snoc]
                    exact (hl.set _).other (by omega) _
                  · have := (hc.other (B' := Wq.heap.size) (by omega) (.int .i64 (k : Int))).set (.int .i64 ((pre.length : Nat) + 1 : Int))
                    simpa using this
          case done =>
            rintro D2 Y hD2 ⟨⟨c, hc, hcs⟩, hB⟩ hK
            have hownY : Y.ownsMap Try.prog 3 (plainElem Try.prog 3) wc.heap.size n' D := by
              obtain ⟨es, cl, h1, h2⟩ := hown
              exact ⟨es, cl, (hB.block _ (by omega)).trans h1, h2⟩
            have b11 := (hB.cell (p := ⟨wc.heap.size + 1, 0, none⟩) hm1).trans hbmc
            have b7c := (hB.cell (p := ⟨W.heap.size, 0, none⟩) HX.out.bs.lt).trans HX.out.bs.cell
            have hrc : Boxed Y (W.heap.size + 1) 4 (.bool false) := (hB.block _ HX.out.br.lt).trans HX.out.br
            have hrcc := hrc.cell
            have hrcf := hrc.frozen
            have hcc := hc.cell
            have hbe := HX.out.be
            have hFB : Below W.heap.size W (Y.setCell ⟨W.heap.size + 1, 0, none⟩ (.bool true)) := (hbe.trans (hB.mono hbe.size)).setCell (p := ⟨W.heap.size + 1, 0, none⟩) (Nat.le_succ _) _
            have hK' := (KeepsOthers.setCell Y ⟨W.heap.size + 1, 0, none⟩ (.bool true)).same D2 _ hK rfl
            have hc5 := cell_kept (World.cell?_setCell_same' Y ⟨W.heap.size + 1, 0, none⟩ (.bool true) (by rw [hrcc]; rfl)) (grownBy_putObj' _ D2 (.deferred none)) (fun r e => by cases e; exact ⟨_, hK', rfl⟩)
            have hDW : W.heap.size ≤ D2 := by have := hbe.size; omega
            have HFB := Lib.hid hFB
            have HK' := Lib.hid hK'
            have HC5 := Lib.hid hc5
            clear hFB hK' hc5 hK hB hown
            by_cases hcc1 : c = (cnt : Nat)
            · have hcb : (c == ((cnt : Nat) : Int)) = true := by simpa using hcc1
              clear hcc1 hcs
              go_wp2_with (at_len; refine wpList_len_own _ rfl _ 26 rfl 3 3 Try.underlying26 (plainElem Try.prog 3) wc.heap.size n' D rfl hownY ?_; rw [hsz.out])
              refine Rf.postM_ret1c (D := D2) (v := .bool true) rfl HK'.out ?_ ?_
              · have hc5 := HC5.out
                simp [results, Try.f3, go_sem, hc5]
              · exact ⟨rfl, Rf.below_put HFB.out HFB.out.size hDW HK'.out⟩
            · obtain rfl : c = stop := hcs.resolve_left hcc1
              have hcb : (c == ((cnt : Nat) : Int)) = false := by simpa using hcc1
              clear hcc1 hcs
              go_wp2_with (at_len; refine wpList_len_own _ rfl _ 26 rfl 3 3 Try.underlying26 (plainElem Try.prog 3) wc.heap.size n' D rfl hownY ?_; rw [hsz.out])
              refine Rf.postM_ret1c (D := D2) (v := .bool true) rfl HK'.out ?_ ?_
              · have hc5 := HC5.out
                simp [results, Try.f3, go_sem, hc5]
              · exact ⟨rfl, Rf.below_put HFB.out HFB.out.size hDW HK'.out⟩
end Go.Proofs.Ytccknhhjkkbadaa.arenaDoes
