/- Contract: whimbrellaw16.fits, with the closure that sees names. -/
import Derived.Test.YtnaakhnmbckpmaaDsL
import Derived.Maps.Own
import Derived.Maps.OwnOps
import Derived.Maps.OwnSet
import Derived.Maps.Views
import Derived.Test.YtnaakhnmbckpmaaOpX
import Derived.StillTailTactics
namespace Go.Proofs.Ytnaakhnmbckpmaa.Refs
open Go.ChangeShapes Go.WideShapes Go.ChangeAt Go.RowKit Go.Proofs.Ytnaakhnmbckpmaa.Lift Go.Proofs.Ytnaakhnmbckpmaa.Data
set_option linter.unusedVariables false
set_option linter.unusedSimpArgs false
set_option maxRecDepth 100000 in
theorem allTm_any (N : Nat) (w0 : World) : ∀ (e : Tm) (w : World) (v : Value), e.size ≤ N → e.size ≤ 1048576 → e.Val w0 v → Below w0.heap.size w0 w →
    Calls Try.prog 69 #[v] w (NewTm w0 w.heap.size e.flat w) := by
  induction N with
  | zero => intro e w v h; cases e; rw [Tm.size] at h; omega
  | succ N ih =>
    intro e w v hN hB hv h0
    cases e with
    | mk k s n ys  =>
    obtain ⟨A, cap, rfl, ⟨hd1, hd2, hd3, hd4⟩, hs⟩ := hv
    rw [Tm.size_mk] at hN hB
    rw [Tm.flat]
    have hlen := TmSize_len ys
    obtain ⟨i0, hi, hz0, hz1, hz2⟩ := info_parts info29
    have hcs : (Tm.mk k s n ys ).Cs w0 [.int .i64 k, .string s, .int .i64 n, .slice A ys.length cap] := ⟨A, cap, rfl, ⟨hd1, hd2, hd3, hd4⟩, hs⟩
    go_enter Try.func69, Try.ntmps69
    go_wp2_with fail
    go_loopw [3, 11] (fun t i wr => FlatTmRel w0 w.heap.size (Tm.mk k s n ys ) ys w t i wr) (fun _ i _ => ys.length - (intOf i).toNat)
    case atStart =>
      have hb0 : Below w.heap.size w ((w.alloc (.cells #[.int .i64 k, .string s, .int .i64 n, .slice A ys.length cap] 29)).alloc (.cells #[.int .i64 k, .string s, .int .i64 n, .slice A ys.length cap] 29)) := ((Below.refl _ _).alloc (Nat.le_refl _) _).alloc (by simp) _
      exact ⟨0, _, rfl, Nat.zero_le _, own_new2 _ _ 29 4 1 _ rfl (by omega), TmCells.single hcs, hb0⟩
    case round =>
      obtain ⟨j, xs, rfl, hj, hown, hcells, hb⟩ := hrel
      by_cases hlt : j < ys.length
      · obtain ⟨b, o, rfl, hat⟩ := hs.get j hlt
        have hsz := TmSize_get hlt
        have hb0 := h0.trans (hb.mono h0.size)
        have HT := Lib.hid (TmFlats_take hlt)
        have HS := TmSize_take hlt
        have hle2 := TmSize_take_le (ys := ys) (j := j + 1)
        have hf1 := TmFlats_len (ys.take j)
        generalize ys[j] = y at *
        cases y with
        | mk k' s' n' ys'  =>
        obtain ⟨A', cap', c0, c1, c2, c3, hv'⟩ := Tm.At.both hat hb0 (Nat.le_refl _)
        clear hat hs hcs
        have HC := Lib.hid (fun o => ih _ (wr.alloc o) _ (Nat.le_trans hsz (Nat.le_of_succ_le_succ hN)) (by omega) hv' (hb0.alloc hb0.size o))
        have hf2 := Tm.flat_len (Tm.mk k' s' n' ys' )
        have hL : (Tm.mk k s n ys  :: TmFlats (ys.take j)).length = 1 + TmSize (ys.take j) := by rw [List.length_cons, hf1]; omega
        have hg4 : (Tm.mk k s n ys  :: TmFlats (ys.take j)).length + (Tm.mk k' s' n' ys' ).flat.length ≤ maxLen := by unfold maxLen; omega
        have hg5 : ((Tm.mk k s n ys  :: TmFlats (ys.take j)).length + (Tm.mk k' s' n' ys' ).flat.length) * 56 ≤ 140737488355328 := by omega
        clear hf1 hf2 hL HS
        generalize (Tm.mk k' s' n' ys' ).flat = fs at *
        generalize hE : (Tm.mk k s n ys  :: TmFlats (ys.take j)) = es at *
        have HE := Lib.hid hE
        clear hE
        go_wp2_with (first | (go_at_call 69; refine (HC.out _).mono ?_; rintro e w1 ⟨A1, cap1, xs1, rfl, hown1, hcells1, hb1⟩; have hbc := Below.call1 hb1; have hbn := hb.thenCall hb.size hbc; have hown' := own_below hown hbc (Nat.le_refl _); have hsrc := Src.of_own hown1; have hcp := own_cap hown1; have hone1 := hcells1.one; clear hown1 hb1) | (at_builtin; refine wpList_append_src rfl (.tmp 15) (.tmp 17) 27 rfl w.heap.size 29 i0 _ 4 56 Try.underlying27 hi hz0 hz1 hz2 rfl (by omega) u3 es.length xs rfl hown' A1 fs.length cap1 xs1 rfl hsrc hcp hone1 hg4 hg5 hbn.size ?_; intro v2 w2 hown2 hg2))
        have hb2 := below_grown hown' hg2 hbn.size
        refine ⟨⟨j + 1, xs ++ xs1, by go_num, by omega, ?_, ?_, hbn.trans hb2⟩, by simp [intOf]; omega⟩
        · rw [HT.out, ← List.cons_append, HE.out, List.length_append]; exact hown2
        · rw [HT.out, ← List.cons_append, HE.out]; exact hcells.append hcells1
      · go_wp2_with fail
        go_ret
        obtain ⟨A1, cap1, rfl, _, _⟩ := own_form hown
        rw [List.take_of_length_le (by omega)] at hown hcells ⊢
        exact ⟨A1, cap1, xs, rfl, hown, hcells, hb⟩
end Go.Proofs.Ytnaakhnmbckpmaa.Refs
namespace Go.Proofs.Ytnaakhnmbckpmaa.Pats
open Go.ChangeShapes Go.WideShapes Go.ChangeAt Go.RowKit Go.Proofs.Ytnaakhnmbckpmaa.Lift Go.Proofs.Ytnaakhnmbckpmaa.Data Go.Proofs.Ytnaakhnmbckpmaa.Refs Go.Proofs.Ytnaakhnmbckpmaa.Strs Go.Maps
set_option linter.unusedVariables false
set_option linter.unusedSimpArgs false
/-- nothing that was there has turned but blocks of F. -/
structure Turn (F : Nat → Prop) (w w' : World) : Prop where
  os : w'.os = w.os
  tape : w'.tape = w.tape
  output : w'.output = w.output
  size : w.heap.size ≤ w'.heap.size
  block : ∀ b, b < w.heap.size → ¬ F b → w'.heap[b]? = w.heap[b]?
theorem Turn.refl (F : Nat → Prop) (w : World) : Turn F w w := ⟨rfl, rfl, rfl, Nat.le_refl _, fun _ _ _ => rfl⟩
theorem Turn.trans {F : Nat → Prop} {a b c : World} (h : Turn F a b) (k : Turn (fun x => F x ∨ a.heap.size ≤ x) b c) : Turn F a c :=
  ⟨k.os.trans h.os, k.tape.trans h.tape, k.output.trans h.output, Nat.le_trans h.size k.size, fun x hx hf =>
    (k.block x (Nat.lt_of_lt_of_le hx h.size) (fun e => e.elim hf (fun e => by omega))).trans (h.block x hx hf)⟩
theorem Turn.of_below {F : Nat → Prop} {w w' : World} (h : Below w.heap.size w w') : Turn F w w' := ⟨h.os, h.tape, h.output, h.size, fun b hb _ => h.block b hb⟩
theorem Turn.mono {F G : Nat → Prop} {w w' : World} (h : Turn F w w') (hg : ∀ b, F b → G b) : Turn G w w' := ⟨h.os, h.tape, h.output, h.size, fun b hb hn => h.block b hb (fun e => hn (hg b e))⟩
theorem Turn.below {F : Nat → Prop} {B : Nat} {w w' : World} (h : Turn F w w') (hF : ∀ b, F b → B ≤ b) (hB : B ≤ w.heap.size) : Below B w w' :=
  ⟨h.os, h.tape, h.output, h.size, fun b hb => h.block b (Nat.lt_of_lt_of_le hb hB) (fun e => by have := hF b e; omega)⟩
theorem Turn.setCell {F : Nat → Prop} {w w' : World} (h : Turn F w w') {a : Addr} (ha : F a.block ∨ w.heap.size ≤ a.block) (v : Value) : Turn F w (w'.setCell a v) :=
  ⟨h.os, h.tape, h.output, by simpa [World.setCell] using h.size, fun b hb hn => (Below.heap_setCell _ _ _ _ (by
    rintro rfl
    rcases ha with ha | ha
    · exact hn ha
    · omega)).trans (h.block b hb hn)⟩
theorem Turn.alloc {F : Nat → Prop} {w w' : World} (h : Turn F w w') (o : Obj) : Turn F w (w'.alloc o) :=
  ⟨h.os, h.tape, h.output, Nat.le_trans h.size (by simp), fun b hb hn => (Below.heap_alloc _ _ _ (Nat.lt_of_lt_of_le hb h.size)).trans (h.block b hb hn)⟩
theorem Turn.drewN {F : Nat → Prop} {w w' : World} (h : Turn F w w') (n : Nat) : Turn F w (w'.drewN n) := ⟨h.os, h.tape, h.output, h.size, h.block⟩
theorem Turn.drew {F : Nat → Prop} {w w' : World} (h : Turn F w w') : Turn F w w'.drew := ⟨h.os, h.tape, h.output, h.size, h.block⟩
theorem law3 : Keyed Try.prog 3 := int_keyed Try.underlying3
theorem law9 : Keyed Try.prog 9 := string_keyed Try.underlying9
abbrev Nm := List UInt8
/-- what has been seen of names. -/
abbrev Fn := Nm → Option Int
def upd (F : Fn) (a : Nm) (z : Int) : Fn := fun b => if b = a then some z else F b
/-- a map that says it. -/
def Rd (D : DataW Unit) (F : Fn) : Prop := ∀ a : Nm, a.length ≤ maxLen → Maps.has D (.string a) = (F a).isSome ∧ ∀ z, F a = some z → D.atKey (.string a) (.lit (.int .i64 0)) = .lit (.int .i64 z)
theorem strKey {a : Nm} (h : a.length ≤ maxLen) : WideAt.IsKeyLit (.string a) := by
  have hz : (⟨a.toArray⟩ : ByteArray).size ≤ maxLen := by
    have : (⟨a.toArray⟩ : ByteArray).size = a.length := by simp [ByteArray.size]
    omega
  exact law9.key (Go.WideMaps.keyOf_string_mk Try.underlying9 hz)
theorem Rd.put {D : DataW Unit} {F : Fn} (h : Rd D F) (hT : IsMap D) {a : Nm} (ha : a.length ≤ maxLen) (z : Int) : Rd (D.put (.string a) (.lit (.int .i64 z))) (upd F a z) := by
  intro b hb
  unfold upd
  by_cases e : b = a
  · subst e
    rw [if_pos rfl]
    refine ⟨by rw [has_put_same hT (strKey ha)]; rfl, fun y hy => ?_⟩
    rw [atKey_put_same hT (strKey ha)]
    injection hy with hy
    rw [hy]
  · rw [if_neg e]
    have hne : Lit.string b ≠ Lit.string a := fun h => e (by injection h)
    refine ⟨by rw [has_put_other hne]; exact (h b hb).1, fun y hy => ?_⟩
    rw [atKey_put_other hne]
    exact (h b hb).2 y hy
/-- the closure's state. -/
structure FtS (w : World) (bs bo bm n : Nat) (F : Fn) (ok : Bool) : Prop where
  s : w.heap[bs]? = some (.cells #[.map (some bm)] 106 (0, 0))
  o : w.heap[bo]? = some (.cells #[.bool ok] 4 (0, 0))
  m : ∃ D : DataW Unit, w.ownsMap Try.prog 9 (plainElem Try.prog 3) bm n D ∧ Rd D F
theorem FtS.ne {w : World} {bs bo bm n : Nat} {F : Fn} {ok : Bool} (h : FtS w bs bo bm n F ok) : bs ≠ bo ∧ bs ≠ bm ∧ bo ≠ bm := by
  obtain ⟨h1, h2, D, ⟨es, cl, h3, -⟩, -⟩ := h
  refine ⟨?_, ?_, ?_⟩
  · rintro rfl; rw [h1] at h2; simp at h2
  · rintro rfl; rw [h1] at h3; simp at h3
  · rintro rfl; rw [h2] at h3; simp at h3
theorem FtS.keep {w w' : World} {bs bo bm n : Nat} {F : Fn} {ok : Bool} (h : FtS w bs bo bm n F ok) (h1 : w'.heap[bs]? = w.heap[bs]?) (h2 : w'.heap[bo]? = w.heap[bo]?) (h3 : w'.heap[bm]? = w.heap[bm]?) : FtS w' bs bo bm n F ok := by
  obtain ⟨a1, a2, D, ⟨es, cl, a3, a4⟩, a5⟩ := h
  exact ⟨h1.trans a1, h2.trans a2, D, ⟨es, cl, h3.trans a3, a4⟩, a5⟩
theorem FtS.lt {w : World} {bs bo bm n : Nat} {F : Fn} {ok : Bool} (h : FtS w bs bo bm n F ok) : bs < w.heap.size ∧ bo < w.heap.size ∧ bm < w.heap.size := by
  obtain ⟨h1, h2, D, h3, -⟩ := h
  exact ⟨(Array.getElem?_eq_some_iff.1 h1).1, (Array.getElem?_eq_some_iff.1 h2).1, h3.lt⟩
theorem FtS.below {w w' : World} {bs bo bm n : Nat} {F : Fn} {ok : Bool} (h : FtS w bs bo bm n F ok) (hb : Below w.heap.size w w') : FtS w' bs bo bm n F ok :=
  h.keep (hb.block _ h.lt.1) (hb.block _ h.lt.2.1) (hb.block _ h.lt.2.2)
def okN (ok : Bool) (F : Fn) (a : Nm) (z : Int) : Bool := ok && (match F a with | none => true | some y => y == z)
/-- what stays, and what is new. -/
theorem okN_true {ok : Bool} {F : Fn} {a : Nm} {z : Int} (h : okN ok F a z = true) : ok = true ∧ upd F a z a = some z ∧ ∀ b y, F b = some y → upd F a z b = some y := by
  unfold okN at h
  rw [Bool.and_eq_true] at h
  refine ⟨h.1, by simp [upd], fun b y hb => ?_⟩
  unfold upd
  by_cases e : b = a
  · subst e
    rw [if_pos rfl]
    rw [hb] at h
    simp at h
    rw [h.2]
  · rw [if_neg e]; exact hb
set_option maxRecDepth 100000 in
set_option maxHeartbeats 2000000 in
theorem see_any (w : World) (bs bo bm n : Nat) (F : Fn) (ok : Bool) (s : ByteArray) (z : Int) (h : FtS w bs bo bm n F ok) (hs : s.size ≤ maxLen) (hz : (Lit.int .i64 z).wf = true) (hn : n < maxLen) :
    Calls Try.prog 68 #[.string s, .int .i64 z, .pointer (some ⟨bs, 0, none⟩), .pointer (some ⟨bo, 0, none⟩)] w fun r w' => (∃ vr, r = .returned vr) ∧ FtS w' bs bo bm (n + 1) (upd F s.data.toList z) (okN ok F s.data.toList z) ∧ Turn (fun b => b = bo ∨ b = bm) w w' := by
  have hne := h.ne
  have hlt := h.lt
  have hH := Lib.hid h
  obtain ⟨hbs, hbo, D, hown, hrd⟩ := h
  have hsl : s.data.toList.length ≤ maxLen := by rw [Array.length_toList]; exact hs
  have hkey := Go.WideMaps.keyOf_string_mk (P := Try.prog) Try.underlying9 hs
  obtain ⟨v, ps, hrun, hv⟩ := hown.look_ok law9 Try.underlying106 (Try.zeroValue3 _) (plainElem_int Try.underlying3 (by decide)) hkey
  obtain ⟨c, rfl, hc, -⟩ := plainElem_int_inv Try.underlying3 hv
  obtain ⟨r1, r2⟩ := hrd _ hsl
  have HP := Lib.hid (hrd.put hown.isMap hsl z)
  have c1 := cell1of hbs
  have c2 := cell1of hbo
  have hfr : w.frozen? ⟨bo, 0, none⟩ = false := by simp [World.frozen?, hbo]
  have hf1 : ¬ bo = bs := fun e => hne.1 e.symm
  have hf2 : ¬ bs = bo := hne.1
  have hb1 := hlt.1
  have hb2 := hlt.2.1
  have hrunS := fun x => (by
    have hownS := hown.setCell (a := ⟨bo, 0, none⟩) (fun e => hne.2.2 e.symm) x
    exact hownS : (w.setCell ⟨bo, 0, none⟩ x).ownsMap Try.prog 9 (plainElem Try.prog 3) bm n D)
  have HF : Hid (∀ (x : Bool) (w3 : World), w3.ownsMap Try.prog 9 (plainElem Try.prog 3) bm (n + 1) (D.put (.string s.data.toList) (.lit (.int .i64 z))) → (w.setCell ⟨bo, 0, none⟩ (.bool x)).grownBy w3 (some bm) → FtS w3 bs bo bm (n + 1) (upd F s.data.toList z) x ∧ Turn (fun b => b = bo ∨ b = bm) w w3) := Lib.hid (fun x w3 h3 hg => by
    have hsz : (w.setCell ⟨bo, 0, none⟩ (.bool x)).heap.size = w.heap.size := by simp [World.setCell]
    refine ⟨⟨?_, ?_, _, h3, HP.out⟩, ?_⟩
    · rw [hg.block bs (by omega) (fun e => hne.2.1 (Option.some.inj e)), Below.heap_setCell _ _ _ _ (by simp only; omega)]; exact hbs
    · rw [hg.block bo (by omega) (fun e => hne.2.2 (Option.some.inj e))]; exact one_setCell hbo
    · refine ⟨hg.os, hg.tape, hg.output, by have := hg.size; omega, fun b hb hn => ?_⟩
      rw [hg.block b (by omega) (fun e => hn (.inr (Option.some.inj e))), Below.heap_setCell _ _ _ _ (by simp only; exact fun e => hn (.inl e))])
  clear hrd HP hne hlt hH
  rw [r1] at hrun
  unfold okN
  cases ok with
  | false =>
    simp only [Bool.false_and]
    go_enter Try.func68, Try.ntmps68
    go_wp2_with (at_mapUpdate; refine wpList_mapUpdate_own _ rfl _ _ _ 106 rfl 9 3 law9 Try.underlying106 (plainElem Try.prog 3) bm n D rfl (hrunS _) hn _ _ _ rfl rfl hkey _ [] (plainElem_int Try.underlying3 hz) ?_; intro w3 hown3 hg3)
    exact bodyPost_end (results_none rfl _ _ _) rfl ⟨⟨_, rfl⟩, HF.out _ _ hown3 hg3⟩
  | true =>
    simp only [Bool.true_and]
    cases hF : F s.data.toList with
    | none =>
      rw [hF] at hrun
      simp only [Option.isSome_none] at hrun
      go_enter Try.func68, Try.ntmps68
      go_wp2_with (at_mapUpdate; refine wpList_mapUpdate_own _ rfl _ _ _ 106 rfl 9 3 law9 Try.underlying106 (plainElem Try.prog 3) bm n D rfl (hrunS _) hn _ _ _ rfl rfl hkey _ [] (plainElem_int Try.underlying3 hz) ?_; intro w3 hown3 hg3)
      exact bodyPost_end (results_none rfl _ _ _) rfl ⟨⟨_, rfl⟩, HF.out _ _ hown3 hg3⟩
    | some y =>
      rw [hF] at hrun
      simp only [Option.isSome_some] at hrun
      have hy := r2 y hF
      rw [hy] at hc
      injection hc with hc
      injection hc with hc
      injection hc with hc hc'
      subst hc'
      clear r2 r1 hF hy
      go_enter Try.func68, Try.ntmps68
      go_wp2_with (at_mapUpdate; refine wpList_mapUpdate_own _ rfl _ _ _ 106 rfl 9 3 law9 Try.underlying106 (plainElem Try.prog 3) bm n D rfl (hrunS _) hn _ _ _ rfl rfl hkey _ [] (plainElem_int Try.underlying3 hz) ?_; intro w3 hown3 hg3)
      exact bodyPost_end (results_none rfl _ _ _) rfl ⟨⟨_, rfl⟩, HF.out _ _ hown3 hg3⟩
end Go.Proofs.Ytnaakhnmbckpmaa.Pats
namespace Go.Proofs.Ytnaakhnmbckpmaa.Pats
open Go.ChangeShapes Go.WideShapes Go.ChangeAt Go.RowKit Go.Proofs.Ytnaakhnmbckpmaa.Lift Go.Proofs.Ytnaakhnmbckpmaa.Data Go.Proofs.Ytnaakhnmbckpmaa.Refs Go.Proofs.Ytnaakhnmbckpmaa.Strs Go.Maps
set_option linter.unusedVariables false
set_option linter.unusedSimpArgs false
theorem isKey3 (i : Int) (h : (Lit.int .i64 i).wf = true) : WideAt.IsKeyLit (.int .i64 i) := law3.key (keyOf_int_mk Try.underlying3 h)
theorem lit_ne3 {i k : Int} (h : ¬ i = k) : Lit.int .i64 i ≠ Lit.int .i64 k := fun e => h (by injection e)
theorem wf3 {i : Int} (h0 : 0 ≤ i) (h1 : i ≤ 1048576) : (Lit.int .i64 i).wf = true := WalkArith.wf_i64 (by omega)
theorem plainElem_bool_inv {P : Program} {e : TypeId} (he : P.underlying e = some .bool) {v : Value} {z : DataW Unit × List MemPlace} (h : plainElem (H := Unit) P e v = some z) : ∃ x, v = .bool x ∧ z = (.lit (.bool x), []) := by
  unfold plainElem at h
  rw [he] at h
  cases v <;> simp at h
  obtain rfl := h
  exact ⟨_, rfl, rfl⟩
/-- a map of places that were seen. -/
def Seen (w : World) (mr n : Nat) (ks : List Int) : Prop := ∃ D : DataW Unit, w.ownsMap Try.prog 3 (plainElem Try.prog 4) mr n D ∧ ∀ i, (Lit.int .i64 i).wf = true → D.atKey (.int .i64 i) (.lit (.bool false)) = .lit (.bool (decide (i ∈ ks)))
theorem Seen.lt {w : World} {mr n : Nat} {ks : List Int} (h : Seen w mr n ks) : mr < w.heap.size := by obtain ⟨D, h1, _⟩ := h; exact h1.lt
theorem Seen.keep {w w' : World} {mr n : Nat} {ks : List Int} (h : Seen w mr n ks) (hb : w'.heap[mr]? = w.heap[mr]?) : Seen w' mr n ks := by
  obtain ⟨D, ⟨es, cl, h1, h2⟩, h3⟩ := h
  exact ⟨D, ⟨es, cl, hb.trans h1, h2⟩, h3⟩
theorem Seen.made (w : World) : Seen (w.alloc (.map #[] 0)) w.heap.size 0 [] := ⟨.map [], World.ownsMap_made w Try.prog 3 _, fun i hi => rfl⟩
set_option maxRecDepth 100000 in
theorem Seen.look {w : World} {mr n : Nat} {ks : List Int} (h : Seen w mr n ks) {i : Int} (hi : (Lit.int .i64 i).wf = true) : (Instr.lookup 109 (.map (some mr)) (.int .i64 i) false).run Try.prog w = .ok (.bool (decide (i ∈ ks))) w := by
  obtain ⟨D, h1, h6⟩ := h
  obtain ⟨v, ps, hrun, hv⟩ := h1.lookup law3 Try.underlying109 (Try.zeroValue4 _) (plainElem_bool Try.underlying4 false) (keyOf_int_mk Try.underlying3 hi)
  obtain ⟨x, rfl, hx⟩ := plainElem_bool_inv Try.underlying4 hv
  rw [h6 i hi] at hx
  injection hx with hx _
  injection hx with hx
  injection hx with hx
  rw [hrun, hx]
theorem seen_put {w' : World} {mr n : Nat} {ks : List Int} {i : Int} {D : DataW Unit} (hT : IsMap D) (h6 : ∀ i, (Lit.int .i64 i).wf = true → D.atKey (.int .i64 i) (.lit (.bool false)) = .lit (.bool (decide (i ∈ ks)))) (hi : (Lit.int .i64 i).wf = true) (hp : w'.ownsMap Try.prog 3 (plainElem Try.prog 4) mr (n + 1) (D.put (.int .i64 i) (.lit (.bool true)))) : Seen w' mr (n + 1) (i :: ks) := by
  refine ⟨_, hp, fun j hj => ?_⟩
  by_cases e : j = i
  · subst e
    rw [atKey_put_same hT (isKey3 _ hi)]
    simp
  · rw [atKey_put_other (lit_ne3 e), h6 j hj]
    simp [e]
/-- what is known once a place of a flat row has been seen. -/
def At4 (F : Fn) (fl : List Ex) (i : Nat) : Prop :=
  ∀ e, fl[i]? = some e → (e.k = 4 → ∀ y r, e.ys = y :: r → F y.s.data.toList = some (r.length : Int)) ∧ (e.k = 2 → (∀ j d, i = j + 1 → fl[j]? = some d → d.k ≠ 4) → F e.s.data.toList = some 0)
def GoodF (F : Fn) (p : Ex) : Prop := ∀ i, i < p.flat.length → At4 F p.flat i
def AtT (F : Fn) (x : Tm) : Prop := (x.k = 1 → F x.s.data.toList = some (x.ys.length : Int)) ∧ (x.k = 1 ∨ x.k = 2)
def Ext (F F' : Fn) : Prop := ∀ b y, F b = some y → F' b = some y
theorem At4.ext {F F' : Fn} {fl : List Ex} {i : Nat} (h : At4 F fl i) (hx : Ext F F') : At4 F' fl i := fun e he => ⟨fun h4 y r hy => hx _ _ ((h e he).1 h4 y r hy), fun h2 hn => hx _ _ ((h e he).2 h2 hn)⟩
theorem GoodF.ext {F F' : Fn} {p : Ex} (h : GoodF F p) (hx : Ext F F') : GoodF F' p := fun i hi => (h i hi).ext hx
theorem AtT.ext {F F' : Fn} {x : Tm} (h : AtT F x) (hx : Ext F F') : AtT F' x := ⟨fun h1 => hx _ _ (h.1 h1), h.2⟩
def notS (bo bm ms : Nat) (b : Nat) : Bool := !(decide (b = bo) || decide (b = bm) || decide (b = ms))
theorem notS_iff {bo bm ms b : Nat} : notS bo bm ms b = true ↔ ¬ (b = bo ∨ b = bm ∨ b = ms) := by simp [notS, not_or, and_assoc]
theorem sub_turn {w w' : World} {bo bm ms : Nat} (h : Turn (fun b => b = bo ∨ b = bm ∨ b = ms) w w') : Data.Sub (part w (notS bo bm ms)) w' := by
  intro b o v hv
  rw [part_cell] at hv
  split at hv
  · rename_i hs
    have hlt := World.block_lt_of_cell? w _ hv
    unfold World.cell? at hv ⊢
    simp only at hv ⊢ hlt
    rw [h.block b hlt (notS_iff.1 hs)]
    exact hv
  · cases hv
theorem sub_notS {w0 w : World} {bo bm ms : Nat} (h : Below w0.heap.size w0 w) (h1 : w0.heap.size ≤ bo) (h2 : w0.heap.size ≤ bm) (h3 : w0.heap.size ≤ ms) : Data.Sub w0 (part w (notS bo bm ms)) := by
  intro b o v hv
  have g := cellB h (Nat.le_refl _) hv
  have hlt := World.block_lt_of_cell? w0 _ hv
  simp only at hlt
  rw [part_cell, if_pos (notS_iff.2 (by omega))]
  exact g
mutual
/-- each application in a pattern has a head. -/
theorem pat_head : ∀ p : Ex, patS p = true → ∀ e ∈ p.flat, e.k = 4 → e.ys ≠ []
  | .mk k s n ys l c, h, e, he, h4 => by
    rw [Ex.flat] at he
    rcases List.mem_cons.1 he with rfl | he
    · simp only [Ex.k] at h4
      subst h4
      rw [patS.eq_def] at h
      simp only [show ¬ ((4 : Int) = 1 ∨ (4 : Int) = 9 ∨ (4 : Int) = 3 ∨ (4 : Int) = 2) by omega, if_false, if_true] at h
      cases ys with
      | nil => simp at h
      | cons y r => simp [Ex.ys]
    · exact pats_head ys (by
        rw [patS.eq_def] at h
        simp only at h
        by_cases g : k = 1 ∨ k = 9 ∨ k = 3 ∨ k = 2
        · rw [if_pos g] at h
          have : ys = [] := List.eq_nil_of_length_eq_zero (by simpa using h)
          subst this
          rw [ExFlats] at he
          cases he
        · rw [if_neg g] at h
          by_cases g4 : k = 4
          · rw [if_pos g4] at h
            cases ys with
            | nil => rw [ExFlats] at he; cases he
            | cons y r =>
              simp only [Bool.and_eq_true, decide_eq_true_eq] at h
              obtain ⟨a1, a2, a3, a4⟩ := h
              rw [patsS, a4, Bool.and_true]
              cases y with
              | mk k' s' n' ys' l' c' =>
              simp only [Ex.k, Ex.ys] at a2 a3
              rw [patS.eq_def]
              simp only
              rw [if_pos (by omega), decide_eq_true_eq]
              exact a3
          · rw [if_neg g4] at h; cases h) e he h4
theorem pats_head : ∀ ps : List Ex, patsS ps = true → ∀ e ∈ ExFlats ps, e.k = 4 → e.ys ≠ []
  | [], _, e, he, _ => by rw [ExFlats] at he; cases he
  | p :: r, h, e, he, h4 => by
    rw [patsS, Bool.and_eq_true] at h
    rw [ExFlats, List.mem_append] at he
    rcases he with he | he
    · exact pat_head p h.1 e he h4
    · exact pats_head r h.2 e he h4
end
theorem mem_all_take {α : Type} {P : α → Prop} {l : List α} {j : Nat} (h : l.length ≤ j) (hh : ∀ x ∈ l.take j, P x) : ∀ x ∈ l, P x := by rwa [List.take_of_length_le h] at hh
/-- what a rule that may be asked is. -/
structure FtR (rules : List (List Ex)) (args : List Tm) : Prop where
  len : rules.length ≤ 8
  size : ∀ l ∈ rules, ExSize l ≤ 200
  pat : ∀ l ∈ rules, patsS l = true
  nm : ∀ l ∈ rules, exNms l
  asz : TmSize args ≤ 200
  anm : tmNms args
def FtPost (rules : List (List Ex)) (args : List Tm) (F : Fn) : Prop := (∀ l ∈ rules, ∀ p ∈ l, GoodF F p) ∧ ∀ x ∈ TmFlats args, AtT F x
def bd (j q u : Nat) : Nat := j * 1000000 + q * 1000 + u
theorem bd_u (j q u : Nat) : bd j q u + 1 ≤ bd j q (u + 1) := by unfold bd; omega
theorem bd_u' (j q u : Nat) : bd j q u ≤ bd j q (u + 1) := by unfold bd; omega
theorem bd_q {j q u : Nat} (h : u ≤ 200) : bd j q u ≤ bd j (q + 1) 0 := by unfold bd; omega
theorem bd_j {j q : Nat} (h : q ≤ 200) : bd j q 0 ≤ bd (j + 1) 0 0 := by unfold bd; omega
theorem bd_max {j q u : Nat} (h1 : j ≤ 8) (h2 : q ≤ 200) (h3 : u ≤ 1000) : bd j q u < maxLen := by unfold bd maxLen; omega
theorem Turn.below3 {w w' : World} {B bo bm : Nat} (h : Turn (fun b => b = bo ∨ b = bm) w w') (h1 : B ≤ bo) (h2 : B ≤ bm) (hB : B ≤ w.heap.size) : Below B w w' := h.below (fun b e => by omega) hB
mutual
theorem exNm_all : ∀ e : Ex, exNm e → ∀ x ∈ e.flat, exNm x
  | .mk k s n ys l c, h, x, hx => by
    rw [Ex.flat] at hx
    rcases List.mem_cons.1 hx with rfl | hx
    · exact h
    · rw [exNm] at h
      exact exNms_all ys h.2 x hx
theorem exNms_all : ∀ es : List Ex, exNms es → ∀ x ∈ ExFlats es, exNm x
  | [], _, x, hx => by rw [ExFlats] at hx; cases hx
  | e :: r, h, x, hx => by
    rw [exNms] at h
    rw [ExFlats, List.mem_append] at hx
    rcases hx with hx | hx
    · exact exNm_all e h.1 x hx
    · exact exNms_all r h.2 x hx
end
/-- what the innermost loop knows. -/
structure In3 (w2 wr : World) (W ms n cnt : Nat) (F : Fn) (ok : Bool) (fl : List Ex) (ks : List Int) : Prop where
  st : FtS wr (W + 1) (W + 1 + 1) W n F ok
  sn : Seen wr ms cnt ks
  kk : ∀ x ∈ ks, ∃ j d, x = ((j + 1 : Nat) : Int) ∧ fl[j]? = some d ∧ d.k = 4
  tr : Turn (fun b => b = W + 1 + 1 ∨ b = W ∨ b = ms) w2 wr
theorem In3.alloc {w2 wr : World} {W ms n cnt : Nat} {F : Fn} {ok : Bool} {fl : List Ex} {ks : List Int} (h : In3 w2 wr W ms n cnt F ok fl ks) (o : Obj) : In3 w2 (wr.alloc o) W ms n cnt F ok fl ks :=
  ⟨h.st.below (below1 wr o), h.sn.keep ((below1 wr o).block _ h.sn.lt), h.kk, h.tr.alloc o⟩
theorem In3.drew {w2 wr : World} {W ms n cnt : Nat} {F : Fn} {ok : Bool} {fl : List Ex} {ks : List Int} (h : In3 w2 wr W ms n cnt F ok fl ks) : In3 w2 wr.drew W ms n cnt F ok fl ks :=
  ⟨h.st.below (Below.refl _ _).drew, h.sn.keep rfl, h.kk, h.tr.drew⟩
theorem In3.see {w2 wr w3 : World} {W ms n cnt n' : Nat} {F F' : Fn} {ok ok' : Bool} {fl : List Ex} {ks : List Int} (h : In3 w2 wr W ms n cnt F ok fl ks) (hms : W + 1 + 1 < ms) (hs : FtS w3 (W + 1) (W + 1 + 1) W n' F' ok') (ht : Turn (fun b => b = W + 1 + 1 ∨ b = W) wr w3) : In3 w2 w3 W ms n' cnt F' ok' fl ks :=
  ⟨hs, h.sn.keep (ht.block _ h.sn.lt (by omega)), h.kk, h.tr.trans (ht.mono fun b e => .inl (by omega))⟩
theorem In3.put {w2 wr w3 : World} {W ms n cnt u : Nat} {F : Fn} {ok : Bool} {fl : List Ex} {ks : List Int} (h : In3 w2 wr W ms n cnt F ok fl ks) (hms : W + 1 + 1 < ms) {D : DataW Unit} (hT : IsMap D) (h6 : ∀ i, (Lit.int .i64 i).wf = true → D.atKey (.int .i64 i) (.lit (.bool false)) = .lit (.bool (decide (i ∈ ks))))
    (hi : (Lit.int .i64 ((u : Int) + 1)).wf = true) (hp : w3.ownsMap Try.prog 3 (plainElem Try.prog 4) ms (cnt + 1) (D.put (.int .i64 ((u : Int) + 1)) (.lit (.bool true)))) (hg : wr.grownBy w3 (some ms)) {d : Ex} (hd : fl[u]? = some d) (h4 : d.k = 4) : In3 w2 w3 W ms n (cnt + 1) F ok fl (((u : Int) + 1) :: ks) := by
  obtain ⟨l1, l2, l3⟩ := h.st.lt
  refine ⟨h.st.keep (hg.block _ l1 (fun e => ?_)) (hg.block _ l2 (fun e => ?_)) (hg.block _ l3 (fun e => ?_)), seen_put hT h6 hi hp, ?_, ?_⟩
  · have := Option.some.inj e; omega
  · have := Option.some.inj e; omega
  · have := Option.some.inj e; omega
  · intro x hx
    rcases List.mem_cons.1 hx with rfl | hx
    · exact ⟨u, d, by omega, hd, h4⟩
    · exact h.kk x hx
  · refine h.tr.trans ⟨hg.os, hg.tape, hg.output, hg.size, fun b hb hn => hg.block b hb (fun e => hn (.inl (.inr (.inr (Option.some.inj e)))))⟩
def Prg (rj : List (List Ex)) (lq : List Ex) (fl : List Ex) (u : Nat) (F : Fn) : Prop := (∀ l ∈ rj, ∀ p ∈ l, GoodF F p) ∧ (∀ p ∈ lq, GoodF F p) ∧ ∀ i, i < u → At4 F fl i
theorem Prg.next {rj : List (List Ex)} {lq : List Ex} {fl : List Ex} {u : Nat} {F F' : Fn} (h : Prg rj lq fl u F) (hx : Ext F F') (hn : At4 F' fl u) : Prg rj lq fl (u + 1) F' :=
  ⟨fun l hl p hp => (h.1 l hl p hp).ext hx, fun p hp => (h.2.1 p hp).ext hx, fun i hi => by
    by_cases e : i = u
    · subst e; exact hn
    · exact (h.2.2 i (by omega)).ext hx⟩
theorem at4_head {F : Fn} {fl : List Ex} {u : Nat} {z : Ex} (hg : fl[u]? = some z) (h4 : ¬ z.k = 4) (hk : ∃ j d, ((u : Nat) : Int) = ((j + 1 : Nat) : Int) ∧ fl[j]? = some d ∧ d.k = 4) : At4 F fl u := by
  obtain ⟨j, d, h1, h2, h3⟩ := hk
  intro e he
  rw [hg] at he
  obtain rfl := Option.some.inj he
  exact ⟨fun h => absurd h h4, fun _ hn => absurd h3 (hn j d (by omega) h2)⟩
theorem at4_zero {F : Fn} {fl : List Ex} {u : Nat} {z : Ex} (hg : fl[u]? = some z) (h4 : ¬ z.k = 4) (hf : F z.s.data.toList = some 0) : At4 F fl u := by
  intro e he
  rw [hg] at he
  obtain rfl := Option.some.inj he
  exact ⟨fun h => absurd h h4, fun _ _ => hf⟩
theorem at4_app {F : Fn} {fl : List Ex} {u : Nat} {z y : Ex} {r : List Ex} (hg : fl[u]? = some z) (h2 : ¬ z.k = 2) (hy : z.ys = y :: r) (hf : F y.s.data.toList = some (r.length : Int)) : At4 F fl u := by
  intro e he
  rw [hg] at he
  obtain rfl := Option.some.inj he
  refine ⟨fun _ y' r' h => ?_, fun h => absurd h h2⟩
  rw [hy] at h
  obtain ⟨rfl, rfl⟩ := List.cons.inj h
  exact hf
theorem bd_8 {j : Nat} (h : j ≤ 8) : bd j 0 0 ≤ bd 8 0 0 := by unfold bd; omega
theorem FtS.setok {w : World} {bs bo bm n : Nat} {F : Fn} {ok : Bool} (h : FtS w bs bo bm n F ok) (ok2 : Bool) : FtS (w.setCell ⟨bo, 0, none⟩ (.bool ok2)) bs bo bm n F ok2 := by
  obtain ⟨n1, n2, n3⟩ := h.ne
  obtain ⟨a1, a2, D, ⟨es, cl, a3, a4⟩, a5⟩ := h
  refine ⟨?_, one_setCell a2, D, ⟨es, cl, ?_, a4⟩, a5⟩
  · rw [Below.heap_setCell _ _ _ _ n1]; exact a1
  · rw [Below.heap_setCell _ _ _ _ (fun e => n3 e.symm)]; exact a3
def PrT (rules : List (List Ex)) (ak : List Tm) (tl : List Tm) (u : Nat) (F : Fn) : Prop := (∀ l ∈ rules, ∀ p ∈ l, GoodF F p) ∧ (∀ x ∈ TmFlats ak, AtT F x) ∧ ∀ x ∈ tl.take u, AtT F x
theorem PrT.next {rules : List (List Ex)} {ak tl : List Tm} {u : Nat} {F F' : Fn} {z : Tm} (h : PrT rules ak tl u F) (hx : Ext F F') (hz : tl[u]? = some z) (hn : AtT F' z) : PrT rules ak tl (u + 1) F' :=
  ⟨fun l hl p hp => (h.1 l hl p hp).ext hx, fun x hx' => (h.2.1 x hx').ext hx, fun x hx' => by
    obtain ⟨h1, h2⟩ := List.getElem?_eq_some_iff.1 hz
    rw [List.take_succ_eq_append_getElem h1, List.mem_append, List.mem_singleton] at hx'
    rcases hx' with hx' | rfl
    · exact (h.2.2 x hx').ext hx
    · rw [h2]; exact hn⟩
theorem tmFlats_take_mem : ∀ {es : List Tm} {j : Nat} {x : Tm}, x ∈ TmFlats (es.take j) → x ∈ TmFlats es
  | [], j, x, h => by simpa using h
  | e :: r, 0, x, h => by rw [List.take_zero, TmFlats] at h; cases h
  | e :: r, j + 1, x, h => by
    rw [List.take_succ_cons, TmFlats, List.mem_append] at h
    rw [TmFlats, List.mem_append]
    rcases h with h | h
    · exact .inl h
    · exact .inr (tmFlats_take_mem h)
set_option maxRecDepth 100000 in
set_option maxHeartbeats 2000000 in
theorem ftfits_any (w0 w : World) (rv av : Value) (rules : List (List Ex)) (args : List Tm) (hR : RS w0 rv rules) (hA : Tm.Sl w0 av args) (hok : FtR rules args) (h0 : Below w0.heap.size w0 w) :
    Calls Try.prog 44 #[rv, av] w fun r w' => ∃ b : Bool, r = .returned (.bool b) ∧ (b = true → ∃ F : Fn, FtPost rules args F) ∧ Below w.heap.size w w' := by
  obtain ⟨Ar, cr, xr, rfl, r1, r2, r3, r4, r5, r6⟩ := hR
  have HA := Lib.hid hA
  obtain ⟨Aa, ca, rfl, -⟩ := hA
  have hz0 := h0.size
  have hmm := @run_makeMap Try.prog
  have HOK := Lib.hid hok
  have hlen8 := hok.len
  clear hok
  go_enter Try.func44, Try.ntmps44
  go_wp2_with fail
  go_loopw [23] (fun i wr => ∃ (j n : Nat) (F : Fn) (ok : Bool), i = .int .i64 j ∧ j ≤ rules.length ∧ FtS wr (w.heap.size + 1) (w.heap.size + 1 + 1) w.heap.size n F ok ∧ Hid (ok = true → ∀ l ∈ rules.take j, ∀ p ∈ l, GoodF F p) ∧ n ≤ bd j 0 0 ∧ Below w.heap.size w wr) (fun i _ => rules.length - (intOf i).toNat)
  case atStart =>
    have hV : ∃ V, V = ((w.alloc (.map #[] 0)).alloc (.cells #[.map (some w.heap.size)] 106)).alloc (.cells #[.bool true] 4) := ⟨_, rfl⟩
    obtain ⟨V, hV⟩ := hV
    have f0 : V.heap[w.heap.size]? = some (.map #[] 0) := by
      rw [hV, heap_alloc_old _ _ (by simp <;> omega), heap_alloc_old _ _ (by simp)]
      exact heap_alloc_new w _
    have f1 : V.heap[w.heap.size + 1]? = some (.cells #[.map (some w.heap.size)] 106 (0, 0)) := by
      rw [hV, heap_alloc_old _ _ (by simp)]
      have := heap_alloc_new (w.alloc (.map #[] 0)) (.cells #[.map (some w.heap.size)] 106)
      rw [World.size_alloc] at this
      exact this
    have f2 : V.heap[w.heap.size + 1 + 1]? = some (.cells #[.bool true] 4 (0, 0)) := by
      rw [hV]
      have := heap_alloc_new ((w.alloc (.map #[] 0)).alloc (.cells #[.map (some w.heap.size)] 106)) (.cells #[.bool true] 4)
      simp only [World.size_alloc] at this
      exact this
    have hbV : Below w.heap.size w V := by rw [hV]; exact (below2 w _ _).alloc (by simp <;> omega) _
    obtain ⟨D, hD⟩ : ∃ D : DataW Unit, D = .map [] := ⟨_, rfl⟩
    have hst : FtS V (w.heap.size + 1) (w.heap.size + 1 + 1) w.heap.size 0 (fun _ => none) true := by
      refine ⟨f1, f2, .map [], ?_, fun a ha => ⟨rfl, fun z hz => by cases hz⟩⟩
      obtain ⟨es, cl, g1, g2⟩ := World.ownsMap_made (H := Unit) w Try.prog 9 (plainElem Try.prog 3)
      rw [heap_alloc_new] at g1
      injection g1 with g1
      injection g1 with g1 g1'
      subst g1 g1'
      exact ⟨_, _, f0, g2⟩
    rw [hV] at hst hbV
    exact ⟨0, 0, _, true, rfl, Nat.zero_le _, hst, Lib.hid (fun _ l hl => by rw [List.take_zero] at hl; cases hl), Nat.zero_le _, hbV⟩
  case round =>
    obtain ⟨j, n, F, ok, rfl, hj, hst, hP, hn, hb⟩ := hrel
    by_cases hlt : j < rules.length
    · obtain ⟨b, o, lv, rfl, hbl, hc, hsl⟩ := RS_get r5 r6 j hlt
      have hb0 := h0.trans (hb.mono h0.size)
      have d0 := cellB hb0 (Nat.le_refl _) hc
      have hbl2 := World.block_lt_of_cell? _ _ d0
      simp only at hbl2
      have hmem := List.getElem_mem hlt
      have h200 := HOK.out.size _ hmem
      have HPat := Lib.hid (HOK.out.pat _ hmem)
      have HNm := Lib.hid (HOK.out.nm _ hmem)
      have HNX : Hid (∀ F' : Fn, (∀ l ∈ rules.take j, ∀ p ∈ l, GoodF F' p) → (∀ p ∈ rules[j], GoodF F' p) → ∀ l ∈ rules.take (j + 1), ∀ p ∈ l, GoodF F' p) := Lib.hid (fun F' h1 h2 => all_take_succ hlt h1 h2)
      generalize rules.take j = rj at *
      generalize rules[j] = l at *
      obtain ⟨Al, capl, rfl, ⟨l1, l2, l3, l4⟩, hs⟩ := hsl
      clear hmem hc
      go_wp2_with fail
      go_loopw [29] (fun i wr => ∃ (q n : Nat) (F : Fn) (ok : Bool), i = .int .i64 q ∧ q ≤ l.length ∧ FtS wr (w.heap.size + 1) (w.heap.size + 1 + 1) w.heap.size n F ok ∧ Hid (ok = true → (∀ l ∈ rj, ∀ p ∈ l, GoodF F p) ∧ ∀ p ∈ l.take q, GoodF F p) ∧ n ≤ bd j q 0 ∧ Below w.heap.size w wr) (fun i _ => l.length - (intOf i).toNat)
      case atStart => exact ⟨0, n, F, ok, rfl, Nat.zero_le _, hst, Lib.hid (fun h => ⟨hP.out h, by simp⟩), hn, hb⟩
      case round =>
        clear hst hP hn hb d0 hb0
        obtain ⟨q, n, F, ok, rfl, hq, hst, hP, hn, hb⟩ := hrel
        have hlen2 := ExSize_len l
        by_cases hltq : q < l.length
        · obtain ⟨be, oe, rfl, hat⟩ := hs.get q hltq
          have hb0 := h0.trans (hb.mono h0.size)
          have hsz := ExSize_get hltq
          have HNQ : Hid (∀ F' : Fn, (∀ p ∈ l.take q, GoodF F' p) → GoodF F' l[q] → ∀ p ∈ l.take (q + 1), GoodF F' p) := Lib.hid (fun F' h1 h2 => all_take_succ hltq h1 h2)
          have HPH := Lib.hid (pat_head l[q] (patsS_get hltq HPat.out))
          have HNF : Hid (∀ x ∈ l[q].flat, exNm x) := Lib.hid (fun x hx => exNms_all l HNm.out x (mem_flats (List.getElem_mem hltq) hx))
          have hfl := Ex.flat_len l[q]
          generalize l[q] = y at *
          generalize l.take q = lq at *
          have HY := Lib.hid (show ∀ F', (∀ i, i < y.flat.length → At4 F' y.flat i) → GoodF F' y from fun F' h => h)
          cases y with
          | mk k' s' n' ys' l' c' =>
          obtain ⟨A', cap', c0, c1, c2, c3, c4, c5, hv'⟩ := Ex.At.both hat hb0 (Nat.le_refl _)
          have hble := World.block_lt_of_cell? _ _ c0
          simp only at hble
          have HFl := fun W h => Lib.hid (allEx_any _ w0 _ W _ (Nat.le_refl _) (by omega) hv' h)
          clear hat
          have hfl2 : (Ex.mk k' s' n' ys' l' c').flat.length ≤ 200 := by omega
          generalize (Ex.mk k' s' n' ys' l' c').flat = fl at *
          clear hfl hsz
          have hstl := hst.lt
          have hb1 := below1 wr (.cells #[.int .i64 k', .string s', .int .i64 n', .slice A' ys'.length cap', .int .i64 l', .int .i64 c'] 26)
          have hb2 := hb1.alloc hb1.size (.map #[] 0)
          have hs2 : ((wr.alloc (.cells #[.int .i64 k', .string s', .int .i64 n', .slice A' ys'.length cap', .int .i64 l', .int .i64 c'] 26)).alloc (.map #[] 0)).heap.size = wr.heap.size + 1 + 1 := by simp
          have HF1 := HFl _ (h0.trans ((hb.thenCall hb.size hb2).mono h0.size))
          have hSn := Seen.made (wr.alloc (.cells #[.int .i64 k', .string s', .int .i64 n', .slice A' ys'.length cap', .int .i64 l', .int .i64 c'] 26))
          rw [World.size_alloc] at hSn
          have hst2 := hst.below hb2
          have hbw2 := hb.thenCall hb.size hb2
          clear HFl
          go_wp2_with fail
          generalize (wr.alloc (.cells #[.int .i64 k', .string s', .int .i64 n', .slice A' ys'.length cap', .int .i64 l', .int .i64 c'] 26)).alloc (.map #[] 0) = W1 at *
          refine HF1.out.mono ?_
          rintro _ w2 ⟨A2, cap2, xs2, rfl, hown2, hcells2, hbc2⟩
          have hst3 := hst2.below hbc2
          have hSn3 := hSn.keep (hbc2.block _ (by omega))
          have hbw3 := hbw2.thenCall hbw2.size hbc2
          have hz2 := hbc2.size
          have hbz := hb.size
          have hslF : Ex.Sl (part w2 (notS (w.heap.size + 1 + 1) w.heap.size (wr.heap.size + 1))) (.slice A2 fl.length cap2) fl := by
            obtain ⟨A9, c9, e9, h91, h92⟩ := own_form hown2
            injection e9 with e91 e92 e93
            subst e91 e93
            refine ⟨_, _, rfl, ⟨h91, h92, by omega, own_cap hown2⟩, ?_⟩
            exact Exs.of_src (src_part hown2 (fun k hk => notS_iff.2 (by omega))) (hcells2.sub (sub_notS (h0.trans (hbw3.mono h0.size)) (by omega) (by omega) (by omega)))
          clear hown2 hcells2 HF1 hSn hst2 hst hs2 hb1 hb2
          obtain ⟨_, _, e9, ⟨m1, m2, m3, m4⟩, hsF⟩ := hslF
          cases e9
          go_wp2_with fail
          have hms3 : w.heap.size + 1 + 1 < wr.heap.size + 1 := by omega
          have hmsl : wr.heap.size + 1 < w2.heap.size := hSn3.lt
          have hI0 : In3 w2 w2 w.heap.size (wr.heap.size + 1) n 0 F ok fl [] := ⟨hst3, hSn3, by simp, Turn.refl _ _⟩
          have hPr : Hid (ok = true → Prg rj lq fl 0 F) := Lib.hid (fun h => ⟨(hP.out h).1, (hP.out h).2, by omega⟩)
          generalize wr.heap.size + 1 = ms at *
          go_loopw [37] (fun i wr => ∃ (u n cnt : Nat) (F : Fn) (ok : Bool) (ks : List Int), i = .int .i64 u ∧ u ≤ fl.length ∧ In3 w2 wr w.heap.size ms n cnt F ok fl ks ∧ Hid (ok = true → Prg rj lq fl u F) ∧ n ≤ bd j q u ∧ cnt ≤ u) (fun i _ => fl.length - (intOf i).toNat)
          case atStart => exact ⟨0, n, 0, F, ok, [], rfl, Nat.zero_le _, hI0, hPr, hn, Nat.le_refl _⟩
          case round =>
            clear hP hn hst3 hSn3 hI0 hPr
            obtain ⟨u, n, cnt, F, ok, ks, rfl, hu, h3, hP, hn, hcnt⟩ := hrel
            have hbwr : Below w.heap.size w wr := hbw3.trans (h3.tr.below (fun b e => by omega) hbw3.size)
            by_cases hltu : u < fl.length
            · have hsub := sub_turn h3.tr
              obtain ⟨bf, of, rfl, hat0⟩ := hsF.get u hltu
              have hat := hat0.sub hsub
              have hget : Hid (fl[u]? = some fl[u]) := Lib.hid (List.getElem?_eq_getElem hltu)
              have HNM := Lib.hid (HNF.out _ (List.getElem_mem hltu))
              have HHD := Lib.hid (HPH.out _ (List.getElem_mem hltu))
              generalize fl[u] = z at *
              have hlo := h3.st.lt
              have hzw := h3.tr.size
              have hu2 : (Lit.int .i64 (u : Int)).wf = true := wf3 (by omega) (by omega)
              cases z with
              | mk k5 s5 n5 ys5 l5 c5' =>
              obtain ⟨A5, cap5, e0, e1, e2, e3, e4, e5, hv5⟩ := Ex.At.both hat (Below.refl _ _) (Nat.le_refl _)
              have hblf := World.block_lt_of_cell? _ _ e0
              simp only at hblf
              have hbx := heap_alloc_new wr (.cells #[.int .i64 k5, .string s5, .int .i64 n5, .slice A5 ys5.length cap5, .int .i64 l5, .int .i64 c5'] 26)
              have hIb := h3.alloc (.cells #[.int .i64 k5, .string s5, .int .i64 n5, .slice A5 ys5.length cap5, .int .i64 l5, .int .i64 c5'] 26)
              have hnm1 := HNM.out
              rw [exNm] at hnm1
              obtain ⟨hns, hnys⟩ := hnm1
              obtain ⟨p0, p1, p2, p3, p4, p5, -⟩ := row6 hbx
              clear hat hat0 HNM
              by_cases hk4 : k5 = 4
              · subst hk4
                have hne := HHD.out rfl
                simp only [Ex.ys] at hne
                cases ys5 with
                | nil => exact absurd rfl hne
                | cons yh yr =>
                obtain ⟨Ay, cy, ey, hdd, hry⟩ := hv5
                injection ey with ey
                have ey2 := congrArg (fun x => x[3]?) ey
                simp at ey2
                obtain ⟨rfl, rfl⟩ := ey2
                clear ey
                obtain ⟨bh, oh, rfl, hath⟩ := hry.get 0 (by simp)
                simp only [List.getElem_cons_zero, Nat.zero_mul, Nat.add_zero] at hath
                have hyh := hnys
                rw [exNms] at hyh
                have hns2 := hyh.1
                have hcell : ∃ sy, wr.cell? ⟨bh, oh + 1, none⟩ = some (.string sy) ∧ sy = yh.s ∧ sy.size ≤ maxLen := by
                  cases yh
                  rw [exNm] at hns2
                  obtain ⟨Aq, cq, g0, g1, -⟩ := Ex.At.both hath (Below.refl _ _) (Nat.le_refl _)
                  exact ⟨_, g1, rfl, hns2.1⟩
                obtain ⟨sy, hc1, hsy, hsz⟩ := hcell
                have hblh := World.block_lt_of_cell? _ _ hc1
                simp only at hblh
                have hc2 : (wr.alloc (.cells #[.int .i64 4, .string s5, .int .i64 n5, .slice (some ⟨bh, oh, none⟩) (yh :: yr).length cap5, .int .i64 l5, .int .i64 c5'] 26)).cell? ⟨bh, oh + 1, none⟩ = some (.string sy) := by rw [← hc1]; exact (below1 wr _).cell (p := ⟨bh, oh + 1, none⟩) hblh
                have hbh2 : bh < (wr.alloc (.cells #[.int .i64 4, .string s5, .int .i64 n5, .slice (some ⟨bh, oh, none⟩) (yh :: yr).length cap5, .int .i64 l5, .int .i64 c5'] 26)).heap.size := by simp; omega
                have hylen : yr.length + 1 ≤ 1048576 := hdd.2.2.1
                have hsub1 : ((yr.length : Int) + 1) - 1 = yr.length := by omega
                have HS := Lib.hid (see_any _ _ _ _ _ _ _ sy (yr.length : Int) hIb.drew.st hsz (wf3 (by omega) (by omega)) (Nat.lt_of_le_of_lt hn (bd_max (by omega) (by omega) (by omega))))
                have HNX2 : Hid (okN ok F sy.data.toList yr.length = true → Prg rj lq fl (u + 1) (upd F sy.data.toList yr.length)) := Lib.hid (fun h => by
                  obtain ⟨a1, a2, a3⟩ := okN_true h
                  exact (hP.out a1).next a3 (at4_app hget.out (fun h => by simp [Ex.k] at h) rfl (by rw [← hsy]; exact a2)))
                have hIb2 := Lib.hid hIb.drew
                have hw1 : (wr.alloc (.cells #[.int .i64 4, .string s5, .int .i64 n5, .slice (some ⟨bh, oh, none⟩) (yh :: yr).length cap5, .int .i64 l5, .int .i64 c5'] 26)).heap.size = wr.heap.size + 1 := by simp
                clear h3 hIb hbwr hath hry hnys hyh hns2 hsy hc1 hsub hne HHD
                rw [List.length_cons] at *
                go_wp2_with fail
                generalize wr.alloc (.cells #[.int .i64 4, .string s5, .int .i64 n5, .slice (some ⟨bh, oh, none⟩) (yr.length + 1) cap5, .int .i64 l5, .int .i64 c5'] 26) = Wb at *
                go_still_tail 10, (by kernel_rfl)
                change wpList _ _ _ _ _ Wb.drew
                go_wp2_with fail
                refine HS.out.mono ?_
                clear HS
                rintro _ w3 ⟨⟨vr, rfl⟩, hst4, ht4⟩
                have hI4 := Lib.hid (hIb2.out.see hms3 hst4 ht4)
                have hbx3 := (ht4.block wr.heap.size (by show wr.heap.size < Wb.heap.size; omega) (by omega)).trans hbx
                obtain ⟨D, hD1, hD2⟩ := hI4.out.sn
                have hkey : keyOf Try.prog 3 (.int .i64 ((u : Int) + 1)) = some (.int .i64 ((u : Int) + 1)) := keyOf_int_mk Try.underlying3 (wf3 (by omega) (by omega))
                have hcm : cnt < maxLen := by unfold maxLen; omega
                have hz3 := ht4.size
                have hbxl : wr.heap.size < w3.heap.size := by
                  have : Wb.heap.size ≤ w3.heap.size := hz3
                  omega
                have hne2 : ¬ wr.heap.size = ms := by have := hzw; omega
                have HPUT := Lib.hid (fun w4 h1 h2 => hI4.out.put (u := u) (w3 := w4) hms3 hD1.isMap hD2 (wf3 (by omega) (by omega)) h1 h2 hget.out rfl)
                clear hIb2 hst4 ht4 hD2 hI4 hbx p0 p1 p2 p3 p4 p5 e0 e1 e2 e3 e4 e5 hz3
                go_wp2_with (at_mapUpdate; refine wpList_mapUpdate_own _ rfl _ _ _ 109 rfl 3 4 law3 Try.underlying109 (plainElem Try.prog 4) ms cnt D rfl hD1 hcm _ _ _ rfl rfl hkey _ [] (plainElem_bool Try.underlying4 true) ?_; intro w4 hown4 hg4; obtain ⟨p0, p1, p2, p3, p4, p5, -⟩ := row6 ((hg4.block _ hbxl (fun e => hne2 (Option.some.inj e))).trans hbx3); have hl4 : wr.heap.size < w4.heap.size := Nat.lt_of_lt_of_le hbxl hg4.size)
                exact ⟨⟨u + 1, n + 1, cnt + 1, _, _, _, by go_num, by omega, HPUT.out _ hown4 hg4, HNX2, Nat.le_trans (Nat.add_le_add_right hn 1) (bd_u _ _ _), by omega⟩, by simp [intOf]; omega⟩
              · by_cases hk2 : k5 = 2
                · subst hk2
                  have hlook := hIb.sn.look hu2
                  cases hd : decide ((u : Int) ∈ ks) with
                  | true =>
                    rw [hd] at hlook
                    have HNX2 : Hid (ok = true → Prg rj lq fl (u + 1) F) := Lib.hid (fun h => (hP.out h).next (fun b y h => h) (at4_head hget.out (fun h => by simp [Ex.k] at h) (h3.kk _ (of_decide_eq_true hd))))
                    have hIb2 := Lib.hid hIb
                    clear hd h3 hIb hv5 hbwr
                    go_wp2_with fail
                    exact ⟨⟨u + 1, n, cnt, F, ok, ks, by go_num, by omega, hIb2.out, HNX2, Nat.le_trans hn (bd_u' _ _ _), by omega⟩, by simp [intOf]; omega⟩
                  | false =>
                    rw [hd] at hlook
                    have HS := Lib.hid (see_any _ _ _ _ _ _ _ s5 0 hIb.st hns (wf3 (by omega) (by omega)) (Nat.lt_of_le_of_lt hn (bd_max (by omega) (by omega) (by omega))))
                    have HNX2 : Hid (okN ok F s5.data.toList 0 = true → Prg rj lq fl (u + 1) (upd F s5.data.toList 0)) := Lib.hid (fun h => by
                      obtain ⟨a1, a2, a3⟩ := okN_true h
                      exact (hP.out a1).next a3 (at4_zero hget.out (fun h => by simp [Ex.k] at h) a2))
                    have hIb2 := Lib.hid hIb
                    clear hd h3 hIb hv5 hbwr
                    go_wp2_with fail
                    refine HS.out.mono ?_
                    rintro _ w3 ⟨⟨vr, rfl⟩, hst4, ht4⟩
                    have hI4 := Lib.hid (hIb2.out.see hms3 hst4 ht4)
                    clear hIb2 hst4
                    go_wp2_with fail
                    exact ⟨⟨u + 1, n + 1, cnt, _, _, ks, by go_num, by omega, hI4.out, HNX2, Nat.le_trans (Nat.add_le_add_right hn 1) (bd_u _ _ _), by omega⟩, by simp [intOf]; omega⟩
                · have hk4b : (k5 == 4) = false := by simp [hk4]
                  have hk2b : (k5 == 2) = false := by simp [hk2]
                  have HNX2 : Hid (ok = true → Prg rj lq fl (u + 1) F) := Lib.hid (fun h => (hP.out h).next (fun b y h => h) (fun e he => by
                    rw [hget.out] at he
                    obtain rfl := Option.some.inj he
                    exact ⟨fun h => absurd h hk4, fun h => absurd h hk2⟩))
                  have hIb2 := Lib.hid hIb
                  clear h3 hIb hv5 hbwr hk4 hk2
                  go_wp2_with fail
                  exact ⟨⟨u + 1, n, cnt, F, ok, ks, by go_num, by omega, hIb2.out, HNX2, Nat.le_trans hn (bd_u' _ _ _), by omega⟩, by simp [intOf]; omega⟩
            · have HQ := Lib.hid (fun h => let g := hP.out h; (⟨g.1, HNQ.out F g.2.1 (HY.out F (fun i hi => g.2.2 i (by omega)))⟩ : _ ∧ _))
              have hst := h3.st
              go_wp2_with fail
              exact ⟨⟨q + 1, n, F, ok, by go_num, by omega, hst, HQ, Nat.le_trans hn (bd_q (by omega)), hbwr⟩, by simp [intOf]; omega⟩
        · have HP2 := Lib.hid (fun h => HNX.out F (hP.out h).1 (mem_all_take (by omega) (hP.out h).2))
          go_wp2_with fail
          exact ⟨⟨j + 1, n, F, ok, by go_num, by omega, hst, HP2, Nat.le_trans hn (bd_j (by omega)), hb⟩, by simp [intOf]; omega⟩
    · have hP0 : Hid (ok = true → PrT rules [] [] 0 F) := Lib.hid (fun h => ⟨mem_all_take (by omega) (hP.out h), fun x hx => (by rw [TmFlats] at hx; cases hx), fun x hx => (by simp at hx)⟩)
      have hn8 := Nat.le_trans hn (bd_8 (j := j) (by omega))
      have hasz := HOK.out.asz
      have HAN := Lib.hid HOK.out.anm
      have halen := TmSize_len args
      obtain ⟨_, _, e9, ⟨a1, a2, a3, a4⟩, hs⟩ := HA.out
      cases e9
      clear hP hn r6 HA
      go_wp2_with fail
      go_loopw [77] (fun i wr => ∃ (q n : Nat) (F : Fn) (ok : Bool), i = .int .i64 q ∧ q ≤ args.length ∧ FtS wr (w.heap.size + 1) (w.heap.size + 1 + 1) w.heap.size n F ok ∧ Hid (ok = true → PrT rules (args.take q) [] 0 F) ∧ n ≤ bd 8 q 0 ∧ Below w.heap.size w wr) (fun i _ => args.length - (intOf i).toNat)
      case atStart => exact ⟨0, n, F, ok, rfl, Nat.zero_le _, hst, hP0, hn8, hb⟩
      case round =>
        clear hst hP0 hn8 hb
        obtain ⟨q, n, F, ok, rfl, hq, hst, hP, hn, hb⟩ := hrel
        by_cases hltq : q < args.length
        · obtain ⟨be, oe, rfl, hat⟩ := hs.get q hltq
          have hb0 := h0.trans (hb.mono h0.size)
          have hsz := TmSize_get hltq
          have HNQ : Hid (∀ F' : Fn, (∀ x ∈ TmFlats (args.take q), AtT F' x) → (∀ x ∈ args[q].flat, AtT F' x) → ∀ x ∈ TmFlats (args.take (q + 1)), AtT F' x) := Lib.hid (fun F' h1 h2 x hx => by
            rw [TmFlats_take hltq, List.mem_append] at hx
            rcases hx with hx | hx
            · exact h1 x hx
            · exact h2 x hx)
          have HNF : Hid (∀ x ∈ args[q].flat, x.s.size ≤ maxLen) := Lib.hid (fun x hx => tmNms_flat args HAN.out x (by
            have h1 : x ∈ TmFlats (args.take (q + 1)) := by rw [TmFlats_take hltq]; exact List.mem_append_right _ hx
            exact tmFlats_take_mem h1))
          have hfl := Tm.flat_len args[q]
          generalize args[q] = y at *
          generalize args.take q = aq at *
          cases y with
          | mk k' s' n' ys' =>
          obtain ⟨A', cap', c0, c1, c2, c3, hv'⟩ := Tm.At.both hat hb0 (Nat.le_refl _)
          have hble := World.block_lt_of_cell? _ _ c0
          simp only at hble
          have HFl := fun o => Lib.hid (allTm_any _ w0 _ (wr.alloc o) _ (Nat.le_refl _) (by omega) hv' (hb0.alloc hb0.size o))
          clear hat
          have hfl2 : (Tm.mk k' s' n' ys').flat.length ≤ 200 := by omega
          generalize (Tm.mk k' s' n' ys').flat = tl at *
          clear hfl hsz
          have hb1 := fun o => below1 wr o
          go_wp2_with fail
          refine (HFl _).out.mono ?_
          rintro _ w2 ⟨A2, cap2, xs2, rfl, hown2, hcells2, hbc2'⟩
          have hbc2 := Below.call1 hbc2'
          have hst3 := hst.below hbc2
          have hbw3 := hb.thenCall hb.size hbc2
          have hlo := hst.lt
          have hzz := hbc2.size
          have hslF : Tm.Sl (part w2 (notS (w.heap.size + 1 + 1) w.heap.size w.heap.size)) (.slice A2 tl.length cap2) tl := by
            obtain ⟨A9, c9, e9, h91, h92⟩ := own_form hown2
            injection e9 with e91 e92 e93
            subst e91 e93
            refine ⟨_, _, rfl, ⟨h91, h92, by omega, own_cap hown2⟩, ?_⟩
            exact Tms.of_src (src_part hown2 (fun k hk => notS_iff.2 (by simp only [World.size_alloc] at hk; omega))) (hcells2.sub (sub_notS (h0.trans (hbw3.mono h0.size)) (by omega) (by omega) (by omega)))
          clear hown2 hcells2 HFl hst hbc2'
          obtain ⟨_, _, e9, ⟨m1, m2, m3, m4⟩, hsF⟩ := hslF
          cases e9
          have hPr : Hid (ok = true → PrT rules aq tl 0 F) := Lib.hid (fun h => ⟨(hP.out h).1, (hP.out h).2.1, fun x hx => (by rw [List.take_zero] at hx; cases hx)⟩)
          go_wp2_with fail
          go_loopw [84] (fun i wr => ∃ (u n : Nat) (F : Fn) (ok : Bool), i = .int .i64 u ∧ u ≤ tl.length ∧ FtS wr (w.heap.size + 1) (w.heap.size + 1 + 1) w.heap.size n F ok ∧ Hid (ok = true → PrT rules aq tl u F) ∧ n ≤ bd 8 q u ∧ Turn (fun b => b = w.heap.size + 1 + 1 ∨ b = w.heap.size ∨ b = w.heap.size) w2 wr) (fun i _ => tl.length - (intOf i).toNat)
          case atStart => exact ⟨0, n, F, ok, rfl, Nat.zero_le _, hst3, hPr, hn, Turn.refl _ _⟩
          case round =>
            clear hP hn hst3 hPr
            obtain ⟨u, n, F, ok, rfl, hu, hst, hP, hn, htr⟩ := hrel
            have hbwr : Below w.heap.size w wr := hbw3.trans (htr.below (fun b e => by omega) hbw3.size)
            by_cases hltu : u < tl.length
            · have hsub := sub_turn htr
              obtain ⟨bf, of, rfl, hat0⟩ := hsF.get u hltu
              have hat := hat0.sub hsub
              have hget : Hid (tl[u]? = some tl[u]) := Lib.hid (List.getElem?_eq_getElem hltu)
              have hns := HNF.out _ (List.getElem_mem hltu)
              generalize tl[u] = z at *
              have hlo := hst.lt
              cases z with
              | mk k5 s5 n5 ys5 =>
              obtain ⟨A5, cap5, e0, e1, e2, e3, hv5⟩ := Tm.At.both hat (Below.refl _ _) (Nat.le_refl _)
              have hylen : ys5.length ≤ 1048576 := by
                obtain ⟨_, _, _, hdd, _⟩ := hv5
                exact hdd.2.2.1
              have hblf := World.block_lt_of_cell? _ _ e0
              simp only at hblf
              have hbx := heap_alloc_new wr (.cells #[.int .i64 k5, .string s5, .int .i64 n5, .slice A5 ys5.length cap5] 29)
              have hbb := below1 wr (.cells #[.int .i64 k5, .string s5, .int .i64 n5, .slice A5 ys5.length cap5] 29)
              have hstb := hst.below hbb
              have htb := htr.alloc (.cells #[.int .i64 k5, .string s5, .int .i64 n5, .slice A5 ys5.length cap5] 29)
              have hwb : (wr.alloc (.cells #[.int .i64 k5, .string s5, .int .i64 n5, .slice A5 ys5.length cap5] 29)).heap.size = wr.heap.size + 1 := by simp
              simp only [Tm.s] at hns
              obtain ⟨p0, p1, p2, p3⟩ := row4 hbx
              have HstF := fun (x : Bool) (o : Obj) => Lib.hid ((hst.setok x).below (below1 _ o))
              have HtF := fun (v : Value) (o : Obj) => Lib.hid ((htr.setCell (a := ⟨w.heap.size + 1 + 1, 0, none⟩) (.inl (.inl rfl)) v).alloc o)
              clear hat hat0 hv5 hst htr hbb
              by_cases hk1 : k5 = 1
              · subst hk1
                have HS := Lib.hid (see_any _ _ _ _ _ _ _ s5 (ys5.length : Int) hstb hns (wf3 (by omega) (by omega)) (Nat.lt_of_le_of_lt hn (bd_max (by omega) (by omega) (by omega))))
                have HNX2 : Hid (okN ok F s5.data.toList ys5.length = true → PrT rules aq tl (u + 1) (upd F s5.data.toList ys5.length)) := Lib.hid (fun h => by
                  obtain ⟨a1, a2, a3⟩ := okN_true h
                  exact (hP.out a1).next a3 hget.out ⟨fun _ => a2, .inl rfl⟩)
                generalize okN ok F s5.data.toList ys5.length = ok2 at *
                go_wp2_with fail
                refine HS.out.mono ?_
                clear HS
                rintro _ w3 ⟨⟨vr, rfl⟩, hst4, ht4⟩
                have hbx3 := (ht4.block wr.heap.size (by omega) (by omega)).trans hbx
                have hz3 := ht4.size
                have hbxl : wr.heap.size < w3.heap.size := by omega
                clear p0 p1 p2 p3
                obtain ⟨p0, p1, p2, p3⟩ := row4 hbx3
                have o0 := cell1of hst4.o
                have hlo4 := hst4.lt
                have hol := hlo4.2.1
                have hfr : w3.frozen? ⟨w.heap.size + 1 + 1, 0, none⟩ = false := by simp [World.frozen?, hst4.o]
                have hstF := fun x => Lib.hid (hst4.setok x)
                have htF := fun v => Lib.hid ((htb.trans (ht4.mono fun b e => .inl (by omega))).setCell (a := ⟨w.heap.size + 1 + 1, 0, none⟩) (.inl (.inl rfl)) v)
                clear hst4 ht4 htb hstb hbx hbx3
                cases ok2 with
                | false =>
                  go_wp2_with fail
                  exact ⟨⟨u + 1, n + 1, _, false, by go_num, by omega, (hstF _).out, Lib.hid (fun h => by cases h), Nat.le_trans (Nat.add_le_add_right hn 1) (bd_u _ _ _), (htF _).out⟩, by simp [intOf]; omega⟩
                | true =>
                  go_wp2_with fail
                  exact ⟨⟨u + 1, n + 1, _, true, by go_num, by omega, (hstF _).out, Lib.hid (fun _ => HNX2.out trivial), Nat.le_trans (Nat.add_le_add_right hn 1) (bd_u _ _ _), (htF _).out⟩, by simp [intOf]; omega⟩
              · have hk1b : (k5 == 1) = false := by simp [hk1]
                have o0 := cell1of hstb.o
                have hol : w.heap.size + 1 + 1 < (wr.alloc (.cells #[.int .i64 k5, .string s5, .int .i64 n5, .slice A5 ys5.length cap5] 29)).heap.size := by omega
                have hfr : (wr.alloc (.cells #[.int .i64 k5, .string s5, .int .i64 n5, .slice A5 ys5.length cap5] 29)).frozen? ⟨w.heap.size + 1 + 1, 0, none⟩ = false := by simp only [World.frozen?, hstb.o]; rfl
                have hbxl : wr.heap.size < (wr.alloc (.cells #[.int .i64 k5, .string s5, .int .i64 n5, .slice A5 ys5.length cap5] 29)).heap.size := by omega
                by_cases hk2 : k5 = 2
                · subst hk2
                  have HNX2 : Hid (ok = true → PrT rules aq tl (u + 1) F) := Lib.hid (fun h => (hP.out h).next (fun b y h => h) hget.out ⟨fun h => absurd h hk1, .inr rfl⟩)
                  clear hstb htb hk1
                  cases ok with
                  | false =>
                    go_wp2_with fail
                    exact ⟨⟨u + 1, n, _, false, by go_num, by omega, (HstF _ _).out, Lib.hid (fun h => by cases h), Nat.le_trans hn (bd_u' _ _ _), (HtF _ _).out⟩, by simp [intOf]; omega⟩
                  | true =>
                    go_wp2_with fail
                    exact ⟨⟨u + 1, n, _, true, by go_num, by omega, (HstF _ _).out, HNX2, Nat.le_trans hn (bd_u' _ _ _), (HtF _ _).out⟩, by simp [intOf]; omega⟩
                · have hk2b : (k5 == 2) = false := by simp [hk2]
                  clear hstb htb hk1 hk2
                  cases ok with
                  | false =>
                    go_wp2_with fail
                    exact ⟨⟨u + 1, n, _, false, by go_num, by omega, (HstF _ _).out, Lib.hid (fun h => by cases h), Nat.le_trans hn (bd_u' _ _ _), (HtF _ _).out⟩, by simp [intOf]; omega⟩
                  | true =>
                    go_wp2_with fail
                    exact ⟨⟨u + 1, n, _, false, by go_num, by omega, (HstF _ _).out, Lib.hid (fun h => by cases h), Nat.le_trans hn (bd_u' _ _ _), (HtF _ _).out⟩, by simp [intOf]; omega⟩
            · have HQ : Hid (ok = true → PrT rules (args.take (q + 1)) [] 0 F) := Lib.hid (fun h => ⟨(hP.out h).1, HNQ.out F (hP.out h).2.1 (mem_all_take (by omega) (hP.out h).2.2), fun x hx => (by simp at hx)⟩)
              go_wp2_with fail
              exact ⟨⟨q + 1, n, F, ok, by go_num, by omega, hst, HQ, Nat.le_trans hn (bd_q (by omega)), hbwr⟩, by simp [intOf]; omega⟩
        · have HQ : Hid (ok = true → ∃ F : Fn, FtPost rules args F) := Lib.hid (fun h => ⟨F, (hP.out h).1, by have := (hP.out h).2.1; rwa [List.take_of_length_le (by omega)] at this⟩)
          have o0 := cell1of hst.o
          have hol := hst.lt.2.1
          go_wp2_with fail
          go_ret
          exact ⟨ok, rfl, HQ.out, hb⟩
end Go.Proofs.Ytnaakhnmbckpmaa.Pats
