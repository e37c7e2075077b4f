/- Deeds over nodes; the map of places that are used. -/
import Derived.Test.YtccknhhjkkbadaaGr
import Derived.Test.YtccknhhjkkbadaaRowsIn
import Derived.Maps.Own
import Derived.Maps.OwnOps
import Derived.Maps.OwnSet
import Derived.Maps.Views
namespace Go.Proofs.Ytccknhhjkkbadaa.Gr
open Go.ChangeShapes Go.WideShapes Go.ChangeAt Go.RowKit Go.Proofs.Ytccknhhjkkbadaa.Lift Go.Proofs.Ytccknhhjkkbadaa.Arn Go.Proofs.Ytccknhhjkkbadaa.ArnN Go.Maps
set_option linter.unusedVariables false
set_option linter.unusedSimpArgs false
theorem hasB_first (us : List Bool) : hasB us (firstF us) = false := by
  rcases Nat.lt_or_ge (firstF us) us.length with h | h
  · rw [hasB_at h, firstF_at h]
  · exact hasB_far h
theorem hasB_eq (us : List Bool) (i : Int) : hasB us i = true ↔ ∃ j : Nat, ∃ h : j < us.length, i = j ∧ us[j] = true := by
  constructor
  · intro hh
    have hi : ¬ i < 0 := fun e => by rw [hasB_neg e] at hh; cases hh
    obtain ⟨j, rfl⟩ : ∃ j : Nat, i = j := ⟨i.toNat, by omega⟩
    rcases Nat.lt_or_ge j us.length with h | h
    · exact ⟨j, h, rfl, by rw [← hasB_at h]; exact hh⟩
    · rw [hasB_far h] at hh; cases hh
  · rintro ⟨j, h, rfl, hu⟩
    rw [hasB_at h]
    exact hu
theorem hasB_setU (us : List Bool) (i : Int) : hasB (setU us) i = if i = firstF us then true else hasB us i := by
  have hle := firstF_le us
  unfold setU
  by_cases hi : i < 0
  · rw [hasB_neg hi, hasB_neg hi, if_neg (by omega)]
  · obtain ⟨j, rfl⟩ : ∃ j : Nat, i = j := ⟨i.toNat, by omega⟩
    by_cases hf : firstF us < us.length
    · rw [if_pos hf]
      rcases Nat.lt_or_ge j us.length with h | h
      · rw [hasB_at (by simpa using h), hasB_at h, List.getElem_set]
        by_cases e : firstF us = j
        · rw [if_pos e, if_pos (by omega)]
        · rw [if_neg e, if_neg (by omega)]
      · rw [hasB_far (by simpa using h), hasB_far h, if_neg (by omega)]
    · rw [if_neg hf]
      have hfl : firstF us = us.length := by omega
      rcases Nat.lt_or_ge j us.length with h | h
      · rw [hasB_at (by simp; omega), hasB_at h, List.getElem_append_left h, if_neg (by omega)]
      · by_cases e : j = us.length
        · subst e
          rw [hasB_at (by simp), if_pos (by omega)]
          simp
        · rw [hasB_far (by simp; omega), hasB_far h, if_neg (by omega)]
theorem count_setU (us : List Bool) : (setU us).count true = us.count true + 1 := by
  unfold setU
  by_cases hf : firstF us < us.length
  · rw [if_pos hf]
    exact count_set_true hf (firstF_at hf)
  · rw [if_neg hf]
    simp
theorem hasB_free (us : List Bool) (i k : Int) (h : hasB us i = true) : hasB (us.set i.toNat false) k = if k = i then false else hasB us k := by
  obtain ⟨j, hj, rfl, hu⟩ := (hasB_eq us i).1 h
  rw [Int.toNat_natCast]
  by_cases hk : k < 0
  · rw [hasB_neg hk, hasB_neg hk]; simp
  · obtain ⟨m, rfl⟩ : ∃ m : Nat, k = m := ⟨k.toNat, by omega⟩
    rcases Nat.lt_or_ge m us.length with h | h
    · rw [hasB_at (by simpa using h), hasB_at h, List.getElem_set]
      by_cases e : j = m
      · rw [if_pos e, if_pos (by omega)]
      · rw [if_neg e, if_neg (by omega)]
    · rw [hasB_far (by simpa using h), hasB_far h]; simp
theorem count_free (us : List Bool) (i : Int) (h : hasB us i = true) : (us.set i.toNat false).count true + 1 = us.count true := by
  obtain ⟨j, hj, rfl, hu⟩ := (hasB_eq us i).1 h
  rw [Int.toNat_natCast]
  exact count_set_false hj hu
/-- how a node in a map reads: it is one. -/
def rN : Value → Option (DataW Unit × List MemPlace)
  | .agg ⟨[.int .i64 _, .int .i64 _, .slice _ _ _]⟩ => some (.lit (.int .i64 0), [])
  | _ => none
theorem rN_enc (x : Nd) : rN (enc x) = some (.lit (.int .i64 0), []) := rfl
theorem rN_inv {v : Value} {z : DataW Unit × List MemPlace} (h : rN v = some z) : ∃ x : Nd, v = enc x := by
  unfold rN at h
  split at h
  · exact ⟨⟨_, _, _, _, _⟩, rfl⟩
  · cases h
/-- the map tells which places are used. -/
def Mp (w : World) (m n : Nat) (us : List Bool) : Prop :=
  ∃ D : DataW Unit, w.ownsMap Try.prog 3 rN m n D ∧ (∀ i : Int, (Lit.int .i64 i).wf = true → Maps.has D (.int .i64 i) = hasB us i) ∧ Maps.size D = us.count true
theorem Mp.keep {w w' : World} {m n : Nat} {us : List Bool} (h : Mp w m n us) (hb : w'.heap[m]? = w.heap[m]?) : Mp w' m n us := by
  obtain ⟨D, ⟨es, cl, h1, h2⟩, h3⟩ := h
  exact ⟨D, ⟨es, cl, hb.trans h1, h2⟩, h3⟩
theorem Mp.lt {w : World} {m n : Nat} {us : List Bool} (h : Mp w m n us) : m < w.heap.size := by
  obtain ⟨D, ⟨es, cl, h1, _⟩, _⟩ := h
  exact (Array.getElem?_eq_some_iff.1 h1).1
theorem law3 : Keyed Try.prog 3 := int_keyed Try.underlying3
theorem Mp.made (w : World) : Mp (w.alloc (.map #[] 0)) w.heap.size 0 [] := ⟨.map [], World.ownsMap_made w Try.prog 3 rN, fun i _ => by
  have : hasB [] i = false := by
    by_cases hi : i < 0
    · exact hasB_neg hi
    · obtain ⟨j, rfl⟩ : ∃ j : Nat, i = j := ⟨i.toNat, by omega⟩
      exact hasB_far (Nat.zero_le _)
  rw [this]; rfl, rfl⟩
theorem isKey (i : Int) (h : (Lit.int .i64 i).wf = true) : WideAt.IsKeyLit (.int .i64 i) := law3.key (keyOf_int_mk Try.underlying3 h)
theorem lit_ne {i k : Int} (h : ¬ i = k) : Lit.int .i64 i ≠ Lit.int .i64 k := fun e => h (by injection e)
section
variable {D : DataW Unit} {us : List Bool} (hT : Tidy D) (hh : ∀ i : Int, (Lit.int .i64 i).wf = true → Maps.has D (.int .i64 i) = hasB us i) (hs : Maps.size D = us.count true)
include hT hh hs
theorem mp_put (hw : (Lit.int .i64 (firstF us)).wf = true) (d : DataW Unit) : (∀ i : Int, (Lit.int .i64 i).wf = true → Maps.has (D.put (.int .i64 (firstF us)) d) (.int .i64 i) = hasB (setU us) i) ∧ Maps.size (D.put (.int .i64 (firstF us)) d) = (setU us).count true := by
  constructor
  · intro i hi
    rw [hasB_setU]
    by_cases e : i = firstF us
    · subst e
      rw [if_pos rfl, has_put_same hT.isMap (isKey _ hw)]
    · rw [if_neg e, has_put_other (lit_ne e), hh i hi]
  · rw [size_put hT, hh _ hw, hasB_first, count_setU, hs]
    simp
theorem mp_set {i : Int} (hw : (Lit.int .i64 i).wf = true) (hu : hasB us i = true) (d : DataW Unit) : (∀ k : Int, (Lit.int .i64 k).wf = true → Maps.has (D.put (.int .i64 i) d) (.int .i64 k) = hasB us k) ∧ Maps.size (D.put (.int .i64 i) d) = us.count true := by
  constructor
  · intro k hk
    by_cases e : k = i
    · subst e
      rw [has_put_same hT.isMap (isKey _ hw), hu]
    · rw [has_put_other (lit_ne e), hh k hk]
  · rw [size_put hT, hh _ hw, hu, hs]
    simp
theorem mp_del {i : Int} (hw : (Lit.int .i64 i).wf = true) : (∀ k : Int, (Lit.int .i64 k).wf = true → Maps.has (D.del (.int .i64 i)) (.int .i64 k) = hasB (if hasB us i then us.set i.toNat false else us) k) ∧ Maps.size (D.del (.int .i64 i)) = (if hasB us i then us.set i.toNat false else us).count true := by
  cases hu : hasB us i with
  | false =>
    rw [del_of_not_has (by rw [hh i hw, hu])]
    exact ⟨hh, hs⟩
  | true =>
    rw [if_pos rfl]
    constructor
    · intro k hk
      rw [hasB_free us i k hu]
      by_cases e : k = i
      · subst e
        rw [if_pos rfl, has_del_same]
      · rw [if_neg e, has_del_other (lit_ne e), hh k hk]
    · have h1 := size_del (k := .int .i64 i) hT
      rw [hh i hw, hu] at h1
      have h2 := count_free us i hu
      simp only [if_true] at h1
      omega
end
/-- a deed over nodes: its kind, a place, a node, the node's arguments. -/
structure Dd where
  kind : Int
  i : Int
  x : Nd
  l : List Int
def DdR (W : World) (cs : List Value) (d : Dd) : Prop := cs = [.int .i64 d.kind, .int .i64 d.i, .int .i64 d.x.k, .int .i64 d.x.n, .slice d.x.A d.x.len d.x.cap] ∧ (Lit.int .i64 d.i).wf = true ∧ Args W d.x d.l
/-- deeds that are few, over nodes of few arguments. -/
def fewD (ds : List Dd) : Bool := ds.all (fun d => decide (d.l.length ≤ 20)) && decide (ds.length ≤ 60)
theorem deed_cells {W w : World} {A : Option Addr} {ds : List Dd} (h : Lift.RowsIn (DdR W) w 5 A ds) {j : Nat} (hj : j < ds.length) : ∃ b o, A = some ⟨b, o, none⟩ ∧ b < w.heap.size ∧
    w.cell? ⟨b, o + j * 5, none⟩ = some (.int .i64 ds[j].kind) ∧ w.cell? ⟨b, o + j * 5 + 1, none⟩ = some (.int .i64 ds[j].i) ∧ w.cell? ⟨b, o + j * 5 + 2, none⟩ = some (.int .i64 ds[j].x.k) ∧ w.cell? ⟨b, o + j * 5 + 3, none⟩ = some (.int .i64 ds[j].x.n) ∧
    w.cell? ⟨b, o + j * 5 + 4, none⟩ = some (.slice ds[j].x.A ds[j].x.len ds[j].x.cap) ∧ (Lit.int .i64 ds[j].i).wf = true ∧ Args W ds[j].x ds[j].l := by
  obtain ⟨b, o, cs, e, hl, ⟨rfl, h1, h2⟩, _, hc⟩ := h j hj
  exact ⟨b, o, e, hl, hc 0 _ rfl, hc 1 _ rfl, hc 2 _ rfl, hc 3 _ rfl, hc 4 _ rfl, h1, h2⟩
set_option maxRecDepth 100000 in
theorem few_any (w0 : World) (A : Option Addr) (cap : Nat) (ds : List Dd) (h : Lift.RowsIn (DdR w0) w0 5 A ds) (hm : ds.length ≤ 1048576) (w : World) (h0 : Below w0.heap.size w0 w) :
    Calls Try.prog 25 #[.slice A ds.length cap] w fun e w' => e = .returned (.bool (fewD ds)) ∧ Below w.heap.size w w' := by
  go_enter Try.func25, Try.ntmps25
  go_wp2_with fail
  go_loopw [7] (fun i wr => ∃ k : Nat, i = .int .i64 k ∧ k ≤ ds.length ∧ Hid (∀ j (hj : j < ds.length), j < k → ds[j].l.length ≤ 20) ∧ Below w.heap.size w wr) (fun i _ => ds.length - (intOf i).toNat)
  case atStart => exact ⟨0, rfl, Nat.zero_le _, Lib.hid (fun j hj h => by omega), Below.refl _ _⟩
  case round =>
    obtain ⟨k, rfl, hk, hF, hb⟩ := hrel
    by_cases hlt : k < ds.length
    · obtain ⟨b, o, rfl, hbl, c0, c1, c2, c3, c4, _, hA⟩ := deed_cells h hlt
      have hbb := h0.trans (hb.mono h0.size)
      have x0 := (hbb.cell (p := ⟨b, o + k * 5, none⟩) hbl).trans c0
      have x1 := (hbb.cell (p := ⟨b, o + k * 5 + 1, none⟩) hbl).trans c1
      have x2 := (hbb.cell (p := ⟨b, o + k * 5 + 2, none⟩) hbl).trans c2
      have x3 := (hbb.cell (p := ⟨b, o + k * 5 + 3, none⟩) hbl).trans c3
      have x4 := (hbb.cell (p := ⟨b, o + k * 5 + 4, none⟩) hbl).trans c4
      have hlen := hA.1
      have HS : Hid (∀ hl : ds[k].l.length ≤ 20, ∀ j (hj : j < ds.length), j < k + 1 → ds[j].l.length ≤ 20) := Lib.hid (fun hl j hj hjk => by
        rcases Nat.lt_or_ge j k with h | h
        · exact hF.out j hj h
        · have : j = k := by omega
          subst this
          exact hl)
      have HN : Hid (¬ ds[k].l.length ≤ 20 → fewD ds = false) := Lib.hid (fun hl => by
        unfold fewD
        rw [Bool.and_eq_false_iff]
        left
        rw [Bool.eq_false_iff, Ne, List.all_eq_true]
        intro hall
        exact hl (by simpa using hall _ (List.getElem_mem hlt)))
      clear c0 c1 c2 c3 c4 hA h hbb h0
      generalize ds[k] = d at *
      obtain ⟨dk, di, ⟨xk, xn, xA, xl, xc⟩, l⟩ := d
      dsimp only at *
      subst hlen
      by_cases hl : l.length ≤ 20
      · have hl2 : ¬ ((20 : Int) < l.length) := by omega
        go_wp2_with fail
        exact ⟨⟨k + 1, by go_num, by omega, HS.out hl, hb.alloc hb.size _⟩, by simp [intOf]; omega⟩
      · have hl2 : (20 : Int) < l.length := by omega
        go_wp2_with fail
        go_ret
        rw [HN.out hl]
        exact ⟨rfl, hb.alloc hb.size _⟩
    · have HE : Hid (fewD ds = decide (ds.length ≤ 60)) := Lib.hid (by
        unfold fewD
        rw [List.all_eq_true.2 (fun d hd => by
          obtain ⟨j, hj, rfl⟩ := List.getElem_of_mem hd
          simpa using hF.out j hj (by omega)), Bool.true_and])
      by_cases h6 : ds.length ≤ 60
      · have h7 : (ds.length : Int) ≤ 60 := by omega
        have HE2 : Hid (fewD ds = true) := Lib.hid (by rw [HE.out]; simpa using h6)
        go_wp2_with fail
        go_ret
        rw [HE2.out]
        exact ⟨rfl, hb⟩
      · have h7 : ¬ (ds.length : Int) ≤ 60 := by omega
        have HE2 : Hid (fewD ds = false) := Lib.hid (by rw [HE.out]; simpa using h6)
        go_wp2_with fail
        go_ret
        rw [HE2.out]
        exact ⟨ret_bool (by simp), hb⟩
end Go.Proofs.Ytccknhhjkkbadaa.Gr
