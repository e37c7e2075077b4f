/- Contract: slices.Insert at picks, of one pick, onto a row of the call's own. -/
import Derived.Test.YtccknhhjkkbadaaCopy
import Derived.Test.YtccknhhjkkbadaaFg
import Derived.IntWalk
namespace Go.Proofs.Ytccknhhjkkbadaa.Fg
open Go.ChangeShapes Go.WideShapes Go.ChangeAt Go.RowKit Go.Proofs.Ytccknhhjkkbadaa.Lift
set_option linter.unusedVariables false
set_option linter.unusedSimpArgs false
/-- a list with one more pick at a place. -/
def insAt (l : List Pk) (i : Nat) (x : Pk) : List Pk := l.take i ++ x :: l.drop i
theorem pk_src {w : World} {vb : Nat} {x : Pk} (h : w.heap[vb]? = some (.cells #[.int .i64 x.1, .int .i64 x.2] 95 (0, 0))) : Lift.Src w 2 (some ⟨vb, 0, none⟩) 1 [.int .i64 x.1, .int .i64 x.2] := by
  refine ⟨rfl, .inr ⟨vb, 0, rfl, fun j u hu => ?_⟩⟩
  simp only [World.cell?, h, Nat.zero_add]
  match j, hu with
  | 0, hu => simpa using hu
  | 1, hu => simpa using hu
set_option maxRecDepth 100000 in
theorem insert_end (w : World) (B : Nat) (s : Value) (l : List Pk) (x : Pk) (vb : Nat) (hs : PkOwn w B s l) (hv : w.heap[vb]? = some (.cells #[.int .i64 x.1, .int .i64 x.2] 95 (0, 0))) (hm : l.length + 1 ≤ 4194304) (hB : B ≤ w.heap.size) :
    Calls Try.prog 99 #[s, .int .i64 l.length, .slice (some ⟨vb, 0, none⟩) 1 1] w fun r w' => ∃ v', r = .returned v' ∧ PkOwn w' B v' (l ++ [x]) ∧ Below B w w' := by
  obtain ⟨i0, hi, hz0, hz1, hz2⟩ := info_parts info95
  have hs' := hs
  unfold PkOwn at hs
  have hsrc := pk_src hv
  have hg1 : l.length + 1 ≤ maxLen := by unfold maxLen; omega
  have hg2 : (l.length + 1) * 16 ≤ 140737488355328 := by omega
  have hone : ∀ u ∈ [Value.int .i64 x.1, .int .i64 x.2], u.oneCell' = true := by simp [Value.oneCell']
  have hA : some (⟨vb, 0, none⟩ : Addr) = none → 1 = 0 := fun h => by cases h
  obtain ⟨A, cap, rfl, hn, hcap⟩ := own_form hs
  have hnil : A = none → cap = 0 := own_cap hs
  have hfin : ∀ v2 w2, w2.ownsRow B 95 2 v2 (l.length + 1) (pkCells l ++ [.int .i64 x.1, .int .i64 x.2]) → w.grownBy w2 (Value.slice A l.length cap).ownBlock → PkOwn w2 B v2 (l ++ [x]) ∧ Below B w w2 := by
    intro v2 w2 h1 h2
    refine ⟨?_, below_grown hs h2 hB⟩
    unfold PkOwn
    rw [pkCells_app, List.length_append]
    exact h1
  cases A with
  | none =>
    have hc := hnil rfl
    subst hc
    obtain rfl : l = [] := List.eq_nil_of_length_eq_zero (by omega)
    go_enter Try.func99, Try.ntmps99
    go_wp2_with (at_builtin; refine wpList_append_where rfl (.tmp 23) (.tmp 24) 80 rfl B 95 i0 _ 2 16 Try.underlying80 hi hz0 hz1 hz2 rfl (by omega) (.slice none 0 0) 0 _ rfl hs (some ⟨vb, 0, none⟩) 1 1 _ rfl hsrc hA hone hg1 hg2 hB ?_; intro v2 w2 hown2 hg3 hf)
    go_ret
    exact ⟨_, rfl, hfin _ _ hown2 hg3⟩
  | some a =>
    by_cases hcn : cap = l.length
    · subst hcn
      go_enter Try.func99, Try.ntmps99
      go_wp2_with (at_builtin; refine wpList_append_where rfl (.tmp 23) (.tmp 24) 80 rfl B 95 i0 _ 2 16 Try.underlying80 hi hz0 hz1 hz2 rfl (by omega) (.slice (some a) l.length l.length) l.length _ rfl hs (some ⟨vb, 0, none⟩) 1 1 _ rfl hsrc hA hone hg1 hg2 hB ?_; intro v2 w2 hown2 hg3 hf)
      go_ret
      exact ⟨_, rfl, hfin _ _ hown2 hg3⟩
    · go_enter Try.func99, Try.ntmps99
      go_wp2_with (at_builtin; refine wpList_append_where rfl (.tmp 23) (.tmp 24) 80 rfl B 95 i0 _ 2 16 Try.underlying80 hi hz0 hz1 hz2 rfl (by omega) (.slice (some a) l.length cap) l.length _ rfl hs (some ⟨vb, 0, none⟩) 1 1 _ rfl hsrc hA hone hg1 hg2 hB ?_; intro v2 w2 hown2 hg3 hf)
      go_ret
      exact ⟨_, rfl, hfin _ _ hown2 hg3⟩
theorem pkCells_drop : ∀ (l : List Pk) (i : Nat), pkCells (l.drop i) = (pkCells l).drop (i * 2)
  | l, 0 => by simp
  | [], i + 1 => by simp [pkCells]
  | p :: r, i + 1 => by
    rw [show (i + 1) * 2 = i * 2 + 1 + 1 by omega]
    simp only [List.drop_succ_cons, pkCells]
    exact pkCells_drop r i
theorem pkCells_take : ∀ (l : List Pk) (i : Nat), pkCells (l.take i) = (pkCells l).take (i * 2)
  | l, 0 => by simp [pkCells]
  | [], i + 1 => by simp [pkCells]
  | p :: r, i + 1 => by
    rw [show (i + 1) * 2 = i * 2 + 1 + 1 by omega]
    simp only [List.take_succ_cons, pkCells]
    rw [pkCells_take r i]
theorem pkCells_ins (l : List Pk) (i : Nat) (x : Pk) : pkCells (insAt l i x) = pkCells (l.take i) ++ ([.int .i64 x.1, .int .i64 x.2] ++ pkCells (l.drop i)) := by
  rw [insAt, pkCells_app]
  rfl
theorem insAt_len (l : List Pk) (i : Nat) (x : Pk) (h : i ≤ l.length) : (insAt l i x).length = l.length + 1 := by
  simp [insAt, Nat.min_eq_left h]
  omega
theorem grow_cells {A X D zs : List Value} (hX : X.length = 2) (hz : 2 + D.length ≤ zs.length) :
    (laid (laid (A ++ zs) A.length X) (A.length + 2) D).take (A.length + 2 + D.length) = A ++ (X ++ D) := by
  have e1 : laid (A ++ zs) A.length X = A ++ (X ++ zs.drop 2) := by
    rw [laid, List.take_left, hX, List.drop_append, List.drop_eq_nil_of_le (by omega), List.nil_append, show A.length + 2 - A.length = 2 by omega]
  rw [e1, laid]
  have e2 : (A ++ (X ++ zs.drop 2)).take (A.length + 2) = A ++ X := by
    rw [← List.append_assoc, show A.length + 2 = (A ++ X).length by simp [hX], List.take_left]
  rw [e2, ← List.append_assoc, show A.length + 2 + D.length = (A ++ X ++ D).length by simp [hX]; try omega, ← List.append_assoc, List.take_left, List.append_assoc]
theorem room_cells {A X D R : List Value} (hX : X.length = 2) (hR : 2 ≤ R.length) :
    (laid (laid (A ++ (D ++ R)) (A.length + 2) D) A.length X).take (A.length + 2 + D.length) = A ++ (X ++ D) := by
  have e1 : (laid (A ++ (D ++ R)) (A.length + 2) D).take A.length = A := by
    rw [laid, List.take_append_of_le_length (by simp), List.take_take, Nat.min_eq_left (by omega), List.take_left]
  have e2 : (laid (A ++ (D ++ R)) (A.length + 2) D).drop (A.length + X.length) = D ++ (A ++ (D ++ R)).drop (A.length + 2 + D.length) := by
    rw [laid, hX, List.drop_append, List.drop_eq_nil_of_le (by simp; omega), List.nil_append]
    have : A.length + 2 - ((A ++ (D ++ R)).take (A.length + 2)).length = 0 := by simp; omega
    rw [this, List.drop_zero]
  generalize laid (A ++ (D ++ R)) (A.length + 2) D = L at *
  rw [laid, e1, e2, ← List.append_assoc, ← List.append_assoc, show A.length + 2 + D.length = (A ++ X ++ D).length by simp [hX]; try omega, List.take_left, List.append_assoc]
theorem row_cell {w : World} {g : Nat} {cur : List Value} {t : TypeId} (h : w.heap[g]? = some (.cells cur.toArray t (0, 0))) (o : Nat) (cs : List Value) (hc : ∀ j v, cs[j]? = some v → cur[o + j]? = some v) :
    ∀ j v, cs[j]? = some v → w.cell? ((⟨g, o, none⟩ : Addr).add j) = some v := by
  intro j v hj
  rw [show (⟨g, o, none⟩ : Addr).add j = ⟨g, o + j, none⟩ by unfold Addr.add; split <;> simp_all]
  have := hc j v hj
  simpa [World.cell?, h] using this
set_option maxRecDepth 100000 in
set_option maxHeartbeats 1000000 in
theorem insert_grow (w : World) (B g : Nat) (cur : List Value) (l : List Pk) (i : Nat) (x : Pk) (vb : Nat) (hil : i < l.length) (hg : w.heap[g]? = some (.cells cur.toArray 95 (0, 0))) (ht : cur.take (l.length * 2) = pkCells l)
    (hv : w.heap[vb]? = some (.cells #[.int .i64 x.1, .int .i64 x.2] 95 (0, 0))) (hm : l.length + 1 ≤ 4194304) (hB : B ≤ w.heap.size) :
    Calls Try.prog 99 #[.slice (some ⟨g, 0, none⟩) l.length l.length, .int .i64 i, .slice (some ⟨vb, 0, none⟩) 1 1] w fun r w' => ∃ v', r = .returned v' ∧ PkOwn w' B v' (insAt l i x) ∧ Below B w w' := by
  obtain ⟨i0, hi, hz0, hz1, hz2⟩ := info_parts info95
  have hik : i + (l.length + 1 - i) = l.length + 1 := by omega
  have HIK := Lib.hid hik
  have hc0 : ¬ (l.length = i) := by omega
  have hc1 : ¬ ((i : Int) = l.length) := by omega
  have hc2 : (i : Int) ≤ l.length := by omega
  have hc3 : ((i : Int) == l.length) = false := by simp; omega
  have hpre : (pkCells (l.take i)).length = i * i0.size := by rw [pkCells_len, hz1, List.length_take, Nat.min_eq_left (by omega)]
  have hpl := pkCells_len l
  have hP : ∀ j v, (pkCells (l.take i))[j]? = some v → cur[0 + j]? = some v := by
    intro j v hj
    rw [pkCells_take, ← ht, List.take_take, List.getElem?_take] at hj
    split at hj
    · rw [Nat.zero_add]; exact hj
    · cases hj
  have hD : ∀ j v, (pkCells (l.drop i))[j]? = some v → cur[i * 2 + j]? = some v := by
    intro j v hj
    rw [pkCells_drop, ← ht, List.getElem?_drop, List.getElem?_take] at hj
    split at hj
    · exact hj
    · cases hj
  have holds := row_cell hg 0 (pkCells (l.take i)) hP
  have hdl : (pkCells (l.drop i)).length = (l.length - i) * i0.size := by rw [pkCells_len, hz1, List.length_drop]
  have htl : (pkCells (l.take i)).length = i * 2 := by rw [pkCells_len, List.length_take, Nat.min_eq_left (by omega)]
  have hvl : vb < w.heap.size := (Array.getElem?_eq_some_iff.1 hv).1
  have hgl : g < w.heap.size := (Array.getElem?_eq_some_iff.1 hg).1
  have hone : ∀ u ∈ [Value.int .i64 x.1, .int .i64 x.2], u.oneCell' = true := by simp [Value.oneCell']
  have hone2 := pkCells_one (l.drop i)
  have hmin1 : 1 = Nat.min 1 (l.length + 1 - i) := by show 1 = min 1 (l.length + 1 - i); omega
  have hmin2 : l.length - i = Nat.min (l.length - i) (l.length + 1 - (i + 1)) := by show l.length - i = min (l.length - i) (l.length + 1 - (i + 1)); omega
  have hc6 : (i : Int) + 1 ≤ l.length + 1 := by omega
  have HK : Hid (Nat.min 1 (l.length + 1 - i) = 1 ∧ Nat.min (l.length - i) (l.length + 1 - (i + 1)) = l.length - i) := ⟨hmin1.symm, hmin2.symm⟩
  have HX : Hid ((Value.int .i64 ((l.length : Int) + 1 - (i : Int))) = .int .i64 ((l.length + 1 - i : Nat) : Int)) := Lib.hid (congrArg _ (by omega))
  have hk0 : 0 < l.length + 1 - i := by omega
  have hk1 : 0 < i0.size := by omega
  have hk2 : l.length < i + (l.length + 1 - i) := by omega
  have hk3 : i + (l.length + 1 - i) ≤ 9223372036854775807 := by omega
  have hk4 : (i + (l.length + 1 - i)) * i0.bytes ≤ 140737488355328 := by rw [hz2, hik]; omega
  have hk5 : (Value.agg #[.int .i64 0, .int .i64 0]).cells.size = i0.size := by rw [hz1]; rfl
  clear hik hmin1 hmin2
  go_enter Try.func99, Try.ntmps99
  go_wp2_with (first | (at_builtin; (refine wpList_append_zeros rfl (.tmp 34) (.tmp 39) 80 3 rfl 95 i0 _ .i64 Try.underlying80 Try.underlying3 hi hz0 ⟨g, 0, none⟩ i l.length (l.length + 1 - i) .i64 rfl HX.out (pkCells (l.take i)) hpre holds hk0 hk1 hk2 hk3 hk4 hk5 ?_; intro c' zs w1 k1 k2 k3 k4 k5; rw [HIK.out]; have hv1 := (k5.block _ hvl).trans hv; have hcc : ¬ (c' = i) := (by omega); have hcc2 : ¬ (c' = i + 1) := (by omega); have hzl : zs.length = (c' - i) * 2 := (by rw [k3, hz1]))) | (refine wpList_copy_rowK rfl (.tmp 43) (.tmp 44) 80 80 rfl 95 i0 Try.underlying80 hi w.heap.size (i * 2) _ _ ⟨vb, 0, none⟩ 1 1 1 rfl rfl (pkCells (l.take i) ++ zs) 95 k4 [.int .i64 x.1, .int .i64 x.2] HK.out.1.symm (by rw [hz1]; rfl) (Lift.Src.cells (pk_src hv1)) (by rw [List.length_append, htl, hzl]; simp; omega) hone ?_; have hr2 := setRow_heap w1 w.heap.size _ (laid (pkCells (l.take i) ++ zs) (i * 2) [.int .i64 x.1, .int .i64 x.2]).toArray _ _ k4; have hgg := (setRow_other w1 w.heap.size g (laid (pkCells (l.take i) ++ zs) (i * 2) [.int .i64 x.1, .int .i64 x.2]).toArray (by omega)).trans ((k5.block _ hgl).trans hg); have hb2 := below_setRow k5 (Nat.le_refl _) (laid (pkCells (l.take i) ++ zs) (i * 2) [.int .i64 x.1, .int .i64 x.2]).toArray; generalize w1.setRow w.heap.size (laid (pkCells (l.take i) ++ zs) (i * 2) [.int .i64 x.1, .int .i64 x.2]).toArray = w2 at hr2 hgg hb2 ⊢))
  have hg3 : ∀ j v, (pkCells (l.drop i))[j]? = some v → w2.drew.cell? ((⟨g, i * 2, none⟩ : Addr).add j) = some v := row_cell (w := w2.drew) hgg (i * 2) (pkCells (l.drop i)) hD
  have hr3 : w2.drew.heap[w.heap.size]? = some (.cells (laid (pkCells (l.take i) ++ zs) (i * 2) [.int .i64 x.1, .int .i64 x.2]).toArray 95 (0, 0)) := hr2
  have hfit3 : (i + 1) * 2 + (pkCells (l.drop i)).length ≤ (laid (pkCells (l.take i) ++ zs) (i * 2) [.int .i64 x.1, .int .i64 x.2]).length := by
    rw [laid_len (by rw [List.length_append, htl, hzl]; simp; omega), List.length_append, htl, hzl, hdl, hz1]; omega
  have hw1 : IntKind.i64.wrap ((i : Int) + 1) = (i : Int) + 1 := IntWalk.i64_in _ (by omega)
  have hb1 : (0 : Int) ≤ (i : Int) + 1 := by omega
  have htn : ((i : Int) + 1).toNat = i + 1 := by omega
  go_region_law (refine step_copy_rowK rfl (.tmp 50) (.tmp 53) 80 80 rfl 95 i0 Try.underlying80 hi w.heap.size ((i + 1) * 2) _ _ ⟨g, i * 2, none⟩ _ _ (l.length - i) (by simp [Act.eval, Act.put]; rfl) (by simp [Act.eval, Act.put]; rfl) _ 95 hr3 (pkCells (l.drop i)) HK.out.2.symm hdl hg3 hfit3 hone2 ?_)
  clear hw1 htn
  go_wp2_with fail
  go_ret
  have hr4 := setRow_heap w2.drew w.heap.size _ (laid (laid (pkCells (l.take i) ++ zs) (i * 2) [.int .i64 x.1, .int .i64 x.2]) ((i + 1) * 2) (pkCells (l.drop i))).toArray _ _ hr3
  refine ⟨.slice (some ⟨w.heap.size, 0, none⟩) (l.length + 1) c', rfl, ?_, (below_setRow hb2.drew (Nat.le_refl _) _).mono hB⟩
  refine ⟨by rw [pkCells_len], .inr ⟨w.heap.size, c', _, by rw [insAt_len _ _ _ (by omega)], hB, hr4, by rw [insAt_len _ _ _ (by omega)]; omega, k2, ?_, ?_⟩⟩
  · rw [List.size_toArray, laid_len hfit3, laid_len (by rw [List.length_append, htl, hzl]; simp; omega), List.length_append, htl, hzl]; omega
  · have e := grow_cells (A := pkCells (l.take i)) (X := [.int .i64 x.1, .int .i64 x.2]) (D := pkCells (l.drop i)) (zs := zs) rfl (by rw [hdl, hz1, hzl]; omega)
    rw [htl, ← pkCells_ins, hdl, hz1] at e
    rw [insAt_len _ _ _ (by omega), show (l.length + 1) * 2 = i * 2 + 2 + (l.length - i) * 2 by omega, show (i + 1) * 2 = i * 2 + 2 by omega]
    exact e
set_option maxRecDepth 100000 in
set_option maxHeartbeats 1000000 in
theorem insert_room (w : World) (B g cap : Nat) (cur : List Value) (l : List Pk) (i : Nat) (x : Pk) (vb : Nat) (hil : i < l.length) (hcap : l.length < cap) (hcm : cap ≤ 9223372036854775807) (hg : w.heap[g]? = some (.cells cur.toArray 95 (0, 0))) (hcs : cur.length = cap * 2) (ht : cur.take (l.length * 2) = pkCells l)
    (hv : w.heap[vb]? = some (.cells #[.int .i64 x.1, .int .i64 x.2] 95 (0, 0))) (hne : vb ≠ g) (hm : l.length + 1 ≤ 4194304) (hBg : B ≤ g) :
    Calls Try.prog 99 #[.slice (some ⟨g, 0, none⟩) l.length cap, .int .i64 i, .slice (some ⟨vb, 0, none⟩) 1 1] w fun r w' => ∃ v', r = .returned v' ∧ PkOwn w' B v' (insAt l i x) ∧ Below B w w' := by
  obtain ⟨i0, hi, hz0, hz1, hz2⟩ := info_parts info95
  have hc0 : ¬ (cap = i) := by omega
  have hc1 : ¬ ((i : Int) = l.length) := by omega
  have hc2 : (i : Int) ≤ l.length := by omega
  have hc3 : ((i : Int) == l.length) = false := by simp; omega
  have hc4 : ¬ ((cap : Int) < l.length + 1) := by omega
  have hc5 : ¬ (cap = i + 1) := by omega
  have hc6 : (l.length : Int) + 1 ≤ cap := by omega
  have hc7 : (i : Int) + 1 ≤ l.length + 1 := by omega
  have hc8 : (i : Int) ≤ (l.length : Int) + 1 := by omega
  have hpl := pkCells_len l
  have hdl : (pkCells (l.drop i)).length = (l.length - i) * i0.size := by rw [pkCells_len, hz1, List.length_drop]
  have htl : (pkCells (l.take i)).length = i * 2 := by rw [pkCells_len, List.length_take, Nat.min_eq_left (by omega)]
  have hcur : cur = pkCells (l.take i) ++ (pkCells (l.drop i) ++ cur.drop (l.length * 2)) := by
    have h1 := (List.take_append_drop (l.length * 2) cur).symm
    rw [ht] at h1
    have h2 : pkCells l = pkCells (l.take i) ++ pkCells (l.drop i) := by rw [← pkCells_app, List.take_append_drop]
    rw [h2, List.append_assoc] at h1
    exact h1
  have hR : 2 ≤ (cur.drop (l.length * 2)).length := by rw [List.length_drop]; omega
  have hD : ∀ j v, (pkCells (l.drop i))[j]? = some v → cur[i * 2 + j]? = some v := by
    intro j v hj
    rw [pkCells_drop, ← ht, List.getElem?_drop, List.getElem?_take] at hj
    split at hj
    · exact hj
    · cases hj
  have hvl : vb < w.heap.size := (Array.getElem?_eq_some_iff.1 hv).1
  have hgl : g < w.heap.size := (Array.getElem?_eq_some_iff.1 hg).1
  have hone : ∀ u ∈ [Value.int .i64 x.1, .int .i64 x.2], u.oneCell' = true := by simp [Value.oneCell']
  have hone2 := pkCells_one (l.drop i)
  have HK : Hid (1 = Nat.min 1 (l.length + 1 - i) ∧ l.length - i = Nat.min (l.length + 1 - i) (l.length + 1 - (i + 1))) := ⟨by show 1 = min 1 (l.length + 1 - i); omega, by show l.length - i = min (l.length + 1 - i) (l.length + 1 - (i + 1)); omega⟩
  have hov : ∀ lb cb, (callFunc 118 #[.slice (some ⟨vb, 0, none⟩) 1 1, .slice (some ⟨g, (i + 1) * 2, none⟩) lb cb]).run Try.prog w = .ok (.value (.bool false)) w := fun lb cb => by
    rw [run_callFunc_extern Try.func118 (by kernel_rfl) (by kernel_rfl) (by kernel_rfl) (e := Extern.SlicesOverlaps.overlaps #[80, 80] #[4]) (by kernel_rfl),
      Lib.run_overlaps_apart w 80 4 95 Try.underlying80 2 (fun w => by simp [sizeOf, typeInfo, hi, hz1]) ⟨vb, 0, none⟩ ⟨g, (i + 1) * 2, none⟩ 1 1 lb cb hne 95 95 2 cur.length (by simp [World.shape?, hv]) (by simp [World.shape?, hg]) (by omega) (by simp [World.frozen?, hv]) (by simp [World.frozen?, hv])]
    rfl
  have hfit3 : (i + 1) * 2 + (pkCells (l.drop i)).length ≤ cur.length := by rw [hdl, hz1]; omega
  have hr3 : w.drew.heap[g]? = some (.cells cur.toArray 95 (0, 0)) := hg
  have hg3 : ∀ j v, (pkCells (l.drop i))[j]? = some v → w.drew.cell? ((⟨g, i * 2, none⟩ : Addr).add j) = some v := row_cell (w := w.drew) hg (i * 2) (pkCells (l.drop i)) hD
  have hr4 := setRow_heap w.drew g _ (laid cur ((i + 1) * 2) (pkCells (l.drop i))).toArray _ _ hr3
  have hv4 := (setRow_other w.drew g vb (laid cur ((i + 1) * 2) (pkCells (l.drop i))).toArray hne).trans (show w.drew.heap[vb]? = _ from hv)
  have hb4 := below_setRow (Below.refl B w).drew hBg (laid cur ((i + 1) * 2) (pkCells (l.drop i))).toArray
  have hfit4 : i * 2 + [Value.int .i64 x.1, .int .i64 x.2].length ≤ (laid cur ((i + 1) * 2) (pkCells (l.drop i))).length := by rw [laid_len hfit3]; simp; omega
  obtain ⟨w4, hw4⟩ : ∃ w4, w4 = w.drew.setRow g (laid cur ((i + 1) * 2) (pkCells (l.drop i))).toArray := ⟨_, rfl⟩
  rw [← hw4] at hr4 hv4 hb4
  have HW4 := Lib.hid hw4
  have HCUR := Lib.hid hcur
  have HCS := Lib.hid hcs
  clear hcur
  have hw1 : IntKind.i64.wrap ((i : Int) + 1) = (i : Int) + 1 := IntWalk.i64_in _ (by omega)
  have hb1 : (0 : Int) ≤ (i : Int) + 1 := by omega
  have htn : ((i : Int) + 1).toNat = i + 1 := by omega
  clear hw4
  go_enter Try.func99, Try.ntmps99
  go_wp2_with (simp only [hov])
  go_region_law (refine step_copy_rowK rfl (.tmp 73) (.tmp 76) 80 80 rfl 95 i0 Try.underlying80 hi g ((i + 1) * 2) _ _ ⟨g, i * 2, none⟩ _ _ (l.length - i) (by simp [Act.eval, Act.put]; rfl) (by simp [Act.eval, Act.put]; rfl) _ 95 hr3 (pkCells (l.drop i)) HK.out.2 hdl hg3 hfit3 hone2 ?_)
  rw [← HW4.out]
  clear hw1 htn
  go_wp2_with (refine wpList_copy_rowK rfl (.tmp 80) (.tmp 81) 80 80 rfl 95 i0 Try.underlying80 hi g (i * 2) _ _ ⟨vb, 0, none⟩ 1 1 1 rfl rfl (laid cur ((i + 1) * 2) (pkCells (l.drop i))) 95 hr4 [.int .i64 x.1, .int .i64 x.2] HK.out.1 (by rw [hz1]; rfl) (Lift.Src.cells (pk_src hv4)) hfit4 hone ?_)
  go_ret
  have hr5 := setRow_heap w4 g _ (laid (laid cur ((i + 1) * 2) (pkCells (l.drop i))) (i * 2) [.int .i64 x.1, .int .i64 x.2]).toArray _ _ hr4
  refine ⟨.slice (some ⟨g, 0, none⟩) (l.length + 1) cap, rfl, ?_, below_setRow hb4 hBg _⟩
  refine ⟨by rw [pkCells_len], .inr ⟨g, cap, _, by rw [insAt_len _ _ _ (by omega)], hBg, hr5, by rw [insAt_len _ _ _ (by omega)]; omega, by unfold maxLen; omega, ?_, ?_⟩⟩
  · rw [List.size_toArray, laid_len hfit4, laid_len hfit3, hcs]
  · have e := room_cells (A := pkCells (l.take i)) (X := [.int .i64 x.1, .int .i64 x.2]) (D := pkCells (l.drop i)) (R := cur.drop (l.length * 2)) rfl hR
    rw [← HCUR.out, htl, ← pkCells_ins, hdl, hz1] at e
    rw [insAt_len _ _ _ (by omega), show (l.length + 1) * 2 = i * 2 + 2 + (l.length - i) * 2 by omega, show (i + 1) * 2 = i * 2 + 2 by omega]
    exact e
set_option maxRecDepth 100000 in
theorem insert_any (w : World) (B : Nat) (s : Value) (l : List Pk) (i : Nat) (x : Pk) (vb : Nat) (hil : i ≤ l.length) (hs : PkOwn w B s l) (hv : w.heap[vb]? = some (.cells #[.int .i64 x.1, .int .i64 x.2] 95 (0, 0))) (hne : s.ownBlock ≠ some vb) (hm : l.length + 1 ≤ 4194304) (hB : B ≤ w.heap.size) :
    Calls Try.prog 99 #[s, .int .i64 i, .slice (some ⟨vb, 0, none⟩) 1 1] w fun r w' => ∃ v', r = .returned v' ∧ PkOwn w' B v' (insAt l i x) ∧ Below B w w' := by
  by_cases hi : i = l.length
  · subst hi
    rw [show insAt l l.length x = l ++ [x] by simp [insAt]]
    exact insert_end w B s l x vb hs hv hm hB
  · rcases hs.2 with ⟨rfl, h0⟩ | ⟨g, cap, cur, rfl, hBg, hg, hnc, hcm, hcs, htake⟩
    · omega
    · have hcur : cur = cur.toList.toArray := by simp
      by_cases hc : cap = l.length
      · subst hc
        exact insert_grow w B g cur.toList l i x vb (by omega) (by rw [← hcur]; exact hg) htake hv hm hB
      · exact insert_room w B g cap cur.toList l i x vb (by omega) (by omega) (by unfold maxLen at hcm; omega) (by rw [← hcur]; exact hg) (by rw [Array.length_toList]; exact hcs) htake hv (fun e => hne (by rw [e]; rfl)) hm hBg
end Go.Proofs.Ytccknhhjkkbadaa.Fg
