/- Contracts: the references' Get, With, picks of a row of picks. -/
import Derived.Test.YtccknhhjkkbadaaFg2
namespace Go.Proofs.Ytccknhhjkkbadaa.Fg
open Go.ChangeShapes Go.WideShapes Go.ChangeAt Go.RowKit Go.Proofs.Ytccknhhjkkbadaa.Lift
set_option linter.unusedVariables false
set_option linter.unusedSimpArgs false
/-- the first pick of an id. -/
def getR (l : List Pk) (id : Int) : Int × Bool := match l.find? (fun x => decide (x.1 = id)) with | some x => (x.2, true) | none => (0, false)
theorem getR_hit {l : List Pk} {id : Int} {k : Nat} (hk : k < l.length) (h : l[k].1 = id) (hm : ∀ j (hj : j < l.length), j < k → ¬ l[j].1 = id) : getR l id = (l[k].2, true) := by
  have : l.find? (fun x => decide (x.1 = id)) = some l[k] := by
    rw [List.find?_eq_some_iff_getElem]
    exact ⟨by simpa using h, k, hk, rfl, fun j hj => by simpa using hm j (by omega) hj⟩
  simp [getR, this]
theorem getR_miss {l : List Pk} {id : Int} (hm : ∀ j (hj : j < l.length), ¬ l[j].1 = id) : getR l id = (0, false) := by
  have : l.find? (fun x => decide (x.1 = id)) = none := by
    rw [List.find?_eq_none]
    intro x hx
    obtain ⟨j, hj, rfl⟩ := List.getElem_of_mem hx
    simpa using hm j hj
  simp [getR, this]
set_option maxRecDepth 100000 in
theorem refGet_any (w0 : World) (l : List Pk) (id : Int) (w : World) (v : Value) (hv : PkSl w0 v l) (h0 : Below w0.heap.size w0 w) :
    Calls Try.prog 58 #[v, .int .i64 id] w fun r w' => r = .returned (.tuple #[.int .i64 (getR l id).1, .bool (getR l id).2]) ∧ Below w.heap.size w w' := by
  obtain ⟨A, cap, rfl, h1, h2, h3, h4, h5⟩ := hv
  go_enter Try.func58, Try.ntmps58
  go_wp2_with fail
  go_loopw [10] (fun i wr => ∃ k : Nat, i = .int .i64 k ∧ k ≤ l.length ∧ Hid (∀ j (hj : j < l.length), j < k → ¬ l[j].1 = id) ∧ Below w.heap.size w wr) (fun i _ => l.length - (intOf i).toNat)
  case atStart => exact ⟨0, rfl, Nat.zero_le _, fun _ _ h => absurd h (Nat.not_lt_zero _), Below.refl _ _⟩
  case round =>
    obtain ⟨k, rfl, hk, hm, hb⟩ := hrel
    by_cases hlt : k < l.length
    · obtain ⟨b, o, rfl, hbl, c1, c2⟩ := pk_cell h5 k hlt
      have hb0 := h0.trans (hb.mono h0.size)
      have x1 := (hb0.cell (p := ⟨b, o + k * 2, none⟩) hbl).trans c1
      have x2 := (hb0.cell (p := ⟨b, o + k * 2 + 1, none⟩) hbl).trans c2
      clear h5 c1 c2
      by_cases he : l[k].1 = id
      · have HI := Lib.hid (getR_hit hlt he hm.out)
        have q1 : (l[k].1 == id) = true := by simp [he]
        clear he
        generalize l[k] = x at *
        go_wp2_with fail
        go_ret2
        exact ⟨by rw [HI.out]; rfl, hb.alloc hb.size _⟩
      · have HM : Hid (∀ j (hj : j < l.length), j < k + 1 → ¬ l[j].1 = id) := by
          intro j hj h
          by_cases e : j = k
          · subst e; exact he
          · exact hm.out j hj (by omega)
        have q1 : (l[k].1 == id) = false := by simp [he]
        clear hm he
        generalize l[k] = x at *
        go_wp2_with fail
        exact ⟨⟨k + 1, by go_num, by omega, HM, hb.alloc hb.size _⟩, by simp [intOf]; omega⟩
    · have HI := Lib.hid (getR_miss (fun j hj => hm.out j hj (by omega)))
      go_wp2_with fail
      go_ret2
      exact ⟨by rw [HI.out]; rfl, hb⟩
/-- a pick behind others, and before it the new one, if it is its place. -/
def stepR (id a : Int) (q : List Pk × Bool) (p : Pk) : List Pk × Bool := if q.2 = false ∧ id < p.1 then (q.1 ++ [(id, a)] ++ [p], true) else (q.1 ++ [p], q.2)
def foldR (id a : Int) (l : List Pk) : List Pk × Bool := l.foldl (stepR id a) ([], false)
def withR (l : List Pk) (id a : Int) : List Pk := if (getR l id).2 then l else if (foldR id a l).2 then (foldR id a l).1 else (foldR id a l).1 ++ [(id, a)]
theorem foldR_take {id a : Int} {l : List Pk} {k : Nat} (h : k < l.length) : foldR id a (l.take (k + 1)) = stepR id a (foldR id a (l.take k)) l[k] := by
  rw [foldR, List.take_succ_eq_append_getElem h, List.foldl_append]
  rfl
theorem stepR_len (id a : Int) (q : List Pk × Bool) (p : Pk) : (stepR id a q p).1.length + (if (stepR id a q p).2 then 0 else 1) ≤ q.1.length + 1 + (if q.2 then 0 else 1) := by
  obtain ⟨o, d⟩ := q
  unfold stepR
  split
  · rename_i h
    simp only at h
    simp [h.1]
  · simp
theorem foldR_len (id a : Int) (l : List Pk) : (foldR id a l).1.length + (if (foldR id a l).2 then 0 else 1) ≤ l.length + 1 := by
  have : ∀ (l : List Pk) (q : List Pk × Bool), (l.foldl (stepR id a) q).1.length + (if (l.foldl (stepR id a) q).2 then 0 else 1) ≤ q.1.length + (if q.2 then 0 else 1) + l.length := by
    intro l
    induction l with
    | nil => intro q; exact Nat.le_refl _
    | cons p r ih =>
      intro q
      rw [List.foldl_cons]
      have h1 := ih (stepR id a q p)
      have h2 := stepR_len id a q p
      simp only [List.length_cons]
      omega
  have h := this l ([], false)
  simp at h
  unfold foldR
  omega
theorem withR_len (l : List Pk) (id a : Int) : (withR l id a).length ≤ l.length + 1 := by
  have h := foldR_len id a l
  unfold withR
  split
  · omega
  · split
    · rename_i h2; rw [h2] at h; simpa using h
    · rename_i h2
      rw [Bool.not_eq_true] at h2
      rw [h2] at h
      simp at h ⊢
      omega
/-- a row that is read. -/
def NewPk (l : List Pk) (w : World) (e : Ending) (w' : World) : Prop := ∃ v, e = .returned v ∧ PkSl w' v l ∧ Below w.heap.size w w'
theorem pk_one (w : World) (x : Pk) : Lift.Src (w.alloc (.cells #[.int .i64 x.1, .int .i64 x.2] 95)) 2 (some ⟨w.heap.size, 0, none⟩) 1 [.int .i64 x.1, .int .i64 x.2] :=
  Lift.Src.of_own (own_new w 95 2 1 #[.int .i64 x.1, .int .i64 x.2] rfl (by omega))
theorem pk_at (w : World) (x : Pk) (n : Nat) (hn : n = w.heap.size) : Lift.Src (w.alloc (.cells #[.int .i64 x.1, .int .i64 x.2] 95)) 2 (some ⟨n, 0, none⟩) 1 [.int .i64 x.1, .int .i64 x.2] := by
  subst hn; exact pk_one w x
theorem grow_pk {w w' : World} {B : Nat} {v : Value} {l : List Pk} {o : Obj} {x : Pk} {v' : Value} (h : PkOwn w B v l) (hB : B ≤ w.heap.size) (h1 : w'.ownsRow B 95 2 v' (l.length + 1) (pkCells l ++ [.int .i64 x.1, .int .i64 x.2])) (h2 : (w.alloc o).grownBy w' v.ownBlock) :
    PkOwn w' B v' (l ++ [x]) ∧ Below B w w' := by
  refine ⟨?_, ((Below.refl B w).alloc hB o).trans (below_grown (show (w.alloc o).ownsRow B 95 2 v l.length (pkCells l) from h.alloc o) h2 (by simp; omega))⟩
  unfold PkOwn
  rw [pkCells_app, List.length_append]
  exact h1
set_option maxRecDepth 100000 in
set_option maxHeartbeats 2000000 in
theorem refWith_any (w0 : World) (l : List Pk) (id a : Int) (w : World) (v : Value) (hv : PkSl w0 v l) (h0 : Below w0.heap.size w0 w) (hm : l.length + 2 ≤ 4194304) :
    Calls Try.prog 62 #[v, .int .i64 id, .int .i64 a] w (NewPk (withR l id a) w) := by
  have hv0 := hv
  have HG := Lib.hid (refGet_any w0 l id w v hv h0)
  have HWR : Hid (withR l id a = if (getR l id).2 then l else if (foldR id a l).2 then (foldR id a l).1 else (foldR id a l).1 ++ [(id, a)]) := Lib.hid rfl
  generalize getR l id = q at *
  obtain ⟨n, is⟩ := q
  dsimp only at *
  obtain ⟨A, cap, rfl, h1, h2, h3, h4, h5⟩ := hv
  cases is with
  | true =>
    go_enter Try.func62, Try.ntmps62
    go_wp2_with (go_at_call 58; refine HG.out.mono ?_; rintro e w1 ⟨rfl, hb1⟩)
    go_ret
    exact ⟨_, rfl, by rw [HWR.out]; exact hv0.below (h0.thenCall h0.size hb1) (Nat.le_refl _), hb1⟩
  | false =>
    obtain ⟨i0, hi, hz0, hz1, hz2⟩ := info_parts info95
    go_enter Try.func62, Try.ntmps62
    go_wp2_with fail
    refine HG.out.mono ?_
    rintro e w1 ⟨rfl, hb1⟩
    go_wp2_with fail
    go_loopw [9, 10, 23] (fun t d i wr => ∃ (k : Nat), i = .int .i64 k ∧ k ≤ l.length ∧ PkOwn wr w.heap.size t (foldR id a (l.take k)).1 ∧ d = .bool (foldR id a (l.take k)).2 ∧ Below w.heap.size w wr) (fun _ _ i _ => l.length - (intOf i).toNat)
    case atStart => exact ⟨0, rfl, Nat.zero_le _, World.ownsRow_nil _ _ _ _, rfl, hb1⟩
    case round =>
      obtain ⟨k, rfl, hk, ho, rfl, hb⟩ := hrel
      have hlen := foldR_len id a (l.take k)
      have hlen2 : (l.take k).length ≤ k := List.length_take_le _ _
      by_cases hlt : k < l.length
      · obtain ⟨b, o, rfl, hbl, c1, c2⟩ := pk_cell h5 k hlt
        have hb0 := h0.trans (hb.mono h0.size)
        have x1 := (hb0.cell (p := ⟨b, o + k * 2, none⟩) hbl).trans c1
        have x2 := (hb0.cell (p := ⟨b, o + k * 2 + 1, none⟩) hbl).trans c2
        have HT := Lib.hid (foldR_take (id := id) (a := a) hlt)
        clear h5 c1 c2 hb0
        generalize l[k] = y at *
        generalize foldR id a (l.take k) = q at *
        obtain ⟨out, d⟩ := q
        dsimp only at *
        have hol : out.length ≤ k + 1 := by
          have : out.length ≤ out.length + (if d = true then 0 else 1) := Nat.le_add_right _ _
          omega
        have hg1 : out.length + 1 ≤ maxLen := by unfold maxLen; omega
        have hg2 : (out.length + 1) * 16 ≤ 140737488355328 := by omega
        have hg3 : (out ++ [(id, a)]).length + 1 ≤ maxLen := by unfold maxLen; simp; omega
        have hg4 : ((out ++ [(id, a)]).length + 1) * 16 ≤ 140737488355328 := by simp; omega
        have hX := hb.alloc hb.size (.cells #[.int .i64 y.1, .int .i64 y.2] 95)
        have hoX : PkOwn (wr.alloc (.cells #[.int .i64 y.1, .int .i64 y.2] 95)) w.heap.size u9 out := ho.alloc _
        have hbX := hX.size
        by_cases hp : d = false ∧ id < y.1
        · have HS : Hid (stepR id a (out, d) y = (out ++ [(id, a)] ++ [y], true)) := Lib.hid (by rw [stepR, if_pos hp])
          obtain ⟨rfl, hp⟩ := hp
          have hsz : w.heap.size ≤ ((wr.alloc (.cells #[.int .i64 y.1, .int .i64 y.2] 95)).alloc (.cells #[.int .i64 id, .int .i64 a] 95)).heap.size := by simp at hbX ⊢; omega
          have hyX : ((wr.alloc (.cells #[.int .i64 y.1, .int .i64 y.2] 95)).alloc (.cells #[.int .i64 id, .int .i64 a] 95)).heap[wr.heap.size]? = some (.cells #[.int .i64 y.1, .int .i64 y.2] 95 (0, 0)) := by
            rw [Below.heap_alloc _ _ _ (by simp)]; exact heap_alloc_new wr _
          have hsz3 : wr.heap.size < ((wr.alloc (.cells #[.int .i64 y.1, .int .i64 y.2] 95)).alloc (.cells #[.int .i64 id, .int .i64 a] 95)).heap.size := by simp; omega
          have hne : some wr.heap.size ≠ u9.ownBlock := fun e => by have := (own_block_lt ho e.symm).2; omega
          go_wp2_with (first | (at_builtin; (refine wpList_append_src rfl (.tmp 35) (.tmp 39) 80 rfl w.heap.size 95 i0 _ 2 16 Try.underlying80 hi hz0 hz1 hz2 rfl (by omega) u9 out.length _ rfl (hoX.alloc _) (some ⟨_, 0, none⟩) 1 1 [.int .i64 (id, a).1, .int .i64 (id, a).2] rfl (pk_at _ (id, a) _ (by simp)) (fun h => by cases h) (by simp [Value.oneCell']) hg1 hg2 hsz ?_; intro v2 w2 o2 h2; obtain ⟨hoY, hbY⟩ := grow_pk hoX hbX o2 h2; have hb2 := hX.trans hbY; have hsz2 : w.heap.size ≤ (w2.alloc (.cells #[.int .i64 y.1, .int .i64 y.2] 95)).heap.size := (by have := hb2.size; simp; omega); have hyb := (h2.block wr.heap.size hsz3 hne).trans hyX; have hyl := (Array.getElem?_eq_some_iff.1 hyb).1; have y1 : w2.cell? ⟨wr.heap.size, 0, none⟩ = some (.int .i64 y.1) := (by simp [World.cell?, hyb]); have y2 : w2.cell? ⟨wr.heap.size, 1, none⟩ = some (.int .i64 y.2) := (by simp [World.cell?, hyb]))) | (at_builtin; refine wpList_append_src rfl (.tmp 41) (.tmp 43) 80 rfl w.heap.size 95 i0 _ 2 16 Try.underlying80 hi hz0 hz1 hz2 rfl (by omega) v2 (out ++ [(id, a)]).length _ rfl (hoY.alloc _) (some ⟨_, 0, none⟩) 1 1 [.int .i64 y.1, .int .i64 y.2] rfl (pk_at _ y _ (by simp)) (fun h => by cases h) (by simp [Value.oneCell']) hg3 hg4 hsz2 ?_; intro v3 w3 o3 h3))
          obtain ⟨hoZ, hbZ⟩ := grow_pk hoY hb2.size o3 h3
          exact ⟨⟨k + 1, by go_num, by omega, by rw [HT.out, HS.out]; exact hoZ, by rw [HT.out, HS.out], hb2.trans hbZ⟩, by simp [intOf]; omega⟩
        · have HS : Hid (stepR id a (out, d) y = (out ++ [y], d)) := Lib.hid (by rw [stepR, if_neg hp])
          have hsz : w.heap.size ≤ ((wr.alloc (.cells #[.int .i64 y.1, .int .i64 y.2] 95)).alloc (.cells #[.int .i64 y.1, .int .i64 y.2] 95)).heap.size := by simp at hbX ⊢; omega
          have hpp : d = true ∨ (d = false ∧ ¬ id < y.1) := by
            cases d
            · exact .inr ⟨rfl, fun h => hp ⟨rfl, h⟩⟩
            · exact .inl rfl
          clear hp
          rcases hpp with rfl | ⟨rfl, hp⟩
          all_goals
            go_wp2_with (at_builtin; refine wpList_append_src rfl (.tmp 41) (.tmp 43) 80 rfl w.heap.size 95 i0 _ 2 16 Try.underlying80 hi hz0 hz1 hz2 rfl (by omega) u9 out.length _ rfl (hoX.alloc _) (some ⟨_, 0, none⟩) 1 1 [.int .i64 y.1, .int .i64 y.2] rfl (pk_at _ y _ (by simp)) (fun h => by cases h) (by simp [Value.oneCell']) hg1 hg2 hsz ?_; intro v3 w3 o3 h3)
            obtain ⟨hoZ, hbZ⟩ := grow_pk hoX hbX o3 h3
            exact ⟨⟨k + 1, by go_num, by omega, by rw [HT.out, HS.out]; exact hoZ, by rw [HT.out, HS.out], hX.trans hbZ⟩, by simp [intOf]; omega⟩
      · have he : l.take k = l := List.take_of_length_le (by omega)
        rw [he] at ho hlen ⊢
        clear he
        generalize foldR id a l = q at *
        obtain ⟨out, d⟩ := q
        dsimp only at *
        simp only [Bool.false_eq_true, if_false] at HWR
        have hol : out.length + 1 ≤ 4194304 := by
          have : out.length ≤ out.length + (if d = true then 0 else 1) := Nat.le_add_right _ _
          omega
        have hg1 : out.length + 1 ≤ maxLen := by unfold maxLen; omega
        have hg2 : (out.length + 1) * 16 ≤ 140737488355328 := by omega
        have hsz : w.heap.size ≤ (wr.alloc (.cells #[.int .i64 id, .int .i64 a] 95)).heap.size := by have := hb.size; simp; omega
        cases d with
        | true =>
          go_wp2_with fail
          go_ret
          exact ⟨_, rfl, by rw [HWR.out]; exact ho.sl (by omega), hb⟩
        | false =>
          go_wp2_with (at_builtin; refine wpList_append_src rfl (.tmp 48) (.tmp 52) 80 rfl w.heap.size 95 i0 _ 2 16 Try.underlying80 hi hz0 hz1 hz2 rfl (by omega) u9 out.length _ rfl (World.ownsRow.alloc ho _) (some ⟨_, 0, none⟩) 1 1 [.int .i64 (id, a).1, .int .i64 (id, a).2] rfl (pk_at _ (id, a) _ (by simp)) (fun h => by cases h) (by simp [Value.oneCell']) hg1 hg2 hsz ?_; intro v3 w3 o3 h3)
          go_ret
          obtain ⟨hoZ, hbZ⟩ := grow_pk (x := (id, a)) ho hb.size o3 h3
          exact ⟨_, rfl, by rw [HWR.out]; exact hoZ.sl (by simp; omega), hb.trans hbZ⟩
end Go.Proofs.Ytccknhhjkkbadaa.Fg
