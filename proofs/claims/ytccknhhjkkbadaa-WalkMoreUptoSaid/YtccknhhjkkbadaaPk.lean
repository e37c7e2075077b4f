/- Rows of picks; contracts: slices.IndexFunc at picks, finger.place, Get, Len, Picks. -/
import Derived.Test.YtccknhhjkkbadaaWhere
import Derived.WalkSpells
namespace Go.Proofs.Ytccknhhjkkbadaa.Fg
open Go.ChangeShapes Go.WideShapes Go.ChangeAt Go.RowKit Go.Proofs.Ytccknhhjkkbadaa.Lift
set_option linter.unusedVariables false
set_option linter.unusedSimpArgs false
abbrev Pk := Int × Int
/-- the cells of picks. -/
def pkCells : List Pk → List Value
  | [] => []
  | p :: r => .int .i64 p.1 :: .int .i64 p.2 :: pkCells r
theorem pkCells_len : ∀ l : List Pk, (pkCells l).length = l.length * 2
  | [] => rfl
  | p :: r => by simp [pkCells, pkCells_len r]; omega
theorem pkCells_app : ∀ l m : List Pk, pkCells (l ++ m) = pkCells l ++ pkCells m
  | [], m => rfl
  | p :: r, m => by simp [pkCells, pkCells_app r m]
theorem pkCells_one : ∀ (l : List Pk), ∀ u ∈ pkCells l, u.oneCell' = true
  | [], u, h => by simp [pkCells] at h
  | p :: r, u, h => by
    simp only [pkCells, List.mem_cons] at h
    rcases h with rfl | rfl | h
    · rfl
    · rfl
    · exact pkCells_one r u h
theorem pkCells_get : ∀ (l : List Pk) (j : Nat) (h : j < l.length), (pkCells l)[j * 2]? = some (.int .i64 l[j].1) ∧ (pkCells l)[j * 2 + 1]? = some (.int .i64 l[j].2)
  | [], j, h => by simp at h
  | p :: r, 0, _ => ⟨rfl, rfl⟩
  | p :: r, j + 1, h => by
    have := pkCells_get r j (by simpa using h)
    rw [show (j + 1) * 2 = j * 2 + 1 + 1 by omega]
    simpa [pkCells] using this
/-- a slice of picks that is read. -/
def PkSl (w : World) (v : Value) (l : List Pk) : Prop :=
  ∃ (A : Option Addr) (cap : Nat), v = .slice A l.length cap ∧ l.length ≤ cap ∧ cap ≤ 9223372036854775807 ∧ l.length ≤ 4194304 ∧ (A = none → cap = 0) ∧ Src w 2 A l.length (pkCells l)
theorem PkSl.below {w w' : World} {B : Nat} {v : Value} {l : List Pk} (h : PkSl w v l) (hb : Below B w w') (hB : w.heap.size ≤ B) : PkSl w' v l := by
  obtain ⟨A, cap, h1, h2, h3, h4, h5, h6⟩ := h
  exact ⟨A, cap, h1, h2, h3, h4, h5, h6.below hb hB⟩
theorem pk_cell {w : World} {A : Option Addr} {l : List Pk} (h : Src w 2 A l.length (pkCells l)) (j : Nat) (hj : j < l.length) :
    ∃ b o, A = some ⟨b, o, none⟩ ∧ b < w.heap.size ∧ w.cell? ⟨b, o + j * 2, none⟩ = some (.int .i64 l[j].1) ∧ w.cell? ⟨b, o + j * 2 + 1, none⟩ = some (.int .i64 l[j].2) := by
  rcases h.2 with h0 | ⟨b, o, e, hc⟩
  · omega
  · have g := pkCells_get l j hj
    have h1 := hc _ _ g.1
    have h2 := hc _ _ g.2
    rw [← Nat.add_assoc] at h2
    exact ⟨b, o, e, World.block_lt_of_cell? _ _ h1, h1, h2⟩
theorem PkSl.nil (w : World) : PkSl w (.slice none 0 0) [] := ⟨none, 0, rfl, Nat.le_refl _, by omega, by simp, fun _ => rfl, by simp [pkCells], .inl rfl⟩
/-- a row of picks of the call's own. -/
def PkOwn (w : World) (B : Nat) (v : Value) (l : List Pk) : Prop := w.ownsRow B 95 2 v l.length (pkCells l)
theorem PkOwn.sl {w : World} {B : Nat} {v : Value} {l : List Pk} (h : PkOwn w B v l) (hm : l.length ≤ 4194304) : PkSl w v l := by
  obtain ⟨A, cap, rfl, h1, h2⟩ := own_form h
  exact ⟨A, cap, rfl, h1, h2, hm, own_cap h, Src.of_own h⟩
theorem below1 (w : World) (o : Obj) : Below w.heap.size w (w.alloc o) := (Below.refl _ _).alloc (Nat.le_refl _) o
/-- where a pick is, of which something is so. -/
def idxP (l : List Pk) (p : Pk → Bool) : Int := match l.findIdx? p with | some i => (i : Int) | none => -1
theorem idxP_hit {l : List Pk} {p : Pk → Bool} {k : Nat} (hk : k < l.length) (h : p l[k] = true) (hm : ∀ j (hj : j < l.length), j < k → p l[j] = false) : idxP l p = k := by
  have : l.findIdx? p = some k := by
    rw [List.findIdx?_eq_some_iff_getElem]
    exact ⟨hk, h, fun j hj => by rw [hm j (by omega) hj]; simp⟩
  simp [idxP, this]
theorem idxP_miss {l : List Pk} {p : Pk → Bool} (hm : ∀ j (hj : j < l.length), p l[j] = false) : idxP l p = -1 := by
  have : l.findIdx? p = none := by
    rw [List.findIdx?_eq_none_iff]
    intro x hx
    obtain ⟨j, hj, rfl⟩ := List.getElem_of_mem hx
    exact hm j hj
  simp [idxP, this]
set_option maxRecDepth 100000 in
theorem indexFunc116_any (cp : Value) (p : Pk → Bool) (w0 : World) (l : List Pk) (v : Value) (hv : PkSl w0 v l)
    (hcall : ∀ (w : World) (x : Pk), Below w0.heap.size w0 w → Calls Try.prog 116 #[.agg #[.int .i64 x.1, .int .i64 x.2], cp] w fun r w' => r = .returned (.bool (p x)) ∧ Below w.heap.size w w')
    (w : World) (h0 : Below w0.heap.size w0 w) :
    Calls Try.prog 117 #[v, .func (.func 116) #[] #[cp]] w fun r w' => r = .returned (.int .i64 (idxP l p)) ∧ Below w.heap.size w w' := by
  obtain ⟨A, cap, rfl, h1, h2, h3, h4, h5⟩ := hv
  have HCA := Lib.hid hcall
  clear hcall
  go_enter Try.func117, Try.ntmps117
  go_wp2_with fail
  go_loopw [8] (fun i wr => ∃ k : Nat, i = .int .i64 k ∧ k ≤ l.length ∧ Hid (∀ j (hj : j < l.length), j < k → p l[j] = false) ∧ Below w.heap.size w wr) (fun i _ => l.length - (intOf i).toNat)
  case atStart => exact ⟨0, rfl, Nat.zero_le _, fun _ _ h => absurd h (Nat.not_lt_zero _), Below.refl _ _⟩
  case round =>
    obtain ⟨k, rfl, hk, hm, hb⟩ := hrel
    by_cases hlt : k < l.length
    · obtain ⟨b, o, rfl, hbl, hc1, hc2⟩ := pk_cell h5 k hlt
      clear h5
      have hb0 := h0.trans (hb.mono h0.size)
      have g1 := (hb0.cell (p := ⟨b, o + k * 2, none⟩) hbl).trans hc1
      have g2 := (hb0.cell (p := ⟨b, o + k * 2 + 1, none⟩) hbl).trans hc2
      clear hc1 hc2
      have HC := Lib.hid (HCA.out wr l[k] hb0)
      cases he : p l[k] with
      | true =>
        have HI := Lib.hid (idxP_hit hlt he hm.out)
        rw [he] at HC
        clear he hm
        generalize l[k] = x at *
        go_wp2_with (go_at_call 116; refine HC.out.mono ?_; rintro e w1 ⟨rfl, hb1⟩)
        go_ret
        exact ⟨by rw [HI.out]; rfl, hb.thenCall hb.size hb1⟩
      | false =>
        have HM : Hid (∀ j (hj : j < l.length), j < k + 1 → p l[j] = false) := by
          intro j hj h
          by_cases e : j = k
          · subst e; exact he
          · exact hm.out j hj (by omega)
        rw [he] at HC
        clear he hm
        generalize l[k] = x at *
        go_wp2_with (go_at_call 116; refine HC.out.mono ?_; rintro e w1 ⟨rfl, hb1⟩)
        exact ⟨⟨k + 1, by go_num, by omega, HM, hb.thenCall hb.size hb1⟩, by simp [intOf]; omega⟩
    · have HI := Lib.hid (idxP_miss (fun j hj => hm.out j hj (by omega)))
      go_wp2_with fail
      go_ret
      exact ⟨by rw [HI.out]; rfl, hb⟩
set_option maxRecDepth 100000 in
theorem indexFunc101_any (cp : Value) (p : Pk → Bool) (w0 : World) (l : List Pk) (v : Value) (hv : PkSl w0 v l)
    (hcall : ∀ (w : World) (x : Pk), Below w0.heap.size w0 w → Calls Try.prog 101 #[.agg #[.int .i64 x.1, .int .i64 x.2], cp] w fun r w' => r = .returned (.bool (p x)) ∧ Below w.heap.size w w')
    (w : World) (h0 : Below w0.heap.size w0 w) :
    Calls Try.prog 117 #[v, .func (.func 101) #[] #[cp]] w fun r w' => r = .returned (.int .i64 (idxP l p)) ∧ Below w.heap.size w w' := by
  obtain ⟨A, cap, rfl, h1, h2, h3, h4, h5⟩ := hv
  have HCA := Lib.hid hcall
  clear hcall
  go_enter Try.func117, Try.ntmps117
  go_wp2_with fail
  go_loopw [8] (fun i wr => ∃ k : Nat, i = .int .i64 k ∧ k ≤ l.length ∧ Hid (∀ j (hj : j < l.length), j < k → p l[j] = false) ∧ Below w.heap.size w wr) (fun i _ => l.length - (intOf i).toNat)
  case atStart => exact ⟨0, rfl, Nat.zero_le _, fun _ _ h => absurd h (Nat.not_lt_zero _), Below.refl _ _⟩
  case round =>
    obtain ⟨k, rfl, hk, hm, hb⟩ := hrel
    by_cases hlt : k < l.length
    · obtain ⟨b, o, rfl, hbl, hc1, hc2⟩ := pk_cell h5 k hlt
      clear h5
      have hb0 := h0.trans (hb.mono h0.size)
      have g1 := (hb0.cell (p := ⟨b, o + k * 2, none⟩) hbl).trans hc1
      have g2 := (hb0.cell (p := ⟨b, o + k * 2 + 1, none⟩) hbl).trans hc2
      clear hc1 hc2
      have HC := Lib.hid (HCA.out wr l[k] hb0)
      cases he : p l[k] with
      | true =>
        have HI := Lib.hid (idxP_hit hlt he hm.out)
        rw [he] at HC
        clear he hm
        generalize l[k] = x at *
        go_wp2_with (go_at_call 101; refine HC.out.mono ?_; rintro e w1 ⟨rfl, hb1⟩)
        go_ret
        exact ⟨by rw [HI.out]; rfl, hb.thenCall hb.size hb1⟩
      | false =>
        have HM : Hid (∀ j (hj : j < l.length), j < k + 1 → p l[j] = false) := by
          intro j hj h
          by_cases e : j = k
          · subst e; exact he
          · exact hm.out j hj (by omega)
        rw [he] at HC
        clear he hm
        generalize l[k] = x at *
        go_wp2_with (go_at_call 101; refine HC.out.mono ?_; rintro e w1 ⟨rfl, hb1⟩)
        exact ⟨⟨k + 1, by go_num, by omega, HM, hb.thenCall hb.size hb1⟩, by simp [intOf]; omega⟩
    · have HI := Lib.hid (idxP_miss (fun j hj => hm.out j hj (by omega)))
      go_wp2_with fail
      go_ret
      exact ⟨by rw [HI.out]; rfl, hb⟩
set_option maxRecDepth 100000 in
theorem indexFunc103_any (cp : Value) (p : Pk → Bool) (w0 : World) (l : List Pk) (v : Value) (hv : PkSl w0 v l)
    (hcall : ∀ (w : World) (x : Pk), Below w0.heap.size w0 w → Calls Try.prog 103 #[.agg #[.int .i64 x.1, .int .i64 x.2], cp] w fun r w' => r = .returned (.bool (p x)) ∧ Below w.heap.size w w')
    (w : World) (h0 : Below w0.heap.size w0 w) :
    Calls Try.prog 117 #[v, .func (.func 103) #[] #[cp]] w fun r w' => r = .returned (.int .i64 (idxP l p)) ∧ Below w.heap.size w w' := by
  obtain ⟨A, cap, rfl, h1, h2, h3, h4, h5⟩ := hv
  have HCA := Lib.hid hcall
  clear hcall
  go_enter Try.func117, Try.ntmps117
  go_wp2_with fail
  go_loopw [8] (fun i wr => ∃ k : Nat, i = .int .i64 k ∧ k ≤ l.length ∧ Hid (∀ j (hj : j < l.length), j < k → p l[j] = false) ∧ Below w.heap.size w wr) (fun i _ => l.length - (intOf i).toNat)
  case atStart => exact ⟨0, rfl, Nat.zero_le _, fun _ _ h => absurd h (Nat.not_lt_zero _), Below.refl _ _⟩
  case round =>
    obtain ⟨k, rfl, hk, hm, hb⟩ := hrel
    by_cases hlt : k < l.length
    · obtain ⟨b, o, rfl, hbl, hc1, hc2⟩ := pk_cell h5 k hlt
      clear h5
      have hb0 := h0.trans (hb.mono h0.size)
      have g1 := (hb0.cell (p := ⟨b, o + k * 2, none⟩) hbl).trans hc1
      have g2 := (hb0.cell (p := ⟨b, o + k * 2 + 1, none⟩) hbl).trans hc2
      clear hc1 hc2
      have HC := Lib.hid (HCA.out wr l[k] hb0)
      cases he : p l[k] with
      | true =>
        have HI := Lib.hid (idxP_hit hlt he hm.out)
        rw [he] at HC
        clear he hm
        generalize l[k] = x at *
        go_wp2_with (go_at_call 103; refine HC.out.mono ?_; rintro e w1 ⟨rfl, hb1⟩)
        go_ret
        exact ⟨by rw [HI.out]; rfl, hb.thenCall hb.size hb1⟩
      | false =>
        have HM : Hid (∀ j (hj : j < l.length), j < k + 1 → p l[j] = false) := by
          intro j hj h
          by_cases e : j = k
          · subst e; exact he
          · exact hm.out j hj (by omega)
        rw [he] at HC
        clear he hm
        generalize l[k] = x at *
        go_wp2_with (go_at_call 103; refine HC.out.mono ?_; rintro e w1 ⟨rfl, hb1⟩)
        exact ⟨⟨k + 1, by go_num, by omega, HM, hb.thenCall hb.size hb1⟩, by simp [intOf]; omega⟩
    · have HI := Lib.hid (idxP_miss (fun j hj => hm.out j hj (by omega)))
      go_wp2_with fail
      go_ret
      exact ⟨by rw [HI.out]; rfl, hb⟩
end Go.Proofs.Ytccknhhjkkbadaa.Fg
