/- Contracts: finger.Clash, Within, Same. -/
import Derived.Test.YtccknhhjkkbadaaFg
namespace Go.Proofs.Ytccknhhjkkbadaa.Fg
open Go.ChangeShapes Go.WideShapes Go.ChangeAt Go.RowKit Go.Proofs.Ytccknhhjkkbadaa.Lift
set_option linter.unusedVariables false
set_option linter.unusedSimpArgs false
theorem idxP_any (l : List Pk) (p : Pk → Bool) : decide (0 ≤ idxP l p) = l.any p := by
  unfold idxP
  cases h : l.findIdx? p with
  | none =>
    rw [List.findIdx?_eq_none_iff] at h
    have : l.any p = false := by
      rw [Bool.eq_false_iff, Ne, List.any_eq_true]
      rintro ⟨x, hx, h2⟩
      rw [h x hx] at h2
      cases h2
    rw [this]
    rfl
  | some i =>
    obtain ⟨h1, h2, _⟩ := List.findIdx?_eq_some_iff_getElem.1 h
    have : l.any p = true := List.any_eq_true.2 ⟨_, List.getElem_mem h1, h2⟩
    rw [this]
    simp
/-- a pick that clashes with a finger. -/
def clashP (m : List Pk) (x : Pk) : Bool := (getF m x.1).2 && !decide ((getF m x.1).1 = x.2)
/-- a pick that isn't within a finger. -/
def missP (m : List Pk) (x : Pk) : Bool := !(getF m x.1).2 || !decide ((getF m x.1).1 = x.2)

theorem clash1_any (w0 : World) (m : List Pk) (v : Value) (hv : PkSl w0 v m) (w : World) (g : Nat) (x : Pk) (h : w.cell? ⟨g, 0, none⟩ = some v) (h0 : Below w0.heap.size w0 w) :
    Calls Try.prog 101 #[.agg #[.int .i64 x.1, .int .i64 x.2], .pointer (some ⟨g, 0, none⟩)] w fun r w' => r = .returned (.bool (clashP m x)) ∧ Below w.heap.size w w' := by
  have hg := World.block_lt_of_cell? _ _ h
  obtain ⟨a, b⟩ := x
  have HG := fun o => Lib.hid (get_any w0 m a (w.alloc o) v hv (h0.alloc h0.size o))
  have HP : Hid (clashP m (a, b) = clashP m (a, b)) := Lib.hid rfl
  unfold clashP at HP ⊢
  dsimp only at *
  obtain ⟨A, cap, rfl, _⟩ := hv
  generalize getF m a = q at *
  obtain ⟨n, is⟩ := q
  dsimp only at *
  cases is
  · go_enter Try.func101, Try.ntmps101
    go_wp2_with (go_at_call 51; refine (HG _).out.mono ?_; rintro e w1 ⟨rfl, hb1⟩)
    go_ret
    exact ⟨rfl, Below.call1 hb1⟩
  · by_cases hn : n = b
    · have hn' : (n == b) = true := by simp [hn]
      have hn2 : (n != b) = false := by simp [hn]
      have HN := Lib.hid hn
      clear hn
      go_enter Try.func101, Try.ntmps101
      go_wp2_with fail
      refine (HG _).out.mono ?_
      rintro e w1 ⟨rfl, hb1⟩
      have hc := bcell hb1
      have hz : w.heap.size < w1.heap.size := by have := hb1.size; simp only [World.size_alloc] at this; omega
      go_wp2_with fail
      go_ret
      exact ⟨ret_bool (by simp [HN.out]), Below.call1 hb1⟩
    · have hn' : (n == b) = false := by simp [hn]
      have hn2 : (n != b) = true := by simp [hn]
      have HN := Lib.hid hn
      clear hn
      go_enter Try.func101, Try.ntmps101
      go_wp2_with fail
      refine (HG _).out.mono ?_
      rintro e w1 ⟨rfl, hb1⟩
      have hc := bcell hb1
      have hz : w.heap.size < w1.heap.size := by have := hb1.size; simp only [World.size_alloc] at this; omega
      go_wp2_with fail
      go_ret
      exact ⟨ret_bool (by simp [HN.out]), Below.call1 hb1⟩
theorem contains101_any (cp : Value) (p : Pk → Bool) (w0 : World) (l : List Pk) (v : Value) (hv : PkSl w0 v l)
    (hcall : ∀ (w : World) (x : Pk), Below w0.heap.size w0 w → Calls Try.prog 101 #[.agg #[.int .i64 x.1, .int .i64 x.2], cp] w fun r w' => r = .returned (.bool (p x)) ∧ Below w.heap.size w w')
    (w : World) (h0 : Below w0.heap.size w0 w) :
    Calls Try.prog 102 #[v, .func (.func 101) #[] #[cp]] w fun r w' => r = .returned (.bool (l.any p)) ∧ Below w.heap.size w w' := by
  have H := Lib.hid (indexFunc101_any cp p w0 l v hv hcall w h0)
  have HM := Lib.hid (idxP_any l p)
  clear hcall
  go_enter Try.func102, Try.ntmps102
  go_wp2_with (go_at_call 117; refine H.out.mono ?_; rintro e w' ⟨rfl, hb⟩)
  go_ret
  exact ⟨by rw [← HM.out]; rfl, hb⟩

theorem within1_any (w0 : World) (m : List Pk) (v : Value) (hv : PkSl w0 v m) (w : World) (g : Nat) (x : Pk) (h : w.cell? ⟨g, 0, none⟩ = some v) (h0 : Below w0.heap.size w0 w) :
    Calls Try.prog 103 #[.agg #[.int .i64 x.1, .int .i64 x.2], .pointer (some ⟨g, 0, none⟩)] w fun r w' => r = .returned (.bool (missP m x)) ∧ Below w.heap.size w w' := by
  have hg := World.block_lt_of_cell? _ _ h
  obtain ⟨a, b⟩ := x
  have HG := fun o => Lib.hid (get_any w0 m a (w.alloc o) v hv (h0.alloc h0.size o))
  have HP : Hid (missP m (a, b) = missP m (a, b)) := Lib.hid rfl
  unfold missP at HP ⊢
  dsimp only at *
  obtain ⟨A, cap, rfl, _⟩ := hv
  generalize getF m a = q at *
  obtain ⟨n, is⟩ := q
  dsimp only at *
  cases is
  · go_enter Try.func103, Try.ntmps103
    go_wp2_with (go_at_call 51; refine (HG _).out.mono ?_; rintro e w1 ⟨rfl, hb1⟩)
    go_ret
    exact ⟨rfl, Below.call1 hb1⟩
  · by_cases hn : n = b
    · have hn' : (n == b) = true := by simp [hn]
      have hn2 : (n != b) = false := by simp [hn]
      have HN := Lib.hid hn
      clear hn
      go_enter Try.func103, Try.ntmps103
      go_wp2_with fail
      refine (HG _).out.mono ?_
      rintro e w1 ⟨rfl, hb1⟩
      have hc := bcell hb1
      have hz : w.heap.size < w1.heap.size := by have := hb1.size; simp only [World.size_alloc] at this; omega
      go_wp2_with fail
      go_ret
      exact ⟨ret_bool (by simp [HN.out]), Below.call1 hb1⟩
    · have hn' : (n == b) = false := by simp [hn]
      have hn2 : (n != b) = true := by simp [hn]
      have HN := Lib.hid hn
      clear hn
      go_enter Try.func103, Try.ntmps103
      go_wp2_with fail
      refine (HG _).out.mono ?_
      rintro e w1 ⟨rfl, hb1⟩
      have hc := bcell hb1
      have hz : w.heap.size < w1.heap.size := by have := hb1.size; simp only [World.size_alloc] at this; omega
      go_wp2_with fail
      go_ret
      exact ⟨ret_bool (by simp [HN.out]), Below.call1 hb1⟩
theorem contains103_any (cp : Value) (p : Pk → Bool) (w0 : World) (l : List Pk) (v : Value) (hv : PkSl w0 v l)
    (hcall : ∀ (w : World) (x : Pk), Below w0.heap.size w0 w → Calls Try.prog 103 #[.agg #[.int .i64 x.1, .int .i64 x.2], cp] w fun r w' => r = .returned (.bool (p x)) ∧ Below w.heap.size w w')
    (w : World) (h0 : Below w0.heap.size w0 w) :
    Calls Try.prog 102 #[v, .func (.func 103) #[] #[cp]] w fun r w' => r = .returned (.bool (l.any p)) ∧ Below w.heap.size w w' := by
  have H := Lib.hid (indexFunc103_any cp p w0 l v hv hcall w h0)
  have HM := Lib.hid (idxP_any l p)
  clear hcall
  go_enter Try.func102, Try.ntmps102
  go_wp2_with (go_at_call 117; refine H.out.mono ?_; rintro e w' ⟨rfl, hb⟩)
  go_ret
  exact ⟨by rw [← HM.out]; rfl, hb⟩

set_option maxRecDepth 100000 in
theorem clash_any (w0 : World) (l m : List Pk) (w : World) (v u : Value) (hv : PkSl w0 v l) (hu : PkSl w0 u m) (h0 : Below w0.heap.size w0 w) :
    Calls Try.prog 64 #[.agg #[v], .agg #[u]] w fun r w' => r = .returned (.bool (l.any (clashP m))) ∧ Below w.heap.size w w' := by
  have hv0 := hv
  have hu0 := hu
  obtain ⟨A, cap, rfl, _⟩ := hv
  obtain ⟨A2, cap2, rfl, _⟩ := hu
  have hb2 : Below w.heap.size w ((w.alloc (.cells #[.slice A l.length cap] 84)).alloc (.cells #[.slice A2 m.length cap2] 84)) := ((Below.refl _ _).alloc (Nat.le_refl _) _).alloc (by simp) _
  obtain ⟨W, hW⟩ : ∃ W, W = (w.alloc (.cells #[.slice A l.length cap] 84)).alloc (.cells #[.slice A2 m.length cap2] 84) := ⟨_, rfl⟩
  have e1 : W.cell? ⟨w.heap.size + 1, 0, none⟩ = some (.slice A2 m.length cap2) := by rw [hW]; simp [go_sem]
  have hWs : w.heap.size + 1 < W.heap.size := by rw [hW]; simp
  rw [← hW] at hb2
  have h0W := h0.thenCall h0.size hb2
  have hH := Lib.hid (contains101_any (.pointer (some ⟨w.heap.size + 1, 0, none⟩)) (clashP m) W l _ (hv0.below h0W (Nat.le_refl _))
    (fun w' x hx => clash1_any w0 m _ hu0 w' _ x ((hx.cell (p := ⟨w.heap.size + 1, 0, none⟩) hWs).trans e1) (h0W.thenCall h0W.size hx)) W (Below.refl _ _))
  have HW := Lib.hid hW
  clear hW e1
  go_enter Try.func64, Try.ntmps64
  go_wp2_with fail
  rw [← HW.out]
  refine hH.out.mono ?_
  rintro e w1 ⟨rfl, hb1⟩
  go_wp2_with fail
  go_ret
  exact ⟨rfl, hb2.thenCall hb2.size hb1⟩

set_option maxRecDepth 100000 in
theorem within_any (w0 : World) (l m : List Pk) (w : World) (v u : Value) (hv : PkSl w0 v l) (hu : PkSl w0 u m) (h0 : Below w0.heap.size w0 w) :
    Calls Try.prog 65 #[.agg #[v], .agg #[u]] w fun r w' => r = .returned (.bool (!l.any (missP m))) ∧ Below w.heap.size w w' := by
  have hv0 := hv
  have hu0 := hu
  obtain ⟨A, cap, rfl, _⟩ := hv
  obtain ⟨A2, cap2, rfl, _⟩ := hu
  have hb2 : Below w.heap.size w ((w.alloc (.cells #[.slice A l.length cap] 84)).alloc (.cells #[.slice A2 m.length cap2] 84)) := ((Below.refl _ _).alloc (Nat.le_refl _) _).alloc (by simp) _
  obtain ⟨W, hW⟩ : ∃ W, W = (w.alloc (.cells #[.slice A l.length cap] 84)).alloc (.cells #[.slice A2 m.length cap2] 84) := ⟨_, rfl⟩
  have e1 : W.cell? ⟨w.heap.size + 1, 0, none⟩ = some (.slice A2 m.length cap2) := by rw [hW]; simp [go_sem]
  have hWs : w.heap.size + 1 < W.heap.size := by rw [hW]; simp
  rw [← hW] at hb2
  have h0W := h0.thenCall h0.size hb2
  have hH := Lib.hid (contains103_any (.pointer (some ⟨w.heap.size + 1, 0, none⟩)) (missP m) W l _ (hv0.below h0W (Nat.le_refl _))
    (fun w' x hx => within1_any w0 m _ hu0 w' _ x ((hx.cell (p := ⟨w.heap.size + 1, 0, none⟩) hWs).trans e1) (h0W.thenCall h0W.size hx)) W (Below.refl _ _))
  have HW := Lib.hid hW
  clear hW e1
  go_enter Try.func65, Try.ntmps65
  go_wp2_with fail
  rw [← HW.out]
  refine hH.out.mono ?_
  rintro e w1 ⟨rfl, hb1⟩
  go_wp2_with fail
  go_ret
  exact ⟨rfl, hb2.thenCall hb2.size hb1⟩

set_option maxRecDepth 100000 in
theorem same_ne (w : World) (l m : List Pk) (A A2 : Option Addr) (cap cap2 : Nat) (hl : ¬ l.length = m.length) :
    Calls Try.prog 63 #[.agg #[.slice A l.length cap], .agg #[.slice A2 m.length cap2]] w fun r w' => r = .returned (.bool false) ∧ Below w.heap.size w w' := by
  have h4 : ((l.length : Int) == m.length) = false := by rw [beq_eq_false_iff_ne]; omega
  have h5 : ((l.length : Int) != m.length) = true := by rw [bne_iff_ne]; omega
  go_enter Try.func63, Try.ntmps63
  go_wp2_with fail
  go_ret
  exact ⟨rfl, ((Below.refl _ _).alloc (Nat.le_refl _) _).alloc (by simp) _⟩
theorem take_next {l m : List Pk} {k : Nat} (h1 : k < l.length) (h2 : k < m.length) (h : l.take k = m.take k) (e : l[k] = m[k]) : l.take (k + 1) = m.take (k + 1) := by
  rw [List.take_succ_eq_append_getElem h1, List.take_succ_eq_append_getElem h2, h, e]
set_option maxRecDepth 100000 in
set_option maxHeartbeats 1000000 in
theorem same_any (w0 : World) (l m : List Pk) (w : World) (v u : Value) (hv : PkSl w0 v l) (hu : PkSl w0 u m) (h0 : Below w0.heap.size w0 w) :
    Calls Try.prog 63 #[.agg #[v], .agg #[u]] w fun r w' => r = .returned (.bool (decide (l = m))) ∧ Below w.heap.size w w' := by
  obtain ⟨A, cap, rfl, a1, a2, a3, a4, a5⟩ := hv
  obtain ⟨A2, cap2, rfl, b1, b2, b3, b4, b5⟩ := hu
  by_cases hl : l.length = m.length
  · rw [← hl]
    have HL := Lib.hid hl
    have hl1 : l.length ≤ m.length := by omega
    have hl2 : m.length ≤ l.length := by omega
    have hb2 : Below w.heap.size w ((w.alloc (.cells #[.slice A l.length cap] 84)).alloc (.cells #[.slice A2 l.length cap2] 84)) := ((Below.refl _ _).alloc (Nat.le_refl _) _).alloc (by simp) _
    have e1 : ((w.alloc (.cells #[.slice A l.length cap] 84)).alloc (.cells #[.slice A2 l.length cap2] 84)).cell? ⟨w.heap.size + 1, 0, none⟩ = some (.slice A2 l.length cap2) := by simp [go_sem]
    clear hl
    go_enter Try.func63, Try.ntmps63
    go_wp2_with fail
    go_loopw [17] (fun i wr => ∃ k : Nat, i = .int .i64 k ∧ k ≤ l.length ∧ Hid (l.take k = m.take k) ∧ Below w.heap.size w wr ∧ wr.cell? ⟨w.heap.size + 1, 0, none⟩ = some (.slice A2 l.length cap2)) (fun i _ => l.length - (intOf i).toNat)
    case atStart => exact ⟨0, rfl, Nat.zero_le _, by show l.take 0 = m.take 0; simp, hb2, e1⟩
    case round =>
      obtain ⟨k, rfl, hk, hT, hb, e2⟩ := hrel
      clear e1 hb2
      by_cases hlt : k < l.length
      · have hlt2 : k < m.length := by omega
        obtain ⟨b, o, rfl, hbl, c1, c2⟩ := pk_cell a5 k hlt
        obtain ⟨b', o', rfl, hbl', d1, d2⟩ := pk_cell b5 k hlt2
        have hb0 := h0.trans (hb.mono h0.size)
        have x1 := (hb0.cell (p := ⟨b, o + k * 2, none⟩) hbl).trans c1
        have x2 := (hb0.cell (p := ⟨b, o + k * 2 + 1, none⟩) hbl).trans c2
        have y1 := (hb0.cell (p := ⟨b', o' + k * 2, none⟩) hbl').trans d1
        have y2 := (hb0.cell (p := ⟨b', o' + k * 2 + 1, none⟩) hbl').trans d2
        have hbr : b < wr.heap.size := Nat.lt_of_lt_of_le hbl hb0.size
        have hbr' : b' < wr.heap.size := Nat.lt_of_lt_of_le hbl' hb0.size
        have hwr : w.heap.size + 1 < wr.heap.size := World.block_lt_of_cell? _ _ e2
        clear c1 c2 d1 d2 a5 b5 h0 hb0
        by_cases he : l[k] = m[k]
        · have HN := Lib.hid (take_next hlt hlt2 hT.out he)
          have q1 : (l[k].1 == m[k].1) = true := by rw [he]; simp
          have q2 : (l[k].2 == m[k].2) = true := by rw [he]; simp
          clear he
          generalize l[k] = x at *
          generalize m[k] = y at *
          go_wp2_with fail
          go_quiet (fail)
          go_wp2_with fail
          refine ⟨⟨k + 1, by go_num, by omega, HN.out, ?_, ?_⟩, by simp [intOf]; omega⟩
          · have := hb.alloc hb.size (.cells #[.int .i64 x.1, .int .i64 x.2] 95)
            repeat (first | exact this | apply below_drewN)
          · have := ((below1 wr (.cells #[.int .i64 x.1, .int .i64 x.2] 95)).cell (p := ⟨w.heap.size + 1, 0, none⟩) hwr).trans e2
            exact this
        · have HN : Hid (decide (l = m) = false) := Lib.hid (by rw [decide_eq_false_iff_not]; intro e; subst e; exact he rfl)
          have q1 : (l[k].1 == m[k].1) = false ∨ ((l[k].1 == m[k].1) = true ∧ (l[k].2 == m[k].2) = false) := by
            by_cases h1 : l[k].1 = m[k].1
            · exact .inr ⟨by simp [h1], by rw [beq_eq_false_iff_ne]; intro h2; exact he (Prod.ext h1 h2)⟩
            · exact .inl (by simp [h1])
          clear he
          generalize l[k] = x at *
          generalize m[k] = y at *
          obtain ⟨xa, xb⟩ := x
          obtain ⟨ya, yb⟩ := y
          dsimp only at *
          rcases q1 with q1 | ⟨q1, q2⟩
          all_goals
            go_wp2_with fail
            go_quiet (fail)
            go_wp2_with fail
            go_ret
            refine ⟨by rw [HN.out]; rfl, ?_⟩
            have := hb.alloc hb.size (.cells #[.int .i64 xa, .int .i64 xb] 95)
            repeat (first | exact this | apply below_drewN)
      · have HN : Hid (decide (l = m) = true) := Lib.hid (by
          rw [decide_eq_true_iff]
          have h := hT.out
          rwa [List.take_of_length_le (by omega), List.take_of_length_le (by omega)] at h)
        go_wp2_with fail
        go_ret
        exact ⟨by rw [HN.out]; rfl, hb⟩
  · rw [show decide (l = m) = false from by rw [decide_eq_false_iff_not]; intro e; exact hl (by rw [e])]
    exact same_ne w l m A A2 cap cap2 hl
end Go.Proofs.Ytccknhhjkkbadaa.Fg
