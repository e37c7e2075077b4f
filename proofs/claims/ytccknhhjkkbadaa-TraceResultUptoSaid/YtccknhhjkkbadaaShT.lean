/- Terms as texts: plain, and the contracts of both texts' Show. -/
import Derived.Test.YtccknhhjkkbadaaTmF
import Derived.Test.YtccknhhjkkbadaaDig
import Derived.Deep.QuietTactic
import Derived.BigQuiet
namespace Go.Proofs.Ytccknhhjkkbadaa.Shw
open Go.ChangeShapes Go.WideShapes Go.ChangeAt Go.RowKit Go.Proofs.Ytccknhhjkkbadaa.Lift Go.Proofs.Ytccknhhjkkbadaa.Data Go.Proofs.Ytccknhhjkkbadaa.Dig
set_option linter.unusedVariables false
set_option linter.unusedSimpArgs false
def W64 (n : Int) : Prop := -9223372036854775808 ≤ n ∧ n ≤ 9223372036854775807
def digB (n : Int) : ByteArray := ⟨(digS n).toArray⟩
def need (k n : Int) (l : Nat) : Bool := ((k == 1 || k == 4) && decide (0 < l)) || (k == 2 && decide (n < 0))
def brk (is : Bool) (s : ByteArray) : ByteArray := if is then ⟨#[40]⟩ ++ s ++ ⟨#[41]⟩ else s
mutual
/-- a term as a text. -/
def showB : Tm → ByteArray
  | .mk k s n ys => if k = 1 then appB s ys else if k = 2 then digB n else if k = 3 then ⟨#[95]⟩ ++ digB n else if k = 4 then ⟨#[60]⟩ ++ appB s ys ++ ⟨#[62]⟩ else ⟨#[63]⟩
def appB : ByteArray → List Tm → ByteArray
  | s, [] => s
  | s, y :: r => appB (s ++ (⟨#[32]⟩ ++ tightB y)) r
def tightB : Tm → ByteArray
  | .mk k s n ys => brk (need k n ys.length) (if k = 1 then appB s ys else if k = 2 then digB n else if k = 3 then ⟨#[95]⟩ ++ digB n else if k = 4 then ⟨#[60]⟩ ++ appB s ys ++ ⟨#[62]⟩ else ⟨#[63]⟩)
end
theorem tightB_eq (k : Int) (s : ByteArray) (n : Int) (ys : List Tm) : tightB (.mk k s n ys) = brk (need k n ys.length) (showB (.mk k s n ys)) := by rw [tightB, showB]
theorem appB_take : ∀ {ys : List Tm} {j : Nat} (s : ByteArray) (h : j < ys.length), appB s (ys.take (j + 1)) = appB s (ys.take j) ++ (⟨#[32]⟩ ++ tightB ys[j])
  | [], j, s, h => by simp at h
  | y :: r, 0, s, _ => by simp [appB]
  | y :: r, j + 1, s, h => by
    simp only [List.take_succ_cons, appB, List.getElem_cons_succ]
    exact appB_take _ (by simpa using h)
mutual
/-- how great its text may be. -/
def wt : Tm → Nat
  | .mk k s n ys => s.size + 40 + wts ys
def wts : List Tm → Nat
  | [] => 0
  | y :: r => wt y + wts r
end
mutual
/-- its numbers are of 64 bits. -/
def good : Tm → Prop
  | .mk k s n ys => W64 n ∧ goods ys
def goods : List Tm → Prop
  | [] => True
  | y :: r => good y ∧ goods r
end
theorem goods_get : ∀ {ys : List Tm} {j : Nat}, goods ys → ∀ h : j < ys.length, good ys[j]
  | [], j, _, h => by simp at h
  | y :: r, 0, g, _ => by rw [goods] at g; exact g.1
  | y :: r, j + 1, g, h => by rw [goods] at g; exact goods_get g.2 (by simpa using h)
theorem wts_get : ∀ {ys : List Tm} {j : Nat} (h : j < ys.length), wt ys[j] ≤ wts ys
  | [], j, h => by simp at h
  | y :: r, 0, _ => by simp only [List.getElem_cons_zero, wts]; omega
  | y :: r, j + 1, h => by have := wts_get (ys := r) (j := j) (by simpa using h); simp only [List.getElem_cons_succ, wts]; omega
theorem wts_take {ys : List Tm} {j : Nat} : wts (ys.take j) ≤ wts ys := by
  induction ys generalizing j with
  | nil => simp
  | cons y r ih =>
    cases j with
    | zero => simp [wts]
    | succ j => simp only [List.take_succ_cons, wts]; have := ih (j := j); omega
theorem bsize (l : Array UInt8) : (⟨l⟩ : ByteArray).size = l.size := rfl
theorem digB_len {n : Int} (h : W64 n) : (digB n).size ≤ 21 := by
  have : (digS n).length ≤ 21 := by
    unfold digS
    split
    · have := revd_len 19 (-n).toNat (by have := h.1; omega)
      simp only [List.length_cons, List.length_reverse]
      omega
    · have := revd_len 19 n.toNat (by have := h.2; omega)
      simp only [List.length_reverse]
      omega
  unfold digB
  rw [bsize]
  simpa using this
theorem brk_len (b : Bool) (s : ByteArray) : (brk b s).size ≤ s.size + 2 := by
  unfold brk
  split
  · simp only [ByteArray.size_append, bsize]; simp; omega
  · omega
mutual
theorem showB_len : ∀ t : Tm, good t → (showB t).size + 10 ≤ wt t
  | .mk k s n ys, h => by
    rw [good] at h
    have h1 := appB_len s ys h.2
    have h2 := digB_len h.1
    rw [showB, wt]
    split
    · omega
    split
    · omega
    split
    · simp only [ByteArray.size_append, bsize]; simp; omega
    split
    · simp only [ByteArray.size_append, bsize]; simp; omega
    · rw [bsize]; simp; omega
theorem appB_len : ∀ (s : ByteArray) (ys : List Tm), goods ys → (appB s ys).size ≤ s.size + wts ys
  | s, [], _ => by simp [appB, wts]
  | s, y :: r, h => by
    rw [goods] at h
    have h1 := tightB_len y h.1
    have h2 := appB_len (s ++ (⟨#[32]⟩ ++ tightB y)) r h.2
    rw [appB, wts]
    simp only [ByteArray.size_append, bsize] at h2
    simp at h2
    omega
theorem tightB_len : ∀ t : Tm, good t → (tightB t).size + 8 ≤ wt t
  | .mk k s n ys, h => by
    rw [good] at h
    have h1 := appB_len s ys h.2
    have h2 := digB_len h.1
    rw [tightB, wt]
    refine Nat.le_trans (Nat.add_le_add_right (brk_len _ _) 8) ?_
    split
    · omega
    split
    · omega
    split
    · simp only [ByteArray.size_append, bsize]; simp; omega
    split
    · simp only [ByteArray.size_append, bsize]; simp; omega
    · rw [bsize]; simp; omega
end
theorem appB_lenT {s : ByteArray} {ys : List Tm} (h : goods ys) (j : Nat) : (appB s (ys.take j)).size ≤ s.size + wts ys := by
  have : ∀ (ys : List Tm) (j : Nat), goods ys → goods (ys.take j) := by
    intro ys
    induction ys with
    | nil => intro j h; simpa using h
    | cons y r ih =>
      intro j h
      cases j with
      | zero => rw [List.take_zero, goods]; trivial
      | succ j =>
        rw [goods] at h
        rw [List.take_succ_cons, goods]
        exact ⟨h.1, ih j h.2⟩
  exact Nat.le_trans (appB_len s _ (this ys j h)) (Nat.add_le_add_left wts_take _)
/-- a term's contract. -/
def Says (f : Nat) (w0 : World) (t : Tm) (r : ByteArray) : Prop := ∀ (w : World) (v : Value), t.Val w0 v → Below w0.heap.size w0 w → Calls Try.prog f #[v] w fun e w' => e = .returned (.string r) ∧ Below w.heap.size w w'
theorem cells4 {w : World} {b : Nat} {v0 v1 v2 v3 : Value} {t : TypeId} (h : w.heap[b]? = some (.cells #[v0, v1, v2, v3] t (0, 0))) : w.cell? ⟨b, 0, none⟩ = some v0 ∧ w.cell? ⟨b, 1, none⟩ = some v1 ∧ w.cell? ⟨b, 2, none⟩ = some v2 ∧ w.cell? ⟨b, 3, none⟩ = some v3 := by
  refine ⟨?_, ?_, ?_, ?_⟩ <;> simp [World.cell?, h]

set_option maxRecDepth 100000 in
set_option maxHeartbeats 2000000 in
theorem termTight (w0 : World) (t : Tm) (hg : good t) (hw : wt t ≤ 1000000000) (h : Says 112 w0 t (showB t)) : Says 125 w0 t (tightB t) := by
  intro w v hv h0
  have hln := showB_len t hg
  cases t with
  | mk k s n ys =>
  have hE := tightB_eq k s n ys
  have HS0 := fun o => h (w.alloc o) v hv (h0.alloc h0.size o)
  generalize showB (.mk k s n ys) = S at *
  obtain ⟨A, cap, rfl, ⟨hd1, hd2, hd3, hd4⟩, hs⟩ := hv
  have HS := fun o => Lib.hid (HS0 o)
  have t1 : ¬ 9223372036854775807 < 1 + S.size := by omega
  have t2 : ¬ 9223372036854775807 < 1 + S.size + 1 := by omega
  clear HS0 hs h h0
  generalize hL : ys.length = L at *
  clear hL
  by_cases hk1 : k = 1
  · subst hk1
    rcases Nat.eq_zero_or_pos L with rfl | hl
    · have HE : Hid (tightB (.mk 1 s n ys) = S) := Lib.hid (by rw [hE]; simp [need, brk])
      clear hE
      go_enter Try.func125, Try.ntmps125
      go_wp2_with (go_at_call 112; refine (HS _).out.mono ?_; rintro e w1 ⟨rfl, q1⟩; have hn1 := (q1.block w.heap.size (by simp)).trans (heap_alloc_new w _); have c0 := (cells4 hn1).1; have c2 := (cells4 hn1).2.2.1; have c3 := (cells4 hn1).2.2.2; have hbb := Below.call1 q1; clear hn1 q1)
      go_ret
      exact ⟨by rw [HE.out]; try rfl, hbb⟩
    · have HE : Hid (tightB (.mk 1 s n ys) = ⟨#[40]⟩ ++ S ++ ⟨#[41]⟩) := Lib.hid (by rw [hE]; simp [need, brk, hl])
      clear hE
      go_enter Try.func125, Try.ntmps125
      go_wp2_with (go_at_call 112; refine (HS _).out.mono ?_; rintro e w1 ⟨rfl, q1⟩; have hn1 := (q1.block w.heap.size (by simp)).trans (heap_alloc_new w _); have c0 := (cells4 hn1).1; have c2 := (cells4 hn1).2.2.1; have c3 := (cells4 hn1).2.2.2; have hbb := Below.call1 q1; clear hn1 q1)
      go_ret
      exact ⟨by rw [HE.out]; try rfl, hbb⟩
  by_cases hk4 : k = 4
  · subst hk4
    clear hk1
    rcases Nat.eq_zero_or_pos L with rfl | hl
    · have HE : Hid (tightB (.mk 4 s n ys) = S) := Lib.hid (by rw [hE]; simp [need, brk])
      clear hE
      go_enter Try.func125, Try.ntmps125
      go_wp2_with (go_at_call 112; refine (HS _).out.mono ?_; rintro e w1 ⟨rfl, q1⟩; have hn1 := (q1.block w.heap.size (by simp)).trans (heap_alloc_new w _); have c0 := (cells4 hn1).1; have c2 := (cells4 hn1).2.2.1; have c3 := (cells4 hn1).2.2.2; have hbb := Below.call1 q1; clear hn1 q1)
      go_ret
      exact ⟨by rw [HE.out]; try rfl, hbb⟩
    · have HE : Hid (tightB (.mk 4 s n ys) = ⟨#[40]⟩ ++ S ++ ⟨#[41]⟩) := Lib.hid (by rw [hE]; simp [need, brk, hl])
      clear hE
      go_enter Try.func125, Try.ntmps125
      go_wp2_with (go_at_call 112; refine (HS _).out.mono ?_; rintro e w1 ⟨rfl, q1⟩; have hn1 := (q1.block w.heap.size (by simp)).trans (heap_alloc_new w _); have c0 := (cells4 hn1).1; have c2 := (cells4 hn1).2.2.1; have c3 := (cells4 hn1).2.2.2; have hbb := Below.call1 q1; clear hn1 q1)
      go_ret
      exact ⟨by rw [HE.out]; try rfl, hbb⟩
  by_cases hk2 : k = 2
  · subst hk2
    clear hk1 hk4
    rcases Nat.eq_zero_or_pos L with rfl | hl
    all_goals
      by_cases hn : n < 0
      · have HE : Hid (tightB (.mk 2 s n ys) = ⟨#[40]⟩ ++ S ++ ⟨#[41]⟩) := Lib.hid (by rw [hE]; simp [need, brk, hn])
        clear hE
        go_enter Try.func125, Try.ntmps125
        go_wp2_with (go_at_call 112; refine (HS _).out.mono ?_; rintro e w1 ⟨rfl, q1⟩; have hn1 := (q1.block w.heap.size (by simp)).trans (heap_alloc_new w _); have c0 := (cells4 hn1).1; have c2 := (cells4 hn1).2.2.1; have c3 := (cells4 hn1).2.2.2; have hbb := Below.call1 q1; clear hn1 q1)
        go_ret
        exact ⟨by rw [HE.out]; try rfl, hbb⟩
      · have HE : Hid (tightB (.mk 2 s n ys) = S) := Lib.hid (by rw [hE]; simp [need, brk, hn])
        clear hE
        go_enter Try.func125, Try.ntmps125
        go_wp2_with (go_at_call 112; refine (HS _).out.mono ?_; rintro e w1 ⟨rfl, q1⟩; have hn1 := (q1.block w.heap.size (by simp)).trans (heap_alloc_new w _); have c0 := (cells4 hn1).1; have c2 := (cells4 hn1).2.2.1; have c3 := (cells4 hn1).2.2.2; have hbb := Below.call1 q1; clear hn1 q1)
        go_ret
        exact ⟨by rw [HE.out]; try rfl, hbb⟩
  have q1 : (k == 1) = false := by simpa using hk1
  have q2 : (k == 2) = false := by simpa using hk2
  have q4 : (k == 4) = false := by simpa using hk4
  have HE : Hid (tightB (.mk k s n ys) = S) := Lib.hid (by rw [hE]; simp [need, brk, hk1, hk2, hk4])
  clear hE hk1 hk2 hk4
  rcases Nat.eq_zero_or_pos L with rfl | hl
  all_goals
    go_enter Try.func125, Try.ntmps125
    go_wp2_with (go_at_call 112; refine (HS _).out.mono ?_; rintro e w1 ⟨rfl, q1⟩; have hn1 := (q1.block w.heap.size (by simp)).trans (heap_alloc_new w _); have c0 := (cells4 hn1).1; have c2 := (cells4 hn1).2.2.1; have c3 := (cells4 hn1).2.2.2; have hbb := Below.call1 q1; clear hn1 q1)
    go_ret
    exact ⟨by rw [HE.out]; try rfl, hbb⟩

set_option maxRecDepth 100000 in
set_option maxHeartbeats 2000000 in
theorem termApp (w0 : World) (k : Int) (s : ByteArray) (n : Int) (ys : List Tm) (hg : good (.mk k s n ys)) (hw : wt (.mk k s n ys) ≤ 1000000000) (h : ∀ j (hj : j < ys.length), Says 125 w0 ys[j] (tightB ys[j])) : Says 121 w0 (.mk k s n ys) (appB s ys) := by
  intro w v hv h0
  obtain ⟨A, cap, rfl, ⟨hd1, hd2, hd3, hd4⟩, hs⟩ := hv
  rw [good] at hg
  rw [wt] at hw
  go_enter Try.func121, Try.ntmps121
  go_wp2_with fail
  go_loopw [3, 11] (fun t i wr => ∃ j : Nat, i = .int .i64 j ∧ j ≤ ys.length ∧ t = .string (appB s (ys.take j)) ∧ Below w.heap.size w wr) (fun _ i _ => ys.length - (intOf i).toNat)
  case atStart => exact ⟨0, rfl, Nat.zero_le _, by rw [List.take_zero, appB], below1 w _⟩
  case round =>
    obtain ⟨j, rfl, hj, rfl, hb⟩ := hrel
    by_cases hlt : j < ys.length
    · obtain ⟨b, o, rfl, hat⟩ := hs.get j hlt
      have hb0 := h0.trans (hb.mono h0.size)
      have HT := Lib.hid (appB_take s hlt)
      have hgy := goods_get hg.2 hlt
      have hwy := wts_get hlt
      have hty := tightB_len _ hgy
      have hta := appB_lenT (s := s) hg.2 j
      have HC := h j hlt
      generalize ys[j] = y at *
      cases y with
      | mk k' s' n' ys' =>
      obtain ⟨A', cap', c0, c1, c2, c3, hv'⟩ := Tm.At.both hat hb0 (Nat.le_refl _)
      clear hat hs h
      have HC := Lib.hid (fun o => HC (wr.alloc o) _ hv' (hb0.alloc hb0.size o))
      generalize tightB (.mk k' s' n' ys') = S at *
      generalize hP : appB s (ys.take j) = P at *
      clear hP
      have t1 : ¬ 9223372036854775807 < 1 + S.size := by omega
      have t2 : ¬ 9223372036854775807 < P.size + (1 + S.size) := by omega
      go_wp2_with (go_at_call 125; refine (HC.out _).mono ?_; rintro e w1 ⟨rfl, hb1⟩; have hbn := hb.thenCall hb.size (Below.call1 hb1); clear hb1)
      exact ⟨⟨j + 1, by go_num, by omega, by rw [HT.out], hbn⟩, by simp [intOf]; omega⟩
    · have e : ys.take j = ys := List.take_of_length_le (by omega)
      rw [e]
      go_wp2_with fail
      go_ret
      exact ⟨rfl, hb⟩
set_option maxRecDepth 100000 in
set_option maxHeartbeats 2000000 in
theorem termShow (w0 : World) (t : Tm) (hg : good t) (hw : wt t ≤ 1000000000) (h : Says 121 w0 t (appB t.s t.ys)) : Says 112 w0 t (showB t) := by
  intro w v hv h0
  cases t with
  | mk k s n ys =>
  rw [good] at hg
  have hla := appB_len s ys hg.2
  rw [wt] at hw
  have h : Says 121 w0 (.mk k s n ys) (appB s ys) := h
  have HA0 := fun o => h (w.alloc o) v hv (h0.alloc h0.size o)
  have HD := fun w => Lib.hid (digits_any n w hg.1.1 hg.1.2)
  have hld := digB_len hg.1
  have hE : showB (.mk k s n ys) = if k = 1 then appB s ys else if k = 2 then digB n else if k = 3 then ⟨#[95]⟩ ++ digB n else if k = 4 then ⟨#[60]⟩ ++ appB s ys ++ ⟨#[62]⟩ else ⟨#[63]⟩ := by rw [showB]
  have e0 : (⟨(digS n).toArray⟩ : ByteArray) = digB n := rfl
  rw [e0] at HD
  generalize digB n = d at *
  generalize appB s ys = P at *
  obtain ⟨A, cap, rfl, ⟨hd1, hd2, hd3, hd4⟩, hs⟩ := hv
  have HA := fun o => Lib.hid (HA0 o)
  have t1 : ¬ 9223372036854775807 < 1 + d.size := by omega
  have t2 : ¬ 9223372036854775807 < 1 + P.size := by omega
  have t3 : ¬ 9223372036854775807 < 1 + P.size + 1 := by omega
  clear HA0 hs h e0
  by_cases hk1 : k = 1
  · subst hk1
    have HE : Hid (showB (.mk 1 s n ys) = P) := Lib.hid (by rw [hE]; simp)
    clear hE
    go_enter Try.func112, Try.ntmps112
    go_wp2_with (go_at_call 121; refine (HA _).out.mono ?_; rintro e w1 ⟨rfl, q1⟩; have hbb := Below.call1 q1; clear q1)
    go_ret
    exact ⟨by rw [HE.out]; try rfl, hbb⟩
  by_cases hk2 : k = 2
  · subst hk2
    have HE : Hid (showB (.mk 2 s n ys) = d) := Lib.hid (by rw [hE]; simp)
    clear hE hk1
    go_enter Try.func112, Try.ntmps112
    go_wp2_with (go_at_call 90; refine (HD _).out.mono ?_; rintro e w1 ⟨rfl, q1⟩; have hbb := Below.call1 q1; clear q1)
    go_ret
    exact ⟨by rw [HE.out]; try rfl, hbb⟩
  by_cases hk3 : k = 3
  · subst hk3
    have HE : Hid (showB (.mk 3 s n ys) = ⟨#[95]⟩ ++ d) := Lib.hid (by rw [hE]; simp)
    clear hE hk1 hk2
    go_enter Try.func112, Try.ntmps112
    go_wp2_with (go_at_call 90; refine (HD _).out.mono ?_; rintro e w1 ⟨rfl, q1⟩; have hbb := Below.call1 q1; clear q1)
    go_ret
    exact ⟨by rw [HE.out]; try rfl, hbb⟩
  by_cases hk4 : k = 4
  · subst hk4
    have HE : Hid (showB (.mk 4 s n ys) = ⟨#[60]⟩ ++ P ++ ⟨#[62]⟩) := Lib.hid (by rw [hE]; simp)
    clear hE hk1 hk2 hk3
    go_enter Try.func112, Try.ntmps112
    go_wp2_with (go_at_call 121; refine (HA _).out.mono ?_; rintro e w1 ⟨rfl, q1⟩; have hbb := Below.call1 q1; clear q1)
    go_ret
    exact ⟨by rw [HE.out]; try rfl, hbb⟩
  have q1 : (k == 1) = false := by simpa using hk1
  have q2 : (k == 2) = false := by simpa using hk2
  have q3 : (k == 3) = false := by simpa using hk3
  have q4 : (k == 4) = false := by simpa using hk4
  have HE : Hid (showB (.mk k s n ys) = ⟨#[63]⟩) := Lib.hid (by rw [hE, if_neg hk1, if_neg hk2, if_neg hk3, if_neg hk4])
  clear hE hk1 hk2 hk3 hk4
  go_enter Try.func112, Try.ntmps112
  go_wp2_with fail
  go_ret
  exact ⟨by rw [HE.out]; try rfl, below1 w _⟩
theorem term_any (N : Nat) (w0 : World) : ∀ t : Tm, t.size ≤ N → good t → wt t ≤ 1000000000 → Says 112 w0 t (showB t) := by
  induction N with
  | zero => intro t h; cases t; rw [Tm.size] at h; omega
  | succ N ih =>
    intro t hN hg hw
    cases t with
    | mk k s n ys =>
    refine termShow w0 _ hg hw (termApp w0 k s n ys hg hw fun j hj => ?_)
    rw [good] at hg
    rw [Tm.size] at hN
    rw [wt] at hw
    have h1 := TmSize_get hj
    have h2 := wts_get hj
    exact termTight w0 _ (goods_get hg.2 hj) (by omega) (ih _ (by omega) (goods_get hg.2 hj) (by omega))

set_option maxRecDepth 100000 in
set_option maxHeartbeats 2000000 in
theorem refTight (w0 : World) (t : Tm) (hg : good t) (hw : wt t ≤ 1000000000) (h : Says 41 w0 t (showB t)) : Says 110 w0 t (tightB t) := by
  intro w v hv h0
  have hln := showB_len t hg
  cases t with
  | mk k s n ys =>
  have hE := tightB_eq k s n ys
  have HS0 := fun o => h (w.alloc o) v hv (h0.alloc h0.size o)
  generalize showB (.mk k s n ys) = S at *
  obtain ⟨A, cap, rfl, ⟨hd1, hd2, hd3, hd4⟩, hs⟩ := hv
  have HS := fun o => Lib.hid (HS0 o)
  have t1 : ¬ 9223372036854775807 < 1 + S.size := by omega
  have t2 : ¬ 9223372036854775807 < 1 + S.size + 1 := by omega
  clear HS0 hs h h0
  generalize hL : ys.length = L at *
  clear hL
  by_cases hk1 : k = 1
  · subst hk1
    rcases Nat.eq_zero_or_pos L with rfl | hl
    · have HE : Hid (tightB (.mk 1 s n ys) = S) := Lib.hid (by rw [hE]; simp [need, brk])
      clear hE
      go_enter Try.func110, Try.ntmps110
      go_wp2_with (go_at_call 41; refine (HS _).out.mono ?_; rintro e w1 ⟨rfl, q1⟩; have hn1 := (q1.block w.heap.size (by simp)).trans (heap_alloc_new w _); have c0 := (cells4 hn1).1; have c2 := (cells4 hn1).2.2.1; have c3 := (cells4 hn1).2.2.2; have hbb := Below.call1 q1; clear hn1 q1)
      go_ret
      exact ⟨by rw [HE.out]; try rfl, hbb⟩
    · have HE : Hid (tightB (.mk 1 s n ys) = ⟨#[40]⟩ ++ S ++ ⟨#[41]⟩) := Lib.hid (by rw [hE]; simp [need, brk, hl])
      clear hE
      go_enter Try.func110, Try.ntmps110
      go_wp2_with (go_at_call 41; refine (HS _).out.mono ?_; rintro e w1 ⟨rfl, q1⟩; have hn1 := (q1.block w.heap.size (by simp)).trans (heap_alloc_new w _); have c0 := (cells4 hn1).1; have c2 := (cells4 hn1).2.2.1; have c3 := (cells4 hn1).2.2.2; have hbb := Below.call1 q1; clear hn1 q1)
      go_ret
      exact ⟨by rw [HE.out]; try rfl, hbb⟩
  by_cases hk4 : k = 4
  · subst hk4
    clear hk1
    rcases Nat.eq_zero_or_pos L with rfl | hl
    · have HE : Hid (tightB (.mk 4 s n ys) = S) := Lib.hid (by rw [hE]; simp [need, brk])
      clear hE
      go_enter Try.func110, Try.ntmps110
      go_wp2_with (go_at_call 41; refine (HS _).out.mono ?_; rintro e w1 ⟨rfl, q1⟩; have hn1 := (q1.block w.heap.size (by simp)).trans (heap_alloc_new w _); have c0 := (cells4 hn1).1; have c2 := (cells4 hn1).2.2.1; have c3 := (cells4 hn1).2.2.2; have hbb := Below.call1 q1; clear hn1 q1)
      go_ret
      exact ⟨by rw [HE.out]; try rfl, hbb⟩
    · have HE : Hid (tightB (.mk 4 s n ys) = ⟨#[40]⟩ ++ S ++ ⟨#[41]⟩) := Lib.hid (by rw [hE]; simp [need, brk, hl])
      clear hE
      go_enter Try.func110, Try.ntmps110
      go_wp2_with (go_at_call 41; refine (HS _).out.mono ?_; rintro e w1 ⟨rfl, q1⟩; have hn1 := (q1.block w.heap.size (by simp)).trans (heap_alloc_new w _); have c0 := (cells4 hn1).1; have c2 := (cells4 hn1).2.2.1; have c3 := (cells4 hn1).2.2.2; have hbb := Below.call1 q1; clear hn1 q1)
      go_ret
      exact ⟨by rw [HE.out]; try rfl, hbb⟩
  by_cases hk2 : k = 2
  · subst hk2
    clear hk1 hk4
    rcases Nat.eq_zero_or_pos L with rfl | hl
    all_goals
      by_cases hn : n < 0
      · have HE : Hid (tightB (.mk 2 s n ys) = ⟨#[40]⟩ ++ S ++ ⟨#[41]⟩) := Lib.hid (by rw [hE]; simp [need, brk, hn])
        clear hE
        go_enter Try.func110, Try.ntmps110
        go_wp2_with (go_at_call 41; refine (HS _).out.mono ?_; rintro e w1 ⟨rfl, q1⟩; have hn1 := (q1.block w.heap.size (by simp)).trans (heap_alloc_new w _); have c0 := (cells4 hn1).1; have c2 := (cells4 hn1).2.2.1; have c3 := (cells4 hn1).2.2.2; have hbb := Below.call1 q1; clear hn1 q1)
        go_ret
        exact ⟨by rw [HE.out]; try rfl, hbb⟩
      · have HE : Hid (tightB (.mk 2 s n ys) = S) := Lib.hid (by rw [hE]; simp [need, brk, hn])
        clear hE
        go_enter Try.func110, Try.ntmps110
        go_wp2_with (go_at_call 41; refine (HS _).out.mono ?_; rintro e w1 ⟨rfl, q1⟩; have hn1 := (q1.block w.heap.size (by simp)).trans (heap_alloc_new w _); have c0 := (cells4 hn1).1; have c2 := (cells4 hn1).2.2.1; have c3 := (cells4 hn1).2.2.2; have hbb := Below.call1 q1; clear hn1 q1)
        go_ret
        exact ⟨by rw [HE.out]; try rfl, hbb⟩
  have q1 : (k == 1) = false := by simpa using hk1
  have q2 : (k == 2) = false := by simpa using hk2
  have q4 : (k == 4) = false := by simpa using hk4
  have HE : Hid (tightB (.mk k s n ys) = S) := Lib.hid (by rw [hE]; simp [need, brk, hk1, hk2, hk4])
  clear hE hk1 hk2 hk4
  rcases Nat.eq_zero_or_pos L with rfl | hl
  all_goals
    go_enter Try.func110, Try.ntmps110
    go_wp2_with (go_at_call 41; refine (HS _).out.mono ?_; rintro e w1 ⟨rfl, q1⟩; have hn1 := (q1.block w.heap.size (by simp)).trans (heap_alloc_new w _); have c0 := (cells4 hn1).1; have c2 := (cells4 hn1).2.2.1; have c3 := (cells4 hn1).2.2.2; have hbb := Below.call1 q1; clear hn1 q1)
    go_ret
    exact ⟨by rw [HE.out]; try rfl, hbb⟩

set_option maxRecDepth 100000 in
set_option maxHeartbeats 2000000 in
theorem refApp (w0 : World) (k : Int) (s : ByteArray) (n : Int) (ys : List Tm) (hg : good (.mk k s n ys)) (hw : wt (.mk k s n ys) ≤ 1000000000) (h : ∀ j (hj : j < ys.length), Says 110 w0 ys[j] (tightB ys[j])) : Says 86 w0 (.mk k s n ys) (appB s ys) := by
  intro w v hv h0
  obtain ⟨A, cap, rfl, ⟨hd1, hd2, hd3, hd4⟩, hs⟩ := hv
  rw [good] at hg
  rw [wt] at hw
  go_enter Try.func86, Try.ntmps86
  go_wp2_with fail
  go_loopw [3, 11] (fun t i wr => ∃ j : Nat, i = .int .i64 j ∧ j ≤ ys.length ∧ t = .string (appB s (ys.take j)) ∧ Below w.heap.size w wr) (fun _ i _ => ys.length - (intOf i).toNat)
  case atStart => exact ⟨0, rfl, Nat.zero_le _, by rw [List.take_zero, appB], below1 w _⟩
  case round =>
    obtain ⟨j, rfl, hj, rfl, hb⟩ := hrel
    by_cases hlt : j < ys.length
    · obtain ⟨b, o, rfl, hat⟩ := hs.get j hlt
      have hb0 := h0.trans (hb.mono h0.size)
      have HT := Lib.hid (appB_take s hlt)
      have hgy := goods_get hg.2 hlt
      have hwy := wts_get hlt
      have hty := tightB_len _ hgy
      have hta := appB_lenT (s := s) hg.2 j
      have HC := h j hlt
      generalize ys[j] = y at *
      cases y with
      | mk k' s' n' ys' =>
      obtain ⟨A', cap', c0, c1, c2, c3, hv'⟩ := Tm.At.both hat hb0 (Nat.le_refl _)
      clear hat hs h
      have HC := Lib.hid (fun o => HC (wr.alloc o) _ hv' (hb0.alloc hb0.size o))
      generalize tightB (.mk k' s' n' ys') = S at *
      generalize hP : appB s (ys.take j) = P at *
      clear hP
      have t1 : ¬ 9223372036854775807 < 1 + S.size := by omega
      have t2 : ¬ 9223372036854775807 < P.size + (1 + S.size) := by omega
      go_wp2_with (go_at_call 110; refine (HC.out _).mono ?_; rintro e w1 ⟨rfl, hb1⟩; have hbn := hb.thenCall hb.size (Below.call1 hb1); clear hb1)
      exact ⟨⟨j + 1, by go_num, by omega, by rw [HT.out], hbn⟩, by simp [intOf]; omega⟩
    · have e : ys.take j = ys := List.take_of_length_le (by omega)
      rw [e]
      go_wp2_with fail
      go_ret
      exact ⟨rfl, hb⟩
set_option maxRecDepth 100000 in
set_option maxHeartbeats 2000000 in
theorem refShow (w0 : World) (t : Tm) (hg : good t) (hw : wt t ≤ 1000000000) (h : Says 86 w0 t (appB t.s t.ys)) : Says 41 w0 t (showB t) := by
  intro w v hv h0
  cases t with
  | mk k s n ys =>
  rw [good] at hg
  have hla := appB_len s ys hg.2
  rw [wt] at hw
  have h : Says 86 w0 (.mk k s n ys) (appB s ys) := h
  have HA0 := fun o => h (w.alloc o) v hv (h0.alloc h0.size o)
  have HD := fun w => Lib.hid (refDigits_any n w hg.1.1 hg.1.2)
  have hld := digB_len hg.1
  have hE : showB (.mk k s n ys) = if k = 1 then appB s ys else if k = 2 then digB n else if k = 3 then ⟨#[95]⟩ ++ digB n else if k = 4 then ⟨#[60]⟩ ++ appB s ys ++ ⟨#[62]⟩ else ⟨#[63]⟩ := by rw [showB]
  have e0 : (⟨(digS n).toArray⟩ : ByteArray) = digB n := rfl
  rw [e0] at HD
  generalize digB n = d at *
  generalize appB s ys = P at *
  obtain ⟨A, cap, rfl, ⟨hd1, hd2, hd3, hd4⟩, hs⟩ := hv
  have HA := fun o => Lib.hid (HA0 o)
  have t1 : ¬ 9223372036854775807 < 1 + d.size := by omega
  have t2 : ¬ 9223372036854775807 < 1 + P.size := by omega
  have t3 : ¬ 9223372036854775807 < 1 + P.size + 1 := by omega
  clear HA0 hs h e0
  by_cases hk1 : k = 1
  · subst hk1
    have HE : Hid (showB (.mk 1 s n ys) = P) := Lib.hid (by rw [hE]; simp)
    clear hE
    go_enter Try.func41, Try.ntmps41
    go_wp2_with (go_at_call 86; refine (HA _).out.mono ?_; rintro e w1 ⟨rfl, q1⟩; have hbb := Below.call1 q1; clear q1)
    go_ret
    exact ⟨by rw [HE.out]; try rfl, hbb⟩
  by_cases hk2 : k = 2
  · subst hk2
    have HE : Hid (showB (.mk 2 s n ys) = d) := Lib.hid (by rw [hE]; simp)
    clear hE hk1
    go_enter Try.func41, Try.ntmps41
    go_wp2_with (go_at_call 43; refine (HD _).out.mono ?_; rintro e w1 ⟨rfl, q1⟩; have hbb := Below.call1 q1; clear q1)
    go_ret
    exact ⟨by rw [HE.out]; try rfl, hbb⟩
  by_cases hk3 : k = 3
  · subst hk3
    have HE : Hid (showB (.mk 3 s n ys) = ⟨#[95]⟩ ++ d) := Lib.hid (by rw [hE]; simp)
    clear hE hk1 hk2
    go_enter Try.func41, Try.ntmps41
    go_wp2_with (go_at_call 43; refine (HD _).out.mono ?_; rintro e w1 ⟨rfl, q1⟩; have hbb := Below.call1 q1; clear q1)
    go_ret
    exact ⟨by rw [HE.out]; try rfl, hbb⟩
  by_cases hk4 : k = 4
  · subst hk4
    have HE : Hid (showB (.mk 4 s n ys) = ⟨#[60]⟩ ++ P ++ ⟨#[62]⟩) := Lib.hid (by rw [hE]; simp)
    clear hE hk1 hk2 hk3
    go_enter Try.func41, Try.ntmps41
    go_wp2_with (go_at_call 86; refine (HA _).out.mono ?_; rintro e w1 ⟨rfl, q1⟩; have hbb := Below.call1 q1; clear q1)
    go_ret
    exact ⟨by rw [HE.out]; try rfl, hbb⟩
  have q1 : (k == 1) = false := by simpa using hk1
  have q2 : (k == 2) = false := by simpa using hk2
  have q3 : (k == 3) = false := by simpa using hk3
  have q4 : (k == 4) = false := by simpa using hk4
  have HE : Hid (showB (.mk k s n ys) = ⟨#[63]⟩) := Lib.hid (by rw [hE, if_neg hk1, if_neg hk2, if_neg hk3, if_neg hk4])
  clear hE hk1 hk2 hk3 hk4
  go_enter Try.func41, Try.ntmps41
  go_wp2_with fail
  go_ret
  exact ⟨by rw [HE.out]; try rfl, below1 w _⟩
theorem ref_any (N : Nat) (w0 : World) : ∀ t : Tm, t.size ≤ N → good t → wt t ≤ 1000000000 → Says 41 w0 t (showB t) := by
  induction N with
  | zero => intro t h; cases t; rw [Tm.size] at h; omega
  | succ N ih =>
    intro t hN hg hw
    cases t with
    | mk k s n ys =>
    refine refShow w0 _ hg hw (refApp w0 k s n ys hg hw fun j hj => ?_)
    rw [good] at hg
    rw [Tm.size] at hN
    rw [wt] at hw
    have h1 := TmSize_get hj
    have h2 := wts_get hj
    exact refTight w0 _ (goods_get hg.2 hj) (by omega) (ih _ (by omega) (goods_get hg.2 hj) (by omega))
end Go.Proofs.Ytccknhhjkkbadaa.Shw

