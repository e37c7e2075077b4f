/- Contracts: the builder's closures, and what calls them: slices.IndexFunc, ContainsFunc, split. -/
import Derived.Test.YtnaakhnmbckpmaaBuA
import Derived.StillTailTactics
namespace Go.Proofs.Ytnaakhnmbckpmaa.Pats
open Go.ChangeShapes Go.WideShapes Go.ChangeAt Go.RowKit Go.Proofs.Ytnaakhnmbckpmaa.Lift Go.Proofs.Ytnaakhnmbckpmaa.Data Go.Proofs.Ytnaakhnmbckpmaa.Refs Go.Proofs.Ytnaakhnmbckpmaa.Strs
set_option linter.unusedVariables false
set_option linter.unusedSimpArgs false
theorem any_take {α : Type} (f : α → Bool) : ∀ {l : List α} {j : Nat}, (∀ q (hq : q < l.length), q < j → f l[q] = false) → l.length ≤ j → l.any f = false := by
  intro l j h hj
  rw [List.any_eq_false]
  intro x hx
  obtain ⟨q, hq, rfl⟩ := List.mem_iff_getElem.1 hx
  rw [h q hq (by omega)]
  simp
theorem any_hit {α : Type} (f : α → Bool) {l : List α} {j : Nat} (hj : j < l.length) (h : f l[j] = true) : l.any f = true :=
  List.any_eq_true.2 ⟨_, List.getElem_mem hj, h⟩
/-- where the first one is; -1: none. -/
def idxB {α : Type} (f : α → Bool) (l : List α) : Int := match l.findIdx? f with | some i => (i : Int) | none => -1
theorem idxB_hit {α : Type} {f : α → Bool} {l : List α} {k : Nat} (hk : k < l.length) (h : f l[k] = true) (hm : ∀ j (hj : j < l.length), j < k → f l[j] = false) : idxB f l = k := by
  have : l.findIdx? f = some k := by
    rw [List.findIdx?_eq_some_iff_getElem]
    exact ⟨hk, h, fun j hj => by simp [hm j (by omega) hj]⟩
  simp [idxB, this]
theorem idxB_miss {α : Type} {f : α → Bool} {l : List α} (hm : ∀ j (hj : j < l.length), f l[j] = false) : idxB f l = -1 := by
  have : l.findIdx? f = none := by
    rw [List.findIdx?_eq_none_iff]
    intro x hx
    obtain ⟨q, hq, rfl⟩ := List.mem_iff_getElem.1 hx
    simp [hm q hq]
  simp [idxB, this]
theorem below1 (w : World) (o : Obj) : Below w.heap.size w (w.alloc o) := (Below.refl _ _).alloc (Nat.le_refl _) o
/-- a rule's number as it stands in a slot. -/
def InR (n : Nat) (ss : List Int) : Prop := ∀ i ∈ ss, 0 ≤ i ∧ i < (n : Int)
def demI (rules : List (List Ex)) (path : List Int) (i : Int) : Bool := demAt rules i.toNat path
set_option maxRecDepth 100000 in
theorem clo78 (w0 w : World) (mv rv pv : Value) (rules : List (List Ex)) (i : Int) (path : List Int) (bb pb : Nat) (hR : RS w0 rv rules) (hi : 0 ≤ i ∧ i < rules.length) (hp : IS w0 pv path) (h0 : Data.Sub w0 w)
    (hb : w.heap[bb]? = some (.cells #[mv, rv] 98 (0, 0))) (hq : w.heap[pb]? = some (.cells #[pv] 58 (0, 0))) :
    Calls Try.prog 78 #[.int .i64 i, .pointer (some ⟨bb, 0, none⟩), .pointer (some ⟨pb, 0, none⟩)] w fun r w' => r = .returned (.bool (!demI rules path i)) ∧ Below w.heap.size w w' := by
  obtain ⟨n, rfl⟩ := Int.eq_ofNat_of_zero_le hi.1
  have HD := Lib.hid (dem_any w0 w mv rv pv rules n path hR (by omega) hp h0)
  obtain ⟨b0, b1⟩ := cell2of hb
  have p0 := cell1of hq
  obtain ⟨Ap, capp, rfl, -⟩ := hp
  obtain ⟨Ar, capr, xsr, rfl, -⟩ := hR
  have hdi : demI rules path (n : Int) = demAt rules n path := by simp [demI]
  rw [hdi]
  generalize demAt rules n path = d at *
  clear hi h0 hb hq
  go_enter Try.func78, Try.ntmps78
  go_wp2_with fail
  refine HD.out.mono ?_
  rintro _ w1 ⟨rfl, hb1⟩
  go_wp2_with fail
  go_ret
  exact ⟨rfl, hb1⟩
set_option maxRecDepth 100000 in
theorem clo82 (w0 w : World) (mv rv pv sv : Value) (rules : List (List Ex)) (s0 : Int) (ss : List Int) (path : List Int) (bb sb : Nat) (hR : RS w0 rv rules) (hi : 0 ≤ s0 ∧ s0 < rules.length) (hp : IS w0 pv path) (hs : IS w0 sv (s0 :: ss)) (h0 : Data.Sub w0 w)
    (hb : w.heap[bb]? = some (.cells #[mv, rv] 98 (0, 0))) (hq : w.heap[sb]? = some (.cells #[sv] 58 (0, 0))) :
    Calls Try.prog 82 #[pv, .pointer (some ⟨bb, 0, none⟩), .pointer (some ⟨sb, 0, none⟩)] w fun r w' => r = .returned (.bool (demI rules path s0)) ∧ Below w.heap.size w w' := by
  obtain ⟨n, rfl⟩ := Int.eq_ofNat_of_zero_le hi.1
  have HD := Lib.hid (dem_any w0 w.drew mv rv pv rules n path hR (by omega) hp h0.drew)
  obtain ⟨b0, b1⟩ := cell2of hb
  have p0 := cell1of hq
  obtain ⟨Ap, capp, rfl, -⟩ := hp
  obtain ⟨Ar, capr, xsr, rfl, -⟩ := hR
  obtain ⟨As, caps, rfl, g1, g2, g3, g4, g5⟩ := hs
  obtain ⟨b, o, rfl, hbl, hc⟩ := IS_cell g5 0 (by simp)
  have hc' := h0 _ _ _ hc
  simp only [List.getElem_cons_zero, Nat.add_zero] at hc'
  have hdi : demI rules path (n : Int) = demAt rules n path := by simp [demI]
  rw [hdi]
  rw [List.length_cons] at *
  have hx1 : (0 : Int) < (ss.length : Int) + 1 := by omega
  generalize demAt rules n path = d at *
  clear hi h0 hb hq g5 hc
  go_enter Try.func82, Try.ntmps82
  go_wp2_with fail
  go_still_tail 5, (by kernel_rfl)
  change wpList _ _ _ _ _ w.drew
  go_wp2_with fail
  refine HD.out.mono ?_
  rintro _ w1 ⟨rfl, hb1⟩
  go_wp2_with fail
  go_ret
  exact ⟨rfl, ((Below.refl _ _).drew).trans hb1⟩
set_option maxRecDepth 100000 in
theorem clo84 (w0 w : World) (mv rv lv : Value) (rules : List (List Ex)) (i : Int) (at_ : Nat) (places : List (List Int)) (bb lb ab : Nat) (hR : RS w0 rv rules) (hi : 0 ≤ i ∧ i < rules.length) (hl : PS w0 lv places) (ha : at_ < places.length) (h0 : Data.Sub w0 w)
    (hb : w.heap[bb]? = some (.cells #[mv, rv] 98 (0, 0))) (hq : w.heap[lb]? = some (.cells #[lv] 56 (0, 0))) (hr : w.heap[ab]? = some (.cells #[.int .i64 at_] 3 (0, 0))) :
    Calls Try.prog 84 #[.int .i64 i, .pointer (some ⟨bb, 0, none⟩), .pointer (some ⟨lb, 0, none⟩), .pointer (some ⟨ab, 0, none⟩)] w fun r w' => r = .returned (.bool (demI rules places[at_] i)) ∧ Below w.heap.size w w' := by
  obtain ⟨n, rfl⟩ := Int.eq_ofNat_of_zero_le hi.1
  obtain ⟨Al, capl, xsl, rfl, k1, k2, k3, k4, k5, k6⟩ := hl
  obtain ⟨b, o, pv, rfl, hbl, hc, hp⟩ := PS_get k5 k6 at_ ha
  have HD := Lib.hid (dem_any w0 w.drew mv rv pv rules n places[at_] hR (by omega) hp h0.drew)
  obtain ⟨b0, b1⟩ := cell2of hb
  have p0 := cell1of hq
  have r0 := cell1of hr
  have hdi : demI rules places[at_] (n : Int) = demAt rules n places[at_] := by simp [demI]
  rw [hdi]
  generalize places[at_] = path at *
  obtain ⟨Ap, capp, rfl, -⟩ := hp
  obtain ⟨Ar, capr, xsr, rfl, -⟩ := hR
  have hc' := h0 _ _ _ hc
  generalize demAt rules n path = d at *
  clear hi h0 hb hq hr hc k5 k6
  go_enter Try.func84, Try.ntmps84
  go_wp2_with fail
  go_still_tail 6, (by kernel_rfl)
  change wpList _ _ _ _ _ w.drew
  go_wp2_with fail
  refine HD.out.mono ?_
  rintro _ w1 ⟨rfl, hb1⟩
  go_wp2_with fail
  go_ret
  exact ⟨rfl, ((Below.refl _ _).drew).trans hb1⟩
/-- whether a rule has that key, at a place. -/
def keyI (makers : List ByteArray) (rules : List (List Ex)) (path : List Int) (con : Int) (is : Bool) (i : Int) : Bool :=
  match atS (rules.getD i.toNat []) path with | none => false | some e => (keyE makers e).1 == con && (keyE makers e).2.1 == is
set_option maxRecDepth 100000 in
set_option maxHeartbeats 1000000 in
theorem clo89 (w0 w : World) (mv rv pv : Value) (makers : List ByteArray) (rules : List (List Ex)) (i : Int) (path : List Int) (e : Ex) (con : Int) (is : Bool) (u2 u3 u4 u5 : Value) (bb pb cb : Nat) (hM : StrSl w0 mv makers) (hR : RS w0 rv rules) (hi : 0 ≤ i ∧ i < rules.length) (hp : IS w0 pv path) (he : atS (rules.getD i.toNat []) path = some e) (h0 : Data.Sub w0 w)
    (hb : w.heap[bb]? = some (.cells #[mv, rv] 98 (0, 0))) (hq : w.heap[pb]? = some (.cells #[pv] 58 (0, 0))) (hr : w.heap[cb]? = some (.cells #[.int .i64 con, .bool is, u2, u3, u4, u5] 101 (0, 0))) :
    Calls Try.prog 89 #[.int .i64 i, .pointer (some ⟨bb, 0, none⟩), .pointer (some ⟨pb, 0, none⟩), .pointer (some ⟨cb, 0, none⟩)] w fun r w' => r = .returned (.bool (keyI makers rules path con is i)) ∧ Below w.heap.size w w' := by
  obtain ⟨n, rfl⟩ := Int.eq_ofNat_of_zero_le hi.1
  have HK := Lib.hid (key_any w0 w mv rv pv makers rules n path e hM hR (by omega) hp h0 (by simpa using he))
  have hKI : keyI makers rules path con is (n : Int) = ((keyE makers e).1 == con && (keyE makers e).2.1 == is) := by simp [keyI, he] at *; rw [he]
  rw [hKI]
  unfold KeyRes at HK
  obtain ⟨b0, b1⟩ := cell2of hb
  have p0 := cell1of hq
  have hbl := (Array.getElem?_eq_some_iff.1 hr).1
  obtain ⟨Ap, capp, rfl, -⟩ := hp
  obtain ⟨Ar, capr, xsr, rfl, -⟩ := hR
  obtain ⟨Am, capm, rfl, -⟩ := hM
  generalize keyE makers e = K at *
  obtain ⟨c1, c2, c3⟩ := K
  simp only at HK ⊢
  clear hi h0 hb hq he hKI
  by_cases h1 : c1 = con
  · subst h1
    go_enter Try.func89, Try.ntmps89
    go_wp2_with fail
    refine HK.out.mono ?_
    rintro _ w1 ⟨rfl, hb1⟩
    have hz := hb1.size
    have hbl1 : cb < w1.heap.size := by omega
    obtain ⟨r0, r1, -⟩ := row6 ((hb1.block _ hbl).trans hr)
    go_wp2_with fail
    go_ret
    exact ⟨by simp, hb1.alloc hb1.size _⟩
  · have h2 : (c1 == con) = false := by simp [h1]
    rw [h2]
    go_enter Try.func89, Try.ntmps89
    go_wp2_with fail
    refine HK.out.mono ?_
    rintro _ w1 ⟨rfl, hb1⟩
    have hz := hb1.size
    have hbl1 : cb < w1.heap.size := by omega
    obtain ⟨r0, r1, -⟩ := row6 ((hb1.block _ hbl).trans hr)
    go_wp2_with fail
    go_ret
    exact ⟨by simp, hb1.alloc hb1.size _⟩
set_option maxRecDepth 100000 in
set_option maxHeartbeats 1000000 in
theorem index87_78 (f : Int → Bool) (c1 c2 : Value) (w : World) (ys : List (Int)) (v : Value) (hv : IS w v ys)
    (hcall : ∀ (i : Nat) (hi : i < ys.length) (z : World) , Below w.heap.size w z → Calls Try.prog 78 #[.int .i64 ys[i], c1, c2] z fun r z' => r = .returned (.bool (f ys[i])) ∧ Below z.heap.size z z') :
    Calls Try.prog 87 #[v, .func (.func 78) #[] #[c1, c2]] w fun r w' => r = .returned (.int .i64 (idxB f ys)) ∧ Below w.heap.size w w' := by
  obtain ⟨A, cap, rfl, g1, g2, g3, g4, hs⟩ := hv
  have HCA := Lib.hid hcall
  clear hcall
  go_enter Try.func87, Try.ntmps87
  go_wp2_with fail
  go_loopw [8] (fun i wr => ∃ j : Nat, i = .int .i64 j ∧ j ≤ ys.length ∧ Hid (∀ q (hq : q < ys.length), q < j → f ys[q] = false) ∧ Below w.heap.size w wr) (fun i _ => ys.length - (intOf i).toNat)
  case atStart => exact ⟨0, rfl, Nat.zero_le _, Lib.hid (fun q hq h => by omega), Below.refl _ _⟩
  case round =>
    obtain ⟨j, rfl, hj, hno, hb⟩ := hrel
    by_cases hlt : j < ys.length
    · obtain ⟨b, o, rfl, hbl, hc⟩ := IS_cell hs j hlt
      have hc' := cellB hb (Nat.le_refl _) hc
      have HC := Lib.hid (HCA.out j hlt wr  hb)
      have HHit : Hid (f ys[j] = true → idxB f ys = j) := Lib.hid (fun h => idxB_hit hlt h (fun q hq h2 => hno.out q hq h2))
      have HNX : Hid (f ys[j] = false → ∀ q (hq : q < ys.length), q < j + 1 → f ys[q] = false) := Lib.hid (fun h q hq h2 => by
        rcases Nat.lt_or_eq_of_le (Nat.lt_succ_iff.1 h2) with h1 | rfl
        · exact hno.out q hq h1
        · exact h)
      have hblr : b < wr.heap.size := World.block_lt_of_cell? _ _ hc'
      clear HCA hno hs hc
      generalize ys[j] = y at *
      skip
      cases hsm : f y
      · rw [hsm] at HC
        have HN := Lib.hid (HNX.out hsm)
        clear hsm HNX HHit
        go_wp2_with fail
        refine HC.out.mono ?_
        rintro _ w1 ⟨rfl, hb1⟩
        have hbn := hb.thenCall hb.size hb1
        go_wp2_with fail
        exact ⟨⟨j + 1, by go_num, by omega, HN, hbn⟩, by simp [intOf]; omega⟩
      · rw [hsm] at HC
        have HH := Lib.hid (HHit.out hsm)
        clear hsm HNX HHit
        go_wp2_with fail
        refine HC.out.mono ?_
        rintro _ w1 ⟨rfl, hb1⟩
        have hbn := hb.thenCall hb.size hb1
        go_wp2_with fail
        go_ret
        exact ⟨by rw [HH.out]; rfl, hbn⟩
    · have HN := Lib.hid (idxB_miss (f := f) (l := ys) (fun q hq => hno.out q hq (by omega)))
      clear hs HCA
      go_wp2_with fail
      go_ret
      exact ⟨by rw [HN.out]; rfl, hb⟩
theorem contains77_78 (f : Int → Bool) (c1 c2 : Value) (w : World) (ys : List Int) (v : Value) (hv : IS w v ys)
    (hcall : ∀ (i : Nat) (hi : i < ys.length) (z : World), Below w.heap.size w z → Calls Try.prog 78 #[.int .i64 ys[i], c1, c2] z fun r z' => r = .returned (.bool (f ys[i])) ∧ Below z.heap.size z z') :
    Calls Try.prog 77 #[v, .func (.func 78) #[] #[c1, c2]] w fun r w' => r = .returned (.bool (ys.any f)) ∧ Below w.heap.size w w' := by
  have H := Lib.hid (index87_78 f c1 c2 w ys v hv hcall)
  obtain ⟨A, cap, rfl, -, -⟩ := hv
  have HA : decide (0 ≤ idxB f ys) = ys.any f := by
    by_cases h : ∃ k, ∃ hk : k < ys.length, f ys[k] = true ∧ ∀ j (hj : j < ys.length), j < k → f ys[j] = false
    · obtain ⟨k, hk, h1, h2⟩ := h
      rw [idxB_hit hk h1 h2, any_hit f hk h1]
      simp
    · have hall : ∀ j (hj : j < ys.length), f ys[j] = false := by
        intro j
        induction j using Nat.strongRecOn with
        | _ j ih =>
          intro hj
          cases hf : f ys[j] with
          | false => rfl
          | true => exact absurd ⟨j, hj, hf, fun q hq hlt => ih q hlt hq⟩ h
      rw [idxB_miss hall, any_take f (j := ys.length) (fun q hq _ => hall q hq) (Nat.le_refl _)]
      rfl
  have HH := Lib.hid HA
  clear hcall HA
  generalize idxB f ys = k at *
  go_enter Try.func77, Try.ntmps77
  go_wp2_with fail
  refine H.out.mono ?_
  rintro _ w1 ⟨rfl, hb1⟩
  go_wp2_with fail
  go_ret
  exact ⟨ret_bool HH.out, hb1⟩
/-- whether all of some rules demand, at a place. -/
def allDem (rules : List (List Ex)) (ss : List Int) (path : List Int) : Bool := ss.all (demI rules path)
set_option maxRecDepth 100000 in
theorem clo76 (w0 w : World) (mv rv pv sv : Value) (rules : List (List Ex)) (ss : List Int) (path : List Int) (bb sb : Nat) (hR : RS w0 rv rules) (hi : InR rules.length ss) (hp : IS w0 pv path) (hs : IS w0 sv ss) (h0 : Data.Sub w0 w)
    (hb : w.heap[bb]? = some (.cells #[mv, rv] 98 (0, 0))) (hq : w.heap[sb]? = some (.cells #[sv] 58 (0, 0))) :
    Calls Try.prog 76 #[pv, .pointer (some ⟨sb, 0, none⟩), .pointer (some ⟨bb, 0, none⟩)] w fun r w' => r = .returned (.bool (allDem rules ss path)) ∧ Below w.heap.size w w' := by
  have HX := Lib.hid (contains77_78 (fun i => !demI rules path i) (.pointer (some ⟨bb, 0, none⟩)) (.pointer (some ⟨w.heap.size, 0, none⟩)) (w.alloc (.cells #[pv] 58)) ss sv ((hs.sub h0).sub (Sub.of_below (below1 w _)))
    (fun j hj z hz => clo78 w0 z mv rv pv rules ss[j] path bb w.heap.size hR (hi _ (List.getElem_mem hj)) hp ((h0.alloc _).then hz) ((hz.block _ (by have := (Array.getElem?_eq_some_iff.1 hb).1; simp; omega)).trans ((heap_alloc_old w _ (Array.getElem?_eq_some_iff.1 hb).1).trans hb)) ((hz.block _ (by simp)).trans (heap_alloc_new w _))))
  have p0 := cell1of hq
  have hsl := (Array.getElem?_eq_some_iff.1 hq).1
  have hA : (!ss.any (fun i => !demI rules path i)) = allDem rules ss path := by
    rw [allDem, List.all_eq_not_any_not]
  rw [← hA]
  generalize ss.any (fun i => !demI rules path i) = d at *
  obtain ⟨Ap, capp, rfl, -⟩ := hp
  obtain ⟨As, caps, rfl, -⟩ := hs
  clear hA hb hq h0 hR hi
  go_enter Try.func76, Try.ntmps76
  go_wp2_with fail
  refine HX.out.mono ?_
  rintro _ w1 ⟨rfl, hb1⟩
  go_wp2_with fail
  go_ret
  exact ⟨rfl, Below.call1 hb1⟩
set_option maxRecDepth 100000 in
set_option maxHeartbeats 1000000 in
theorem index80_76 (f : List Int → Bool) (c1 c2 : Value) (w : World) (ys : List (List Int)) (v : Value) (hv : PS w v ys)
    (hcall : ∀ (i : Nat) (hi : i < ys.length) (z : World) (a : Value) (ha : IS w a ys[i]), Below w.heap.size w z → Calls Try.prog 76 #[a, c1, c2] z fun r z' => r = .returned (.bool (f ys[i])) ∧ Below z.heap.size z z') :
    Calls Try.prog 80 #[v, .func (.func 76) #[] #[c1, c2]] w fun r w' => r = .returned (.int .i64 (idxB f ys)) ∧ Below w.heap.size w w' := by
  obtain ⟨A, cap, xs, rfl, g1, g2, g3, g4, hs, hs6⟩ := hv
  have HCA := Lib.hid hcall
  clear hcall
  go_enter Try.func80, Try.ntmps80
  go_wp2_with fail
  go_loopw [8] (fun i wr => ∃ j : Nat, i = .int .i64 j ∧ j ≤ ys.length ∧ Hid (∀ q (hq : q < ys.length), q < j → f ys[q] = false) ∧ Below w.heap.size w wr) (fun i _ => ys.length - (intOf i).toNat)
  case atStart => exact ⟨0, rfl, Nat.zero_le _, Lib.hid (fun q hq h => by omega), Below.refl _ _⟩
  case round =>
    obtain ⟨j, rfl, hj, hno, hb⟩ := hrel
    by_cases hlt : j < ys.length
    · obtain ⟨b, o, pv, rfl, hbl, hc, his⟩ := PS_get hs hs6 j hlt
      have hc' := cellB hb (Nat.le_refl _) hc
      have HC := Lib.hid (HCA.out j hlt wr pv his hb)
      have HHit : Hid (f ys[j] = true → idxB f ys = j) := Lib.hid (fun h => idxB_hit hlt h (fun q hq h2 => hno.out q hq h2))
      have HNX : Hid (f ys[j] = false → ∀ q (hq : q < ys.length), q < j + 1 → f ys[q] = false) := Lib.hid (fun h q hq h2 => by
        rcases Nat.lt_or_eq_of_le (Nat.lt_succ_iff.1 h2) with h1 | rfl
        · exact hno.out q hq h1
        · exact h)
      have hblr : b < wr.heap.size := World.block_lt_of_cell? _ _ hc'
      clear HCA hno hs hc
      generalize ys[j] = y at *
      obtain ⟨Ap, capp, rfl, -⟩ := his
      clear hs6
      cases hsm : f y
      · rw [hsm] at HC
        have HN := Lib.hid (HNX.out hsm)
        clear hsm HNX HHit
        go_wp2_with fail
        refine HC.out.mono ?_
        rintro _ w1 ⟨rfl, hb1⟩
        have hbn := hb.thenCall hb.size hb1
        go_wp2_with fail
        exact ⟨⟨j + 1, by go_num, by omega, HN, hbn⟩, by simp [intOf]; omega⟩
      · rw [hsm] at HC
        have HH := Lib.hid (HHit.out hsm)
        clear hsm HNX HHit
        go_wp2_with fail
        refine HC.out.mono ?_
        rintro _ w1 ⟨rfl, hb1⟩
        have hbn := hb.thenCall hb.size hb1
        go_wp2_with fail
        go_ret
        exact ⟨by rw [HH.out]; rfl, hbn⟩
    · have HN := Lib.hid (idxB_miss (f := f) (l := ys) (fun q hq => hno.out q hq (by omega)))
      clear hs hs6 HCA
      go_wp2_with fail
      go_ret
      exact ⟨by rw [HN.out]; rfl, hb⟩
set_option maxRecDepth 100000 in
set_option maxHeartbeats 1000000 in
theorem index80_82 (f : List Int → Bool) (c1 c2 : Value) (w : World) (ys : List (List Int)) (v : Value) (hv : PS w v ys)
    (hcall : ∀ (i : Nat) (hi : i < ys.length) (z : World) (a : Value) (ha : IS w a ys[i]), Below w.heap.size w z → Calls Try.prog 82 #[a, c1, c2] z fun r z' => r = .returned (.bool (f ys[i])) ∧ Below z.heap.size z z') :
    Calls Try.prog 80 #[v, .func (.func 82) #[] #[c1, c2]] w fun r w' => r = .returned (.int .i64 (idxB f ys)) ∧ Below w.heap.size w w' := by
  obtain ⟨A, cap, xs, rfl, g1, g2, g3, g4, hs, hs6⟩ := hv
  have HCA := Lib.hid hcall
  clear hcall
  go_enter Try.func80, Try.ntmps80
  go_wp2_with fail
  go_loopw [8] (fun i wr => ∃ j : Nat, i = .int .i64 j ∧ j ≤ ys.length ∧ Hid (∀ q (hq : q < ys.length), q < j → f ys[q] = false) ∧ Below w.heap.size w wr) (fun i _ => ys.length - (intOf i).toNat)
  case atStart => exact ⟨0, rfl, Nat.zero_le _, Lib.hid (fun q hq h => by omega), Below.refl _ _⟩
  case round =>
    obtain ⟨j, rfl, hj, hno, hb⟩ := hrel
    by_cases hlt : j < ys.length
    · obtain ⟨b, o, pv, rfl, hbl, hc, his⟩ := PS_get hs hs6 j hlt
      have hc' := cellB hb (Nat.le_refl _) hc
      have HC := Lib.hid (HCA.out j hlt wr pv his hb)
      have HHit : Hid (f ys[j] = true → idxB f ys = j) := Lib.hid (fun h => idxB_hit hlt h (fun q hq h2 => hno.out q hq h2))
      have HNX : Hid (f ys[j] = false → ∀ q (hq : q < ys.length), q < j + 1 → f ys[q] = false) := Lib.hid (fun h q hq h2 => by
        rcases Nat.lt_or_eq_of_le (Nat.lt_succ_iff.1 h2) with h1 | rfl
        · exact hno.out q hq h1
        · exact h)
      have hblr : b < wr.heap.size := World.block_lt_of_cell? _ _ hc'
      clear HCA hno hs hc
      generalize ys[j] = y at *
      obtain ⟨Ap, capp, rfl, -⟩ := his
      clear hs6
      cases hsm : f y
      · rw [hsm] at HC
        have HN := Lib.hid (HNX.out hsm)
        clear hsm HNX HHit
        go_wp2_with fail
        refine HC.out.mono ?_
        rintro _ w1 ⟨rfl, hb1⟩
        have hbn := hb.thenCall hb.size hb1
        go_wp2_with fail
        exact ⟨⟨j + 1, by go_num, by omega, HN, hbn⟩, by simp [intOf]; omega⟩
      · rw [hsm] at HC
        have HH := Lib.hid (HHit.out hsm)
        clear hsm HNX HHit
        go_wp2_with fail
        refine HC.out.mono ?_
        rintro _ w1 ⟨rfl, hb1⟩
        have hbn := hb.thenCall hb.size hb1
        go_wp2_with fail
        go_ret
        exact ⟨by rw [HH.out]; rfl, hbn⟩
    · have HN := Lib.hid (idxB_miss (f := f) (l := ys) (fun q hq => hno.out q hq (by omega)))
      clear hs hs6 HCA
      go_wp2_with fail
      go_ret
      exact ⟨by rw [HN.out]; rfl, hb⟩
theorem filter_take {f : Int → Bool} {l : List Int} {j : Nat} (h : j < l.length) : (l.take (j + 1)).filter f = (l.take j).filter f ++ (if f l[j] then [l[j]] else []) := by
  rw [List.take_succ_eq_append_getElem h, List.filter_append]
  congr 1
  cases hf : f l[j] <;> simp [hf]
def SplitRel (f : Int → Bool) (ss : List Int) (w : World) (a b i : Value) (wr : World) : Prop :=
  ∃ j : Nat, i = .int .i64 j ∧ j ≤ ss.length ∧ IntOwn wr w.heap.size a ((ss.take j).filter f) ∧ IntOwn wr w.heap.size b ((ss.take j).filter (fun x => !f x)) ∧ (∀ k, a.ownBlock = some k → b.ownBlock ≠ some k) ∧ Below w.heap.size w wr
/-- a row beside one that has grown. -/
theorem beside_grown {w w' : World} {B n m : Nat} {a b a' : Value} {xs ys : List Value} (hb : w.ownsRow B 3 1 b m ys) (hg : w.grownBy w' a.ownBlock) (hf : Fresh w a a') (hne : ∀ k, a.ownBlock = some k → b.ownBlock ≠ some k) :
    w'.ownsRow B 3 1 b m ys ∧ (∀ k, a'.ownBlock = some k → b.ownBlock ≠ some k) := by
  refine ⟨own_grown hb hg fun k hk e => hne k e hk, fun k hk => ?_⟩
  rcases hf with hf | ⟨g, h1, h2⟩
  · exact hne k (hf ▸ hk)
  · intro e
    rw [h1] at hk
    injection hk with hk
    have := (own_block_lt hb e).2
    omega
set_option maxRecDepth 100000 in
set_option maxHeartbeats 2000000 in
theorem split_84 (f : Int → Bool) (c1 c2 c3 : Value) (w : World) (ss : List Int) (v : Value) (hv : IS w v ss)
    (hcall : ∀ (i : Nat) (hi : i < ss.length) (z : World), Below w.heap.size w z → Calls Try.prog 84 #[.int .i64 ss[i], c1, c2, c3] z fun r z' => r = .returned (.bool (f ss[i])) ∧ Below z.heap.size z z') :
    Calls Try.prog 83 #[v, .func (.func 84) #[] #[c1, c2, c3]] w fun r w' => ∃ a b, r = .returned (.tuple #[a, b]) ∧ IntOwn w' w.heap.size a (ss.filter f) ∧ IntOwn w' w.heap.size b (ss.filter (fun x => !f x)) ∧ Below w.heap.size w w' := by
  obtain ⟨A, cap, rfl, g1, g2, g3, g4, hs⟩ := hv
  obtain ⟨i0, hi, hz0, hz1, hz2⟩ := info_parts info3
  have HCA := Lib.hid hcall
  clear hcall
  go_enter Try.func83, Try.ntmps83
  go_wp2_with fail
  go_loopw [6, 7, 12] (fun a b i wr => SplitRel f ss w a b i wr) (fun _ _ i _ => ss.length - (intOf i).toNat)
  case atStart => exact ⟨0, rfl, Nat.zero_le _, World.ownsRow_nil _ _ _ _, World.ownsRow_nil _ _ _ _, (fun k h => by cases h), Below.refl _ _⟩
  case round =>
    obtain ⟨j, rfl, hj, ha, hb', hne, hb⟩ := hrel
    by_cases hlt : j < ss.length
    · obtain ⟨b, o, rfl, hbl, hc⟩ := IS_cell hs j hlt
      have hc' := cellB hb (Nat.le_refl _) hc
      have HC := Lib.hid (HCA.out j hlt wr hb)
      have HT1 := Lib.hid (filter_take (f := f) hlt)
      have HT2 := Lib.hid (filter_take (f := fun x => !f x) hlt)
      have hla : ((ss.take j).filter f).length ≤ j := Nat.le_trans (List.length_filter_le _ _) (by simp; omega)
      have hlb : ((ss.take j).filter (fun x => !f x)).length ≤ j := Nat.le_trans (List.length_filter_le _ _) (by simp; omega)
      have hblr : b < wr.heap.size := World.block_lt_of_cell? _ _ hc'
      unfold IntOwn at ha hb'
      generalize (ss.take j).filter f = la at *
      generalize (ss.take j).filter (fun x => !f x) = lb at *
      generalize ss[j] = y at *
      have hga : la.length + 1 ≤ maxLen := by unfold maxLen; omega
      have hga2 : (la.length + 1) * 8 ≤ 140737488355328 := by omega
      have hgb : lb.length + 1 ≤ maxLen := by unfold maxLen; omega
      have hgb2 : (lb.length + 1) * 8 ≤ 140737488355328 := by omega
      clear HCA hs hc
      cases hsm : f y
      · rw [hsm] at HC
        have HT1' : Hid ((ss.take (j + 1)).filter f = la) := Lib.hid (by rw [HT1.out, hsm]; simp)
        have HT2' : Hid ((ss.take (j + 1)).filter (fun x => !f x) = lb ++ [y]) := Lib.hid (by rw [HT2.out]; simp [hsm])
        clear hsm HT1 HT2
        go_wp2_with fail
        refine HC.out.mono ?_
        rintro _ w1 ⟨rfl, hb1⟩
        have hbz := fun o => hb1.alloc hb1.size o
        go_wp2_with (at_builtin; refine wpList_append_where rfl (.tmp 23) (.tmp 25) 58 rfl w.heap.size 3 i0 _ 1 8 Try.underlying58 hi hz0 hz1 hz2 rfl (by omega) u7 lb.length (lb.map (Value.int .i64)) rfl (own_below hb' (hbz _) (Nat.le_refl _)) (some ⟨w1.heap.size, 0, none⟩) 1 1 [.int .i64 y] rfl (Src.of_own (own_new w1 3 1 1 #[.int .i64 y] rfl (by omega))) (fun h => by cases h) (by simp [Value.oneCell']) hgb hgb2 (Nat.le_trans hb.size (hbz _).size) ?_; intro v2 w2 hown2 hg2 hf2)
        have hb2 := below_grown (own_below hb' (hbz _) (Nat.le_refl _)) hg2 (Nat.le_trans hb.size (hbz _).size)
        obtain ⟨ha2, hne2⟩ := beside_grown (n := 0) (xs := []) (own_below ha (hbz _) (Nat.le_refl _)) hg2 hf2 (fun k h1 h2 => hne k h2 h1)
        refine ⟨⟨j + 1, by go_num, by omega, ?_, ?_, fun k h1 h2 => hne2 k h2 h1, (hb.thenCall hb.size (hbz _)).trans hb2⟩, by simp [intOf]; omega⟩
        · unfold IntOwn; rw [HT1'.out]; exact ha2
        · unfold IntOwn; rw [HT2'.out, List.length_append, List.map_append]; exact hown2
      · rw [hsm] at HC
        have HT1' : Hid ((ss.take (j + 1)).filter f = la ++ [y]) := Lib.hid (by rw [HT1.out, hsm]; simp)
        have HT2' : Hid ((ss.take (j + 1)).filter (fun x => !f x) = lb) := Lib.hid (by rw [HT2.out]; simp [hsm])
        clear hsm HT1 HT2
        go_wp2_with fail
        refine HC.out.mono ?_
        rintro _ w1 ⟨rfl, hb1⟩
        have hbz := fun o => hb1.alloc hb1.size o
        go_wp2_with (at_builtin; refine wpList_append_where rfl (.tmp 19) (.tmp 21) 58 rfl w.heap.size 3 i0 _ 1 8 Try.underlying58 hi hz0 hz1 hz2 rfl (by omega) u6 la.length (la.map (Value.int .i64)) rfl (own_below ha (hbz _) (Nat.le_refl _)) (some ⟨w1.heap.size, 0, none⟩) 1 1 [.int .i64 y] rfl (Src.of_own (own_new w1 3 1 1 #[.int .i64 y] rfl (by omega))) (fun h => by cases h) (by simp [Value.oneCell']) hga hga2 (Nat.le_trans hb.size (hbz _).size) ?_; intro v2 w2 hown2 hg2 hf2)
        have hb2 := below_grown (own_below ha (hbz _) (Nat.le_refl _)) hg2 (Nat.le_trans hb.size (hbz _).size)
        obtain ⟨ha2, hne2⟩ := beside_grown (n := 0) (xs := []) (own_below hb' (hbz _) (Nat.le_refl _)) hg2 hf2 hne
        refine ⟨⟨j + 1, by go_num, by omega, ?_, ?_, hne2, (hb.thenCall hb.size (hbz _)).trans hb2⟩, by simp [intOf]; omega⟩
        · unfold IntOwn; rw [HT1'.out, List.length_append, List.map_append]; exact hown2
        · unfold IntOwn; rw [HT2'.out]; exact ha2
    · clear hs HCA
      go_wp2_with fail
      go_ret2
      rw [List.take_of_length_le (by omega)] at ha hb'
      exact ⟨_, _, rfl, ha, hb', hb⟩
set_option maxRecDepth 100000 in
set_option maxHeartbeats 2000000 in
theorem split_89 (f : Int → Bool) (c1 c2 c3 : Value) (w : World) (ss : List Int) (v : Value) (hv : IS w v ss)
    (hcall : ∀ (i : Nat) (hi : i < ss.length) (z : World), Below w.heap.size w z → Calls Try.prog 89 #[.int .i64 ss[i], c1, c2, c3] z fun r z' => r = .returned (.bool (f ss[i])) ∧ Below z.heap.size z z') :
    Calls Try.prog 83 #[v, .func (.func 89) #[] #[c1, c2, c3]] w fun r w' => ∃ a b, r = .returned (.tuple #[a, b]) ∧ IntOwn w' w.heap.size a (ss.filter f) ∧ IntOwn w' w.heap.size b (ss.filter (fun x => !f x)) ∧ Below w.heap.size w w' := by
  obtain ⟨A, cap, rfl, g1, g2, g3, g4, hs⟩ := hv
  obtain ⟨i0, hi, hz0, hz1, hz2⟩ := info_parts info3
  have HCA := Lib.hid hcall
  clear hcall
  go_enter Try.func83, Try.ntmps83
  go_wp2_with fail
  go_loopw [6, 7, 12] (fun a b i wr => SplitRel f ss w a b i wr) (fun _ _ i _ => ss.length - (intOf i).toNat)
  case atStart => exact ⟨0, rfl, Nat.zero_le _, World.ownsRow_nil _ _ _ _, World.ownsRow_nil _ _ _ _, (fun k h => by cases h), Below.refl _ _⟩
  case round =>
    obtain ⟨j, rfl, hj, ha, hb', hne, hb⟩ := hrel
    by_cases hlt : j < ss.length
    · obtain ⟨b, o, rfl, hbl, hc⟩ := IS_cell hs j hlt
      have hc' := cellB hb (Nat.le_refl _) hc
      have HC := Lib.hid (HCA.out j hlt wr hb)
      have HT1 := Lib.hid (filter_take (f := f) hlt)
      have HT2 := Lib.hid (filter_take (f := fun x => !f x) hlt)
      have hla : ((ss.take j).filter f).length ≤ j := Nat.le_trans (List.length_filter_le _ _) (by simp; omega)
      have hlb : ((ss.take j).filter (fun x => !f x)).length ≤ j := Nat.le_trans (List.length_filter_le _ _) (by simp; omega)
      have hblr : b < wr.heap.size := World.block_lt_of_cell? _ _ hc'
      unfold IntOwn at ha hb'
      generalize (ss.take j).filter f = la at *
      generalize (ss.take j).filter (fun x => !f x) = lb at *
      generalize ss[j] = y at *
      have hga : la.length + 1 ≤ maxLen := by unfold maxLen; omega
      have hga2 : (la.length + 1) * 8 ≤ 140737488355328 := by omega
      have hgb : lb.length + 1 ≤ maxLen := by unfold maxLen; omega
      have hgb2 : (lb.length + 1) * 8 ≤ 140737488355328 := by omega
      clear HCA hs hc
      cases hsm : f y
      · rw [hsm] at HC
        have HT1' : Hid ((ss.take (j + 1)).filter f = la) := Lib.hid (by rw [HT1.out, hsm]; simp)
        have HT2' : Hid ((ss.take (j + 1)).filter (fun x => !f x) = lb ++ [y]) := Lib.hid (by rw [HT2.out]; simp [hsm])
        clear hsm HT1 HT2
        go_wp2_with fail
        refine HC.out.mono ?_
        rintro _ w1 ⟨rfl, hb1⟩
        have hbz := fun o => hb1.alloc hb1.size o
        go_wp2_with (at_builtin; refine wpList_append_where rfl (.tmp 23) (.tmp 25) 58 rfl w.heap.size 3 i0 _ 1 8 Try.underlying58 hi hz0 hz1 hz2 rfl (by omega) u7 lb.length (lb.map (Value.int .i64)) rfl (own_below hb' (hbz _) (Nat.le_refl _)) (some ⟨w1.heap.size, 0, none⟩) 1 1 [.int .i64 y] rfl (Src.of_own (own_new w1 3 1 1 #[.int .i64 y] rfl (by omega))) (fun h => by cases h) (by simp [Value.oneCell']) hgb hgb2 (Nat.le_trans hb.size (hbz _).size) ?_; intro v2 w2 hown2 hg2 hf2)
        have hb2 := below_grown (own_below hb' (hbz _) (Nat.le_refl _)) hg2 (Nat.le_trans hb.size (hbz _).size)
        obtain ⟨ha2, hne2⟩ := beside_grown (n := 0) (xs := []) (own_below ha (hbz _) (Nat.le_refl _)) hg2 hf2 (fun k h1 h2 => hne k h2 h1)
        refine ⟨⟨j + 1, by go_num, by omega, ?_, ?_, fun k h1 h2 => hne2 k h2 h1, (hb.thenCall hb.size (hbz _)).trans hb2⟩, by simp [intOf]; omega⟩
        · unfold IntOwn; rw [HT1'.out]; exact ha2
        · unfold IntOwn; rw [HT2'.out, List.length_append, List.map_append]; exact hown2
      · rw [hsm] at HC
        have HT1' : Hid ((ss.take (j + 1)).filter f = la ++ [y]) := Lib.hid (by rw [HT1.out, hsm]; simp)
        have HT2' : Hid ((ss.take (j + 1)).filter (fun x => !f x) = lb) := Lib.hid (by rw [HT2.out]; simp [hsm])
        clear hsm HT1 HT2
        go_wp2_with fail
        refine HC.out.mono ?_
        rintro _ w1 ⟨rfl, hb1⟩
        have hbz := fun o => hb1.alloc hb1.size o
        go_wp2_with (at_builtin; refine wpList_append_where rfl (.tmp 19) (.tmp 21) 58 rfl w.heap.size 3 i0 _ 1 8 Try.underlying58 hi hz0 hz1 hz2 rfl (by omega) u6 la.length (la.map (Value.int .i64)) rfl (own_below ha (hbz _) (Nat.le_refl _)) (some ⟨w1.heap.size, 0, none⟩) 1 1 [.int .i64 y] rfl (Src.of_own (own_new w1 3 1 1 #[.int .i64 y] rfl (by omega))) (fun h => by cases h) (by simp [Value.oneCell']) hga hga2 (Nat.le_trans hb.size (hbz _).size) ?_; intro v2 w2 hown2 hg2 hf2)
        have hb2 := below_grown (own_below ha (hbz _) (Nat.le_refl _)) hg2 (Nat.le_trans hb.size (hbz _).size)
        obtain ⟨ha2, hne2⟩ := beside_grown (n := 0) (xs := []) (own_below hb' (hbz _) (Nat.le_refl _)) hg2 hf2 hne
        refine ⟨⟨j + 1, by go_num, by omega, ?_, ?_, hne2, (hb.thenCall hb.size (hbz _)).trans hb2⟩, by simp [intOf]; omega⟩
        · unfold IntOwn; rw [HT1'.out, List.length_append, List.map_append]; exact hown2
        · unfold IntOwn; rw [HT2'.out]; exact ha2
    · clear hs HCA
      go_wp2_with fail
      go_ret2
      rw [List.take_of_length_le (by omega)] at ha hb'
      exact ⟨_, _, rfl, ha, hb', hb⟩
end Go.Proofs.Ytnaakhnmbckpmaa.Pats
