/- Contract: whimbrellaw16.awake. -/
import Derived.Test.YtnaakhnmbckpmaaBuT
import Derived.Test.YtnaakhnmbckpmaaDtL
import Derived.Test.YtnaakhnmbckpmaaRefInts
import Derived.Test.YtnaakhnmbckpmaaAwake
namespace Go.Proofs.Ytnaakhnmbckpmaa.Pats
open Go.ChangeShapes Go.WideShapes Go.ChangeAt Go.RowKit Go.Proofs.Ytnaakhnmbckpmaa.Lift Go.Proofs.Ytnaakhnmbckpmaa.Data Go.Proofs.Ytnaakhnmbckpmaa.Refs Go.Proofs.Ytnaakhnmbckpmaa.Strs
set_option linter.unusedVariables false
set_option linter.unusedSimpArgs false
def awZ : Ex := .mk 2 ⟨#[90]⟩ 0 [] 0 0
def awMk : List ByteArray := [⟨#[90]⟩, ⟨#[83]⟩]
def awR : List (List Ex) := [[awZ], [awX]]
theorem aw_all : allDem awR [0, 1] [0] = true := by decide +kernel
theorem aw_dem : demI awR [0] 0 = true := by decide +kernel
theorem aw_f1 : ([0, 1] : List Int).filter (fun x => !keyI awMk awR [0] (keyE awMk awZ).1 (keyE awMk awZ).2.1 x) = [1] := by decide +kernel
theorem aw_f2 : ([1] : List Int).filter (fun x => !keyI awMk awR [0] (keyE awMk awX).1 (keyE awMk awX).2.1 x) = [] := by decide +kernel
theorem aw_up : upto 2 = [0, 1] := by decide +kernel
theorem aw_pl : firstP 1 = [[0]] := by decide +kernel
theorem aw_tree {T : Ct} (h : TreeOf awMk awR T) : T.kind = 2 ∧ T.path = [0] ∧ T.cs.length = 2 := by
  rcases h with ⟨h, _⟩ | ⟨_, h⟩
  · cases h
  · change BuildR awMk awR (upto 2) (firstP 1) T at h
    rw [aw_up, aw_pl] at h
    cases h with
    | branch _ _ at_ cs h1 h2 h3 hb =>
      obtain rfl : at_ = 0 := by simpa using h2
      refine ⟨rfl, rfl, ?_⟩
      cases hb with
      | cons s0 r _ _ e T cs he hT hc =>
        have : e = awZ := by
          have h : atS (awR.getD (0 : Int).toNat []) ([[0]].getD 0 []) = some awZ := rfl
          rw [h] at he
          exact (Option.some.inj he).symm
        subst this
        have hc2 : BranchR awMk awR (([0, 1] : List Int).filter (fun x => !keyI awMk awR [0] (keyE awMk awZ).1 (keyE awMk awZ).2.1 x)) [[0]] 0 cs := hc
        rw [aw_f1] at hc2
        clear hc
        cases hc2 with
        | cons s0 r _ _ e T cs he hT hc =>
          have : e = awX := by
            have h : atS (awR.getD (1 : Int).toNat []) ([[0]].getD 0 []) = some awX := rfl
            rw [h] at he
            exact (Option.some.inj he).symm
          subst this
          have hc2 : BranchR awMk awR (([1] : List Int).filter (fun x => !keyI awMk awR [0] (keyE awMk awX).1 (keyE awMk awX).2.1 x)) [[0]] 0 cs := hc
          rw [aw_f2] at hc2
          cases hc2
          rfl
    | split _ _ at_ s0 a b h1 h2 h3 h4 ha hb => have := h3 [0] (by simp); rw [aw_all] at this; cases this
    | more s0 s1 r _ T h hb => have := h [0] (by simp); rw [aw_dem] at this; cases this
theorem own_at {W : World} {g e size n : Nat} {cs : Array Value} (h : W.heap[g]? = some (.cells cs e (0, 0))) (hn : cs.size = n * size) (hm : n ≤ 1048576) : W.ownsRow g e size (.slice (some ⟨g, 0, none⟩) n n) n cs.toList :=
  ⟨by simp [hn], .inr ⟨g, n, cs, rfl, Nat.le_refl _, h, Nat.le_refl _, by unfold maxLen; omega, hn, by rw [← hn, ← Array.length_toList, List.take_length]⟩⟩
theorem aw_str {W : World} {g : Nat} (h : W.heap[g]? = some (.cells #[.string ⟨#[90]⟩, .string ⟨#[83]⟩] 9 (0, 0))) : StrSl W (.slice (some ⟨g, 0, none⟩) 2 2) awMk :=
  StrSl.of_own (l := awMk) (own_at (n := 2) h rfl (by omega)) (by simp [awMk])
theorem aw_rs {W : World} {g1 g4 g5 g6 : Nat} (h1 : W.heap[g1]? = some (.cells #[.int .i64 2, .string ⟨#[83]⟩, .int .i64 0, .slice none 0 0, .int .i64 0, .int .i64 0, .int .i64 1, .string ⟨#[120]⟩, .int .i64 0, .slice none 0 0, .int .i64 0, .int .i64 0] 26 (0, 0)))
    (h4 : W.heap[g4]? = some (.cells #[.int .i64 2, .string ⟨#[90]⟩, .int .i64 0, .slice none 0 0, .int .i64 0, .int .i64 0] 26 (0, 0)))
    (h5 : W.heap[g5]? = some (.cells #[.int .i64 4, .string ⟨#[]⟩, .int .i64 0, .slice (some ⟨g1, 0, none⟩) 2 2, .int .i64 0, .int .i64 0] 26 (0, 0)))
    (h6 : W.heap[g6]? = some (.cells #[.slice (some ⟨g4, 0, none⟩) 1 1, .slice (some ⟨g5, 0, none⟩) 1 1] 22 (0, 0))) : RS W (.slice (some ⟨g6, 0, none⟩) 2 2) awR := by
  have s1 : Ex.Sl W (.slice (some ⟨g1, 0, none⟩) 2 2) [.mk 2 ⟨#[83]⟩ 0 [] 0 0, .mk 1 ⟨#[120]⟩ 0 [] 0 0] := by
    refine Ex.Sl.of_own (own_at (size := 6) h1 rfl (by omega)) ?_ (by simp)
    rw [ExCells]
    exact ⟨_, _, rfl, exCs_leaf _ _ _ _ _ _, ExCells.single (exCs_leaf _ _ _ _ _ _)⟩
  have s4 : Ex.Sl W (.slice (some ⟨g4, 0, none⟩) 1 1) [awZ] := Ex.Sl.of_own (own_at (size := 6) h4 rfl (by omega)) (ExCells.single (exCs_leaf _ _ _ _ _ _)) (by simp)
  have s5 : Ex.Sl W (.slice (some ⟨g5, 0, none⟩) 1 1) [awX] := by
    obtain ⟨A, cap, e, hh, hr⟩ := s1
    injection e with e1 e2 e3
    subst e1 e3
    exact Ex.Sl.of_own (own_at (size := 6) h5 rfl (by omega)) (ExCells.single ⟨_, _, rfl, hh, hr⟩) (by simp)
  refine ⟨_, 2, _, rfl, by simp [awR], by omega, by simp [awR], (fun h => by cases h), Src.of_own (own_at (n := 2) (size := 1) h6 rfl (by omega)), ?_⟩
  simp only [awR, RCells]
  exact ⟨_, _, rfl, s4, _, _, rfl, s5, rfl⟩
theorem ints_eq (w : World) (v v2 : Value) (l : List Int) (hv : IS w v l) (hv2 : IS w v2 l) (hm : l.length ≤ 1000000) :
    Calls Try.prog 36 #[v, v2] w fun e w' => e = .returned (.bool true) ∧ Below w.heap.size w w' := by
  have hat : ∀ {A : Option Addr}, Src w 1 A l.length (l.map (Value.int .i64)) → IntsAt w A l := fun g5 k hk => by
    obtain ⟨b, o, e, h1, h2⟩ := IS_cell g5 k hk
    refine ⟨b, o, e, h1, ?_⟩
    rw [h2]
    simp [List.getD, List.getElem?_eq_getElem hk]
  obtain ⟨A, cap, rfl, g1, g2, g3, g4, g5⟩ := hv
  obtain ⟨A2, cap2, rfl, k1, k2, k3, k4, k5⟩ := hv2
  have h := RefInts.ints_any w A A2 cap cap2 l l (hat g5) (hat k5) rfl hm
  simpa using h
theorem aw_200 : ∀ l ∈ awR, ExSize l ≤ 200 := by decide +kernel
set_option maxRecDepth 100000 in
set_option maxHeartbeats 2000000 in
theorem awake16_any (w : World) : Calls Try.prog 37 #[] w (fun e w' => e = .returned (.bool true) ∧ Below w.heap.size w w') := by
  have HB := fun W mv rv hM hR => Lib.hid (build_any W W mv rv awMk awR hM hR aw_200 (by simp [awR]) (Below.refl _ _))
  obtain ⟨W, hW⟩ : ∃ W, W = (((((((w.alloc (.cells #[.int .i64 2, .string ⟨#[90]⟩, .int .i64 0, .slice none 0 0, .int .i64 0, .int .i64 0] 26)).alloc (.cells #[.int .i64 2, .string ⟨#[83]⟩, .int .i64 0, .slice none 0 0, .int .i64 0, .int .i64 0, .int .i64 1, .string ⟨#[120]⟩, .int .i64 0, .slice none 0 0, .int .i64 0, .int .i64 0] 26)).alloc (.cells #[.int .i64 4, .string ⟨#[]⟩, .int .i64 0, .slice (some ⟨w.heap.size + 1, 0, none⟩) 2 2, .int .i64 0, .int .i64 0] 26)).alloc (.cells #[.string ⟨#[90]⟩, .string ⟨#[83]⟩] 9)).alloc (.cells #[.int .i64 2, .string ⟨#[90]⟩, .int .i64 0, .slice none 0 0, .int .i64 0, .int .i64 0] 26)).alloc (.cells #[.int .i64 4, .string ⟨#[]⟩, .int .i64 0, .slice (some ⟨w.heap.size + 1, 0, none⟩) 2 2, .int .i64 0, .int .i64 0] 26)).alloc (.cells #[.slice (some ⟨w.heap.size + 1 + 1 + 1 + 1, 0, none⟩) 1 1, .slice (some ⟨w.heap.size + 1 + 1 + 1 + 1 + 1, 0, none⟩) 1 1] 22)) := ⟨_, rfl⟩
  have hz : W.heap.size = w.heap.size + 7 := by rw [hW]; simp
  have hbW : Below w.heap.size w W := by rw [hW]; exact (((((below2 w _ _).alloc (by simp <;> omega) _).alloc (by simp <;> omega) _).alloc (by simp <;> omega) _).alloc (by simp <;> omega) _).alloc (by simp <;> omega) _
  have g1 : W.heap[w.heap.size + 1]? = some (.cells #[.int .i64 2, .string ⟨#[83]⟩, .int .i64 0, .slice none 0 0, .int .i64 0, .int .i64 0, .int .i64 1, .string ⟨#[120]⟩, .int .i64 0, .slice none 0 0, .int .i64 0, .int .i64 0] 26 (0, 0)) := by
    rw [hW, heap_alloc_old _ _ (by simp <;> omega), heap_alloc_old _ _ (by simp <;> omega), heap_alloc_old _ _ (by simp <;> omega), heap_alloc_old _ _ (by simp <;> omega), heap_alloc_old _ _ (by simp)]
    have h := heap_alloc_new (w.alloc (.cells #[.int .i64 2, .string ⟨#[90]⟩, .int .i64 0, .slice none 0 0, .int .i64 0, .int .i64 0] 26)) (.cells #[.int .i64 2, .string ⟨#[83]⟩, .int .i64 0, .slice none 0 0, .int .i64 0, .int .i64 0, .int .i64 1, .string ⟨#[120]⟩, .int .i64 0, .slice none 0 0, .int .i64 0, .int .i64 0] 26)
    simp only [World.size_alloc] at h
    exact h
  have g3 : W.heap[w.heap.size + 1 + 1 + 1]? = some (.cells #[.string ⟨#[90]⟩, .string ⟨#[83]⟩] 9 (0, 0)) := by
    rw [hW, heap_alloc_old _ _ (by simp <;> omega), heap_alloc_old _ _ (by simp <;> omega), heap_alloc_old _ _ (by simp)]
    have h := heap_alloc_new (((w.alloc (.cells #[.int .i64 2, .string ⟨#[90]⟩, .int .i64 0, .slice none 0 0, .int .i64 0, .int .i64 0] 26)).alloc (.cells #[.int .i64 2, .string ⟨#[83]⟩, .int .i64 0, .slice none 0 0, .int .i64 0, .int .i64 0, .int .i64 1, .string ⟨#[120]⟩, .int .i64 0, .slice none 0 0, .int .i64 0, .int .i64 0] 26)).alloc (.cells #[.int .i64 4, .string ⟨#[]⟩, .int .i64 0, .slice (some ⟨w.heap.size + 1, 0, none⟩) 2 2, .int .i64 0, .int .i64 0] 26)) (.cells #[.string ⟨#[90]⟩, .string ⟨#[83]⟩] 9)
    simp only [World.size_alloc] at h
    exact h
  have g4 : W.heap[w.heap.size + 1 + 1 + 1 + 1]? = some (.cells #[.int .i64 2, .string ⟨#[90]⟩, .int .i64 0, .slice none 0 0, .int .i64 0, .int .i64 0] 26 (0, 0)) := by
    rw [hW, heap_alloc_old _ _ (by simp <;> omega), heap_alloc_old _ _ (by simp)]
    have h := heap_alloc_new ((((w.alloc (.cells #[.int .i64 2, .string ⟨#[90]⟩, .int .i64 0, .slice none 0 0, .int .i64 0, .int .i64 0] 26)).alloc (.cells #[.int .i64 2, .string ⟨#[83]⟩, .int .i64 0, .slice none 0 0, .int .i64 0, .int .i64 0, .int .i64 1, .string ⟨#[120]⟩, .int .i64 0, .slice none 0 0, .int .i64 0, .int .i64 0] 26)).alloc (.cells #[.int .i64 4, .string ⟨#[]⟩, .int .i64 0, .slice (some ⟨w.heap.size + 1, 0, none⟩) 2 2, .int .i64 0, .int .i64 0] 26)).alloc (.cells #[.string ⟨#[90]⟩, .string ⟨#[83]⟩] 9)) (.cells #[.int .i64 2, .string ⟨#[90]⟩, .int .i64 0, .slice none 0 0, .int .i64 0, .int .i64 0] 26)
    simp only [World.size_alloc] at h
    exact h
  have g5 : W.heap[w.heap.size + 1 + 1 + 1 + 1 + 1]? = some (.cells #[.int .i64 4, .string ⟨#[]⟩, .int .i64 0, .slice (some ⟨w.heap.size + 1, 0, none⟩) 2 2, .int .i64 0, .int .i64 0] 26 (0, 0)) := by
    rw [hW, heap_alloc_old _ _ (by simp)]
    have h := heap_alloc_new (((((w.alloc (.cells #[.int .i64 2, .string ⟨#[90]⟩, .int .i64 0, .slice none 0 0, .int .i64 0, .int .i64 0] 26)).alloc (.cells #[.int .i64 2, .string ⟨#[83]⟩, .int .i64 0, .slice none 0 0, .int .i64 0, .int .i64 0, .int .i64 1, .string ⟨#[120]⟩, .int .i64 0, .slice none 0 0, .int .i64 0, .int .i64 0] 26)).alloc (.cells #[.int .i64 4, .string ⟨#[]⟩, .int .i64 0, .slice (some ⟨w.heap.size + 1, 0, none⟩) 2 2, .int .i64 0, .int .i64 0] 26)).alloc (.cells #[.string ⟨#[90]⟩, .string ⟨#[83]⟩] 9)).alloc (.cells #[.int .i64 2, .string ⟨#[90]⟩, .int .i64 0, .slice none 0 0, .int .i64 0, .int .i64 0] 26)) (.cells #[.int .i64 4, .string ⟨#[]⟩, .int .i64 0, .slice (some ⟨w.heap.size + 1, 0, none⟩) 2 2, .int .i64 0, .int .i64 0] 26)
    simp only [World.size_alloc] at h
    exact h
  have g6 : W.heap[w.heap.size + 1 + 1 + 1 + 1 + 1 + 1]? = some (.cells #[.slice (some ⟨w.heap.size + 1 + 1 + 1 + 1, 0, none⟩) 1 1, .slice (some ⟨w.heap.size + 1 + 1 + 1 + 1 + 1, 0, none⟩) 1 1] 22 (0, 0)) := by
    rw [hW]
    have h := heap_alloc_new ((((((w.alloc (.cells #[.int .i64 2, .string ⟨#[90]⟩, .int .i64 0, .slice none 0 0, .int .i64 0, .int .i64 0] 26)).alloc (.cells #[.int .i64 2, .string ⟨#[83]⟩, .int .i64 0, .slice none 0 0, .int .i64 0, .int .i64 0, .int .i64 1, .string ⟨#[120]⟩, .int .i64 0, .slice none 0 0, .int .i64 0, .int .i64 0] 26)).alloc (.cells #[.int .i64 4, .string ⟨#[]⟩, .int .i64 0, .slice (some ⟨w.heap.size + 1, 0, none⟩) 2 2, .int .i64 0, .int .i64 0] 26)).alloc (.cells #[.string ⟨#[90]⟩, .string ⟨#[83]⟩] 9)).alloc (.cells #[.int .i64 2, .string ⟨#[90]⟩, .int .i64 0, .slice none 0 0, .int .i64 0, .int .i64 0] 26)).alloc (.cells #[.int .i64 4, .string ⟨#[]⟩, .int .i64 0, .slice (some ⟨w.heap.size + 1, 0, none⟩) 2 2, .int .i64 0, .int .i64 0] 26)) (.cells #[.slice (some ⟨w.heap.size + 1 + 1 + 1 + 1, 0, none⟩) 1 1, .slice (some ⟨w.heap.size + 1 + 1 + 1 + 1 + 1, 0, none⟩) 1 1] 22)
    simp only [World.size_alloc] at h
    exact h
  have HB1 := HB W _ _ (aw_str g3) (aw_rs g1 g4 g5 g6)
  clear HB g1 g3 g4 g5 g6
  have HW := Lib.hid hW
  clear hW
  go_enter Try.func37, Try.ntmps37
  go_wp2_with fail
  rw [← HW.out]
  clear HW
  refine HB1.out.mono ?_
  clear HB1
  rintro _ w1 ⟨T, vT, rfl, hTo, hTr, hb1⟩
  obtain ⟨t1, t2, t3⟩ := aw_tree hTo
  cases T with
  | mk con is k r p cs =>
  simp only [Ct.kind, Ct.path, Ct.cs] at t1 t2 t3
  obtain ⟨A, cap, pv, rfl, hIS, hh, hr⟩ := hTr
  subst t1 t2
  rw [t3]
  have HIS := Lib.hid hIS
  obtain ⟨Ap, cp, rfl, -⟩ := hIS
  simp only [List.length_cons, List.length_nil, Nat.zero_add]
  clear hTo hh hr t3
  have hbw1 := hbW.trans (hb1.mono hbW.size)
  have hbx := heap_alloc_new w1 (.cells #[.int .i64 2, .int .i64 r, .slice Ap 1 cp, .slice A 2 cap] 74)
  have hb2 := below1 w1 (.cells #[.int .i64 2, .int .i64 r, .slice Ap 1 cp, .slice A 2 cap] 74)
  have hI := Lib.hid (ints_eq ((w1.alloc (.cells #[.int .i64 2, .int .i64 r, .slice Ap 1 cp, .slice A 2 cap] 74)).alloc (.cells #[.int .i64 0] 3)) (.slice Ap 1 cp) (.slice (some ⟨(w1.alloc (.cells #[.int .i64 2, .int .i64 r, .slice Ap 1 cp, .slice A 2 cap] 74)).heap.size, 0, none⟩) 1 1) [0] (HIS.out.sub (Sub.of_below (below2 w1 _ _))) (IS.of_own (l := [0]) (own_new (w1.alloc (.cells #[.int .i64 2, .int .i64 r, .slice Ap 1 cp, .slice A 2 cap] 74)) 3 1 1 #[.int .i64 0] rfl (by omega)) (by simp)) (by simp))
  obtain ⟨p0, p1, p2, p3⟩ := row4 hbx
  rw [World.size_alloc] at hI
  go_wp2_with fail
  refine hI.out.mono ?_
  rintro _ w2 ⟨rfl, hb3⟩
  have hb4 := Below.call2 hb3
  obtain ⟨q0, q1, q2, q3⟩ := row4 ((Below.call1 hb3).block _ (by simp) |>.trans hbx)
  have hz2 := hb3.size
  simp only [World.size_alloc] at hz2
  have hl2 : w1.heap.size < w2.heap.size := by omega
  go_wp2_with fail
  go_ret
  exact ⟨rfl, hbw1.thenCall hbw1.size hb4⟩
end Go.Proofs.Ytnaakhnmbckpmaa.Pats
