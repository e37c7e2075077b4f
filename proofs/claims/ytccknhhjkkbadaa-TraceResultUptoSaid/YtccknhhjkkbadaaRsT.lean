/- A result as lines: plain, and the contract of trace.Result. -/
import Derived.Test.YtccknhhjkkbadaaRsA
namespace Go.Proofs.Ytccknhhjkkbadaa.Shw
open Go.ChangeShapes Go.WideShapes Go.ChangeAt Go.RowKit Go.Proofs.Ytccknhhjkkbadaa.Lift Go.Proofs.Ytccknhhjkkbadaa.Data Go.Proofs.Ytccknhhjkkbadaa.Dig Go.Proofs.Ytccknhhjkkbadaa.Tmr
set_option linter.unusedVariables false
set_option linter.unusedSimpArgs false
def resL (ns : List ByteArray) : List An → List UInt8
  | [] => []
  | a :: r => (ansB ns a ++ ⟨#[10]⟩ : ByteArray).data.toList ++ resL ns r
theorem resL_take (ns : List ByteArray) : ∀ {l : List An} {j : Nat} (h : j < l.length), resL ns (l.take (j + 1)) = resL ns (l.take j) ++ (ansB ns l[j] ++ ⟨#[10]⟩ : ByteArray).data.toList
  | [], j, h => by simp at h
  | a :: r, 0, _ => by simp [resL]
  | a :: r, j + 1, h => by
    simp only [List.take_succ_cons, resL, List.getElem_cons_succ]
    rw [resL_take ns (by simpa using h), List.append_assoc]
/-- how great all may be. -/
def ansW (M : Nat) : List An → Nat
  | [] => 0
  | a :: r => anW M a + ansW M r
theorem lenL (s : ByteArray) : s.data.toList.length = s.size := by rw [Array.length_toList]; rfl
theorem ansB_size {ns : List ByteArray} {M : Nat} (hM : ∀ s ∈ ns, s.size ≤ M) (a : An) (h : anGood a) : (ansB ns a).size + 1 ≤ anW M a := by
  have h1 := bindsB_size hM a.binds ⟨#[]⟩ 0 h.1
  have h2 := showB_len a.v h.2
  unfold ansB anW
  rw [ByteArray.size_append]
  have : (⟨#[]⟩ : ByteArray).size = 0 := rfl
  omega
theorem resL_len {ns : List ByteArray} {M : Nat} (hM : ∀ s ∈ ns, s.size ≤ M) : ∀ (l : List An), (∀ a ∈ l, anGood a) → (resL ns l).length ≤ ansW M l
  | [], _ => by simp [resL, ansW]
  | a :: r, h => by
    have h1 := resL_len hM r (fun x hx => h x (by simp [hx]))
    have h2 := ansB_size hM a (h a (by simp))
    rw [resL, ansW, List.length_append, lenL, ByteArray.size_append]
    have : (⟨#[10]⟩ : ByteArray).size = 1 := rfl
    omega
theorem ansW_take (M : Nat) : ∀ (l : List An) (j : Nat), ansW M (l.take j) ≤ ansW M l
  | [], j => by simp
  | a :: r, 0 => by simp [ansW]
  | a :: r, j + 1 => by simp only [List.take_succ_cons, ansW]; have := ansW_take M r j; omega
theorem resL_lenT {ns : List ByteArray} {M : Nat} (hM : ∀ s ∈ ns, s.size ≤ M) (l : List An) (j : Nat) (h : ∀ a ∈ l, anGood a) : (resL ns (l.take j)).length ≤ ansW M l :=
  Nat.le_trans (resL_len hM _ (fun a ha => h a (List.mem_of_mem_take ha))) (ansW_take M l j)
def atB (line col : Int) : ByteArray := ⟨#[32, 97, 116, 32]⟩ ++ digB line ++ ⟨#[58]⟩ ++ digB col
def tailB (n stuck : Int) : ByteArray := ⟨#[44, 32]⟩ ++ digB n ++ ⟨#[32, 97, 110, 115, 119, 101, 114, 115, 44, 32]⟩ ++ digB stuck ++ ⟨#[32, 115, 116, 117, 99, 107]⟩
/-- a result as lines. -/
def resultL (ns : List ByteArray) (l : List An) (err line col stuck : Int) : List UInt8 :=
  ((resL ns l ++ (stB err).data.toList) ++ (if line = 0 ∧ col = 0 then [] else (atB line col).data.toList)) ++ (tailB l.length stuck).data.toList
theorem cells6R {w : World} {g : Nat} {v0 v1 v2 v3 v4 v5 : Value} {t : TypeId} (h : w.heap[g]? = some (.cells #[v0, v1, v2, v3, v4, v5] t (0, 0))) :
    w.cell? ⟨g, 0, none⟩ = some v0 ∧ w.cell? ⟨g, 1, none⟩ = some v1 ∧ w.cell? ⟨g, 2, none⟩ = some v2 ∧ w.cell? ⟨g, 3, none⟩ = some v3 ∧ w.cell? ⟨g, 4, none⟩ = some v4 ∧ w.cell? ⟨g, 5, none⟩ = some v5 := by
  refine ⟨?_, ?_, ?_, ?_, ?_, ?_⟩ <;> simp [World.cell?, h]
/-- answers that came in. -/
def Anss (w0 : World) (AA : Option Addr) (ca M : Nat) (l : List An) : Prop := Lift.RowsIn (AnR w0) w0 5 AA l ∧ l.length ≤ ca ∧ ca ≤ 9223372036854775807 ∧ l.length ≤ 1048576 ∧ (∀ a ∈ l, anGood a) ∧ (∀ a ∈ l, a.size ≤ 1048575 ∧ wts a.binds + wt a.v ≤ 1000000000) ∧ ansW M l ≤ 35184372088832
set_option maxRecDepth 100000 in
set_option maxHeartbeats 8000000 in
theorem result_any (w0 : World) (A AA : Option Addr) (cap ca M : Nat) (ns : List ByteArray) (l : List An) (err line col stuck steps : Int) (w : World) (hN : Names w0 A cap M ns) (hL : Anss w0 AA ca M l)
    (hw1 : W64 line) (hw2 : W64 col) (hw3 : W64 stuck) (h0 : Below w0.heap.size w0 w) :
    Calls Try.prog 44 #[.slice A ns.length cap, .agg #[.int .i64 err, .int .i64 line, .int .i64 col, .slice AA l.length ca, .int .i64 stuck, .int .i64 steps]] w fun r w' => r = .returned (.string ⟨(resultL ns l err line col stuck).toArray⟩) ∧ Below w.heap.size w w' := by
  obtain ⟨hR, hc1, hc2, hlm, hgood, hsz, hW⟩ := hL
  have hM := hN.2.2.2.2.1
  have hw4 : W64 (l.length : Int) := by unfold W64; omega
  go_enter Try.func44, Try.ntmps44
  go_wp2_with fail
  have hbd := heap_alloc_new (w.alloc (.cells #[.int .i64 err, .int .i64 line, .int .i64 col, .slice AA l.length ca, .int .i64 stuck, .int .i64 steps] 67)) (.cells #[.pointer none, .slice none 0 0] 124)
  have hbx := (Below.heap_alloc (w.alloc (.cells #[.int .i64 err, .int .i64 line, .int .i64 col, .slice AA l.length ca, .int .i64 stuck, .int .i64 steps] 67)) (.cells #[.pointer none, .slice none 0 0] 124) w.heap.size (by simp)).trans (heap_alloc_new w _)
  rw [World.size_alloc] at hbd
  have hbW : Below w.heap.size w ((w.alloc (.cells #[.int .i64 err, .int .i64 line, .int .i64 col, .slice AA l.length ca, .int .i64 stuck, .int .i64 steps] 67)).alloc (.cells #[.pointer none, .slice none 0 0] 124)) := (below1T w _).alloc (by simp) _
  have hs2 : ((w.alloc (.cells #[.int .i64 err, .int .i64 line, .int .i64 col, .slice AA l.length ca, .int .i64 stuck, .int .i64 steps] 67)).alloc (.cells #[.pointer none, .slice none 0 0] 124)).heap.size = w.heap.size + 2 := by simp
  generalize (w.alloc (.cells #[.int .i64 err, .int .i64 line, .int .i64 col, .slice AA l.length ca, .int .i64 stuck, .int .i64 steps] 67)).alloc (.cells #[.pointer none, .slice none 0 0] 124) = W at *
  have HK0 : Hid (Bk W (w.heap.size + 1) (w.heap.size + 1) []) := Lib.hid (Bk.new hbd)
  obtain ⟨b, hb⟩ : ∃ b, b = w.heap.size + 1 := ⟨_, rfl⟩
  have HX := fun (y : World) (hy : Below b W y) => Lib.hid (cells6R ((hy.block w.heap.size (by omega)).trans hbx))
  have hW0 := (cells6R hbx).2.2.2.1
  rw [← hb] at HK0 hbd ⊢
  have hbW1 : b ≤ W.heap.size := by omega
  have hwb : w.heap.size ≤ b := by omega
  clear hbd hbx hb hs2
  go_wp2_with fail
  go_loopw [11] (fun i wr => ∃ j : Nat, i = .int .i64 j ∧ j ≤ l.length ∧ Hid (Bk wr b b (resL ns (l.take j))) ∧ Hid (Below b W wr)) (fun i _ => l.length - (intOf i).toNat)
  case atStart => exact ⟨0, rfl, Nat.zero_le _, by rw [List.take_zero]; exact HK0, Lib.hid (Below.refl _ _)⟩
  case round =>
    obtain ⟨j, rfl, hj, hK, hbb⟩ := hrel
    have hbr : b ≤ wr.heap.size := Nat.le_trans hbW1 hbb.out.size
    have hwr : Below w.heap.size w wr := hbW.trans (hbb.out.mono hwb)
    have hb0 := h0.trans (hwr.mono h0.size)
    by_cases hlt : j < l.length
    · obtain ⟨bo, o, A1, c1, A2, c2, rfl, hbl, x0, x1, x2, x3, x4, h1, h2, h3, h4⟩ := an_cells hR hb0 hlt
      have HA0 := fun z hz => ans_any w0 A cap M ns l[j] A1 A2 c1 c2 z hN h1 h2 h3 h4 (hgood _ (List.getElem_mem hlt)) (by have := (hsz _ (List.getElem_mem hlt)).1; omega) (hsz _ (List.getElem_mem hlt)).2 hz
      have hT := resL_take ns hlt
      have hPl := resL_lenT hM l j hgood
      have hPl2 := resL_lenT hM l (j + 1) hgood
      rw [hT, List.length_append, lenL, ByteArray.size_append] at hPl2
      have e10 : (⟨#[10]⟩ : ByteArray).size = 1 := rfl
      rw [e10] at hPl2
      generalize ansB ns l[j] = S at *
      generalize l[j] = a at *
      obtain ⟨bs, k, s, n, ys⟩ := a
      dsimp only at *
      generalize hP : resL ns (l.take j) = P at *
      have HA := Lib.hid (fun o => HA0 (wr.alloc o) (hb0.alloc hb0.size o))
      have HT := Lib.hid hT
      have HKb := fun (z : World) (hz : Below wr.heap.size wr z) => Lib.hid (write_any b b P (S ++ ⟨#[10]⟩) z (hK.out.below hz) (by rw [ByteArray.size_append, e10]; omega) (Nat.le_trans hbr hz.size))
      have t1 : ¬ 9223372036854775807 < S.size + 1 := by omega
      clear HA0 hT hP hR hgood hsz h2 h4 hN h0 hb0 hM hPl hPl2
      go_wp2_with (first | (go_at_call 89; refine (HA.out _).mono ?_; rintro e w1 ⟨rfl, q1⟩; have hq1 := Below.call1 q1; clear q1) | (go_at_call 88; refine (HKb _ hq1).out.mono ?_; rintro e w2 ⟨rfl, hk2, q2⟩; have hbn := hbb.out.trans ((hq1.mono hbr).trans q2); have HK2 := Lib.hid hk2; clear hk2 q2))
      exact ⟨⟨j + 1, by go_num, by omega, by rw [HT.out]; exact HK2, Lib.hid hbn⟩, by simp [intOf]; omega⟩
    · have e : l.take j = l := List.take_of_length_le (by omega)
      have hPl := resL_lenT hM l j hgood
      rw [e] at hK hPl
      have hE : resultL ns l err line col stuck = ((resL ns l ++ (stB err).data.toList) ++ (if line = 0 ∧ col = 0 then [] else (atB line col).data.toList)) ++ (tailB l.length stuck).data.toList := rfl
      generalize resL ns l = P at *
      obtain ⟨x0, x1, x2, x3, x4, x5⟩ := (HX wr hbb.out).out
      have hst := stB_len err
      have HSt := Lib.hid (status_any err wr)
      generalize stB err = ST at *
      have HW1 := fun (z : World) (hz : Below wr.heap.size wr z) => Lib.hid (write_any b b P ST z (hK.out.below hz) (by omega) (Nat.le_trans hbr hz.size))
      have hd1 := digB_len hw1
      have hd2 := digB_len hw2
      have hd3 := digB_len hw3
      have hd4 := digB_len hw4
      have D1 := fun w => Lib.hid (digits_any line w hw1.1 hw1.2)
      have D2 := fun w => Lib.hid (digits_any col w hw2.1 hw2.2)
      have D3 := fun w => Lib.hid (digits_any stuck w hw3.1 hw3.2)
      have D4 := fun w => Lib.hid (digits_any l.length w hw4.1 hw4.2)
      have e0 : ∀ n, (⟨(digS n).toArray⟩ : ByteArray) = digB n := fun _ => rfl
      unfold atB tailB at hE
      rw [e0] at D1 D2 D3 D4
      generalize digB line = d1 at *
      generalize digB col = d2 at *
      generalize digB stuck = d3 at *
      generalize digB (l.length : Int) = d4 at *
      clear hR hgood hsz hN h0 hb0 hM e e0 HK0 hW0
      by_cases hz : line = 0 ∧ col = 0
      · have hE' : resultL ns l err line col stuck = ((P ++ ST.data.toList) ++ (⟨#[44, 32]⟩ ++ d4 ++ ⟨#[32, 97, 110, 115, 119, 101, 114, 115, 44, 32]⟩ ++ d3 ++ ⟨#[32, 115, 116, 117, 99, 107]⟩ : ByteArray).data.toList) := by rw [hE, if_pos hz, List.append_nil]
        obtain ⟨rfl, rfl⟩ := hz
        clear hE
        go_wp2_with (first | (go_at_call 42; refine HSt.out.mono ?_; rintro e w1 ⟨rfl, q1⟩) | (go_at_call 88; refine (HW1 _ q1).out.mono ?_; rintro e w2 ⟨rfl, hk2, q2⟩; have hB2 := hbb.out.trans ((q1.mono hbr).trans q2); obtain ⟨y0, y1, y2, y3, y4, y5⟩ := (HX _ hB2).out; have HK2 := Lib.hid hk2; clear hk2))
        have hB3 := hB2
        have HK3 := HK2
        have hbV' : b ≤ w2.heap.size := Nat.le_trans hbW1 hB3.size
        have MS' : Hid (∀ z, Below b w2 z → (fun w' : World => w'.cell? ⟨w.heap.size, 3, none⟩ = some (.slice AA l.length ca) ∧ w'.cell? ⟨w.heap.size, 4, none⟩ = some (.int .i64 stuck)) z) := Lib.hid (fun z hz => ⟨(HX _ (hB3.trans hz)).out.2.2.2.1, (HX _ (hB3.trans hz)).out.2.2.2.2.1⟩)
        have hb0' : Below w2.heap.size w2 w2.drew := (Below.refl _ _).drew
        have t1' : ¬ 9223372036854775807 < 2 + d4.size := by omega
        have t2' : ¬ 9223372036854775807 < 2 + d4.size + 10 := by omega
        have t3' : ¬ 9223372036854775807 < 2 + d4.size + 10 + d3.size := by omega
        have t4' : ¬ 9223372036854775807 < 2 + d4.size + 10 + d3.size + 6 := by omega
        have hl10 : (P ++ ST.data.toList).length + (⟨#[44, 32]⟩ ++ d4 ++ ⟨#[32, 97, 110, 115, 119, 101, 114, 115, 44, 32]⟩ ++ d3 ++ ⟨#[32, 115, 116, 117, 99, 107]⟩ : ByteArray).size ≤ 140737488355328 := by
          simp only [List.length_append, lenL, ByteArray.size_append, bsize]
          simp
          omega
        go_region_held3 (fun w' => w'.cell? ⟨w.heap.size, 3, none⟩ = some (.slice AA l.length ca) ∧ w'.cell? ⟨w.heap.size, 4, none⟩ = some (.int .i64 stuck))
          (first | exact MS'.out _ hb3' | exact MS'.out _ (hb2'.mono hbV') | exact MS'.out _ (hb1'.mono hbV') | exact MS'.out _ (hb0'.mono hbV'))
          (first
           | (go_at_call 90; ((with_reducible refine (D4 _).out.mono ?_); rintro _ v1 ⟨rfl, q1'⟩; have hb1' := hb0'.thenCall hb0'.size q1'))
           | (go_at_call 90; ((with_reducible refine (D3 _).out.mono ?_); rintro _ v2 ⟨rfl, q2'⟩; have hb2' := hb1'.thenCall hb1'.size q2'))
           | (go_at_call 88; ((with_reducible refine (write_any b b (P ++ ST.data.toList) (⟨#[44, 32]⟩ ++ d4 ++ ⟨#[32, 97, 110, 115, 119, 101, 114, 115, 44, 32]⟩ ++ d3 ++ ⟨#[32, 115, 116, 117, 99, 107]⟩) v2 (HK3.out.below hb2') hl10 (Nat.le_trans hbV' hb2'.size)).mono ?_); rintro _ v3 ⟨rfl, hk3', q3'⟩; have hb3' := (hb2'.mono hbV').trans q3'; have HK4 := Lib.hid hk3'; clear hk3')))
        have hB4 := hB3.trans hb3'
        obtain ⟨LL, hLL⟩ : ∃ LL, LL = resultL ns l err 0 0 stuck := ⟨_, rfl⟩
        have hK5 : Bk v3 b b LL := by rw [hLL, hE']; exact HK4.out
        have HS := Lib.hid (Try.Builder_String_any b b LL v3 hK5 (Nat.le_trans hbW1 hB4.size))
        have HLL := Lib.hid hLL
        clear hLL hK5 HK4 hE'
        go_wp2_with (go_at_call 91; refine HS.out.mono ?_; rintro e v4 ⟨rfl, q4⟩)
        go_ret
        exact ⟨by rw [← HLL.out]; try rfl, hbW.trans ((hB4.trans q4).mono hwb)⟩
      have hE' : resultL ns l err line col stuck = (((P ++ ST.data.toList) ++ (⟨#[32, 97, 116, 32]⟩ ++ d1 ++ ⟨#[58]⟩ ++ d2 : ByteArray).data.toList) ++ (⟨#[44, 32]⟩ ++ d4 ++ ⟨#[32, 97, 110, 115, 119, 101, 114, 115, 44, 32]⟩ ++ d3 ++ ⟨#[32, 115, 116, 117, 99, 107]⟩ : ByteArray).data.toList) := by rw [hE, if_neg hz]
      clear hE
      by_cases hl0 : line = 0
      · subst hl0
        have hc0 : ¬ col = 0 := fun h => hz ⟨rfl, h⟩
        clear hz
        go_wp2_with (first | (go_at_call 42; refine HSt.out.mono ?_; rintro e w1 ⟨rfl, q1⟩) | (go_at_call 88; refine (HW1 _ q1).out.mono ?_; rintro e w2 ⟨rfl, hk2, q2⟩; have hB2 := hbb.out.trans ((q1.mono hbr).trans q2); obtain ⟨y0, y1, y2, y3, y4, y5⟩ := (HX _ hB2).out; have HK2 := Lib.hid hk2; clear hk2))
        have hbV : b ≤ w2.heap.size := Nat.le_trans hbW1 hB2.size
        have HKV := HK2
        have MS : Hid (∀ z, Below b w2 z → (fun w' : World => w'.cell? ⟨w.heap.size, 1, none⟩ = some (.int .i64 0) ∧ w'.cell? ⟨w.heap.size, 2, none⟩ = some (.int .i64 col)) z) := Lib.hid (fun z hz => ⟨(HX _ (hB2.trans hz)).out.2.1, (HX _ (hB2.trans hz)).out.2.2.1⟩)
        have hb0 : Below w2.heap.size w2 w2.drew := (Below.refl _ _).drew
        have t1 : ¬ 9223372036854775807 < 4 + d1.size := by omega
        have t2 : ¬ 9223372036854775807 < 4 + d1.size + 1 := by omega
        have t3 : ¬ 9223372036854775807 < 4 + d1.size + 1 + d2.size := by omega
        have hl9 : (P ++ ST.data.toList).length + (⟨#[32, 97, 116, 32]⟩ ++ d1 ++ ⟨#[58]⟩ ++ d2 : ByteArray).size ≤ 140737488355328 := by
          rw [List.length_append, lenL]
          simp only [ByteArray.size_append, bsize]
          simp
          omega
        go_region_held3 (fun w' => w'.cell? ⟨w.heap.size, 1, none⟩ = some (.int .i64 0) ∧ w'.cell? ⟨w.heap.size, 2, none⟩ = some (.int .i64 col))
          (first | exact MS.out _ hb3 | exact MS.out _ (hb2.mono hbV) | exact MS.out _ (hb1.mono hbV) | exact MS.out _ (hb0.mono hbV))
          (first
           | (go_at_call 90; ((with_reducible refine (D1 _).out.mono ?_); rintro _ z1 ⟨rfl, q1⟩; have hb1 := hb0.thenCall hb0.size q1))
           | (go_at_call 90; ((with_reducible refine (D2 _).out.mono ?_); rintro _ z2 ⟨rfl, q2⟩; have hb2 := hb1.thenCall hb1.size q2))
           | (go_at_call 88; ((with_reducible refine (write_any b b (P ++ ST.data.toList) (⟨#[32, 97, 116, 32]⟩ ++ d1 ++ ⟨#[58]⟩ ++ d2) z2 (HKV.out.below hb2) hl9 (Nat.le_trans hbV hb2.size)).mono ?_); rintro _ z3 ⟨rfl, hk3, q3⟩; have hb3 := (hb2.mono hbV).trans q3; have HK3 := Lib.hid hk3; clear hk3)))
        have hB3 := hB2.trans hb3
        go_wp2_with fail
        have hbV' : b ≤ z3.heap.size := Nat.le_trans hbW1 hB3.size
        have MS' : Hid (∀ z, Below b z3 z → (fun w' : World => w'.cell? ⟨w.heap.size, 3, none⟩ = some (.slice AA l.length ca) ∧ w'.cell? ⟨w.heap.size, 4, none⟩ = some (.int .i64 stuck)) z) := Lib.hid (fun z hz => ⟨(HX _ (hB3.trans hz)).out.2.2.2.1, (HX _ (hB3.trans hz)).out.2.2.2.2.1⟩)
        have hb0' : Below z3.heap.size z3 z3.drew := (Below.refl _ _).drew
        have t1' : ¬ 9223372036854775807 < 2 + d4.size := by omega
        have t2' : ¬ 9223372036854775807 < 2 + d4.size + 10 := by omega
        have t3' : ¬ 9223372036854775807 < 2 + d4.size + 10 + d3.size := by omega
        have t4' : ¬ 9223372036854775807 < 2 + d4.size + 10 + d3.size + 6 := by omega
        have hl10 : (P ++ ST.data.toList ++ (⟨#[32, 97, 116, 32]⟩ ++ d1 ++ ⟨#[58]⟩ ++ d2 : ByteArray).data.toList).length + (⟨#[44, 32]⟩ ++ d4 ++ ⟨#[32, 97, 110, 115, 119, 101, 114, 115, 44, 32]⟩ ++ d3 ++ ⟨#[32, 115, 116, 117, 99, 107]⟩ : ByteArray).size ≤ 140737488355328 := by
          simp only [List.length_append, lenL, ByteArray.size_append, bsize]
          simp
          omega
        go_region_held3 (fun w' => w'.cell? ⟨w.heap.size, 3, none⟩ = some (.slice AA l.length ca) ∧ w'.cell? ⟨w.heap.size, 4, none⟩ = some (.int .i64 stuck))
          (first | exact MS'.out _ hb3' | exact MS'.out _ (hb2'.mono hbV') | exact MS'.out _ (hb1'.mono hbV') | exact MS'.out _ (hb0'.mono hbV'))
          (first
           | (go_at_call 90; ((with_reducible refine (D4 _).out.mono ?_); rintro _ v1 ⟨rfl, q1'⟩; have hb1' := hb0'.thenCall hb0'.size q1'))
           | (go_at_call 90; ((with_reducible refine (D3 _).out.mono ?_); rintro _ v2 ⟨rfl, q2'⟩; have hb2' := hb1'.thenCall hb1'.size q2'))
           | (go_at_call 88; ((with_reducible refine (write_any b b (P ++ ST.data.toList ++ (⟨#[32, 97, 116, 32]⟩ ++ d1 ++ ⟨#[58]⟩ ++ d2 : ByteArray).data.toList) (⟨#[44, 32]⟩ ++ d4 ++ ⟨#[32, 97, 110, 115, 119, 101, 114, 115, 44, 32]⟩ ++ d3 ++ ⟨#[32, 115, 116, 117, 99, 107]⟩) v2 (HK3.out.below hb2') hl10 (Nat.le_trans hbV' hb2'.size)).mono ?_); rintro _ v3 ⟨rfl, hk3', q3'⟩; have hb3' := (hb2'.mono hbV').trans q3'; have HK4 := Lib.hid hk3'; clear hk3')))
        have hB4 := hB3.trans hb3'
        obtain ⟨LL, hLL⟩ : ∃ LL, LL = resultL ns l err 0 col stuck := ⟨_, rfl⟩
        have hK5 : Bk v3 b b LL := by rw [hLL, hE']; exact HK4.out
        have HS := Lib.hid (Try.Builder_String_any b b LL v3 hK5 (Nat.le_trans hbW1 hB4.size))
        have HLL := Lib.hid hLL
        clear hLL hK5 HK4 hE'
        go_wp2_with (go_at_call 91; refine HS.out.mono ?_; rintro e v4 ⟨rfl, q4⟩)
        go_ret
        exact ⟨by rw [← HLL.out]; try rfl, hbW.trans ((hB4.trans q4).mono hwb)⟩
      · clear hz
        go_wp2_with (first | (go_at_call 42; refine HSt.out.mono ?_; rintro e w1 ⟨rfl, q1⟩) | (go_at_call 88; refine (HW1 _ q1).out.mono ?_; rintro e w2 ⟨rfl, hk2, q2⟩; have hB2 := hbb.out.trans ((q1.mono hbr).trans q2); obtain ⟨y0, y1, y2, y3, y4, y5⟩ := (HX _ hB2).out; have HK2 := Lib.hid hk2; clear hk2))
        have hbV : b ≤ w2.heap.size := Nat.le_trans hbW1 hB2.size
        have HKV := HK2
        have MS : Hid (∀ z, Below b w2 z → (fun w' : World => w'.cell? ⟨w.heap.size, 1, none⟩ = some (.int .i64 line) ∧ w'.cell? ⟨w.heap.size, 2, none⟩ = some (.int .i64 col)) z) := Lib.hid (fun z hz => ⟨(HX _ (hB2.trans hz)).out.2.1, (HX _ (hB2.trans hz)).out.2.2.1⟩)
        have hb0 : Below w2.heap.size w2 w2.drew := (Below.refl _ _).drew
        have t1 : ¬ 9223372036854775807 < 4 + d1.size := by omega
        have t2 : ¬ 9223372036854775807 < 4 + d1.size + 1 := by omega
        have t3 : ¬ 9223372036854775807 < 4 + d1.size + 1 + d2.size := by omega
        have hl9 : (P ++ ST.data.toList).length + (⟨#[32, 97, 116, 32]⟩ ++ d1 ++ ⟨#[58]⟩ ++ d2 : ByteArray).size ≤ 140737488355328 := by
          rw [List.length_append, lenL]
          simp only [ByteArray.size_append, bsize]
          simp
          omega
        go_region_held3 (fun w' => w'.cell? ⟨w.heap.size, 1, none⟩ = some (.int .i64 line) ∧ w'.cell? ⟨w.heap.size, 2, none⟩ = some (.int .i64 col))
          (first | exact MS.out _ hb3 | exact MS.out _ (hb2.mono hbV) | exact MS.out _ (hb1.mono hbV) | exact MS.out _ (hb0.mono hbV))
          (first
           | (go_at_call 90; ((with_reducible refine (D1 _).out.mono ?_); rintro _ z1 ⟨rfl, q1⟩; have hb1 := hb0.thenCall hb0.size q1))
           | (go_at_call 90; ((with_reducible refine (D2 _).out.mono ?_); rintro _ z2 ⟨rfl, q2⟩; have hb2 := hb1.thenCall hb1.size q2))
           | (go_at_call 88; ((with_reducible refine (write_any b b (P ++ ST.data.toList) (⟨#[32, 97, 116, 32]⟩ ++ d1 ++ ⟨#[58]⟩ ++ d2) z2 (HKV.out.below hb2) hl9 (Nat.le_trans hbV hb2.size)).mono ?_); rintro _ z3 ⟨rfl, hk3, q3⟩; have hb3 := (hb2.mono hbV).trans q3; have HK3 := Lib.hid hk3; clear hk3)))
        have hB3 := hB2.trans hb3
        go_wp2_with fail
        have hbV' : b ≤ z3.heap.size := Nat.le_trans hbW1 hB3.size
        have MS' : Hid (∀ z, Below b z3 z → (fun w' : World => w'.cell? ⟨w.heap.size, 3, none⟩ = some (.slice AA l.length ca) ∧ w'.cell? ⟨w.heap.size, 4, none⟩ = some (.int .i64 stuck)) z) := Lib.hid (fun z hz => ⟨(HX _ (hB3.trans hz)).out.2.2.2.1, (HX _ (hB3.trans hz)).out.2.2.2.2.1⟩)
        have hb0' : Below z3.heap.size z3 z3.drew := (Below.refl _ _).drew
        have t1' : ¬ 9223372036854775807 < 2 + d4.size := by omega
        have t2' : ¬ 9223372036854775807 < 2 + d4.size + 10 := by omega
        have t3' : ¬ 9223372036854775807 < 2 + d4.size + 10 + d3.size := by omega
        have t4' : ¬ 9223372036854775807 < 2 + d4.size + 10 + d3.size + 6 := by omega
        have hl10 : (P ++ ST.data.toList ++ (⟨#[32, 97, 116, 32]⟩ ++ d1 ++ ⟨#[58]⟩ ++ d2 : ByteArray).data.toList).length + (⟨#[44, 32]⟩ ++ d4 ++ ⟨#[32, 97, 110, 115, 119, 101, 114, 115, 44, 32]⟩ ++ d3 ++ ⟨#[32, 115, 116, 117, 99, 107]⟩ : ByteArray).size ≤ 140737488355328 := by
          simp only [List.length_append, lenL, ByteArray.size_append, bsize]
          simp
          omega
        go_region_held3 (fun w' => w'.cell? ⟨w.heap.size, 3, none⟩ = some (.slice AA l.length ca) ∧ w'.cell? ⟨w.heap.size, 4, none⟩ = some (.int .i64 stuck))
          (first | exact MS'.out _ hb3' | exact MS'.out _ (hb2'.mono hbV') | exact MS'.out _ (hb1'.mono hbV') | exact MS'.out _ (hb0'.mono hbV'))
          (first
           | (go_at_call 90; ((with_reducible refine (D4 _).out.mono ?_); rintro _ v1 ⟨rfl, q1'⟩; have hb1' := hb0'.thenCall hb0'.size q1'))
           | (go_at_call 90; ((with_reducible refine (D3 _).out.mono ?_); rintro _ v2 ⟨rfl, q2'⟩; have hb2' := hb1'.thenCall hb1'.size q2'))
           | (go_at_call 88; ((with_reducible refine (write_any b b (P ++ ST.data.toList ++ (⟨#[32, 97, 116, 32]⟩ ++ d1 ++ ⟨#[58]⟩ ++ d2 : ByteArray).data.toList) (⟨#[44, 32]⟩ ++ d4 ++ ⟨#[32, 97, 110, 115, 119, 101, 114, 115, 44, 32]⟩ ++ d3 ++ ⟨#[32, 115, 116, 117, 99, 107]⟩) v2 (HK3.out.below hb2') hl10 (Nat.le_trans hbV' hb2'.size)).mono ?_); rintro _ v3 ⟨rfl, hk3', q3'⟩; have hb3' := (hb2'.mono hbV').trans q3'; have HK4 := Lib.hid hk3'; clear hk3')))
        have hB4 := hB3.trans hb3'
        obtain ⟨LL, hLL⟩ : ∃ LL, LL = resultL ns l err line col stuck := ⟨_, rfl⟩
        have hK5 : Bk v3 b b LL := by rw [hLL, hE']; exact HK4.out
        have HS := Lib.hid (Try.Builder_String_any b b LL v3 hK5 (Nat.le_trans hbW1 hB4.size))
        have HLL := Lib.hid hLL
        clear hLL hK5 HK4 hE'
        go_wp2_with (go_at_call 91; refine HS.out.mono ?_; rintro e v4 ⟨rfl, q4⟩)
        go_ret
        exact ⟨by rw [← HLL.out]; try rfl, hbW.trans ((hB4.trans q4).mono hwb)⟩
end Go.Proofs.Ytccknhhjkkbadaa.Shw

