/- A node's line: what it begins with, what it ends with, and that places tell lines apart. -/
import Derived.Test.YtccknhhjkkbadaaTnN
namespace Go.Proofs.Ytccknhhjkkbadaa.Tn
open Go.ChangeShapes Go.WideShapes Go.ChangeAt Go.RowKit Go.Proofs.Ytccknhhjkkbadaa.Lift Go.Proofs.Ytccknhhjkkbadaa.Gr Go.Proofs.Ytccknhhjkkbadaa.Dig
set_option linter.unusedVariables false
set_option linter.unusedSimpArgs false
/-- what digits say, the last one first. -/
def valR : List UInt8 → Nat
  | [] => 0
  | d :: r => (d.toNat - 48) + 10 * valR r
theorem digit_nat {u : Nat} (h : u < 10) : (UInt8.ofNat (48 + u)).toNat = 48 + u := by
  rw [UInt8.toNat_ofNat']; omega
theorem valR_revd (u : Nat) : valR (revd u) = u := by
  induction u using Nat.strongRecOn with
  | _ u ih =>
    by_cases h : u < 10
    · rw [revd_small h]
      simp only [valR, digit_nat (Nat.mod_lt u (by omega))]
      omega
    · rw [revd_big h]
      simp only [valR, digit_nat (Nat.mod_lt u (by omega)), ih (u / 10) (by omega)]
      omega
theorem revd_dig (u : Nat) : ∀ c ∈ revd u, 48 ≤ c.toNat ∧ c.toNat ≤ 57 := by
  induction u using Nat.strongRecOn with
  | _ u ih =>
    intro c hc
    by_cases h : u < 10
    · rw [revd_small h] at hc
      simp only [List.mem_singleton] at hc
      rw [hc, digit_nat (Nat.mod_lt u (by omega))]
      omega
    · rw [revd_big h] at hc
      rcases List.mem_cons.1 hc with rfl | hc
      · rw [digit_nat (Nat.mod_lt u (by omega))]
        omega
      · exact ih (u / 10) (by omega) c hc
theorem digS_no (n : Int) : ∀ c ∈ digS n, c ≠ 58 := by
  intro c hc e
  subst e
  unfold digS at hc
  split at hc
  · rcases List.mem_cons.1 hc with h | h
    · exact absurd h (by decide)
    · have := revd_dig _ _ (List.mem_reverse.1 h)
      exact absurd this.2 (by decide)
  · have := revd_dig _ _ (List.mem_reverse.1 hc)
    exact absurd this.2 (by decide)
theorem digS_inj {a b : Int} (h : digS a = digS b) : a = b := by
  unfold digS at h
  by_cases ha : a < 0 <;> by_cases hb : b < 0
  · rw [if_pos ha, if_pos hb] at h
    injection h with _ h
    have := congrArg valR (List.reverse_inj.1 h)
    rw [valR_revd, valR_revd] at this
    omega
  · rw [if_pos ha, if_neg hb] at h
    have hm : (45 : UInt8) ∈ (revd b.toNat).reverse := by rw [← h]; exact List.mem_cons_self
    have := revd_dig _ _ (List.mem_reverse.1 hm)
    exact absurd this.1 (by decide)
  · rw [if_neg ha, if_pos hb] at h
    have hm : (45 : UInt8) ∈ (revd a.toNat).reverse := by rw [h]; exact List.mem_cons_self
    have := revd_dig _ _ (List.mem_reverse.1 hm)
    exact absurd this.1 (by decide)
  · rw [if_neg ha, if_neg hb] at h
    have := congrArg valR (List.reverse_inj.1 h)
    rw [valR_revd, valR_revd] at this
    omega
theorem colon_split : ∀ {a b r q : List UInt8}, (∀ c ∈ a, c ≠ 58) → (∀ c ∈ b, c ≠ 58) → a ++ 58 :: r = b ++ 58 :: q → a = b
  | [], [], _, _, _, _, _ => rfl
  | [], d :: b, _, _, _, hb, h => by
    injection h with h _
    exact absurd h.symm (hb d List.mem_cons_self)
  | c :: a, [], _, _, ha, _, h => by
    injection h with h _
    exact absurd h (ha c List.mem_cons_self)
  | c :: a, d :: b, r, q, ha, hb, h => by
    injection h with h1 h2
    rw [h1, colon_split (fun c hc => ha c (List.mem_cons_of_mem _ hc)) (fun c hc => hb c (List.mem_cons_of_mem _ hc)) h2]
/-- a node's arguments, at the end of its line. -/
def tailS (l : List Int) : List UInt8 := (l.map (fun a => 32 :: digS a)).flatten
theorem nodeS_eq (i k n : Int) (l : List Int) : nodeS i k n l = digS i ++ 58 :: 32 :: ((wrd k).data.toList ++ ((if numB k then 32 :: digS n else []) ++ tailS l)) := by
  unfold nodeS nodeWs tailS
  rw [List.map_cons, Lib.join_cons]
  unfold Lib.joinTail
  rw [List.map_cons, List.map_cons, List.flatten_cons, List.map_append, List.map_append, List.flatten_append]
  have e1 : (List.map (fun x : List UInt8 => [32] ++ x) (List.map (fun x : ByteArray => x.data.toList) (l.map dg))) = l.map (fun a => 32 :: digS a) := by
    rw [List.map_map, List.map_map]
    exact List.map_congr_left (fun a _ => rfl)
  rw [e1]
  have e2 : (List.map (fun x : List UInt8 => [32] ++ x) (List.map (fun x : ByteArray => x.data.toList) (if numB k = true then [dg n] else []))).flatten = (if numB k then 32 :: digS n else []) := by
    cases numB k <;> simp
  rw [e2, ba_app]
  simp
theorem tailS_take {l : List Int} {j : Nat} (h : j < l.length) : tailS (l.take (j + 1)) = tailS (l.take j) ++ 32 :: digS l[j] := by
  unfold tailS
  rw [List.take_succ_eq_append_getElem h, List.map_append, List.flatten_append]
  simp only [List.map_cons, List.map_nil, List.flatten_cons, List.flatten_nil, List.append_nil]
theorem tailS_len {l : List Int} (h : ∀ a ∈ l, W64 a) : (tailS l).length ≤ 22 * l.length := by
  induction l with
  | nil => simp [tailS]
  | cons a r ih =>
    have h1 := Fg.digS_len (i64_of (h a List.mem_cons_self))
    have h2 := ih (fun b hb => h b (List.mem_cons_of_mem _ hb))
    have e : tailS (a :: r) = 32 :: digS a ++ tailS r := by simp [tailS]
    rw [e]
    simp only [List.length_append, List.length_cons]
    omega
theorem nodeS_len {i k n : Int} {l : List Int} (hi : W64 i) (hp : W64s n l) (hl : l.length ≤ 1048576) : (nodeS i k n l).length ≤ 140737488355328 := by
  rw [nodeS_eq]
  have h1 := Fg.digS_len (i64_of hi)
  have h2 := wrd_len k
  have h3 := Fg.digS_len (i64_of hp.1)
  have h4 := tailS_len hp.2
  have h5 : (if numB k then 32 :: digS n else []).length ≤ 22 := by
    cases numB k
    · simp
    · simp; omega
  simp only [List.length_append, List.length_cons]
  omega
theorem nodeS_ne {i j k n k' n' : Int} {l l' : List Int} (h : ¬ i = j) : nodeS i k n l ≠ nodeS j k' n' l' := fun e => by
  rw [nodeS_eq, nodeS_eq] at e
  exact h (digS_inj (colon_split (digS_no i) (digS_no j) e))
theorem size_of {s : ByteArray} {l : List UInt8} (h : s.data.toList = l) : s.size = l.length := by
  rw [← h]; rfl
theorem front_of {s h : ByteArray} {r : List UInt8} (e : s.data.toList = h.data.toList ++ r) : h.size ≤ s.size ∧ s.extract 0 h.size = h := by
  refine ⟨by rw [size_of e, size_of (s := h) rfl]; simp, ?_⟩
  refine Go.WideShapes.bytes_inj ?_
  rw [ByteArray.data_extract, Array.toList_extract, e, size_of (s := h) rfl]
  simp [List.extract]
theorem back_of {s t : ByteArray} {r : List UInt8} (e : s.data.toList = r ++ t.data.toList) : t.size ≤ s.size ∧ s.extract (s.size - t.size) s.size = t := by
  have h1 : s.size = r.length + t.data.toList.length := by rw [size_of e]; simp
  have h2 : t.size = t.data.toList.length := size_of rfl
  refine ⟨by omega, ?_⟩
  refine Go.WideShapes.bytes_inj ?_
  rw [ByteArray.data_extract, Array.toList_extract, e, h1, h2]
  simp [List.extract]
  exact List.take_of_length_le (by rw [h2]; exact Nat.le_refl _)
end Go.Proofs.Ytccknhhjkkbadaa.Tn
