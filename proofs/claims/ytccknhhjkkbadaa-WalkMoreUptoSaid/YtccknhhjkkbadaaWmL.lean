/- The plain law of WalkMore: graphs, ways through what was picked, what there is from a node on. -/
namespace Go.Proofs.Ytccknhhjkkbadaa.Wm
set_option linter.unusedVariables false
set_option linter.unusedSimpArgs false
/-- a graph: kinds, numbers, arguments, what there is. -/
structure Gph where
  k : Int → Int
  n : Int → Int
  a : Int → List Int
  has : Int → Bool
/-- over indirections, at most so many. -/
def fol (g : Gph) : Nat → Int → Int
  | 0, i => i
  | m + 1, i => if g.k i = 5 ∧ (g.a i).length = 1 then fol g m ((g.a i).getD 0 0) else i
/-- over what was picked. -/
def thr (g : Gph) (f : Int → Int × Bool) (N : Nat) : Nat → Int → Int × Bool
  | 0, i => (i, g.has i)
  | m + 1, i => if g.has i = false ∨ (g.k i ≠ 3 ∧ g.k i ≠ 11) then (i, g.has i) else if (f (g.n i)).2 = false then (i, true)
    else if (f (g.n i)).1 < 0 ∨ (g.a i).length ≤ (f (g.n i)).1 then (i, false) else thr g f N m (fol g N ((g.a i).getD (f (g.n i)).1.toNat 0))
def thrG (g : Gph) (f : Int → Int × Bool) (N : Nat) (i : Int) : Int × Bool := thr g f N N (fol g N i)
abbrev Dn := Int → Bool
def setD (d : Dn) (i : Int) : Dn := fun j => if j = i then true else d j
/-- one by one, till one is no value. -/
def lookL (step : Int → Dn → (Int × Int) × Dn) : List Int → Dn → (Int × Int) × Dn
  | [], d => ((0, 0), d)
  | x :: r, d => if (step x d).1.1 = 0 then lookL step r (step x d).2 else step x d
/-- what there is, from a node on; 0: too deep. -/
def look (g : Gph) (f : Int → Int × Bool) (N : Nat) : Nat → Int → Dn → (Int × Int) × Dn
  | 0, i, d => ((3, 0), d)
  | m + 1, i0, d =>
    let i := (thrG g f N i0).1
    if (thrG g f N i0).2 = false then ((3, 0), d)
    else if d i = true then ((0, 0), d)
    else if g.k i = 2 ∨ g.k i = 9 ∨ g.k i = 10 then ((1, i), d)
    else if g.k i = 3 ∧ 0 < (g.a i).length then ((2, i), d)
    else if g.k i = 6 ∨ g.k i = 8 ∨ g.k i = 4 ∨ g.k i = 11 then ((0, 0), d)
    else if g.k i ≠ 1 then ((3, 0), d)
    else if (lookL (look g f N m) (g.a i) d).1.1 = 0 then ((0, 0), setD (lookL (look g f N m) (g.a i) d).2 i) else lookL (look g f N m) (g.a i) d
/-- what can be said of an answer. -/
def Ans (g : Gph) (f : Int → Int × Bool) (N : Nat) (q : Int × Int) : Prop :=
  q = (0, 0) ∨ q = (3, 0) ∨ (q.1 = 1 ∧ (g.k q.2 = 2 ∨ g.k q.2 = 9 ∨ g.k q.2 = 10)) ∨ (q.1 = 2 ∧ g.k q.2 = 3 ∧ 0 < (g.a q.2).length ∧ ∃ j, thrG g f N j = (q.2, true))
theorem lookL_ans {g : Gph} {f : Int → Int × Bool} {N : Nat} {step : Int → Dn → (Int × Int) × Dn} (h : ∀ i d, Ans g f N (step i d).1) : ∀ (l : List Int) (d : Dn), Ans g f N (lookL step l d).1
  | [], d => .inl rfl
  | x :: r, d => by
    rw [lookL]
    by_cases e : (step x d).1.1 = 0
    · rw [if_pos e]; exact lookL_ans h r _
    · rw [if_neg e]; exact h x d
theorem look_ans (g : Gph) (f : Int → Int × Bool) (N : Nat) : ∀ (m : Nat) (i : Int) (d : Dn), Ans g f N (look g f N m i d).1
  | 0, i, d => .inr (.inl rfl)
  | m + 1, i0, d => by
    rw [look]
    by_cases h1 : (thrG g f N i0).2 = false
    · rw [if_pos h1]; exact .inr (.inl rfl)
    rw [if_neg h1]
    by_cases h2 : d (thrG g f N i0).1 = true
    · rw [if_pos h2]; exact .inl rfl
    rw [if_neg h2]
    by_cases h3 : g.k (thrG g f N i0).1 = 2 ∨ g.k (thrG g f N i0).1 = 9 ∨ g.k (thrG g f N i0).1 = 10
    · rw [if_pos h3]; exact .inr (.inr (.inl ⟨rfl, h3⟩))
    rw [if_neg h3]
    by_cases h4 : g.k (thrG g f N i0).1 = 3 ∧ 0 < (g.a (thrG g f N i0).1).length
    · rw [if_pos h4]; exact .inr (.inr (.inr ⟨rfl, h4.1, h4.2, i0, Prod.ext rfl (by simpa using h1)⟩))
    rw [if_neg h4]
    by_cases h5 : g.k (thrG g f N i0).1 = 6 ∨ g.k (thrG g f N i0).1 = 8 ∨ g.k (thrG g f N i0).1 = 4 ∨ g.k (thrG g f N i0).1 = 11
    · rw [if_pos h5]; exact .inl rfl
    rw [if_neg h5]
    by_cases h6 : g.k (thrG g f N i0).1 ≠ 1
    · rw [if_pos h6]; exact .inr (.inl rfl)
    rw [if_neg h6]
    by_cases h7 : (lookL (look g f N m) (g.a (thrG g f N i0).1) d).1.1 = 0
    · rw [if_pos h7]; exact .inl rfl
    · rw [if_neg h7]; exact lookL_ans (fun i d => look_ans g f N m i d) _ _
/-- one leads to another by an argument. -/
def Edge (g : Gph) (i j : Int) : Prop := j ∈ g.a i
inductive Way (g : Gph) : Int → Int → Prop where
  | one {i j : Int} : Edge g i j → Way g i j
  | more {i j k : Int} : Way g i j → Edge g j k → Way g i k
theorem Way.trans {g : Gph} {i j k : Int} (h : Way g i j) (h2 : Way g j k) : Way g i k := by
  induction h2 with
  | one e => exact .more h e
  | more _ e ih => exact .more ih e
theorem fol_way {g : Gph} {i : Int} : ∀ (m : Nat) (j : Int), Way g i j → Way g i (fol g m j)
  | 0, j, h => h
  | m + 1, j, h => by
    rw [fol]
    by_cases e : g.k j = 5 ∧ (g.a j).length = 1
    · rw [if_pos e]
      refine fol_way m _ (h.more ?_)
      unfold Edge
      obtain ⟨_, e⟩ := e
      match hg : g.a j, e with
      | [x], _ => simp
    · rw [if_neg e]; exact h
/-- a chain of nodes that are there: each leads to the next one. -/
def Chain (g : Gph) : List Int → Prop
  | [] => True
  | [x] => g.has x = true
  | x :: y :: r => g.has x = true ∧ Way g x y ∧ Chain g (y :: r)
theorem Chain.has {g : Gph} : ∀ {l : List Int}, Chain g l → ∀ x ∈ l, g.has x = true
  | [], _, x, hx => by simp at hx
  | [y], h, x, hx => by simp at hx; subst hx; exact h
  | y :: z :: r, h, x, hx => by
    rcases List.mem_cons.1 hx with rfl | hx
    · exact h.1
    · exact Chain.has h.2.2 x hx
theorem Chain.way {g : Gph} : ∀ {l : List Int} {x : Int}, Chain g (x :: l) → ∀ y ∈ l, Way g x y
  | [], _, _, y, hy => by simp at hy
  | z :: r, x, h, y, hy => by
    rcases List.mem_cons.1 hy with rfl | hy
    · exact h.2.1
    · exact h.2.1.trans (Chain.way h.2.2 y hy)
theorem Chain.tail {g : Gph} {x : Int} : ∀ {l : List Int}, Chain g (x :: l) → Chain g l
  | [], _ => trivial
  | _ :: _, h => h.2.2
/-- a chain without a ring has no node twice. -/
theorem Chain.nodup {g : Gph} (hr : ∀ i, g.has i = true → ¬ Way g i i) : ∀ {l : List Int}, Chain g l → l.Nodup
  | [], _ => List.nodup_nil
  | x :: l, h => List.nodup_cons.2 ⟨fun hx => hr x (h.has x (by simp)) (h.way x hx), Chain.nodup hr h.tail⟩
/-- where a way through ends with room to go on: a chain of so many. -/
theorem thr_chain {g : Gph} {f : Int → Int × Bool} {N : Nat} : ∀ (m : Nat) (i k : Int), thr g f N m i = (k, true) → (g.k k = 3 ∨ g.k k = 11) → (f (g.n k)).2 = true → ∃ l, Chain g (i :: l) ∧ l.length = m
  | 0, i, k, h, _, _ => by
    rw [thr] at h
    injection h with h1 h2
    exact ⟨[], h2, rfl⟩
  | m + 1, i, k, h, hk, hf => by
    rw [thr] at h
    by_cases h1 : g.has i = false ∨ (g.k i ≠ 3 ∧ g.k i ≠ 11)
    · rw [if_pos h1] at h
      injection h with e1 e2
      subst e1
      rcases h1 with h1 | h1
      · rw [h1] at e2; cases e2
      · rcases hk with hk | hk
        · exact absurd hk h1.1
        · exact absurd hk h1.2
    rw [if_neg h1] at h
    by_cases h2 : (f (g.n i)).2 = false
    · rw [if_pos h2] at h
      injection h with e1 e2
      subst e1
      rw [h2] at hf; cases hf
    rw [if_neg h2] at h
    by_cases h3 : (f (g.n i)).1 < 0 ∨ (g.a i).length ≤ (f (g.n i)).1
    · rw [if_pos h3] at h
      injection h with e1 e2
      cases e2
    rw [if_neg h3] at h
    obtain ⟨l, hl, hm⟩ := thr_chain m _ k h hk hf
    have hh : g.has i = true := by
      cases hg : g.has i with
      | false => exact absurd (.inl hg) h1
      | true => rfl
    refine ⟨_ :: l, ⟨hh, ?_, hl⟩, by simp [hm]⟩
    refine fol_way N _ (.one ?_)
    unfold Edge
    have hlt : (f (g.n i)).1.toNat < (g.a i).length := by omega
    rw [List.getD_eq_getElem?_getD, List.getElem?_eq_getElem hlt]
    exact List.getElem_mem hlt
theorem nodup_len : ∀ (l m : List Int), l.Nodup → (∀ x ∈ l, x ∈ m) → l.length ≤ m.length
  | [], m, _, _ => by simp
  | x :: r, m, h, hs => by
    have h0 := List.nodup_cons.1 h
    have hx : x ∈ m := hs x (by simp)
    have := nodup_len r (m.erase x) h0.2 (fun y hy => (List.mem_erase_of_ne (fun e => h0.1 (by rw [← e]; exact hy))).2 (hs y (by simp [hy])))
    rw [List.length_erase_of_mem hx] at this
    have : 0 < m.length := List.length_pos_of_mem hx
    simp only [List.length_cons]
    omega
/-- THE PLAIN LAW: of what is picked no fork is told, but where a ring is. -/
theorem fork_ring {g : Gph} {f : Int → Int × Bool} {N : Nat} (m : List Int) (hm : ∀ i, g.has i = true → i ∈ m) (hN : m.length ≤ N) (hr : ∀ i, g.has i = true → ¬ Way g i i) {k i : Int} (h : thrG g f N i = (k, true)) (hk : g.k k = 3) : (f (g.n k)).2 = false := by
  cases hf : (f (g.n k)).2 with
  | false => rfl
  | true =>
    exfalso
    obtain ⟨l, hc, hl⟩ := thr_chain N _ k h (.inl hk) hf
    have h1 := nodup_len _ m (Chain.nodup hr hc) (fun x hx => hm x (hc.has x hx))
    simp only [List.length_cons] at h1
    omega
/-- behind one pick more another fork is told, or none. -/
theorem fork_next {g : Gph} {f : Int → Int × Bool} {N M : Nat} (m : List Int) (hm : ∀ i, g.has i = true → i ∈ m) (hN : m.length ≤ N) (hr : ∀ i, g.has i = true → ¬ Way g i i) {k i j : Int} {d : Dn} (hf : (f (g.n k)).2 = true) (h1 : (look g f N M i d).1.1 = 2) (h2 : (look g f N M i d).1.2 = k) : False := by
  rcases look_ans g f N M i d with e | e | e | e
  · rw [e] at h1; cases h1
  · rw [e] at h1; cases h1
  · rw [h1] at e; exact absurd e.1 (by decide)
  · obtain ⟨_, a, _, j, b⟩ := e
    rw [h2] at a b
    rw [fork_ring m hm hN hr b a] at hf
    cases hf
end Go.Proofs.Ytccknhhjkkbadaa.Wm
