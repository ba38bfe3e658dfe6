/- Sets of whole numbers: sorted, each once. -/
import Derived.Test.YtblejagpndbicaaF5
import Derived.Test.YtblejagpndbicaaK22
set_option linter.unusedSimpArgs false
set_option linter.unusedVariables false
set_option maxRecDepth 10000
namespace Go.K

theorem sortZ_mem {l : List Int} {x : Int} : x ∈ sortZ l ↔ x ∈ l := by
  unfold sortZ
  exact List.mem_mergeSort
theorem sortZ_sorted (l : List Int) : (sortZ l).Pairwise (· ≤ ·) := by
  have h := List.pairwise_mergeSort (le := fun x y : Int => decide (x ≤ y)) (fun a b c h1 h2 => by simp at h1 h2 ⊢; omega) (fun a b => by simp; omega) l
  exact h.imp fun h => by simpa using h
/-- of two lists without repetition that have the same elements, the lengths are alike -/
theorem nodup_le : ∀ {l m : List Int}, l.Nodup → (∀ x, x ∈ l → x ∈ m) → l.length ≤ m.length
  | [], m, _, _ => Nat.zero_le _
  | a :: t, m, hn, h => by
    rw [List.nodup_cons] at hn
    have ha : a ∈ m := h a (List.mem_cons_self ..)
    have ih := nodup_le (l := t) (m := m.erase a) hn.2 fun x hx => (List.mem_erase_of_ne (fun e => hn.1 (by rw [← e]; exact hx))).2 (h x (List.mem_cons_of_mem _ hx))
    rw [List.length_erase_of_mem ha] at ih
    have : 0 < m.length := List.length_pos_of_mem ha
    simp only [List.length_cons]
    omega
theorem nodup_length {l m : List Int} (hl : l.Nodup) (hm : m.Nodup) (h : ∀ x, x ∈ l ↔ x ∈ m) : l.length = m.length :=
  Nat.le_antisymm (nodup_le hl fun x hx => (h x).1 hx) (nodup_le hm fun x hx => (h x).2 hx)
/-- places where something is met first -/
def firstB (L : List Int) (k : Nat) : Bool := (List.range k).all fun j => L.getD j 0 != L.getD k 0
def firsts (L : List Int) : List Int := ((List.range L.length).filter (firstB L)).map fun j => L.getD j 0
theorem least {p : Nat → Prop} [DecidablePred p] : ∀ n, p n → ∃ k, k ≤ n ∧ p k ∧ ∀ j, j < k → ¬ p j
  | 0, h => ⟨0, Nat.le_refl _, h, fun j hj => absurd hj (Nat.not_lt_zero _)⟩
  | n + 1, h => by
    by_cases h2 : ∃ m, m ≤ n ∧ p m
    · obtain ⟨m, h3, h4⟩ := h2
      obtain ⟨k, h5, h6, h7⟩ := leastAux n m h3 h4
      exact ⟨k, by omega, h6, h7⟩
    · exact ⟨n + 1, Nat.le_refl _, h, fun j hj hp => h2 ⟨j, by omega, hp⟩⟩
where
  leastAux {p : Nat → Prop} [DecidablePred p] : ∀ n m, m ≤ n → p m → ∃ k, k ≤ n ∧ p k ∧ ∀ j, j < k → ¬ p j
  | 0, m, h1, h2 => ⟨m, h1, h2, fun j hj => by omega⟩
  | n + 1, m, h1, h2 => by
    by_cases h3 : ∃ j, j ≤ n ∧ p j
    · obtain ⟨j, h4, h5⟩ := h3
      obtain ⟨k, a, b, c⟩ := leastAux n j h4 h5
      exact ⟨k, by omega, b, c⟩
    · refine ⟨m, h1, h2, fun j hj hp => ?_⟩
      exact h3 ⟨j, by omega, hp⟩
theorem firsts_mem {L : List Int} {x : Int} : x ∈ firsts L ↔ x ∈ L := by
  unfold firsts
  simp only [List.mem_map, List.mem_filter, List.mem_range]
  constructor
  · rintro ⟨j, ⟨h1, _⟩, rfl⟩
    exact getD_mem 0 h1
  · intro hx
    obtain ⟨n, hn, rfl⟩ := List.getElem_of_mem hx
    obtain ⟨k, h1, h2, h3⟩ := least (p := fun j => L.getD j 0 = L[n]) n (by simp [List.getD, hn])
    refine ⟨k, ⟨by omega, ?_⟩, h2⟩
    unfold firstB
    rw [List.all_eq_true]
    intro j hj
    rw [List.mem_range] at hj
    have := h3 j hj
    rw [h2]
    simpa using this
theorem firsts_nodup (L : List Int) : (firsts L).Nodup := by
  unfold firsts
  rw [List.Nodup, List.pairwise_map]
  have h := (List.pairwise_lt_range (n := L.length)).filter (firstB L)
  refine h.imp_of_mem fun {a b} ha hb hab => ?_
  rw [List.mem_filter] at hb
  have h2 := hb.2
  unfold firstB at h2
  rw [List.all_eq_true] at h2
  have := h2 a (List.mem_range.2 hab)
  simpa using this
/-! ### what Compact leaves -/
theorem compZ_eq (l : List Int) : compZ l = ((List.range l.length).filter fun j => decide (j = 0 ∨ l.getD j 0 ≠ l.getD (j - 1) 0)).map fun j => l.getD j 0 := by
  unfold compZ Lib.compact Lib.compactUpTo
  have e : ∀ j, j < l.length → l.toArray[j]! = l.getD j 0 := by
    intro j hj
    rw [getElem!_pos _ j (by simpa using hj)]
    simp [List.getD, hj]
  have e1 : (List.range l.length).filter (Lib.keeps l.toArray) = (List.range l.length).filter fun j => decide (j = 0 ∨ l.getD j 0 ≠ l.getD (j - 1) 0) := by
    refine List.filter_congr fun j hj => ?_
    rw [List.mem_range] at hj
    unfold Lib.keeps
    rw [e j hj, e (j - 1) (by omega)]
  rw [e1]
  refine List.map_congr_left fun j hj => ?_
  rw [List.mem_filter, List.mem_range] at hj
  exact e j hj.1
theorem compZ_mem {l : List Int} {x : Int} : x ∈ compZ l ↔ x ∈ l := by
  rw [compZ_eq]
  simp only [List.mem_map, List.mem_filter, List.mem_range, decide_eq_true_eq]
  constructor
  · rintro ⟨j, ⟨h1, _⟩, rfl⟩
    exact getD_mem 0 h1
  · intro hx
    obtain ⟨n, hn, rfl⟩ := List.getElem_of_mem hx
    obtain ⟨k, h1, h2, h3⟩ := least (p := fun j => l.getD j 0 = l[n]) n (by simp [List.getD, hn])
    refine ⟨k, ⟨by omega, ?_⟩, h2⟩
    by_cases h0 : k = 0
    · exact .inl h0
    · right
      rw [h2]
      intro h
      exact h3 (k - 1) (by omega) h.symm
theorem compZ_sorted {l : List Int} (hs : l.Pairwise (· ≤ ·)) : (compZ l).Pairwise (· < ·) := by
  rw [compZ_eq, List.pairwise_map]
  have get : ∀ i j, i < j → j < l.length → l.getD i 0 ≤ l.getD j 0 := by
    intro i j hij hj
    have := List.pairwise_iff_getElem.1 hs i j (by omega) hj hij
    simpa [List.getD, hj, show i < l.length by omega] using this
  have h := (List.pairwise_lt_range (n := l.length)).filter fun j => decide (j = 0 ∨ l.getD j 0 ≠ l.getD (j - 1) 0)
  refine h.imp_of_mem fun {a b} ha hb hab => ?_
  rw [List.mem_filter, List.mem_range, decide_eq_true_eq] at hb
  obtain ⟨hb1, hb2⟩ := hb
  rcases hb2 with hb2 | hb2
  · omega
  · have h1 : l.getD a 0 ≤ l.getD (b - 1) 0 := by
      by_cases e : a = b - 1
      · rw [e]; exact Int.le_refl _
      · exact get a (b - 1) (by omega) (by omega)
    have h2 := get (b - 1) b (by omega) hb1
    omega
def setZ (l : List Int) : List Int := compZ (sortZ l)
theorem setZ_mem {l : List Int} {x : Int} : x ∈ setZ l ↔ x ∈ l := by
  unfold setZ; rw [compZ_mem, sortZ_mem]
theorem setZ_sorted (l : List Int) : (setZ l).Pairwise (· < ·) := compZ_sorted (sortZ_sorted l)
theorem setZ_nodup (l : List Int) : (setZ l).Nodup := (setZ_sorted l).imp fun h => by omega
theorem setZ_firsts (l : List Int) : (setZ l).length = (firsts l).length := nodup_length (setZ_nodup l) (firsts_nodup l) fun x => by rw [setZ_mem, firsts_mem]
/-- of two lists that rise, with the same elements, both are the same -/
theorem rising_one : ∀ {l m : List Int}, l.Pairwise (· < ·) → m.Pairwise (· < ·) → (∀ x, x ∈ l ↔ x ∈ m) → l = m
  | [], [], _, _, _ => rfl
  | [], b :: m, _, _, h => by have := (h b).2 (List.mem_cons_self ..); cases this
  | a :: l, [], _, _, h => by have := (h a).1 (List.mem_cons_self ..); cases this
  | a :: l, b :: m, hl, hm, h => by
    rw [List.pairwise_cons] at hl hm
    have hab : a = b := by
      have h1 := (h a).1 (List.mem_cons_self ..)
      have h2 := (h b).2 (List.mem_cons_self ..)
      rw [List.mem_cons] at h1 h2
      rcases h1 with h1 | h1
      · exact h1
      · rcases h2 with h2 | h2
        · exact h2.symm
        · have := hm.1 a h1
          have := hl.1 b h2
          omega
    subst hab
    congr 1
    refine rising_one hl.2 hm.2 fun x => ?_
    constructor
    · intro hx
      have := (h x).1 (List.mem_cons_of_mem _ hx)
      rw [List.mem_cons] at this
      rcases this with rfl | h1
      · have := hl.1 _ hx; omega
      · exact h1
    · intro hx
      have := (h x).2 (List.mem_cons_of_mem _ hx)
      rw [List.mem_cons] at this
      rcases this with rfl | h1
      · have := hm.1 _ hx; omega
      · exact h1
end Go.K
