/- What most are, in two ways. -/
import Derived.Test.YtblejagpndbicaaF5
set_option linter.unusedSimpArgs false
set_option linter.unusedVariables false
set_option maxRecDepth 10000
namespace Go.K

def gridI (W : Nat) (g : Nat → Nat → Int) (i : Nat) : List Int := (List.range i).map fun k => g (k % W) (k / W)
theorem gridI_length (W : Nat) (g : Nat → Nat → Int) (i : Nat) : (gridI W g i).length = i := by simp [gridI]
theorem gridI_succ (W : Nat) (g : Nat → Nat → Int) (i : Nat) : gridI W g (i + 1) = gridI W g i ++ [g (i % W) (i / W)] := by simp [gridI, List.range_succ]

/-- the best one: its own if that is among the most, or the least of them -/
def Best (l : List Int) (own b : Int) : Prop := b ∈ l ∧ ∀ x, x ∈ l → l.count x ≤ l.count b ∧ (l.count x = l.count b → b = own ∨ (x ≠ own ∧ b ≤ x))
theorem best_one {l : List Int} {own a b : Int} (ha : Best l own a) (hb : Best l own b) : a = b := by
  obtain ⟨a1, a2⟩ := ha
  obtain ⟨b1, b2⟩ := hb
  have h1 := a2 b b1
  have h2 := b2 a a1
  have e : l.count a = l.count b := by omega
  have h3 := h1.2 e.symm
  have h4 := h2.2 e
  rcases h3 with h3 | ⟨h3, h5⟩ <;> rcases h4 with h4 | ⟨h4, h6⟩
  · rw [h3, h4]
  · exact absurd h3 h4
  · exact absurd h4 h3
  · omega
def refStep (l : List Int) (own v : Int) (s : Int × Int) : Int × Int :=
  if (l.count v : Int) > s.2 then (v, (l.count v : Int))
  else if ((l.count v : Int) == s.2 && (s.1 != own && (v == own || decide (v < s.1)))) = true then (v, (l.count v : Int)) else s
def refU (l : List Int) (own : Int) : Nat → Int × Int
  | 0 => (own, 0)
  | k + 1 => refStep l own (l.getD k 0) (refU l own k)
theorem ref_inv {l : List Int} {own : Int} : ∀ k, k ≤ l.length → (k = 0 ∧ refU l own k = (own, 0)) ∨ (0 < k ∧ (refU l own k).1 ∈ l ∧ (refU l own k).2 = (l.count (refU l own k).1 : Int) ∧ ∀ j, j < k → l.count (l.getD j 0) ≤ l.count (refU l own k).1 ∧ (l.count (l.getD j 0) = l.count (refU l own k).1 → (refU l own k).1 = own ∨ (l.getD j 0 ≠ own ∧ (refU l own k).1 ≤ l.getD j 0)))
  | 0, _ => .inl ⟨rfl, rfl⟩
  | k + 1, hk => by
    right
    have hmem : l.getD k 0 ∈ l := getD_mem 0 (by omega)
    have hpos : 0 < l.count (l.getD k 0) := List.count_pos_iff.2 hmem
    refine ⟨by omega, ?_⟩
    have ih := ref_inv (l := l) (own := own) k (by omega)
    show (refStep l own (l.getD k 0) (refU l own k)).1 ∈ l ∧ (refStep l own (l.getD k 0) (refU l own k)).2 = (l.count (refStep l own (l.getD k 0) (refU l own k)).1 : Int) ∧ ∀ j, j < k + 1 → l.count (l.getD j 0) ≤ l.count (refStep l own (l.getD k 0) (refU l own k)).1 ∧ (l.count (l.getD j 0) = l.count (refStep l own (l.getD k 0) (refU l own k)).1 → (refStep l own (l.getD k 0) (refU l own k)).1 = own ∨ (l.getD j 0 ≠ own ∧ (refStep l own (l.getD k 0) (refU l own k)).1 ≤ l.getD j 0))
    generalize hs : refU l own k = s at *
    generalize hv : l.getD k 0 = v at *
    unfold refStep
    rcases ih with ⟨rfl, e⟩ | ⟨h0, h1, h2, h3⟩
    · rw [e]
      rw [if_pos (by dsimp only; omega)]
      refine ⟨hmem, rfl, fun j hj => ?_⟩
      obtain rfl : j = 0 := by omega
      rw [hv]
      refine ⟨Nat.le_refl _, fun _ => ?_⟩
      by_cases ho : v = own
      · exact .inl ho
      · exact .inr ⟨ho, Int.le_refl _⟩
    · by_cases c1 : (l.count v : Int) > s.2
      · rw [if_pos c1]
        dsimp only
        refine ⟨hmem, rfl, fun j hj => ?_⟩
        by_cases hjk : j = k
        · subst hjk
          rw [hv]
          refine ⟨Nat.le_refl _, fun _ => ?_⟩
          by_cases ho : v = own
          · exact .inl ho
          · exact .inr ⟨ho, Int.le_refl _⟩
        · obtain ⟨a, b⟩ := h3 j (by omega)
          refine ⟨by omega, fun e => ?_⟩
          omega
      · rw [if_neg c1]
        by_cases c2 : ((l.count v : Int) == s.2 && (s.1 != own && (v == own || decide (v < s.1)))) = true
        · rw [if_pos c2]
          dsimp only
          simp only [Bool.and_eq_true, Bool.or_eq_true, beq_iff_eq, bne_iff_ne, ne_eq, decide_eq_true_eq] at c2
          obtain ⟨d1, d2, d3⟩ := c2
          refine ⟨hmem, rfl, fun j hj => ?_⟩
          by_cases hjk : j = k
          · subst hjk
            rw [hv]
            refine ⟨Nat.le_refl _, fun _ => ?_⟩
            by_cases ho : v = own
            · exact .inl ho
            · exact .inr ⟨ho, Int.le_refl _⟩
          · obtain ⟨a, b⟩ := h3 j (by omega)
            refine ⟨by omega, fun e => ?_⟩
            rcases d3 with d3 | d3
            · exact .inl d3
            · rcases b (by omega) with b | ⟨b, b'⟩
              · exact absurd b d2
              · exact .inr ⟨b, by omega⟩
        · rw [if_neg c2]
          refine ⟨h1, h2, fun j hj => ?_⟩
          by_cases hjk : j = k
          · subst hjk
            rw [hv]
            refine ⟨by omega, fun e => ?_⟩
            by_cases ho : s.1 = own
            · exact .inl ho
            · right
              have : ¬ (v = own ∨ v < s.1) := by
                intro d
                apply c2
                simp only [Bool.and_eq_true, Bool.or_eq_true, beq_iff_eq, bne_iff_ne, ne_eq, decide_eq_true_eq]
                exact ⟨by omega, ho, d⟩
              exact ⟨fun h => this (.inl h), by omega⟩
          · exact h3 j (by omega)
theorem ref_best {l : List Int} {own : Int} (h : l ≠ []) : Best l own (refU l own l.length).1 := by
  rcases ref_inv (l := l) (own := own) l.length (Nat.le_refl _) with ⟨h0, _⟩ | ⟨_, h1, _, h3⟩
  · exact absurd (List.eq_nil_of_length_eq_zero h0) h
  · refine ⟨h1, fun x hx => ?_⟩
    obtain ⟨j, hj, rfl⟩ := List.getElem_of_mem hx
    have := h3 j hj
    rw [show l.getD j 0 = l[j] by simp [List.getD, hj]] at this
    exact this
def impU (l : List Int) (own : Int) : Nat → Int
  | 0 => own
  | i + 1 => if l.count (i : Int) > l.count (impU l own i) then (i : Int) else impU l own i
theorem imp_inv {l : List Int} {own : Int} : ∀ i : Nat, l.count own ≤ l.count (impU l own i) ∧ (∀ x : Nat, x < i → l.count (x : Int) ≤ l.count (impU l own i)) ∧ (impU l own i = own ∨ (l.count own < l.count (impU l own i) ∧ 0 ≤ impU l own i ∧ impU l own i < i ∧ ∀ x : Nat, x < i → l.count (x : Int) = l.count (impU l own i) → impU l own i ≤ x))
  | 0 => ⟨Nat.le_refl _, fun x hx => absurd hx (by omega), .inl rfl⟩
  | i + 1 => by
    obtain ⟨a, b, c⟩ := imp_inv (l := l) (own := own) i
    show l.count own ≤ l.count (if l.count (i : Int) > l.count (impU l own i) then (i : Int) else impU l own i) ∧ (∀ x : Nat, x < i + 1 → l.count (x : Int) ≤ l.count (if l.count (i : Int) > l.count (impU l own i) then (i : Int) else impU l own i)) ∧ ((if l.count (i : Int) > l.count (impU l own i) then (i : Int) else impU l own i) = own ∨ (l.count own < l.count (if l.count (i : Int) > l.count (impU l own i) then (i : Int) else impU l own i) ∧ 0 ≤ (if l.count (i : Int) > l.count (impU l own i) then (i : Int) else impU l own i) ∧ (if l.count (i : Int) > l.count (impU l own i) then (i : Int) else impU l own i) < ((i + 1 : Nat) : Int) ∧ ∀ x : Nat, x < i + 1 → l.count (x : Int) = l.count (if l.count (i : Int) > l.count (impU l own i) then (i : Int) else impU l own i) → (if l.count (i : Int) > l.count (impU l own i) then (i : Int) else impU l own i) ≤ x))
    generalize impU l own i = s at *
    by_cases h : l.count (i : Int) > l.count s
    · rw [if_pos h]
      refine ⟨by omega, fun x hx => ?_, .inr ⟨by omega, by omega, by omega, fun x hx e => ?_⟩⟩
      · by_cases hxi : x = i
        · subst hxi; exact Nat.le_refl _
        · have := b x (by omega); omega
      · by_cases hxi : x = i
        · omega
        · have := b x (by omega); omega
    · rw [if_neg h]
      refine ⟨a, fun x hx => ?_, ?_⟩
      · by_cases hxi : x = i
        · subst hxi; omega
        · exact b x (by omega)
      · rcases c with c | ⟨c1, c2, c3, c4⟩
        · exact .inl c
        · refine .inr ⟨c1, c2, by omega, fun x hx e => ?_⟩
          by_cases hxi : x = i
          · omega
          · exact c4 x (by omega) e
theorem imp_best {l : List Int} {own : Int} {n : Nat} (ho : own ∈ l) (hl : ∀ x, x ∈ l → 0 ≤ x ∧ x < n) : Best l own (impU l own n) := by
  obtain ⟨a, b, c⟩ := imp_inv (l := l) (own := own) n
  have hpos : 0 < l.count own := List.count_pos_iff.2 ho
  refine ⟨List.count_pos_iff.1 (by omega), fun x hx => ?_⟩
  obtain ⟨h0, h1⟩ := hl x hx
  obtain ⟨k, rfl⟩ : ∃ k : Nat, x = (k : Int) := ⟨x.toNat, by omega⟩
  refine ⟨b k (by omega), fun e => ?_⟩
  rcases c with c | ⟨c1, c2, c3, c4⟩
  · exact .inl c
  · refine .inr ⟨fun h => ?_, c4 k (by omega) e⟩
    rw [h] at e
    omega
/-- the counts of all labels, in what was gone through -/
def cntL (l : List Int) (n i : Nat) : List Int := (List.range n).map fun x : Nat => ((l.take i).count (x : Int) : Int)
theorem cntL_length (l : List Int) (n i : Nat) : (cntL l n i).length = n := by simp [cntL]
theorem cntL_get {l : List Int} {n i x : Nat} (h : x < n) : (cntL l n i).getD x 0 = ((l.take i).count (x : Int) : Int) := by
  simp [cntL, List.getD, h]
theorem cntL_step {l : List Int} {n i v : Nat} (hi : i < l.length) (hv : l.getD i 0 = (v : Int)) (hn : v < n) : (cntL l n i).set v ((cntL l n i).getD v 0 + 1) = cntL l n (i + 1) := by
  have ht : l.take (i + 1) = l.take i ++ [(v : Int)] := by
    rw [List.take_add_one, List.getElem?_eq_getElem hi]
    have : l[i] = (v : Int) := by rw [← hv]; simp [List.getD, hi]
    rw [this]; rfl
  rw [cntL_get hn]
  apply List.ext_getElem?
  intro k
  rw [List.getElem?_set]
  by_cases hk : k < n
  · have e1 : (cntL l n i)[k]? = some ((l.take i).count (k : Int) : Int) := by simp [cntL, hk]
    have e2 : (cntL l n (i + 1))[k]? = some ((l.take (i + 1)).count (k : Int) : Int) := by simp [cntL, hk]
    rw [e1, e2, ht, List.count_append, cntL_length]
    by_cases hvk : v = k
    · subst hvk
      rw [if_pos rfl, if_pos hk]
      simp
    · rw [if_neg hvk]
      have : List.count (k : Int) [(v : Int)] = 0 := by
        rw [List.count_eq_zero]
        simp
        omega
      rw [this]; rfl
  · have e1 : (cntL l n i)[k]? = none := by rw [List.getElem?_eq_none]; rw [cntL_length]; omega
    have e2 : (cntL l n (i + 1))[k]? = none := by rw [List.getElem?_eq_none]; rw [cntL_length]; omega
    rw [e1, e2, cntL_length]
    split
    · exfalso; omega
    · rfl
theorem same_loopI {l m : List Int} (hlen : l.length = m.length) {J : Int → Prop} {K : Bool → Prop} (h : K (l == m)) (hend : K true → J (l.length : Int)) (hbad : ∀ i : Nat, i < l.length → (l.getD i 0 == m.getD i 0) = false → K false → J (i : Int))
    (hstep : ∀ i : Nat, i < l.length → (l.getD i 0 == m.getD i 0) = true → J ((i + 1 : Nat) : Int) → J (i : Int)) : J 0 := by
  have key := down (Q := fun i => K (l.drop i == m.drop i) → J (i : Int)) (n := l.length) (by
    intro h
    rw [List.drop_length, hlen, List.drop_length] at h
    exact hend h) (by
    intro i hi ih h
    have hi2 : i < m.length := by omega
    rw [List.drop_eq_getElem_cons hi, List.drop_eq_getElem_cons hi2] at h
    have e1 : l.getD i 0 = l[i] := by simp [List.getD, hi]
    have e2 : m.getD i 0 = m[i] := by simp [List.getD, hi2]
    have e3 : ((l[i] :: List.drop (i + 1) l) == (m[i] :: List.drop (i + 1) m)) = (l[i] == m[i] && List.drop (i + 1) l == List.drop (i + 1) m) := rfl
    rw [e3] at h
    cases hp : l[i] == m[i]
    · rw [hp] at h; exact hbad i hi (by rw [e1, e2]; exact hp) h
    · rw [hp] at h; exact hstep i hi (by rw [e1, e2]; exact hp) (ih h)) 0 (Nat.zero_le _)
  exact key (by simpa using h)
end Go.K
