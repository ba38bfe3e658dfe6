/- More loops. -/
import Derived.Test.YtblejagpndbicaaF2
set_option linter.unusedSimpArgs false
set_option linter.unusedVariables false
set_option maxRecDepth 10000
namespace Go.K

/-- a loop that looks whether all are so -/
theorem all_loop {α : Type} {l : List α} {p : α → Bool} {d : α} {J : Int → Prop} {K : Bool → Prop} (h : K (l.all p)) (hend : K true → J (l.length : Int)) (hbad : ∀ i : Nat, i < l.length → p (l.getD i d) = false → K false → J (i : Int))
    (hstep : ∀ i : Nat, i < l.length → p (l.getD i d) = true → J ((i + 1 : Nat) : Int) → J (i : Int)) : J 0 := by
  have key := down (Q := fun i => K ((l.drop i).all p) → J (i : Int)) (n := l.length) (by
    intro h; simp at h; exact hend h) (by
    intro i hi ih h
    rw [List.drop_eq_getElem_cons hi, List.all_cons] at h
    have e : l.getD i d = l[i] := by simp [List.getD, hi]
    cases hp : p l[i]
    · rw [hp] at h; exact hbad i hi (by rw [e]; exact hp) h
    · rw [hp] at h; exact hstep i hi (by rw [e]; exact hp) (ih h)) 0 (Nat.zero_le _)
  exact key (by simpa using h)
theorem anyN {α : Type} (l : List α) (p : α → Bool) : (!(l.all p)) = l.any fun x => !p x := by
  induction l with
  | nil => rfl
  | cons a l ih => simp [List.all_cons, List.any_cons, ← ih]

/-- a loop that collects the places where something holds -/
def places (p : Nat → Bool) (n : Nat) : List Int := ((List.range n).filter p).map fun i : Nat => (i : Int)
theorem places_zero (p : Nat → Bool) : places p 0 = [] := rfl
theorem places_true {p : Nat → Bool} {n : Nat} (h : p n = true) : places p (n + 1) = places p n ++ [(n : Int)] := by
  simp [places, List.range_succ, List.filter_append, h]
theorem places_false {p : Nat → Bool} {n : Nat} (h : p n = false) : places p (n + 1) = places p n := by
  simp [places, List.range_succ, List.filter_append, h]
theorem places_length (p : Nat → Bool) (n : Nat) : (places p n).length ≤ n := by
  have := List.length_filter_le p (List.range n)
  simpa [places] using this
theorem places_mem {p : Nat → Bool} {n : Nat} {x : Int} (h : x ∈ places p n) : ∃ i : Nat, x = i ∧ i < n ∧ p i = true := by
  simp only [places, List.mem_map, List.mem_filter, List.mem_range] at h
  obtain ⟨i, ⟨h1, h2⟩, rfl⟩ := h
  exact ⟨i, rfl, h1, h2⟩

/-! ### whole numbers -/
theorem tdiv_nat (a b : Nat) : Int.tdiv (a : Int) (b : Int) = ((a / b : Nat) : Int) := by
  rw [Int.tdiv_eq_ediv_of_nonneg (by omega)]; rfl
theorem tmod_nat (a b : Nat) : Int.tmod (a : Int) (b : Int) = ((a % b : Nat) : Int) := by
  rw [Int.tmod_eq_emod_of_nonneg (by omega)]; rfl

/-- n by n values, row by row -/
def gridL (n : Nat) (h : Nat → Nat → Nat) : List Nat := (List.range (n * n)).map fun i => h (i % n) (i / n)
theorem gridL_length (n : Nat) (h : Nat → Nat → Nat) : (gridL n h).length = n * n := by simp [gridL]
def gridUp (n : Nat) (h : Nat → Nat → Nat) (i : Nat) : List Nat := (List.range i).map fun i => h (i % n) (i / n)
theorem gridUp_succ (n : Nat) (h : Nat → Nat → Nat) (i : Nat) : gridUp n h (i + 1) = gridUp n h i ++ [h (i % n) (i / n)] := by simp [gridUp, List.range_succ]
theorem gridUp_length (n : Nat) (h : Nat → Nat → Nat) (i : Nat) : (gridUp n h i).length = i := by simp [gridUp]
theorem gridUp_all (n : Nat) (h : Nat → Nat → Nat) : gridUp n h (n * n) = gridL n h := rfl
theorem grid_at {n x y : Nat} (h : x < n) : (x + n * y) % n = x ∧ (x + n * y) / n = y := by
  constructor
  · rw [Nat.add_mul_mod_self_left, Nat.mod_eq_of_lt h]
  · rw [Nat.add_mul_div_left _ _ (by omega), Nat.div_eq_of_lt h, Nat.zero_add]

/-- two loops, one in the other, that build n by n values -/
def frozenT (how : Int → Int → (Nat → Prop) → Prop) (valid : List Nat → Int → (Bool → Prop) → Prop) (a3 : Int) (K : List Nat → Int → Bool → Prop) : Prop :=
  ∀ (J1 : Int → Int → List Nat → List Nat → Int → Int → Prop),
  (∀ (x2 x3 : Int) (x4 x5 : List Nat) (x6 x7 : Int),
      ifB (Decidable.decide (x7 < x6))
          (∀ (J8 : Int → Int → List Nat → List Nat → Int → Int → Int → Int → Int → Prop),
            (∀ (x9 x10 : Int) (x11 x12 : List Nat) (x13 x14 x15 x16 x17 : Int),
                ifB (Decidable.decide (x17 < x16))
                    (how x17 x13 fun y18 =>
                      List.length (x12 ++ y18 :: List.replicate (0 : Nat) (0 : Nat)) ≤ (1099511627776 : Nat) ∧
                        J8 x9 x10 x11 (x12 ++ y18 :: List.replicate (0 : Nat) (0 : Nat)) x13 x14 x15 x16 (Go.IntKind.wrap .i64 (x17 + (1 : Int))))
                    (J1 x9 x10 x11 x12 x14 (Go.IntKind.wrap .i64 (x15 + (1 : Int)))) →
                  J8 x9 x10 x11 x12 x13 x14 x15 x16 x17) →
              J8 x2 x3 x4 x5 x7 x6 x7 a3 (0 : Int))
          (valid x5 x3 fun y21 => ifB (!y21) (K [] (0 : Int) Bool.false) (K x5 x3 Bool.true)) →
        J1 x2 x3 x4 x5 x6 x7) →
    J1 (0 : Int) a3 [] [] a3 (0 : Int)
theorem frozenT_ok {how : Int → Int → (Nat → Prop) → Prop} {valid : List Nat → Int → (Bool → Prop) → Prop} {n : Nat} {h : Nat → Nat → Nat} {K : List Nat → Int → Bool → Prop} (hn : n ≤ 1048576)
    (hhow : ∀ (x y : Nat) (K' : Nat → Prop), x < n → y < n → K' (h x y) → how (x : Int) (y : Int) K')
    (hend : valid (gridL n h) (n : Int) fun b => ifB (!b) (K [] 0 false) (K (gridL n h) (n : Int) true)) : frozenT how valid (n : Int) K := by
  intro J hJ
  have hnn : n * n ≤ 1099511627776 := by
    have := Nat.mul_le_mul hn hn
    omega
  have main := down (Q := fun y => J 0 (n : Int) [] (gridUp n h (n * y)) (n : Int) (y : Int)) (n := n) ?_ ?_ 0 (Nat.zero_le _)
  · simpa [gridUp] using main
  · refine hJ _ _ _ _ _ _ (ifN (by omega) ?_)
    rw [gridUp_all]; exact hend
  · intro y hy ih
    refine hJ _ _ _ _ _ _ (ifD (by omega) fun J8 hJ8 => ?_)
    have inner := down (Q := fun x => J8 0 (n : Int) [] (gridUp n h (x + n * y)) (y : Int) (n : Int) (y : Int) (n : Int) (x : Int)) (n := n) ?_ ?_ 0 (Nat.zero_le _)
    · rw [Nat.zero_add] at inner; exact inner
    · refine hJ8 _ _ _ _ _ _ _ _ _ (ifN (by omega) ?_)
      rw [wrap_succ (by omega), show n + n * y = n * (y + 1) by rw [Nat.mul_add]; omega]
      exact ih
    · intro x hx ihx
      refine hJ8 _ _ _ _ _ _ _ _ _ (ifD (by omega) (hhow x y _ hx hy ?_))
      have hs := gridUp_succ n h (x + n * y)
      obtain ⟨e1, e2⟩ := grid_at (y := y) hx
      rw [e1, e2] at hs
      have hs' : gridUp n h (x + n * y) ++ h x y :: List.replicate 0 0 = gridUp n h (x + 1 + n * y) := by
        rw [show x + 1 + n * y = x + n * y + 1 by omega, hs]; rfl
      rw [hs']
      refine ⟨?_, ?_⟩
      · rw [gridUp_length]
        have : n * y + n ≤ n * n := by
          have := Nat.mul_le_mul_left n (show y + 1 ≤ n by omega)
          rw [Nat.mul_add] at this; omega
        omega
      · rw [wrap_succ (by omega)]; exact ihx
end Go.K
