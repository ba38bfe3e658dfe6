/- Loops of the laws' helpers. -/
import Derived.Test.YtblejagpndbicaaF1
set_option linter.unusedSimpArgs false
set_option linter.unusedVariables false
namespace Go.K

theorem ifT {b : Bool} {A B : Prop} (hb : b = true) (h : A) : ifB b A B := by subst hb; exact h
theorem ifF {b : Bool} {A B : Prop} (hb : b = false) (h : B) : ifB b A B := by subst hb; exact h
theorem ifD {p : Prop} [Decidable p] {A B : Prop} (hb : p) (h : A) : ifB (decide p) A B := ifT (decide_eq_true hb) h
theorem ifN {p : Prop} [Decidable p] {A B : Prop} (hb : ¬ p) (h : B) : ifB (decide p) A B := ifF (decide_eq_false hb) h

theorem wrap_succ {i : Nat} (h : i ≤ 4611686018427387904) : Go.IntKind.wrap .i64 ((i : Int) + 1) = ((i + 1 : Nat) : Int) := by
  rw [wrap64 (by omega) (by omega)]; omega
theorem wrap_nat {i : Nat} (h : i ≤ 4611686018427387904) : Go.IntKind.wrap .i64 (i : Int) = (i : Int) := wrap64 (by omega) (by omega)

/-- a loop that counts up to n -/
theorem upto {J : Int → Prop} {n : Nat} (hend : J (n : Int)) (hstep : ∀ i : Nat, i < n → J ((i + 1 : Nat) : Int) → J (i : Int)) : J 0 :=
  down (Q := fun i => J (i : Int)) hend hstep 0 (Nat.zero_le _)

def marked {α : Type} (V : Nat → α) (n : Nat) : List α := (List.range n).map V
theorem marked_length {α : Type} (V : Nat → α) (n : Nat) : (marked V n).length = n := by simp [marked]
theorem marked_getD {α : Type} (V : Nat → α) {n i : Nat} (d : α) (h : i < n) : (marked V n).getD i d = V i := by
  simp [marked, List.getD, h]
theorem marked_getD_self {α : Type} (l : List α) (d : α) : marked (fun i => l.getD i d) l.length = l := by
  apply List.ext_getElem
  · simp [marked]
  · intro i h1 h2
    simp [marked, List.getD, h2]

theorem set_step {α : Type} {V : Nat → α} {l : List α} {i : Nat} (h : i < l.length) : ((marked V i) ++ l.drop i).set i (V i) = marked V (i + 1) ++ l.drop (i + 1) := by
  rw [List.set_append_right _ _ (by simp [marked_length]), marked_length, Nat.sub_self, List.drop_eq_getElem_cons h, List.set_cons_zero]
  simp [marked, List.range_succ]

/-- a loop that sets each element, with a number that goes along -/
theorem mark_loop {α : Type} {l : List α} {V : Nat → α} {J : List α → Int → Int → Prop} {k : Nat} (hend : J (marked V l.length) ((k + l.length : Nat) : Int) (l.length : Int))
    (hstep : ∀ (x : List α) (i : Nat), i < l.length → x.length = l.length → J (x.set i (V i)) ((k + i + 1 : Nat) : Int) ((i + 1 : Nat) : Int) → J x ((k + i : Nat) : Int) (i : Int)) : J l (k : Int) 0 := by
  have key := down (Q := fun i => J (marked V i ++ l.drop i) ((k + i : Nat) : Int) (i : Int)) (n := l.length) (by simpa using hend) (by
    intro i hi h
    refine hstep _ i hi (by simp [marked_length]; omega) ?_
    rw [set_step hi]
    exact h) 0 (Nat.zero_le _)
  simpa [marked] using key
/-- a loop that sets each element -/
theorem set_loop {α : Type} {l : List α} {V : Nat → α} {J : List α → Int → Prop} (hend : J (marked V l.length) (l.length : Int))
    (hstep : ∀ (x : List α) (i : Nat), i < l.length → x.length = l.length → J (x.set i (V i)) ((i + 1 : Nat) : Int) → J x (i : Int)) : J l 0 := by
  have key := down (Q := fun i => J (marked V i ++ l.drop i) (i : Int)) (n := l.length) (by simpa using hend) (by
    intro i hi h
    refine hstep _ i hi (by simp [marked_length]; omega) ?_
    rw [set_step hi]
    exact h) 0 (Nat.zero_le _)
  simpa [marked] using key
/-- a loop with a number that goes along -/
theorem held_loop {J : Int → Int → Prop} {k n : Nat} (hend : J ((k + n : Nat) : Int) (n : Int)) (hstep : ∀ i : Nat, i < n → J ((k + i + 1 : Nat) : Int) ((i + 1 : Nat) : Int) → J ((k + i : Nat) : Int) (i : Int)) : J (k : Int) 0 := by
  have key := down (Q := fun i => J ((k + i : Nat) : Int) (i : Int)) (n := n) hend hstep 0 (Nat.zero_le _)
  simpa using key

/-! ### the helpers' texts, without names -/
def eqIT (a1 a2 : List Int) (K : Bool → Prop) : Prop :=
  ifB ((↑(List.length a1) : Int) != (↑(List.length a2) : Int)) (K Bool.false)
  (∀ (J1 : Int → Prop),
    (∀ (x2 : Int),
        ifB (Decidable.decide (x2 < (↑(List.length a1) : Int)))
            (((0 : Int) ≤ x2 ∧ x2 < (↑(List.length a1) : Int)) ∧
              ((0 : Int) ≤ x2 ∧ x2 < (↑(List.length a2) : Int)) ∧
                ifB (List.getD a1 (Int.toNat x2) (0 : Int) != List.getD a2 (Int.toNat x2) (0 : Int)) (K Bool.false) (J1 (Go.IntKind.wrap .i64 (x2 + (1 : Int)))))
            (K Bool.true) →
          J1 x2) →
      J1 (0 : Int))
theorem eqIT_self {l : List Int} {K : Bool → Prop} (hl : l.length ≤ 1099511627776) (h : K true) : eqIT l l K := by
  refine ifF (by simp) fun J hJ => upto (n := l.length) (hJ _ (ifN (by omega) h)) fun i hi ih => hJ _ (ifD (by omega) ⟨⟨by omega, by omega⟩, ⟨by omega, by omega⟩, ifF (by simp) ?_⟩)
  rw [wrap_succ (by omega)]; exact ih

def markIT (a1 : List Int) (a2 : Int) (K : List Int → Int → Prop) : Prop :=
  ∀ (J1 : List Int → Int → Int → Prop),
  (∀ (x2 : List Int) (x3 x4 : Int),
      ifB (Decidable.decide (x4 < (↑(List.length a1) : Int)))
          (((0 : Int) ≤ x4 ∧ x4 < (↑(List.length a1) : Int)) ∧
            J1 (List.set x2 (Int.toNat x4) x3) (Go.IntKind.wrap .i64 (x3 + (1 : Int))) (Go.IntKind.wrap .i64 (x4 + (1 : Int))))
          (K x2 x3) →
        J1 x2 x3 x4) →
    J1 a1 a2 (0 : Int)
theorem markIT_ok {l : List Int} {k : Nat} {K : List Int → Int → Prop} (hl : l.length ≤ 1099511627776) (hk : k ≤ 1099511627776) (h : K (marked (fun i => ((k + i : Nat) : Int)) l.length) ((k + l.length : Nat) : Int)) : markIT l (k : Int) K := by
  intro J hJ
  refine mark_loop (V := fun i => ((k + i : Nat) : Int)) (hJ _ _ _ (ifN (by omega) h)) fun x i hi hx ih => hJ _ _ _ (ifD (by omega) ⟨⟨by omega, by omega⟩, ?_⟩)
  rw [wrap_succ (by omega), wrap_succ (by omega), Int.toNat_natCast]
  exact ih
def heldIT (a1 : List Int) (a2 : Int) (K : Int → Prop) : Prop :=
  ∀ (J1 : Int → Int → Prop),
  (∀ (x2 x3 : Int),
      ifB (Decidable.decide (x3 < (↑(List.length a1) : Int)))
          (((0 : Int) ≤ x3 ∧ x3 < (↑(List.length a1) : Int)) ∧
            ifB (List.getD a1 (Int.toNat x3) (0 : Int) != x2) (K (-1 : Int))
              (J1 (Go.IntKind.wrap .i64 (x2 + (1 : Int))) (Go.IntKind.wrap .i64 (x3 + (1 : Int)))))
          (K x2) →
        J1 x2 x3) →
    J1 a2 (0 : Int)
theorem heldIT_ok {n k : Nat} {K : Int → Prop} (hl : n ≤ 1099511627776) (hk : k ≤ 1099511627776) (h : K ((k + n : Nat) : Int)) : heldIT (marked (fun i => ((k + i : Nat) : Int)) n) (k : Int) K := by
  intro J hJ
  have hlen := marked_length (fun i => ((k + i : Nat) : Int)) n
  refine held_loop (n := n) (hJ _ _ (ifN (by omega) h)) fun i hi ih => hJ _ _ (ifD (by omega) ⟨⟨by omega, by omega⟩, ifF ?_ ?_⟩)
  · rw [Int.toNat_natCast, marked_getD _ _ hi]; simp
  · rw [wrap_succ (by omega), wrap_succ (by omega)]
    exact ih

def markFT (a1 : List Nat) (a2 : Int) (K : List Nat → Int → Prop) : Prop :=
  ∀ (J1 : List Nat → Int → Int → Prop),
  (∀ (x2 : List Nat) (x3 x4 : Int),
      ifB (Decidable.decide (x4 < (↑(List.length a1) : Int)))
          (((0 : Int) ≤ x4 ∧ x4 < (↑(List.length a1) : Int)) ∧
            J1 (List.set x2 (Int.toNat x4) (fofint .f32 x3)) (Go.IntKind.wrap .i64 (x3 + (1 : Int))) (Go.IntKind.wrap .i64 (x4 + (1 : Int))))
          (K x2 x3) →
        J1 x2 x3 x4) →
    J1 a1 a2 (0 : Int)
def mfV (k : Nat) (i : Nat) : Nat := fofint .f32 ((k + i : Nat) : Int)
theorem markFT_ok {l : List Nat} {k : Nat} {K : List Nat → Int → Prop} (hl : l.length ≤ 1099511627776) (hk : k ≤ 1099511627776) (h : K (marked (mfV k) l.length) ((k + l.length : Nat) : Int)) : markFT l (k : Int) K := by
  intro J hJ
  refine mark_loop (V := mfV k) (hJ _ _ _ (ifN (by omega) h)) fun x i hi hx ih => hJ _ _ _ (ifD (by omega) ⟨⟨by omega, by omega⟩, ?_⟩)
  rw [wrap_succ (by omega), wrap_succ (by omega), Int.toNat_natCast]
  exact ih
def heldFT (a1 : List Nat) (a2 : Int) (K : Int → Prop) : Prop :=
  ∀ (J1 : Int → Int → Prop),
  (∀ (x2 x3 : Int),
      ifB (Decidable.decide (x3 < (↑(List.length a1) : Int)))
          (((0 : Int) ≤ x3 ∧ x3 < (↑(List.length a1) : Int)) ∧
            ifB (fne .f32 (List.getD a1 (Int.toNat x3) (0 : Nat)) (fofint .f32 x2)) (K (-1 : Int))
              (J1 (Go.IntKind.wrap .i64 (x2 + (1 : Int))) (Go.IntKind.wrap .i64 (x3 + (1 : Int)))))
          (K x2) →
        J1 x2 x3) →
    J1 a2 (0 : Int)
theorem heldFT_ok {n k : Nat} {K : Int → Prop} (hl : n ≤ 1099511627776) (hk : k ≤ 1099511627776) (h : K ((k + n : Nat) : Int)) : heldFT (marked (mfV k) n) (k : Int) K := by
  intro J hJ
  have hlen := marked_length (mfV k) n
  refine held_loop (n := n) (hJ _ _ (ifN (by omega) h)) fun i hi ih => hJ _ _ (ifD (by omega) ⟨⟨by omega, by omega⟩, ifF ?_ ?_⟩)
  · rw [Int.toNat_natCast, marked_getD _ _ hi]
    unfold mfV
    rw [fne_self]
    exact encode_notNaN .f32 (.number (((k + i : Nat) : Int) < 0) ((k + i : Nat) : Int).natAbs 0) rfl
  · rw [wrap_succ (by omega), wrap_succ (by omega)]
    exact ih

def sameT (a1 a2 : Nat) (K : Bool → Prop) : Prop :=
  ifB (fne .f64 a1 a1) (ifB (fne .f64 a1 a1) (K (fne .f64 a2 a2)) (K Bool.false))
  (ifB (fne .f64 a2 a2) (ifB (fne .f64 a1 a1) (K (fne .f64 a2 a2)) (K Bool.false))
    (ifB (feq .f64 a1 (0 : Nat))
      (ifB (feq .f64 a2 (0 : Nat))
        (K
          (fgt .f64 (farith Go.BinOp.quo .f64 (4607182418800017408 : Nat) a1) (0 : Nat) ==
            fgt .f64 (farith Go.BinOp.quo .f64 (4607182418800017408 : Nat) a2) (0 : Nat)))
        (K (feq .f64 a1 a2)))
      (K (feq .f64 a1 a2))))
theorem sameT_self {x : Nat} {K : Bool → Prop} (h : K true) : sameT x x K := by
  unfold sameT
  rw [fne_self, feq_self]
  cases hx : isNaNW .f64 x
  · refine ifF rfl (ifF rfl ?_)
    refine ifB_of (fun h1 => ifT h1 ?_) fun _ => h
    rw [beq_self_eq_true]; exact h
  · exact ifT rfl (ifT rfl h)

def eqFT (a1 a2 : List Nat) (K : Bool → Prop) : Prop :=
  ifB ((↑(List.length a1) : Int) != (↑(List.length a2) : Int)) (K Bool.false)
  (∀ (J1 : Int → Prop),
    (∀ (x2 : Int),
        ifB (Decidable.decide (x2 < (↑(List.length a1) : Int)))
            (((0 : Int) ≤ x2 ∧ x2 < (↑(List.length a1) : Int)) ∧
              ((0 : Int) ≤ x2 ∧ x2 < (↑(List.length a2) : Int)) ∧
                sameT (fconv .f32 .f64 (List.getD a1 (Int.toNat x2) (0 : Nat)))
                  (fconv .f32 .f64 (List.getD a2 (Int.toNat x2) (0 : Nat))) fun y3 =>
                  ifB (!y3) (K Bool.false) (J1 (Go.IntKind.wrap .i64 (x2 + (1 : Int)))))
            (K Bool.true) →
          J1 x2) →
      J1 (0 : Int))
theorem eqFT_self {l : List Nat} {K : Bool → Prop} (hl : l.length ≤ 1099511627776) (h : K true) : eqFT l l K := by
  refine ifF (by simp) fun J hJ => upto (n := l.length) (hJ _ (ifN (by omega) h)) fun i hi ih => hJ _ (ifD (by omega) ⟨⟨by omega, by omega⟩, ⟨by omega, by omega⟩, sameT_self (ifF rfl ?_)⟩)
  rw [wrap_succ (by omega)]; exact ih
def toFT (a1 : List Nat) (K : List Nat → Prop) : Prop :=
  ((0 : Int) ≤ (↑(List.length a1) : Int) ∧ (↑(List.length a1) : Int) ≤ (↑(List.length a1) : Int) ∧ (↑(List.length a1) : Int) ≤ (1099511627776 : Int)) ∧
  ∀ (J1 : List Nat → Int → Prop),
    (∀ (x2 : List Nat) (x3 : Int),
        ifB (Decidable.decide (x3 < (↑(List.length a1) : Int)))
            (((0 : Int) ≤ x3 ∧ x3 < (↑(List.length a1) : Int)) ∧
              ((0 : Int) ≤ x3 ∧ x3 < (↑(List.length x2) : Int)) ∧
                J1 (List.set x2 (Int.toNat x3) (List.getD a1 (Int.toNat x3) (0 : Nat))) (Go.IntKind.wrap .i64 (x3 + (1 : Int))))
            (K x2) →
          J1 x2 x3) →
      J1 (List.replicate (Int.toNat (↑(List.length a1) : Int)) (0 : Nat)) (0 : Int)
theorem toFT_ok {l : List Nat} {K : List Nat → Prop} (hl : l.length ≤ 1099511627776) (h : K l) : toFT l K := by
  refine ⟨⟨by omega, by omega, by omega⟩, fun J hJ => ?_⟩
  have hn : (List.replicate (Int.toNat (l.length : Int)) (0 : Nat)).length = l.length := by simp
  refine set_loop (V := fun i => l.getD i 0) ?_ ?_
  · rw [hn, marked_getD_self]
    exact hJ _ _ (ifN (by omega) h)
  · intro x i hi hx ih
    rw [hn] at hi hx
    refine hJ _ _ (ifD (by omega) ⟨⟨by omega, by omega⟩, ⟨by omega, by omega⟩, ?_⟩)
    rw [wrap_succ (by omega), Int.toNat_natCast]; exact ih
def toIT (a1 : List Int) (K : List Int → Prop) : Prop :=
  ((0 : Int) ≤ (↑(List.length a1) : Int) ∧ (↑(List.length a1) : Int) ≤ (↑(List.length a1) : Int) ∧ (↑(List.length a1) : Int) ≤ (1099511627776 : Int)) ∧
  ∀ (J1 : List Int → Int → Prop),
    (∀ (x2 : List Int) (x3 : Int),
        ifB (Decidable.decide (x3 < (↑(List.length a1) : Int)))
            (((0 : Int) ≤ x3 ∧ x3 < (↑(List.length a1) : Int)) ∧
              ((0 : Int) ≤ x3 ∧ x3 < (↑(List.length x2) : Int)) ∧
                J1 (List.set x2 (Int.toNat x3) (List.getD a1 (Int.toNat x3) (0 : Int))) (Go.IntKind.wrap .i64 (x3 + (1 : Int))))
            (K x2) →
          J1 x2 x3) →
      J1 (List.replicate (Int.toNat (↑(List.length a1) : Int)) (0 : Int)) (0 : Int)
theorem toIT_ok {l : List Int} {K : List Int → Prop} (hl : l.length ≤ 1099511627776) (h : K l) : toIT l K := by
  refine ⟨⟨by omega, by omega, by omega⟩, fun J hJ => ?_⟩
  have hn : (List.replicate (Int.toNat (l.length : Int)) (0 : Int)).length = l.length := by simp
  refine set_loop (V := fun i => l.getD i 0) ?_ ?_
  · rw [hn, marked_getD_self]
    exact hJ _ _ (ifN (by omega) h)
  · intro x i hi hx ih
    rw [hn] at hi hx
    refine hJ _ _ (ifD (by omega) ⟨⟨by omega, by omega⟩, ⟨by omega, by omega⟩, ?_⟩)
    rw [wrap_succ (by omega), Int.toNat_natCast]; exact ih
def szT (n : Nat) (a2 : Int) (K : Int → Prop) : Prop :=
  ifB (Decidable.decide (Go.IntKind.wrap .i64 (a2 - (n : Int)) < (0 : Int))) (K (-1 : Int)) (K (Go.IntKind.wrap .i64 (a2 - (n : Int))))
theorem szT_ok {n m : Nat} {K : Int → Prop} (hn : n ≤ 9223372036854775807) (hm : m ≤ 1099511627776) (h1 : m < n → K (-1)) (h2 : n ≤ m → K ((m - n : Nat) : Int)) : szT n (m : Int) K := by
  have e : Go.IntKind.wrap .i64 ((m : Int) - (n : Int)) = (m : Int) - (n : Int) := wrap64 (by omega) (by omega)
  unfold szT
  rw [e]
  by_cases h : m < n
  · exact ifD (by omega) (h1 h)
  · refine ifN (by omega) ?_
    have := h2 (by omega)
    rwa [show ((m - n : Nat) : Int) = (m : Int) - (n : Int) by omega] at this

/-! ### complex numbers -/
def eqCT (a1 a2 : List (Nat × Nat)) (K : Bool → Prop) : Prop :=
  ifB ((↑(List.length a1) : Int) != (↑(List.length a2) : Int)) (K Bool.false)
  (∀ (J1 : Int → Prop),
    (∀ (x2 : Int),
        ifB (Decidable.decide (x2 < (↑(List.length a1) : Int)))
            (((0 : Int) ≤ x2 ∧ x2 < (↑(List.length a1) : Int)) ∧
              ((0 : Int) ≤ x2 ∧ x2 < (↑(List.length a2) : Int)) ∧
                sameT (fconv .f32 .f64 (Prod.fst (List.getD a1 (Int.toNat x2) ((0 : Nat), (0 : Nat))))) (fconv .f32 .f64 (Prod.fst (List.getD a2 (Int.toNat x2) ((0 : Nat), (0 : Nat))))) fun y1 =>
                  ifB y1 (sameT (fconv .f32 .f64 (Prod.snd (List.getD a1 (Int.toNat x2) ((0 : Nat), (0 : Nat))))) (fconv .f32 .f64 (Prod.snd (List.getD a2 (Int.toNat x2) ((0 : Nat), (0 : Nat))))) fun y3 =>
                    ifB (!y3) (K Bool.false) (J1 (Go.IntKind.wrap .i64 (x2 + (1 : Int))))) (ifB (!false) (K Bool.false) (J1 (Go.IntKind.wrap .i64 (x2 + (1 : Int))))))
            (K Bool.true) →
          J1 x2) →
      J1 (0 : Int))
theorem eqCT_self {l : List (Nat × Nat)} {K : Bool → Prop} (hl : l.length ≤ 1099511627776) (h : K true) : eqCT l l K := by
  refine ifF (by simp) fun J hJ => upto (n := l.length) (hJ _ (ifN (by omega) h)) fun i hi ih => hJ _ (ifD (by omega) ⟨⟨by omega, by omega⟩, ⟨by omega, by omega⟩, sameT_self (ifT rfl (sameT_self (ifF rfl ?_)))⟩)
  rw [wrap_succ (by omega)]; exact ih
def markCT (a1 : List (Nat × Nat)) (a2 : Int) (K : List (Nat × Nat) → Int → Prop) : Prop :=
  ∀ (J1 : List (Nat × Nat) → Int → Int → Prop),
  (∀ (x2 : List (Nat × Nat)) (x3 x4 : Int),
      ifB (Decidable.decide (x4 < (↑(List.length a1) : Int)))
          ((fitsF .f64 .f32 (fofint .f64 x3) = Bool.true ∧ Bool.true = Bool.true) ∧
            ((0 : Int) ≤ x4 ∧ x4 < (↑(List.length a1) : Int)) ∧
              J1
                (List.set x2 (Int.toNat x4)
                  (fconv .f64 .f32 (fofint .f64 x3), fconv .f64 .f32 (4607182418800017408 : Nat)))
                (Go.IntKind.wrap .i64 (x3 + (1 : Int))) (Go.IntKind.wrap .i64 (x4 + (1 : Int))))
          (K x2 x3) →
        J1 x2 x3 x4) →
    J1 a1 a2 (0 : Int)
def mcV (k : Nat) (i : Nat) : Nat × Nat := (mkF (k + i), fconv .f64 .f32 4607182418800017408)
theorem markCT_ok {l : List (Nat × Nat)} {k : Nat} {K : List (Nat × Nat) → Int → Prop} (hl : l.length ≤ 1099511627776) (hk : k ≤ 1099511627776) (h : K (marked (mcV k) l.length) ((k + l.length : Nat) : Int)) : markCT l (k : Int) K := by
  intro J hJ
  refine mark_loop (V := mcV k) (hJ _ _ _ (ifN (by omega) h)) fun x i hi hx ih => hJ _ _ _ (ifD (by omega) ⟨⟨fits_fofint (by omega), rfl⟩, ⟨by omega, by omega⟩, ?_⟩)
  rw [wrap_succ (by omega), wrap_succ (by omega), Int.toNat_natCast]
  exact ih
def heldCT (a1 : List (Nat × Nat)) (a2 : Int) (K : Int → Prop) : Prop :=
  ∀ (J1 : Int → Int → Prop),
  (∀ (x2 x3 : Int),
      ifB (Decidable.decide (x3 < (↑(List.length a1) : Int)))
          (((0 : Int) ≤ x3 ∧ x3 < (↑(List.length a1) : Int)) ∧
            (fitsF .f64 .f32 (fofint .f64 x2) = Bool.true ∧ Bool.true = Bool.true) ∧
              ifB
                (!(feq .f32 (Prod.fst (List.getD a1 (Int.toNat x3) ((0 : Nat), (0 : Nat))))
                      (fconv .f64 .f32 (fofint .f64 x2)) &&
                    feq .f32 (Prod.snd (List.getD a1 (Int.toNat x3) ((0 : Nat), (0 : Nat))))
                      (fconv .f64 .f32 (4607182418800017408 : Nat))))
                (K (-1 : Int)) (J1 (Go.IntKind.wrap .i64 (x2 + (1 : Int))) (Go.IntKind.wrap .i64 (x3 + (1 : Int)))))
          (K x2) →
        J1 x2 x3) →
    J1 a2 (0 : Int)
theorem one_notNaN : isNaNW .f64 4607182418800017408 = false := by decide
theorem heldCT_ok {n k : Nat} {K : Int → Prop} (hl : n ≤ 1099511627776) (hk : k ≤ 1099511627776) (h : K ((k + n : Nat) : Int)) : heldCT (marked (mcV k) n) (k : Int) K := by
  intro J hJ
  have hlen := marked_length (mcV k) n
  refine held_loop (n := n) (hJ _ _ (ifN (by omega) h)) fun i hi ih => hJ _ _ (ifD (by omega) ⟨⟨by omega, by omega⟩, ⟨fits_fofint (by omega), rfl⟩, ifF ?_ ?_⟩)
  · rw [Int.toNat_natCast, marked_getD _ _ hi]
    unfold mcV
    have e1 := feq_mkF (k + i)
    unfold mkF at *
    simp only
    rw [e1, feq_self, fconv_notNaN one_notNaN]
    rfl
  · rw [wrap_succ (by omega), wrap_succ (by omega)]
    exact ih
end Go.K
