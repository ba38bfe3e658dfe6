/- A row is solved, in both programs. -/
import Derived.Test.YtajlojldbmfokaaLW
set_option linter.unusedSimpArgs false
set_option linter.unusedVariables false
set_option maxRecDepth 10000
set_option maxHeartbeats 4000000
namespace Go.K.melts
open Go.K Go

theorem tab_snoc {i v : Nat} {f : Nat → Nat} (h : v = f i) : tab i f ++ v :: List.replicate 0 0 = tab (i + 1) f := by
  rw [tab_succ, h]; rfl
section
variable {l : Nat → Nat} {s n : Nat}
theorem mid_false (h : 2 ≤ n) : ((tab n (fun _ => baseS s)).set 0 (farith .add .f32 1065353216 s)).set (n - 1) (farith .add .f32 1065353216 s) = tab n (midS s n false) := by
  rw [tab_set (by omega), tab_set (by omega)]
  refine tab_congr fun j hj => ?_
  unfold midS
  simp only [Bool.false_eq_true, if_false]
theorem mid_true (h : 2 ≤ n) : ((tab n (fun _ => baseS s)).set 0 (farith .add .f32 (baseS s) 1065353216)).set (n - 1) (farith .add .f32 (baseS s) (farith .mul .f32 s s)) = tab n (midS s n true) := by
  rw [tab_set (by omega), tab_set (by omega)]
  refine tab_congr fun j hj => ?_
  unfold midS
  simp only [if_true]
theorem end_tab (h : 2 ≤ n) : ((tab n (fun _ => 0)).set 0 3212836864).set (n - 1) (fneg .f32 s) = tab n (endS s n) := by
  rw [tab_set (by omega), tab_set (by omega)]
  rfl
theorem set_other {n i j a : Nat} {f : Nat → Nat} (hi : i < n) (hj : j < n) (h : j ≠ i) : ((tab n f).set i a).getD j 0 = f j := by
  rw [tab_set hi, tab_get hj, if_neg h]
theorem spec_row {r : Bool} (h1 : 2 ≤ n) (h2 : n ≤ 64) {K : List Nat → Prop} (hk : K (tab n (solS l s n r))) : spec_l03Row.wp (tab n l) s r K := by
  rw [spec_l03Row.eq, tab_length]
  intro J hJ
  have en : Go.IntKind.wrap .i64 ((n : Int) - 1) = ((n - 1 : Nat) : Int) := by rw [wrap64 (by omega) (by omega)]; omega
  refine down (Q := fun i => J (tab i (fun _ => baseS s)) (n : Int) (n : Int) (i : Int)) (n := n) (hJ _ _ _ _ (ifN (by omega) ?_)) (fun i hi ih => hJ _ _ _ _ (ifD (by omega) ?_)) 0 (Nat.zero_le _)
  · rw [en, show Int.toNat (0 : Int) = 0 from rfl, Int.toNat_natCast]
    cases r
    · refine ifT rfl ⟨⟨by omega, by rw [tab_length]; omega⟩, ⟨by omega, by rw [tab_length]; omega⟩, ?_⟩
      rw [mid_false h1]
      exact spec_sweep h1 h2 hk
    · refine ifF rfl ⟨⟨by omega, by rw [tab_length]; omega⟩, ⟨by omega, by rw [tab_length]; omega⟩, ⟨by omega, by rw [tab_length]; omega⟩, ⟨by omega, by rw [tab_length]; omega⟩, ?_⟩
      rw [set_other (by omega) (by omega) (by omega), tab_get (by omega), mid_true h1]
      refine spec_sweep h1 h2 ⟨⟨by omega, by omega, by omega⟩, ⟨by omega, by rw [Int.toNat_natCast, List.length_replicate]; omega⟩, ⟨by omega, by rw [Int.toNat_natCast, List.length_replicate]; omega⟩, ?_⟩
      rw [Int.toNat_natCast, tab_const n 0, end_tab h1]
      refine spec_sweep h1 h2 ?_
      simp only [tab_length]
      refine ⟨⟨by omega, by omega⟩, ⟨by omega, by omega⟩, ⟨by omega, by omega⟩, ⟨by omega, by omega⟩, ?_⟩
      rw [tab_get (by omega), tab_get (by omega), tab_get (by omega), tab_get (by omega)]
      intro J2 hJ2
      refine down (Q := fun i => J2 (tab n (xS l (midS s n true) s n)) (tab n (xS (endS s n) (midS s n true) s n)) (tab i (solS l s n true)) (byS l s n) (n : Int) (i : Int)) (n := n) (hJ2 _ _ _ _ _ _ (ifN (by omega) hk)) (fun i hi ih => hJ2 _ _ _ _ _ _ (ifD (by omega) ?_)) 0 (Nat.zero_le _)
      rw [Int.toNat_natCast, tab_get hi, tab_get hi, tab_snoc (f := solS l s n true) (i := i) (by unfold solS; rw [if_pos rfl]), tab_length, tab_length, tab_length, wrap_succ (by omega)]
      exact ⟨⟨by omega, by omega⟩, ⟨by omega, by omega⟩, by omega, ih⟩
  · have e : tab i (fun _ => baseS s) ++ farith .add .f32 (farith .add .f32 1065353216 s) s :: List.replicate 0 0 = tab (i + 1) (fun _ => baseS s) := tab_snoc (f := fun _ => baseS s) rfl
    rw [e, tab_length, wrap_succ (by omega)]
    exact ⟨by omega, ih⟩
/-- has a row enough numbers? -/
def longB (n : Nat) (r : Bool) : Bool := decide (2 ≤ n) && !(r && decide (n < 3))
theorem impl_solve {r : Bool} (h2 : n ≤ 64) {K : List Nat → Bool → Prop} (hk : K (if (longB n r && mass s) = true then tab n (solS l s n r) else []) (longB n r && mass s)) : impl_solved.wp (tab n l) s r K := by
  rw [impl_solved.eq, tab_length]
  refine impl_in ?_
  unfold longB at hk
  by_cases h1 : 2 ≤ n
  case neg =>
    rw [decide_eq_false h1, Bool.false_and, Bool.false_and, if_neg (by decide)] at hk
    have : inB (n : Int) 2 64 = false := by
      cases e : inB (n : Int) 2 64
      · rfl
      · rw [inB_iff] at e; omega
    rw [this]
    exact ifT rfl hk
  have : inB (n : Int) 2 64 = true := by rw [inB_iff]; omega
  rw [this]
  rw [decide_eq_true h1, Bool.true_and] at hk
  refine ifF rfl ?_
  have en : Go.IntKind.wrap .i64 ((n : Int) - 1) = ((n - 1 : Nat) : Int) := by rw [wrap64 (by omega) (by omega)]; omega
  cases r
  · rw [Bool.false_and, Bool.not_false, Bool.true_and] at hk
    refine ifF rfl (impl_mass ?_)
    cases hm : mass s
    · rw [hm, if_neg (by decide)] at hk; exact ifT rfl hk
    rw [hm, if_pos rfl] at hk
    refine ifF rfl ?_
    intro J hJ
    refine down (Q := fun i => J (tab i (fun _ => baseS s)) (n : Int) (n : Int) (i : Int)) (n := n) (hJ _ _ _ _ (ifN (by omega) ?_)) (fun i hi ih => hJ _ _ _ _ (ifD (by omega) ?_)) 0 (Nat.zero_le _)
    · rw [en, show Int.toNat (0 : Int) = 0 from rfl, Int.toNat_natCast]
      refine ifT rfl ⟨⟨by omega, by rw [tab_length]; omega⟩, ⟨by omega, by rw [tab_length]; omega⟩, ?_⟩
      rw [mid_false h1]
      exact impl_sweep h1 h2 hk
    · have e : tab i (fun _ => baseS s) ++ farith .add .f32 (farith .add .f32 1065353216 s) s :: List.replicate 0 0 = tab (i + 1) (fun _ => baseS s) := tab_snoc (f := fun _ => baseS s) rfl
      rw [e, tab_length, wrap_succ (by omega)]
      exact ⟨by omega, ih⟩
  · refine ifT rfl ?_
    by_cases h3 : n < 3
    · rw [decide_eq_true h3] at hk
      exact ifD (by omega) hk
    rw [decide_eq_false h3, Bool.and_false, Bool.not_false, Bool.true_and] at hk
    refine ifN (by omega) (impl_mass ?_)
    cases hm : mass s
    · rw [hm, if_neg (by decide)] at hk; exact ifT rfl hk
    rw [hm, if_pos rfl] at hk
    refine ifF rfl ?_
    intro J hJ
    refine down (Q := fun i => J (tab i (fun _ => baseS s)) (n : Int) (n : Int) (i : Int)) (n := n) (hJ _ _ _ _ (ifN (by omega) ?_)) (fun i hi ih => hJ _ _ _ _ (ifD (by omega) ?_)) 0 (Nat.zero_le _)
    · rw [en, show Int.toNat (0 : Int) = 0 from rfl, Int.toNat_natCast]
      refine ifF rfl ⟨⟨by omega, by rw [tab_length]; omega⟩, ⟨by omega, by rw [tab_length]; omega⟩, ⟨by omega, by rw [tab_length]; omega⟩, ⟨by omega, by rw [tab_length]; omega⟩, ?_⟩
      rw [tab_get (by omega), tab_get (by omega), mid_true h1]
      refine impl_sweep h1 h2 ⟨⟨by omega, by omega, by omega⟩, ⟨by omega, by rw [Int.toNat_natCast, List.length_replicate]; omega⟩, ⟨by omega, by rw [Int.toNat_natCast, List.length_replicate]; omega⟩, ?_⟩
      rw [Int.toNat_natCast, tab_const n 0, end_tab h1]
      refine impl_sweep h1 h2 ?_
      simp only [tab_length]
      refine ⟨⟨by omega, by omega⟩, ⟨by omega, by omega⟩, ⟨by omega, by omega⟩, ⟨by omega, by omega⟩, ?_⟩
      rw [tab_get (by omega), tab_get (by omega), tab_get (by omega), tab_get (by omega)]
      intro J2 hJ2
      have main := down (Q := fun i => J2 (tab n (fun j => if j < i then solS l s n true j else xS l (midS s n true) s n j)) (tab n (xS (endS s n) (midS s n true) s n)) (byS l s n) (n : Int) (i : Int)) (n := n) ?_ ?_ 0 (Nat.zero_le _)
      · have z : tab n (fun j => if j < 0 then solS l s n true j else xS l (midS s n true) s n j) = tab n (xS l (midS s n true) s n) := tab_congr fun j _ => if_neg (by omega)
        rw [z] at main
        exact main
      · have z : tab n (fun j => if j < n then solS l s n true j else xS l (midS s n true) s n j) = tab n (solS l s n true) := tab_congr fun j hj => if_pos hj
        rw [z]
        exact hJ2 _ _ _ _ _ (ifN (by omega) hk)
      · intro i hi ih
        refine hJ2 _ _ _ _ _ (ifD (by omega) ?_)
        rw [Int.toNat_natCast, pre_set (g := solS l s n true) hi (by rw [tab_get hi, tab_get hi, if_neg (by omega)]; unfold solS; rw [if_pos rfl]), tab_length, tab_length, wrap_succ (by omega)]
        exact ⟨⟨by omega, by omega⟩, ⟨by omega, by omega⟩, ⟨by omega, by omega⟩, ih⟩
    · have e : tab i (fun _ => baseS s) ++ farith .add .f32 (farith .add .f32 1065353216 s) s :: List.replicate 0 0 = tab (i + 1) (fun _ => baseS s) := tab_snoc (f := fun _ => baseS s) rfl
      rw [e, tab_length, wrap_succ (by omega)]
      exact ⟨by omega, ih⟩
def rowB (l : Nat → Nat) (s n : Nat) (r : Bool) : Bool := longB n r && mass s && ((tab n l).all (fin .f32) && (tab n (solS l s n r)).all (fin .f32))
theorem impl_row {r : Bool} (h2 : n ≤ 64) {K : List Nat → Bool → Prop} (hk : K (if rowB l s n r = true then tab n (solS l s n r) else []) (rowB l s n r)) : impl_SolveRow.wp (tab n l) s r K := by
  rw [impl_SolveRow.eq]
  refine impl_solve h2 ?_
  unfold rowB at hk
  cases hb : (longB n r && mass s)
  · rw [hb, Bool.false_and, if_neg (by decide)] at hk; exact ifT rfl hk
  rw [hb, Bool.true_and] at hk
  rw [if_pos rfl]
  refine ifF rfl (areFinite (by rw [tab_length]; omega) ?_)
  cases h1 : (tab n l).all (fin .f32)
  · rw [h1, Bool.false_and, if_neg (by decide)] at hk; exact ifT rfl hk
  rw [h1, Bool.true_and] at hk
  refine ifF rfl (areFinite (by rw [tab_length]; omega) ?_)
  cases h3 : (tab n (solS l s n r)).all (fin .f32)
  · rw [h3, if_neg (by decide)] at hk; exact ifT rfl hk
  rw [h3, if_pos rfl] at hk
  exact ifF rfl hk
end
end Go.K.melts
