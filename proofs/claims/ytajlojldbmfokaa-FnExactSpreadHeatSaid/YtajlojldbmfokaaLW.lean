/- Rows of equations, in both programs. -/
import Derived.Test.YtajlojldbmfokaaL2B
import Derived.Test.YtajlojldbmfokaaF18
set_option linter.unusedSimpArgs false
set_option linter.unusedVariables false
set_option maxRecDepth 10000
set_option maxHeartbeats 4000000
namespace Go.K.melts
open Go.K Go

theorem pre_set {n i v : Nat} {g z : Nat → Nat} (h : i < n) (hv : v = g i) : (tab n (fun j => if j < i then g j else z j)).set i v = tab n (fun j => if j < i + 1 then g j else z j) := by
  rw [tab_set h]
  refine tab_congr fun j hj => ?_
  by_cases e : j = i
  · subst e; rw [if_pos rfl, if_pos (by omega), hv]
  · rw [if_neg e]
    by_cases h2 : j < i
    · rw [if_pos h2, if_pos (by omega)]
    · rw [if_neg h2, if_neg (by omega)]
theorem suf_set {n i v : Nat} {g z : Nat → Nat} (h : i < n) (hv : v = g i) : (tab n (fun j => if i + 1 ≤ j then g j else z j)).set i v = tab n (fun j => if i ≤ j then g j else z j) := by
  rw [tab_set h]
  refine tab_congr fun j hj => ?_
  by_cases e : j = i
  · subst e; rw [if_pos rfl, if_pos (by omega), hv]
  · rw [if_neg e]
    by_cases h2 : i + 1 ≤ j
    · rw [if_pos h2, if_pos (by omega)]
    · rw [if_neg h2, if_neg (by omega)]
theorem set_get {n i a : Nat} {f : Nat → Nat} (h : i < n) : ((tab n f).set i a).getD i 0 = a := by
  rw [tab_set h, tab_get h, if_pos rfl]
section
variable {l mid : Nat → Nat} {s n : Nat}
theorem xS_last (h : 1 ≤ n) : xS l mid s n (n - 1) = dS l mid s (n - 1) := by
  unfold xS; rw [Nat.sub_self]; rfl
theorem xS_step {i : Nat} (h : i + 1 < n) : xS l mid s n i = farith .add .f32 (dS l mid s i) (farith .mul .f32 (cS mid s i) (xS l mid s n (i + 1))) := by
  unfold xS
  rw [show n - 1 - i = (n - 1 - (i + 1)) + 1 by omega]
  show farith .add .f32 (dS l mid s (n - 2 - (n - 1 - (i + 1)))) (farith .mul .f32 (cS mid s (n - 2 - (n - 1 - (i + 1)))) _) = _
  rw [show n - 2 - (n - 1 - (i + 1)) = i by omega]
theorem spec_sweep (h1 : 2 ≤ n) (h2 : n ≤ 64) {K : List Nat → Prop} (hk : K (tab n (xS l mid s n))) : spec_l03Sweep.wp (tab n l) (tab n mid) s K := by
  rw [spec_l03Sweep.eq]
  simp only [tab_length]
  refine ⟨⟨by omega, by omega, by omega⟩, ⟨by omega, by omega, by omega⟩, ?_⟩
  intro J hJ
  rw [Int.toNat_natCast, tab_const]
  have main := down (Q := fun i => J (tab n (fun j => if j < i then cS mid s j else 0)) (tab n (fun j => if j < i then dS l mid s j else 0)) (n : Int) (i : Int)) (n := n) ?_ ?_ 0 (Nat.zero_le _)
  · have z1 : tab n (fun j => if j < 0 then cS mid s j else 0) = tab n (fun _ => 0) := tab_congr fun j _ => if_neg (by omega)
    have z2 : tab n (fun j => if j < 0 then dS l mid s j else 0) = tab n (fun _ => 0) := tab_congr fun j _ => if_neg (by omega)
    rw [z1, z2] at main
    exact main
  · -- back
    have z1 : tab n (fun j => if j < n then cS mid s j else 0) = tab n (cS mid s) := tab_congr fun j hj => if_pos hj
    have z2 : tab n (fun j => if j < n then dS l mid s j else 0) = tab n (dS l mid s) := tab_congr fun j hj => if_pos hj
    rw [z1, z2]
    have en : Go.IntKind.wrap .i64 ((n : Int) - 1) = ((n - 1 : Nat) : Int) := by rw [wrap64 (by omega) (by omega)]; omega
    have en2 : Go.IntKind.wrap .i64 ((n : Int) - 2) = ((n - 2 : Nat) : Int) := by rw [wrap64 (by omega) (by omega)]; omega
    refine hJ _ _ _ _ (ifN (by omega) ⟨⟨by omega, by omega, by omega⟩, ?_⟩)
    rw [en, en2, tab_length, List.length_replicate]
    refine ⟨⟨by omega, by omega⟩, ⟨by omega, by omega⟩, ?_⟩
    intro J2 hJ2
    rw [Int.toNat_natCast, Int.toNat_natCast, tab_const, tab_get (by omega)]
    have back := down (Q := fun t => J2 (tab n (cS mid s)) (tab n (dS l mid s)) (tab n (fun j => if n - 1 - t ≤ j then xS l mid s n j else 0)) (((n - 2 : Nat) : Int) - (t : Int))) (n := n - 1) ?_ ?_ 0 (Nat.zero_le _)
    · have z3 : (tab n (fun _ => 0)).set (n - 1) (dS l mid s (n - 1)) = tab n (fun j => if n - 1 - 0 ≤ j then xS l mid s n j else 0) := by
        rw [tab_set (by omega)]
        refine tab_congr fun j hj => ?_
        by_cases e : j = n - 1
        · subst e; rw [if_pos rfl, if_pos (by omega), xS_last (by omega)]
        · rw [if_neg e, if_neg (by omega)]
      rw [z3]
      have e0 : ((n - 2 : Nat) : Int) - ((0 : Nat) : Int) = ((n - 2 : Nat) : Int) := by omega
      rw [e0] at back
      exact back
    · refine hJ2 _ _ _ _ (ifN (by omega) ?_)
      have z4 : tab n (fun j => if n - 1 - (n - 1) ≤ j then xS l mid s n j else 0) = tab n (xS l mid s n) := tab_congr fun j hj => if_pos (by omega)
      rw [z4]; exact hk
    · intro t ht ih
      obtain ⟨i, hi⟩ : ∃ i : Nat, ((n - 2 : Nat) : Int) - (t : Int) = (i : Int) := ⟨n - 2 - t, by omega⟩
      have e1 : ((n - 2 : Nat) : Int) - ((t + 1 : Nat) : Int) = (i : Int) - 1 := by omega
      have e2 : n - 1 - t = i + 1 := by omega
      have e3 : n - 1 - (t + 1) = i := by omega
      rw [e1, e3] at ih
      rw [hi, e2]
      have ew : Go.IntKind.wrap .i64 ((i : Int) + 1) = ((i + 1 : Nat) : Int) := wrap_succ (by omega)
      have ew2 : Go.IntKind.wrap .i64 ((i : Int) - 1) = (i : Int) - 1 := wrap64 (by omega) (by omega)
      refine hJ2 _ _ _ _ (ifD (by omega) ?_)
      rw [ew, ew2]
      simp only [tab_length, Int.toNat_natCast]
      refine ⟨⟨by omega, by omega⟩, ⟨by omega, by omega⟩, ⟨by omega, by omega⟩, ⟨by omega, by omega⟩, ?_⟩
      rw [suf_set (g := xS l mid s n) (by omega) (by rw [tab_get (by omega), tab_get (by omega), tab_get (by omega), if_pos (by omega)]; exact (xS_step (by omega)).symm)]
      exact ih
  · intro i hi ih
    refine hJ _ _ _ _ (ifD (by omega) ⟨⟨by omega, by omega⟩, ⟨by omega, by omega⟩, ?_⟩)
    intro J6 hJ6
    have step : ∀ w r : Nat, farith .quo .f32 s w = cS mid s i → farith .quo .f32 r w = dS l mid s i → J6 (tab n (fun j => if j < i then cS mid s j else 0)) (tab n (fun j => if j < i then dS l mid s j else 0)) (n : Int) (i : Int) w r := by
      intro w r hw hr
      refine hJ6 _ _ _ _ _ _ ?_
      simp only [tab_length, Int.toNat_natCast]
      refine ⟨⟨by omega, by omega⟩, ⟨by omega, by omega⟩, ?_⟩
      rw [pre_set hi hw, pre_set hi hr, wrap_succ (by omega)]
      exact ih
    by_cases h0 : i = 0
    · subst h0
      refine ifN (by omega) (step _ _ ?_ ?_)
      · rw [Int.toNat_natCast, tab_get hi]; rfl
      · rw [Int.toNat_natCast, tab_get hi, tab_get hi]; rfl
    · obtain ⟨k, rfl⟩ : ∃ k, i = k + 1 := ⟨i - 1, by omega⟩
      have ek : Go.IntKind.wrap .i64 (((k + 1 : Nat) : Int) - 1) = (k : Int) := by rw [wrap64 (by omega) (by omega)]; omega
      refine ifD (by omega) ?_
      rw [ek]
      simp only [tab_length, Int.toNat_natCast]
      refine ⟨⟨by omega, by omega⟩, ⟨by omega, by omega⟩, step _ _ ?_ ?_⟩
      · rw [tab_get hi, tab_get (by omega), if_pos (by omega)]; rfl
      · rw [tab_get hi, tab_get hi, tab_get (by omega), tab_get (by omega), if_pos (by omega), if_pos (by omega)]; rfl
theorem impl_sweep (h1 : 2 ≤ n) (h2 : n ≤ 64) {K : List Nat → Prop} (hk : K (tab n (xS l mid s n))) : impl_swept.wp (tab n l) (tab n mid) s K := by
  rw [impl_swept.eq]
  simp only [tab_length]
  refine ⟨⟨by omega, by omega, by omega⟩, ?_⟩
  rw [slices_Clone_float32_float32.eq]
  refine ⟨by rw [tab_length]; omega, by simp [tab_length]; omega, ?_⟩
  intro J hJ
  rw [Int.toNat_natCast, tab_const n 0]
  have main := down (Q := fun i => J (tab n (fun j => if j < i then dS l mid s j else l j)) (tab n (fun j => if j < i then cS mid s j else 0)) (n : Int) (i : Int)) (n := n) ?_ ?_ 0 (Nat.zero_le _)
  · have z1 : tab n (fun j => if j < 0 then cS mid s j else 0) = tab n (fun _ => 0) := tab_congr fun j _ => if_neg (by omega)
    have z2 : tab n (fun j => if j < 0 then dS l mid s j else l j) = tab n l := tab_congr fun j _ => if_neg (by omega)
    rw [z1, z2] at main
    exact main
  · have z1 : tab n (fun j => if j < n then cS mid s j else 0) = tab n (cS mid s) := tab_congr fun j hj => if_pos hj
    have z2 : tab n (fun j => if j < n then dS l mid s j else l j) = tab n (dS l mid s) := tab_congr fun j hj => if_pos hj
    rw [z1, z2]
    have en2 : Go.IntKind.wrap .i64 ((n : Int) - 2) = ((n - 2 : Nat) : Int) := by rw [wrap64 (by omega) (by omega)]; omega
    refine hJ _ _ _ _ (ifN (by omega) ?_)
    intro J2 hJ2
    rw [tab_length, en2]
    have back := down (Q := fun t => J2 (tab n (fun j => if n - 1 - t ≤ j then xS l mid s n j else dS l mid s j)) (tab n (cS mid s)) (((n - 2 : Nat) : Int) - (t : Int))) (n := n - 1) ?_ ?_ 0 (Nat.zero_le _)
    · have z3 : tab n (fun j => if n - 1 - 0 ≤ j then xS l mid s n j else dS l mid s j) = tab n (dS l mid s) := by
        refine tab_congr fun j hj => ?_
        by_cases e : j = n - 1
        · subst e; rw [if_pos (by omega), xS_last (by omega)]
        · rw [if_neg (by omega)]
      rw [z3] at back
      have e0 : ((n - 2 : Nat) : Int) - ((0 : Nat) : Int) = ((n - 2 : Nat) : Int) := by omega
      rw [e0] at back
      exact back
    · refine hJ2 _ _ _ (ifN (by omega) ?_)
      have z4 : tab n (fun j => if n - 1 - (n - 1) ≤ j then xS l mid s n j else dS l mid s j) = tab n (xS l mid s n) := tab_congr fun j hj => if_pos (by omega)
      rw [z4]; exact hk
    · intro t ht ih
      obtain ⟨i, hi⟩ : ∃ i : Nat, ((n - 2 : Nat) : Int) - (t : Int) = (i : Int) := ⟨n - 2 - t, by omega⟩
      have e1 : ((n - 2 : Nat) : Int) - ((t + 1 : Nat) : Int) = (i : Int) - 1 := by omega
      have e2 : n - 1 - t = i + 1 := by omega
      have e3 : n - 1 - (t + 1) = i := by omega
      rw [e1, e3] at ih
      rw [hi, e2]
      have ew : Go.IntKind.wrap .i64 ((i : Int) + 1) = ((i + 1 : Nat) : Int) := wrap_succ (by omega)
      have ew2 : Go.IntKind.wrap .i64 ((i : Int) - 1) = (i : Int) - 1 := wrap64 (by omega) (by omega)
      refine hJ2 _ _ _ (ifD (by omega) ?_)
      rw [ew, ew2]
      simp only [tab_length, Int.toNat_natCast]
      refine ⟨⟨by omega, by omega⟩, ⟨by omega, by omega⟩, ⟨by omega, by omega⟩, ⟨by omega, by omega⟩, ?_⟩
      rw [suf_set (g := xS l mid s n) (by omega) (by rw [tab_get (by omega), tab_get (by omega), tab_get (by omega), if_neg (by omega), if_pos (by omega)]; exact (xS_step (by omega)).symm)]
      exact ih
  · intro i hi ih
    refine hJ _ _ _ _ (ifD (by omega) ⟨⟨by omega, by omega⟩, ?_⟩)
    intro J7 hJ7
    have step : ∀ (x : List Nat) (w : Nat), x.length = n → farith .quo .f32 s w = cS mid s i → x.set i (farith .quo .f32 (x.getD i 0) w) = tab n (fun j => if j < i + 1 then dS l mid s j else l j) → J7 x (tab n (fun j => if j < i then cS mid s j else 0)) (i : Int) w (n : Int) (i : Int) := by
      intro x w hx hw hr
      refine hJ7 _ _ _ _ _ _ ?_
      simp only [tab_length, Int.toNat_natCast]
      refine ⟨⟨by omega, by omega⟩, ⟨by omega, by omega⟩, ⟨by omega, by omega⟩, ?_⟩
      rw [hr, pre_set hi hw, wrap_succ (by omega)]
      exact ih
    by_cases h0 : i = 0
    · subst h0
      refine ifN (by omega) (step _ _ (tab_length _ _) ?_ ?_)
      · rw [Int.toNat_natCast, tab_get hi]; rfl
      · refine pre_set (g := dS l mid s) (z := l) hi ?_
        rw [Int.toNat_natCast, tab_get hi, tab_get hi, if_neg (by omega)]; rfl
    · obtain ⟨k, rfl⟩ : ∃ k, i = k + 1 := ⟨i - 1, by omega⟩
      have ek : Go.IntKind.wrap .i64 (((k + 1 : Nat) : Int) - 1) = (k : Int) := by rw [wrap64 (by omega) (by omega)]; omega
      refine ifD (by omega) ?_
      rw [ek]
      simp only [tab_length, Int.toNat_natCast]
      refine ⟨⟨by omega, by omega⟩, ⟨by omega, by omega⟩, ⟨by omega, by omega⟩, ⟨by omega, by omega⟩, step _ _ (by rw [List.length_set, tab_length]) ?_ ?_⟩
      · rw [tab_get hi, tab_get (by omega), if_pos (by omega)]; rfl
      · rw [set_get hi, List.set_set]
        refine pre_set (g := dS l mid s) (z := l) hi ?_
        rw [tab_get hi, tab_get hi, tab_get (by omega), tab_get (by omega), if_neg (by omega), if_pos (by omega), if_pos (by omega)]; rfl
end
end Go.K.melts
