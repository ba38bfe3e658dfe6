/- New flakes; how far ice reaches. -/
import Derived.Test.YtnhijhkdbpknjaaL2
set_option linter.unusedSimpArgs false
set_option linter.unusedVariables false
set_option maxRecDepth 10000
namespace Go.K.flakes
open Go.K Go

def newG (n b x y : Nat) : Nat := if x = n / 2 ∧ y = n / 2 then 1065353216 else b
def newOk (s : Int) (b : Nat) : Bool := decide (3 ≤ s) && (decide (s ≤ 16) && fin .f32 b)
def newR (s : Int) (b : Nat) : List Nat := if newOk s b = true then gridL s.toNat (newG s.toNat b) else []
def newS (s : Int) (b : Nat) : Int := if newOk s b = true then s else 0
theorem new_nat {s : Int} {b : Nat} (h : newOk s b = true) : ∃ n : Nat, s = (n : Int) ∧ 3 ≤ n ∧ n ≤ 16 ∧ n * n ≤ 256 ∧ fin .f32 b = true := by
  simp only [newOk, Bool.and_eq_true, decide_eq_true_eq] at h
  obtain ⟨h1, h2, h3⟩ := h
  obtain ⟨n, rfl⟩ : ∃ n : Nat, s = (n : Int) := ⟨s.toNat, by omega⟩
  have hn : n ≤ 16 := by omega
  exact ⟨n, rfl, by omega, hn, Nat.mul_le_mul hn hn, h3⟩
theorem half_wrap {n : Nat} (h : n ≤ 16) : Go.IntKind.wrap .i64 (Int.tdiv (n : Int) 2) = ((n / 2 : Nat) : Int) := by
  rw [show (2 : Int) = ((2 : Nat) : Int) from rfl, tdiv_nat, wrap_nat (by omega)]
theorem fin_one : fin .f32 1065353216 = true := by decide

theorem impl_New {s : Int} {b : Nat} {K : List Nat → Int → Bool → Prop} (h : K (newR s b) (newS s b) (newOk s b)) : impl_NewFlake.wp s b K := by
  rw [impl_NewFlake.eq, impl_within.eq]
  unfold newR newS at h
  by_cases h1 : 3 ≤ s
  · refine ifD h1 ?_
    by_cases h2 : s ≤ 16
    · rw [decide_eq_true h2]
      refine ifF rfl (impl_fin ?_)
      cases hf : fin .f32 b
      · have hv : newOk s b = false := by simp [newOk, hf]
        rw [hv] at h; exact ifT rfl h
      · have hv : newOk s b = true := by simp [newOk, hf, h1, h2]
        rw [hv] at h
        refine ifF rfl ?_
        obtain ⟨n, rfl, h3, h16, hnn, _⟩ := new_nat hv
        have e : impl_frozen__NewFlake_1.wp (n : Int) b (n : Int) K = frozenT (fun x y K => impl_NewFlake_1.wp (n : Int) b x y K) impl_ValidFlake.wp (n : Int) K := impl_frozen__NewFlake_1.eq _ _ _ _
        show impl_frozen__NewFlake_1.wp (n : Int) b (n : Int) K
        rw [e]
        refine frozen_ok (g := newG n b) h3 h16 (fun x y K' hx hy hk => ?_) (fun x y hx hy => ?_) h
        · rw [impl_NewFlake_1.eq, half_wrap h16]
          unfold newG at hk
          by_cases e1 : x = n / 2
          · refine ifT (by simp [e1]) ?_
            by_cases e2 : y = n / 2
            · rw [if_pos ⟨e1, e2⟩] at hk; exact ifT (by simp [e2]) hk
            · rw [if_neg (fun hc => e2 hc.2)] at hk; exact ifF (by simp; omega) hk
          · rw [if_neg (fun hc => e1 hc.1)] at hk; exact ifF (by simp; omega) hk
        · unfold newG; split
          · exact fin_one
          · exact hf
    · rw [decide_eq_false h2]
      have hv : newOk s b = false := by simp [newOk, h2]
      rw [hv] at h; exact ifT rfl h
  · have hv : newOk s b = false := by simp [newOk, h1]
    rw [hv] at h; exact ifN h1 (ifT rfl h)

theorem new_list {n b : Nat} (h0 : 0 < n) : (List.replicate (n * n) b).set (n / 2 + n * (n / 2)) 1065353216 = gridL n (newG n b) := by
  apply List.ext_getElem
  · simp [gridL]
  · intro i h1 h2
    simp only [List.length_set, List.length_replicate] at h1
    simp only [gridL, List.getElem_map, List.getElem_range, List.getElem_set, List.getElem_replicate, newG]
    have hd : i % n + n * (i / n) = i := Nat.mod_add_div i n
    by_cases hi : n / 2 + n * (n / 2) = i
    · obtain ⟨e1, e2⟩ := grid_at (n := n) (x := n / 2) (y := n / 2) (Nat.div_lt_self h0 (by decide))
      rw [hi] at e1 e2
      rw [if_pos hi, if_pos ⟨e1, e2⟩]
    · rw [if_neg hi, if_neg]
      intro hc
      rw [hc.1, hc.2] at hd
      exact hi hd
theorem spec_New {s : Int} {b : Nat} {K : List Nat → Int → Bool → Prop} (h : K (newR s b) (newS s b) (newOk s b)) : spec_NewFlake.wp s b K := by
  rw [spec_NewFlake.eq, spec_l00In.eq]
  unfold newR newS at h
  by_cases h1 : 3 ≤ s
  · refine ifD h1 ?_
    by_cases h2 : s ≤ 16
    · rw [decide_eq_true h2]
      refine ifF rfl (spec_fin ?_)
      cases hf : fin .f32 b
      · have hv : newOk s b = false := by simp [newOk, hf]
        rw [hv] at h; exact ifT rfl h
      · have hv : newOk s b = true := by simp [newOk, hf, h1, h2]
        rw [hv] at h
        refine ifF rfl ?_
        obtain ⟨n, rfl, h3, h16, hnn, _⟩ := new_nat hv
        rw [spec_l06New.eq]
        have enn : Go.IntKind.wrap .i64 ((n : Int) * (n : Int)) = ((n * n : Nat) : Int) := by rw [← Int.natCast_mul, wrap_nat (by omega)]
        intro J hJ
        refine down (Q := fun i => J 0 (n : Int) [] (List.replicate i b) (i : Int)) (n := n * n) (hJ _ _ _ _ _ ?_) (fun i hi ih => hJ _ _ _ _ _ ?_) 0 (Nat.zero_le _)
        · rw [enn]
          refine ifN (by omega) ?_
          rw [spec_l06Middle.eq, half_wrap h16]
          have hm : n / 2 + n * (n / 2) < n * n := nn_lt (Nat.div_lt_self (by omega) (by decide)) (Nat.div_lt_self (by omega) (by decide))
          have e1 : Go.IntKind.wrap .i64 ((n : Int) * ((n / 2 : Nat) : Int)) = ((n * (n / 2) : Nat) : Int) := by rw [← Int.natCast_mul, wrap_nat (by omega)]
          have e2 : Go.IntKind.wrap .i64 (((n / 2 : Nat) : Int) + ((n * (n / 2) : Nat) : Int)) = ((n / 2 + n * (n / 2) : Nat) : Int) := by rw [← Int.natCast_add, wrap_nat (by omega)]
          rw [e1, e2, Int.toNat_natCast, List.length_replicate, new_list (by omega)]
          exact ⟨⟨by omega, by omega⟩, h⟩
        · rw [enn]
          refine ifD (by omega) ?_
          have er : List.replicate i b ++ b :: List.replicate 0 0 = List.replicate (i + 1) b := by
            rw [List.replicate_succ']; rfl
          rw [er, wrap_succ (by omega), List.length_replicate]
          exact ⟨by omega, ih⟩
    · rw [decide_eq_false h2]
      have hv : newOk s b = false := by simp [newOk, h2]
      rw [hv] at h; exact ifT rfl h
  · have hv : newOk s b = false := by simp [newOk, h1]
    rw [hv] at h; exact ifN h1 (ifT rfl h)
theorem newR_length (s : Int) (b : Nat) : (newR s b).length ≤ 1099511627776 := by
  unfold newR
  split
  · rename_i hv
    obtain ⟨n, rfl, h3, h16, hnn, _⟩ := new_nat hv
    rw [gridL_length, Int.toNat_natCast]; omega
  · simp
theorem new_law {s : Int} {b : Nat} {K : Bool → Prop} (h : K true) : laws_FnExactNewFlake.wp s b K := by
  rw [laws_FnExactNewFlake.eq]
  have hr := newR_length s b
  refine spec_New (impl_New (eqFlake_self hr (ifF rfl (ifF (by simp) ?_))))
  refine markFlake_ok (k := 1) hr (by decide) (heldFlake_ok (k := 1) hr (by decide) (ifN (by omega) (ifF (by simp) ?_)))
  refine impl_New (eqFlake_self hr (ifF rfl (ifF (by simp) ?_)))
  exact heldFlake_ok (k := 1) hr (by decide) (ifN (by omega) (ifF (by simp) h))

/-! ### how far ice reaches -/
def dist (a b c : Nat) : Int :=
  max (max ((a : Int) - c) (0 - ((a : Int) - c))) (max (max ((b : Int) - c) (0 - ((b : Int) - c))) (max (((a : Int) - c) + ((b : Int) - c)) (0 - ((a : Int) - c) - ((b : Int) - c))))
def zdist (n : Nat) (z : Int) : Int := dist (z.toNat % n) (z.toNat / n) (n / 2)
def reachU (n : Nat) (L : List Int) (i : Nat) : Int := (L.take i).foldl (fun m z => max m (zdist n z)) (-1)
theorem reachU_succ {n : Nat} {L : List Int} {i : Nat} (h : i < L.length) : reachU n L (i + 1) = max (reachU n L i) (zdist n (L.getD i 0)) := by
  have e : L.getD i 0 = L[i] := by simp [List.getD, h]
  unfold reachU
  rw [List.take_succ_eq_append_getElem h, List.foldl_append, e]; rfl
theorem zdist_nonneg (n : Nat) (z : Int) : 0 ≤ zdist n z := by unfold zdist dist; omega
theorem reachU_ge (n : Nat) (L : List Int) : ∀ i, i ≤ L.length → -1 ≤ reachU n L i ∧ (0 < i → 0 ≤ reachU n L i)
  | 0, _ => ⟨by simp [reachU], by omega⟩
  | i + 1, h => by
    have := zdist_nonneg n (L.getD i 0)
    rw [reachU_succ (by omega)]
    exact ⟨by omega, fun _ => by omega⟩
theorem max_ok {a b : Int} {K : Int → Prop} (h : K (max a b)) : spec_l00Max.wp a b K := by
  rw [spec_l00Max.eq]
  by_cases hb : a > b
  · rw [show max a b = a by omega] at h; exact ifD hb h
  · rw [show max a b = b by omega] at h; exact ifN hb h
def reachR (l : List Nat) (s : Int) : Int := if validF l s = true then (if (iceL l).length = 0 then 0 else reachU s.toNat (iceL l) (iceL l).length) else 0
def reachB (l : List Nat) (s : Int) : Bool := validF l s && !decide ((iceL l).length = 0)
theorem ice_get {l : List Nat} {i : Nat} (h : i < (iceL l).length) : ∃ j : Nat, (iceL l).getD i 0 = (j : Int) ∧ j < l.length := by
  have e : (iceL l).getD i 0 = (iceL l)[i] := by simp [List.getD, h]
  obtain ⟨j, h1, h2, _⟩ := places_mem (List.getElem_mem h)
  exact ⟨j, by rw [e]; exact h1, h2⟩
theorem spec_Reach {l : List Nat} {s : Int} {K : Int → Bool → Prop} (hl : l.length ≤ 1099511627776) (h : K (reachR l s) (reachB l s)) : spec_ReachOfFlake.wp l s K := by
  rw [spec_ReachOfFlake.eq]
  refine spec_is hl ?_
  unfold reachR reachB at h
  cases hv : validF l s
  · rw [hv] at h; exact ifT rfl h
  · rw [hv] at h
    refine ifF rfl (spec_ice hl ?_)
    obtain ⟨n, rfl, h3, h16, hnn, hlen, hall⟩ := valid_nat hv
    have hil : (iceL l).length ≤ 256 := by have := places_length (isIce l) l.length; unfold iceL; omega
    intro J hJ
    refine down (Q := fun i => J (n : Int) (iceL l) (reachU n (iceL l) i) (i : Int)) (n := (iceL l).length) (hJ _ _ _ _ (ifN (by omega) ?_)) (fun i hi ih => hJ _ _ _ _ (ifD (by omega) ⟨⟨by omega, by omega⟩, by omega, ⟨by omega, by omega⟩, by omega, ?_⟩)) 0 (Nat.zero_le _)
    · have hge := reachU_ge n (iceL l) (iceL l).length (Nat.le_refl _)
      by_cases h0 : (iceL l).length = 0
      · have e : reachU n (iceL l) (iceL l).length = -1 := by rw [h0]; rfl
        rw [e]
        simp only [h0, if_true, decide_true, Bool.not_true, Bool.and_false] at h
        exact ifD (by decide) h
      · have := hge.2 (by omega)
        simp only [h0, if_false, if_true, decide_false, Bool.not_false, Bool.and_true, Int.toNat_natCast] at h
        exact ifN (by omega) h
    · obtain ⟨j, ej, hj⟩ := ice_get hi
      rw [reachU_succ hi, ej] at ih
      unfold zdist at ih
      rw [Int.toNat_natCast, ej, half_wrap h16, tdiv_nat, tmod_nat]
      rw [Int.toNat_natCast] at ih
      have hm : j % n < n := Nat.mod_lt _ (by omega)
      have hd : j / n < n := Nat.div_lt_of_lt_mul (by omega)
      generalize j % n = a at *
      generalize j / n = b at *
      generalize hc : n / 2 = c at *
      have hc' : c ≤ 16 := by omega
      have eb : Go.IntKind.wrap .i64 (b : Int) = b := wrap_nat (by omega)
      have e1 : Go.IntKind.wrap .i64 ((a : Int) - c) = (a : Int) - c := wrap64 (by omega) (by omega)
      have e2 : Go.IntKind.wrap .i64 ((b : Int) - c) = (b : Int) - c := wrap64 (by omega) (by omega)
      have e3 : Go.IntKind.wrap .i64 (0 - ((a : Int) - c)) = 0 - ((a : Int) - c) := wrap64 (by omega) (by omega)
      have e4 : Go.IntKind.wrap .i64 (0 - ((b : Int) - c)) = 0 - ((b : Int) - c) := wrap64 (by omega) (by omega)
      have e5 : Go.IntKind.wrap .i64 ((a : Int) - c + ((b : Int) - c)) = (a : Int) - c + ((b : Int) - c) := wrap64 (by omega) (by omega)
      have e6 : Go.IntKind.wrap .i64 (0 - ((a : Int) - c) - ((b : Int) - c)) = 0 - ((a : Int) - c) - ((b : Int) - c) := wrap64 (by omega) (by omega)
      rw [eb, e1, e2, e3, e4, e5, e6, wrap_succ (by omega)]
      exact max_ok (max_ok (max_ok (max_ok (max_ok (max_ok ih)))))
theorem impl_Reach {l : List Nat} {s : Int} {K : Int → Bool → Prop} (hl : l.length ≤ 1099511627776) (h : K (reachR l s) (reachB l s)) : impl_ReachOfFlake.wp l s K := by
  rw [impl_ReachOfFlake.eq]
  refine impl_is hl ?_
  unfold reachR reachB at h
  cases hv : validF l s
  · rw [hv] at h; exact ifT rfl h
  · rw [hv] at h
    refine ifF rfl (impl_ice hl ?_)
    obtain ⟨n, rfl, h3, h16, hnn, hlen, hall⟩ := valid_nat hv
    have hil : (iceL l).length ≤ 256 := by have := places_length (isIce l) l.length; unfold iceL; omega
    by_cases h0 : (iceL l).length = 0
    · simp only [h0, if_true, decide_true, Bool.not_true, Bool.and_false] at h
      exact ifT (by simp [h0]) h
    · simp only [h0, if_false, if_true, decide_false, Bool.not_false, Bool.and_true, Int.toNat_natCast] at h
      refine ifF (by rw [beq_eq_false_iff_ne]; omega) (impl_ice hl ?_)
      intro J hJ
      refine down (Q := fun i => J (n : Int) (iceL l) (max 0 (reachU n (iceL l) i)) ((iceL l).length : Int) (i : Int)) (n := (iceL l).length) (hJ _ _ _ _ _ (ifN (by omega) ?_)) (fun i hi ih => hJ _ _ _ _ _ (ifD (by omega) ⟨⟨by omega, by omega⟩, by omega, by omega, ?_⟩)) 0 (Nat.zero_le _)
      · have := (reachU_ge n (iceL l) (iceL l).length (Nat.le_refl _)).2 (by omega)
        rw [show max 0 (reachU n (iceL l) (iceL l).length) = reachU n (iceL l) (iceL l).length by omega]
        exact h
      · obtain ⟨j, ej, hj⟩ := ice_get hi
        rw [reachU_succ hi, ej] at ih
        unfold zdist at ih
        rw [Int.toNat_natCast, ej, half_wrap h16, tdiv_nat, tmod_nat]
        rw [Int.toNat_natCast] at ih
        have hm : j % n < n := Nat.mod_lt _ (by omega)
        have hd : j / n < n := Nat.div_lt_of_lt_mul (by omega)
        generalize j % n = a at *
        generalize j / n = b at *
        generalize hc : n / 2 = c at *
        have hc' : c ≤ 16 := by omega
        have eb : Go.IntKind.wrap .i64 (b : Int) = b := wrap_nat (by omega)
        have e1 : Go.IntKind.wrap .i64 ((a : Int) - c) = (a : Int) - c := wrap64 (by omega) (by omega)
        have e2 : Go.IntKind.wrap .i64 ((b : Int) - c) = (b : Int) - c := wrap64 (by omega) (by omega)
        have e3 : Go.IntKind.wrap .i64 (0 - ((a : Int) - c)) = 0 - ((a : Int) - c) := wrap64 (by omega) (by omega)
        have e4 : Go.IntKind.wrap .i64 (0 - ((b : Int) - c)) = 0 - ((b : Int) - c) := wrap64 (by omega) (by omega)
        have e5 : Go.IntKind.wrap .i64 ((a : Int) - c + ((b : Int) - c)) = (a : Int) - c + ((b : Int) - c) := wrap64 (by omega) (by omega)
        have e6 : Go.IntKind.wrap .i64 (0 - ((a : Int) - c) - ((b : Int) - c)) = 0 - ((a : Int) - c) - ((b : Int) - c) := wrap64 (by omega) (by omega)
        rw [eb, e1, e2, e3, e4, e5, e6, wrap_succ (by omega)]
        have em : ∀ r : Int, mmI true (mmI true (mmI true (mmI true (mmI true (mmI true (max 0 r) ((a : Int) - c)) (0 - ((a : Int) - c))) ((b : Int) - c)) (0 - ((b : Int) - c))) ((a : Int) - c + ((b : Int) - c))) (0 - ((a : Int) - c) - ((b : Int) - c)) = max 0 (max r (dist a b c)) := by
          intro r
          have mm : ∀ x y : Int, mmI true x y = max x y := by
            intro x y; show maxI x y = max x y; unfold maxI; split <;> omega
          simp only [mm, dist, Int.max_assoc]
        rw [em]
        exact ih
theorem reach_law {l : List Nat} {s : Int} {K : Bool → Prop} (hl : l.length ≤ 9223372036854775807) (h : K true) : laws_FnExactReachOfFlake.wp l s K := by
  rw [laws_FnExactReachOfFlake.eq]
  refine szFlake_ok (m := 1048576) hl (by decide) (fun _ => ifD (by decide) h) fun hlen => ifN (by omega) ?_
  have hl : l.length ≤ 1099511627776 := by omega
  exact toFlake_ok hl (spec_Reach hl (toFlake_ok hl (impl_Reach hl (ifF (by simp) (ifF (by simp) (toFlake_ok hl (eqFlake_self hl (ifF rfl h))))))))
end Go.K.flakes
