/- Bonds, steps and atoms; hops. -/
import Derived.Test.YtcmbpondkipbkaaLHc
import Derived.Test.YtcmbpondkipbkaaLHd
set_option linter.unusedSimpArgs false
set_option linter.unusedVariables false
set_option maxRecDepth 10000
set_option maxHeartbeats 4000000
namespace Go.K.heights
open Go.K Go
attribute [local irreducible] spec_l00Src_pick.wp spec_l00Src_next.wp laws_b10At.wp laws_b10Long.wp spec_B10Heights.wp spec_l05DrawOk.wp spec_B10Seed.wp impl_Heights_atoms.wp impl_AtomsIn.wp impl_ValidHeights.wp impl_HopTo.wp impl_HopSome.wp impl_BondsIn.wp impl_StepsIn.wp impl_Heights_bonds.wp impl_Heights_cell.wp impl_Heights_top.wp impl_Heights_cloned.wp impl_use.wp impl_areWithin.wp impl_within.wp impl_isSeed.wp

section
variable {l : List Int} {W H : Nat}
/-- the neighbours to the right and below -/
def rtV (l : List Int) (W H i : Nat) : Int := l.getD (cellN W H (((i % W : Nat) : Int) + 1) ((i / W : Nat) : Int)) 0
def blV (l : List Int) (W H i : Nat) : Int := l.getD (cellN W H ((i % W : Nat) : Int) (((i / W : Nat) : Int) + 1)) 0
def bondP (l : List Int) (W H i : Nat) : Int := min (l.getD i 0) (rtV l W H i) + min (l.getD i 0) (blV l W H i)
def stepP (l : List Int) (W H i : Nat) : Int := max (l.getD i 0 - rtV l W H i) (rtV l W H i - l.getD i 0) + max (l.getD i 0 - blV l W H i) (blV l W H i - l.getD i 0)
def bondS (l : List Int) (W H : Nat) : Int := sumN (bondP l W H) (W * H)
def stepS (l : List Int) (W H : Nat) : Int := sumN (stepP l W H) (W * H)
def Tops (l : List Int) : Prop := ∀ i, 0 ≤ l.getD i 0 ∧ l.getD i 0 ≤ 1000
theorem bondP_le (ht : Tops l) (i : Nat) : 0 ≤ bondP l W H i ∧ bondP l W H i ≤ 2000 := by
  have a := ht i
  have b := ht (cellN W H (((i % W : Nat) : Int) + 1) ((i / W : Nat) : Int))
  have c := ht (cellN W H ((i % W : Nat) : Int) (((i / W : Nat) : Int) + 1))
  unfold bondP rtV blV
  omega
theorem stepP_le (ht : Tops l) (i : Nat) : 0 ≤ stepP l W H i ∧ stepP l W H i ≤ 2000 := by
  have a := ht i
  have b := ht (cellN W H (((i % W : Nat) : Int) + 1) ((i / W : Nat) : Int))
  have c := ht (cellN W H ((i % W : Nat) : Int) (((i / W : Nat) : Int) + 1))
  unfold stepP rtV blV
  omega
theorem sumU_eq (ht : Tops l) : ∀ i : Nat, i ≤ 256 → sumU l W H i = sumN (bondP l W H) i
  | 0, _ => rfl
  | i + 1, hi => by
    have h1 := sumN_bound (f := bondP l W H) (a := 0) (b := 2000) (n := i + 1) fun i _ => bondP_le ht i
    have h2 := bondP_le (W := W) (H := H) ht i
    have e : pairI l W H i = bondP l W H i := by
      unfold pairI
      show Go.IntKind.wrap .i64 (bondP l W H i) = _
      rw [wrap64 (by omega) (by omega)]
    have e2 : sumU l W H (i + 1) = Go.IntKind.wrap .i64 (sumU l W H i + pairI l W H i) := rfl
    rw [e2, e, sumU_eq ht i (by omega)]
    show Go.IntKind.wrap .i64 (sumN (bondP l W H) (i + 1)) = sumN (bondP l W H) (i + 1)
    rw [wrap64 (by omega) (by omega)]
theorem bondsL_eq (ht : Tops l) (hwh : W * H ≤ 256) : bondsL l W H = bondS l W H := sumU_eq ht _ hwh
theorem bondS_le (ht : Tops l) (hwh : W * H ≤ 256) : 0 ≤ bondS l W H ∧ bondS l W H ≤ 512000 := by
  have h1 := sumN_bound (f := bondP l W H) (a := 0) (b := 2000) (n := W * H) fun i _ => bondP_le ht i
  unfold bondS
  omega
theorem stepS_le (ht : Tops l) (hwh : W * H ≤ 256) : 0 ≤ stepS l W H ∧ stepS l W H ≤ 512000 := by
  have h1 := sumN_bound (f := stepP l W H) (a := 0) (b := 2000) (n := W * H) fun i _ => stepP_le ht i
  unfold stepS
  omega
theorem sumL_le (ht : Tops l) (hl : l.length ≤ 256) : 0 ≤ sumL l ∧ sumL l ≤ 256000 := by
  have h1 := sumN_bound (f := fun i => l.getD i 0) (a := 0) (b := 1000) (n := l.length) fun i _ => ht i
  unfold sumL
  omega
/-- twice the bonds and the steps are four times the atoms -/
theorem four_atoms (hW : 0 < W) (hH : 0 < H) (hl : l.length = W * H) : 2 * bondS l W H + stepS l W H = 4 * sumL l := by
  have e1 := sumN_right (W := W) (H := H) hW (fun i => l.getD i 0)
  have e2 := sumN_below (W := W) (H := H) hW hH (fun i => l.getD i 0)
  have key : ∀ n, 2 * sumN (bondP l W H) n + sumN (stepP l W H) n = 2 * sumN (fun i => l.getD i 0) n + (sumN (rtV l W H) n + sumN (blV l W H) n) := by
    intro n
    induction n with
    | zero => rfl
    | succ n ih =>
      show 2 * (sumN (bondP l W H) n + bondP l W H n) + (sumN (stepP l W H) n + stepP l W H n) = 2 * (sumN (fun i => l.getD i 0) n + l.getD n 0) + (sumN (rtV l W H) n + rtV l W H n + (sumN (blV l W H) n + blV l W H n))
      have : 2 * bondP l W H n + stepP l W H n = 2 * l.getD n 0 + (rtV l W H n + blV l W H n) := by
        unfold bondP stepP
        generalize rtV l W H n = a
        generalize blV l W H n = b
        omega
      omega
  have e1' : sumN (rtV l W H) (W * H) = sumN (fun i => l.getD i 0) (W * H) := e1
  have e2' : sumN (blV l W H) (W * H) = sumN (fun i => l.getD i 0) (W * H) := e2
  have k := key (W * H)
  unfold bondS stepS sumL
  rw [hl]
  omega
theorem impl_BondsIn_ok (hv : validH l W H = true) {K : Int → Bool → Prop} (hk : K (bondS l W H) true) : impl_BondsIn.wp l (W : Int) (H : Int) K := by
  obtain ⟨W', H', e1, e2, w2, w16, h2, h16, wh, len⟩ := valid_nat hv
  have e1 : W = W' := by omega
  have e2 : H = H' := by omega
  subst e1 e2
  rw [impl_BondsIn.eq]
  refine impl_is (by omega) ?_
  rw [hv]
  refine ifF rfl (impl_bonds w2 w16 h2 h16 len ?_)
  rw [bondsL_eq (valid_top hv) wh]
  exact hk
theorem impl_StepsIn_ok (hv : validH l W H = true) {K : Int → Bool → Prop} (hk : K (stepS l W H) true) : impl_StepsIn.wp l (W : Int) (H : Int) K := by
  obtain ⟨W', H', e1, e2, w2, w16, h2, h16, wh, len⟩ := valid_nat hv
  have e1 : W = W' := by omega
  have e2 : H = H' := by omega
  subst e1 e2
  have ht : Tops l := valid_top hv
  rw [impl_StepsIn.eq]
  refine impl_is (by omega) ?_
  rw [hv]
  refine ifF rfl ?_
  rw [impl_Heights_pairs__StepsIn_1.eq, len]
  intro J hJ
  refine down (Q := fun i => J (W : Int) (H : Int) (sumN (stepP l W H) i) ((W * H : Nat) : Int) (i : Int)) (n := W * H) (hJ _ _ _ _ _ (ifN (by omega) hk)) (fun i hi ih => hJ _ _ _ _ _ (ifD (by omega) ⟨⟨by omega, by omega⟩, by omega, by omega, ?_⟩)) 0 (Nat.zero_le _)
  have hx : i % W < W := Nat.mod_lt _ (by omega)
  have hy : i / W < H := Nat.div_lt_of_lt_mul hi
  have c1 := cell_lt (W := W) (H := H) (by omega) (by omega) (((i % W : Nat) : Int) + 1) ((i / W : Nat) : Int)
  have c2 := cell_lt (W := W) (H := H) (by omega) (by omega) ((i % W : Nat) : Int) (((i / W : Nat) : Int) + 1)
  have b1 := sumN_bound (f := stepP l W H) (a := 0) (b := 2000) (n := i + 1) fun i _ => stepP_le ht i
  have b2 := stepP_le (W := W) (H := H) ht i
  have mm : ∀ x y : Int, mmI true x y = max x y := by
    intro x y; show maxI x y = max x y; unfold maxI; split <;> omega
  have es : sumN (stepP l W H) (i + 1) = sumN (stepP l W H) i + (max (l.getD i 0 - l.getD (cellN W H (((i % W : Nat) : Int) + 1) ((i / W : Nat) : Int)) 0) (l.getD (cellN W H (((i % W : Nat) : Int) + 1) ((i / W : Nat) : Int)) 0 - l.getD i 0) + max (l.getD i 0 - l.getD (cellN W H ((i % W : Nat) : Int) (((i / W : Nat) : Int) + 1)) 0) (l.getD (cellN W H ((i % W : Nat) : Int) (((i / W : Nat) : Int) + 1)) 0 - l.getD i 0)) := rfl
  have d0 := ht i
  have d1 := ht (cellN W H (((i % W : Nat) : Int) + 1) ((i / W : Nat) : Int))
  have d2 := ht (cellN W H ((i % W : Nat) : Int) (((i / W : Nat) : Int) + 1))
  rw [es] at b1 ih
  clear b2 es
  generalize sumN (stepP l W H) i = S at *
  rw [tmod_nat, tdiv_nat, Int.toNat_natCast]
  generalize i % W = p at *
  generalize i / W = q at *
  have a1 : Go.IntKind.wrap .i64 ((p : Int) + 1) = (p : Int) + 1 := wrap64 (by omega) (by omega)
  have a2 : Go.IntKind.wrap .i64 (q : Int) = (q : Int) := wrap_nat (by omega)
  have a3 : Go.IntKind.wrap .i64 ((q : Int) + 1) = (q : Int) + 1 := wrap64 (by omega) (by omega)
  rw [a1, a2, a3, impl_Heights_top.eq]
  refine impl_cell w2 w16 h2 h16 ⟨by omega, by omega⟩ ⟨by omega, by omega⟩ ⟨⟨by omega, by omega⟩, ?_⟩
  rw [impl_StepsIn_1.eq, impl_Heights_top.eq]
  refine impl_cell w2 w16 h2 h16 ⟨by omega, by omega⟩ ⟨by omega, by omega⟩ ⟨⟨by omega, by omega⟩, ?_⟩
  rw [impl_StepsIn_1.eq, mm, mm, Int.toNat_natCast, Int.toNat_natCast, wrap_succ (by omega)]
  generalize l.getD i 0 = t0 at *
  generalize l.getD (cellN W H ((p : Int) + 1) (q : Int)) 0 = t1 at *
  generalize l.getD (cellN W H (p : Int) ((q : Int) + 1)) 0 = t2 at *
  rw [wrap64 (x := t0 - t1) (by omega) (by omega), wrap64 (x := t1 - t0) (by omega) (by omega), wrap64 (x := t0 - t2) (by omega) (by omega), wrap64 (x := t2 - t0) (by omega) (by omega)]
  rw [wrap64 (x := max (t0 - t1) (t1 - t0) + max (t0 - t2) (t2 - t0)) (by omega) (by omega)]
  rw [wrap64 (by omega) (by omega)]
  exact ih
/-- a hop -/
theorem hop_sum (ht : Tops l) {i j : Nat} (hi : i < l.length) (hj : j < l.length) : sumL (up1 (dn1 l i) j) = sumL l := by
  have a := ht i
  have b := ht j
  have hj' : j < (dn1 l i).length := by simp [dn1]; exact hj
  have e : (dn1 l i) = l.set i (l.getD i 0 - 1) := by unfold dn1; rw [wrap64 (by omega) (by omega)]
  have hd : -1 ≤ (dn1 l i).getD j 0 ∧ (dn1 l i).getD j 0 ≤ 1000 := by
    rw [e]
    by_cases hij : j = i
    · subst hij; rw [getD_set_self hi]; omega
    · rw [getD_set_ne hij]; omega
  unfold up1
  rw [sumL_set hj', wrap64 (by omega) (by omega), e, sumL_set hi]
  omega
theorem hop_top (ht : Tops l) {i j : Nat} (hi : i < l.length) (hj : j < l.length) (h1 : 1 ≤ l.getD i 0) {b : Int} (hb : ∀ k, l.getD k 0 ≤ b) (hb2 : b ≤ 1000) : ∀ v ∈ up1 (dn1 l i) j, 0 ≤ v ∧ v ≤ b + 1 := by
  have a := ht i
  have e : (dn1 l i) = l.set i (l.getD i 0 - 1) := by unfold dn1; rw [wrap64 (by omega) (by omega)]
  have hd : ∀ k, 0 ≤ (dn1 l i).getD k 0 ∧ (dn1 l i).getD k 0 ≤ b := by
    intro k
    have := ht k
    have := hb k
    have := hb i
    rw [e]
    by_cases hij : k = i
    · subst hij; rw [getD_set_self hi]; omega
    · rw [getD_set_ne hij]; omega
  intro v hv
  unfold up1 at hv
  have hdj := hd j
  rw [wrap64 (by omega) (by omega)] at hv
  rcases List.mem_or_eq_of_mem_set hv with h | h
  · obtain ⟨k, hk, rfl⟩ := List.getElem_of_mem h
    have := hd k
    simp only [List.getD, List.getElem?_eq_getElem hk, Option.getD_some] at this
    omega
  · omega
theorem hop_way {x y way : Nat} (hW : 2 ≤ W) (hH : 2 ≤ H) (hw : way < 4) : ((nearL W H x y).getD way 0).toNat < W * H := by
  obtain ⟨k, ek, hk'⟩ := near_mem (W := W) (H := H) (by omega) (by omega) (getD_mem 0 (show way < (nearL W H (x : Int) (y : Int)).length from hw))
  rw [ek]; simpa using hk'
/-- what a hop does to valid heights -/
theorem hop_cases (hv : validH l W H = true) {x y way : Nat} (hx : x < W) (hy : y < H) (hw : way < 4) {K : List Int → Int → Int → Int → Bool → Prop}
    (h0 : (l.getD (x + W * y) 0 = 0 ∨ (1 ≤ l.getD (x + W * y) 0 ∧ ∃ i, 1000 ≤ l.getD i 0)) → K [] 0 0 0 false)
    (h1 : ∀ m, 1 ≤ l.getD (x + W * y) 0 → validH m W H = true → sumL m = sumL l → K m (W : Int) (H : Int) (bondS l W H - bondS m W H) true) : impl_HopTo.wp l (W : Int) (H : Int) (x : Int) (y : Int) (way : Int) K := by
  obtain ⟨W', H', e1, e2, w2, w16, h2, h16, wh, len⟩ := valid_nat hv
  have e1 : W = W' := by omega
  have e2 : H = H' := by omega
  subst e1 e2
  have ht : Tops l := valid_top hv
  have hb := wh_lt hx hy
  have hasv : hasB l W H x y = true := by
    unfold hasB
    rw [hv, wrap64 (by omega) (by omega), wrap64 (by omega) (by omega)]
    simp only [Bool.true_and, Bool.and_eq_true, inB_iff]
    omega
  refine impl_Hop (by omega) ?_
  have hin : inB (way : Int) 0 3 = true := by rw [inB_iff]; omega
  unfold hopR
  rw [if_pos hasv, if_pos hin]
  simp only [Int.toNat_natCast]
  unfold hopN
  by_cases h : l.getD (x + W * y) 0 = 0
  · rw [if_pos (by rw [h]; rfl)]
    exact h0 (Or.inl h)
  · have := ht (x + W * y)
    rw [if_neg (by rw [beq_iff_eq]; exact h)]
    have hway := hop_way (x := x) (y := y) (by omega) (by omega) hw (W := W) (H := H)
    unfold hopE
    by_cases hm : validH (up1 (dn1 l (x + W * y)) ((nearL W H x y).getD way 0).toNat) W H = true
    · rw [if_pos hm]
      have hs := hop_sum ht (show x + W * y < l.length by omega) (show ((nearL W H x y).getD way 0).toNat < l.length by omega)
      have := h1 _ (by omega) hm hs
      show K _ _ _ (Go.IntKind.wrap .i64 (bondsL l W H - bondsL _ W H)) true
      rw [bondsL_eq ht wh, bondsL_eq (valid_top hm) wh]
      have b1 := bondS_le (W := W) (H := H) ht wh
      have b2 := bondS_le (W := W) (H := H) (valid_top hm) wh
      rw [wrap64 (by omega) (by omega)]
      exact this
    · rw [if_neg hm]
      refine h0 (Or.inr ⟨by omega, ?_⟩)
      by_cases hg : ∃ i, 1000 ≤ l.getD i 0
      · exact hg
      · refine absurd (valid_of w2 w16 h2 h16 (by rw [hop_len]; exact len) fun v hv' => ?_) hm
        have := hop_top ht (show x + W * y < l.length by omega) (show ((nearL W H x y).getD way 0).toNat < l.length by omega) (by omega) (b := 999) (fun k => by
          have : ¬ 1000 ≤ l.getD k 0 := fun h => hg ⟨k, h⟩
          omega) (by omega) v hv'
        omega
end
/-- a seed that is used -/
theorem use_ok {s n : Int} {N : Nat} (en : n = (N : Int)) (h0 : 0 ≤ s) (h1 : s ≤ 2147483647) (hn : 1 ≤ N) {K : Int → Int → Prop} (hk : ∀ s' (v : Nat), 0 ≤ s' → s' ≤ 2147483647 → v < N → K s' (v : Int)) : impl_use.wp s n K := by
  subst en
  rw [impl_use.eq, impl_draw.eq]
  rw [wrap64 (x := 1103515245 * s) (by omega) (by omega), wrap64 (x := 1103515245 * s + 12345) (by omega) (by omega)]
  obtain ⟨k, hk1, hk2⟩ := tmod_lt (x := 1103515245 * s + 12345) (n := 2147483648) (by omega) (by omega)
  have hk1 : Int.tmod (1103515245 * s + 12345) 2147483648 = (k : Int) := hk1
  rw [hk1]
  have e : Int.tdiv (k : Int) 65536 = ((k / 65536 : Nat) : Int) := tdiv_nat k 65536
  have hd : k / 65536 ≤ k := Nat.div_le_self _ _
  rw [e, wrap_nat (by omega), tmod_nat]
  exact ⟨by omega, hk _ _ (by omega) (by omega) (Nat.mod_lt _ hn)⟩
theorem none_within {a b : Int} {K : Bool → Prop} (h : K true) : impl_areWithin.wp [] a b K := areWithin (by simp) h
section
variable {l : List Int} {W H : Nat}
/-- hops without chances -/
theorem some_ok (hv : validH l W H = true) {n : Nat} {s : Int} (hn : n ≤ 500) (s0 : 0 ≤ s) (s1 : s ≤ 2147483647) {K : List Int → Int → Int → Int → Int → Bool → Prop}
    (hk : ∀ m made s', validH m W H = true → sumL m = sumL l → bondS l W H ≤ bondS m W H → 0 ≤ made → made ≤ (n : Int) → K m (W : Int) (H : Int) made s' true) : impl_HopSome.wp l [] (W : Int) (H : Int) (n : Int) s K := by
  obtain ⟨W', H', e1, e2, w2, w16, h2, h16, wh, len⟩ := valid_nat hv
  have e1 : W = W' := by omega
  have e2 : H = H' := by omega
  subst e1 e2
  rw [impl_HopSome.eq]
  refine impl_is (by omega) ?_
  rw [hv]
  refine ifF rfl (impl_in ?_)
  have hin : inB (n : Int) 0 500 = true := by rw [inB_iff]; omega
  rw [hin]
  refine ifF rfl ?_
  rw [impl_isSeed.eq]
  refine impl_in ?_
  have hs : inB s 0 2147483647 = true := by rw [inB_iff]; omega
  rw [hs]
  refine ifF rfl (ifN (by simp) (none_within (ifF rfl (cloned_ok (by have := wh_lt (W := W) (H := H) (x := 0) (y := 0) (by omega) (by omega); omega) (by omega) ?_))))
  intro J hJ
  have main : ∀ k i : Nat, i + k = n → ∀ (t : Int) (m : List Int) (made : Int), 0 ≤ t → t ≤ 2147483647 → validH m W H = true → sumL m = sumL l → bondS l W H ≤ bondS m W H → 0 ≤ made → made ≤ (i : Int) → J (W : Int) (H : Int) t 0 0 m [] made (n : Int) (i : Int) := by
    intro k
    induction k with
    | zero =>
      intro i hi t m made t0 t1 hm hs hb m0 m1
      refine hJ _ _ _ _ _ _ _ _ _ _ (ifN (by omega) (hk m made t hm hs hb m0 (by omega)))
    | succ k ih =>
      intro i hi t m made t0 t1 hm hs hb m0 m1
      refine hJ _ _ _ _ _ _ _ _ _ _ (ifD (by omega) ?_)
      refine use_ok rfl t0 t1 (by omega) fun u1 x _ _ hx => ?_
      refine use_ok rfl (by assumption) (by assumption) (by omega) fun u2 y _ _ hy => ?_
      refine use_ok (N := 4) rfl (by assumption) (by assumption) (by omega) fun u3 way _ _ hway => ?_
      refine use_ok (N := 32768) rfl (by assumption) (by assumption) (by omega) fun u4 number p0 p1 _ => ?_
      rw [wrap_succ (i := i) (by omega)]
      refine hop_cases hm hx hy hway (fun _ => ?_) (fun m2 _ hm2 hs2 => ?_)
      · refine ifF rfl ?_
        exact ih (i + 1) (by omega) u4 m made p0 p1 hm hs hb m0 (by omega)
      · refine ifT rfl (ifB_of (fun e => ?_) (fun e => ?_))
        · have e := of_decide_eq_true e
          rw [wrap64 (x := made + 1) (by omega) (by omega)]
          exact ih (i + 1) (by omega) u4 m2 (made + 1) p0 p1 hm2 (by omega) (by omega) (by omega) (by omega)
        · have e := of_decide_eq_false e
          refine ifN (by simp; omega) ?_
          exact ih (i + 1) (by omega) u4 m made p0 p1 hm hs hb m0 (by omega)
  exact main n 0 (by omega) s l 0 s0 s1 hv rfl (Int.le_refl _) (by omega) (by omega)
end
theorem hops_law {a b : List Int} (wa : ∀ v ∈ a, (Lit.int .u8 v).wf = true) (wb : ∀ v ∈ b, (Lit.int .u8 v).wf = true) {K : Bool → Prop} (hk : K true) : laws_FnHops.wp a b K := by
  have ba := bytes_wf wa
  have bb := bytes_wf wb
  rw [laws_FnHops.eq]
  refine long_ok (ifT rfl hk) fun la lb => ifF rfl ?_
  refine drawn_ok ba (by omega) fun l W H d => ?_
  have hv := d.valid
  have w2 := d.w2
  have w5 := d.w5
  have h2 := d.h2
  have h5 := d.h5
  have hwh := d.wh
  have ht : Tops l := valid_top hv
  have hlen := d.len
  refine at_ok bb (i := 0) rfl rfl (by omega) (by omega) fun x hx => ?_
  refine at_ok bb (i := 1) rfl rfl (by omega) (by omega) fun y hy => ?_
  refine impl_atoms hv (impl_BondsIn_ok hv (impl_StepsIn_ok hv ?_))
  refine at_ok bb (i := 2) (n := 4) rfl rfl (by omega) (by omega) fun way hway => ?_
  have hb := wh_lt hx hy
  have e1 : Go.IntKind.wrap Go.IntKind.i64 ((W : Int) * (y : Int)) = ((W * y : Nat) : Int) := by rw [← Int.natCast_mul, wrap_nat (by omega)]
  have e2 : Go.IntKind.wrap Go.IntKind.i64 ((x : Int) + Go.IntKind.wrap Go.IntKind.i64 ((W : Int) * (y : Int))) = ((x + W * y : Nat) : Int) := by rw [e1, wrap64 (by omega) (by omega)]; omega
  have s0 := sumL_le ht (by omega)
  have s1 := bondS_le (W := W) (H := H) ht (by omega)
  have s2 := stepS_le (W := W) (H := H) ht (by omega)
  have four := four_atoms (l := l) (W := W) (H := H) (by omega) (by omega) hlen
  rw [e2]
  have w1 : Go.IntKind.wrap Go.IntKind.i64 (2 * bondS l W H) = 2 * bondS l W H := wrap64 (by omega) (by omega)
  have w3 : Go.IntKind.wrap Go.IntKind.i64 (2 * bondS l W H + stepS l W H) = 2 * bondS l W H + stepS l W H := wrap64 (by omega) (by omega)
  have w4 : Go.IntKind.wrap Go.IntKind.i64 (4 * sumL l) = 4 * sumL l := wrap64 (by omega) (by omega)
  rw [w1, w3, w4, Int.toNat_natCast]
  have hne : (2 * bondS l W H + stepS l W H != 4 * sumL l) = false := by rw [four]; simp
  have rest : ∀ J : Int → Int → List Int → Int → Int → Prop, (∀ (x20 x21 : Int) (x22 : List Int) (x23 x24 : Int),
      (Go.K.heights.laws_b10At.wp b (3 : Int) (40 : Int) fun y25 =>
          Go.K.heights.spec_B10Seed.wp b fun y26 =>
            Go.K.heights.impl_HopSome.wp x22 [] x20 x21 y25 y26 fun y27 y28 y29 y30 y31 y32 =>
              Go.K.heights.impl_AtomsIn.wp y27 y28 y29 fun y33 y34 =>
                Go.K.heights.impl_BondsIn.wp y27 y28 y29 fun y35 y36 =>
                  Go.K.ifB y32
                    (Go.K.ifB y34
                      (Go.K.ifB y36
                        (Go.K.ifB (y33 == x23)
                          (Go.K.ifB (Decidable.decide (y35 ≥ x24))
                            (Go.K.ifB (Decidable.decide (y30 ≥ (0 : Int))) (K (Decidable.decide (y30 ≤ y25))) (K Bool.false)) (K Bool.false))
                          (K Bool.false))
                        (K Bool.false))
                      (K Bool.false))
                    (K Bool.false)) →
        J x20 x21 x22 x23 x24) → J (W : Int) (H : Int) l (sumL l) (bondS l W H) := by
    intro J hJ
    refine hJ _ _ _ _ _ ?_
    refine at_ok bb (i := 3) (n := 40) rfl rfl (by omega) (by omega) fun count hc => ?_
    refine seed_ok bb (by omega) fun s q0 q1 => ?_
    refine some_ok hv (by omega) q0 q1 fun m made s' hm hs hbo m0 m1 => ?_
    refine impl_atoms hm (impl_BondsIn_ok hm ?_)
    refine ifT rfl (ifT rfl (ifT rfl (ifT (by rw [hs]; simp) (ifD (by omega) (ifD (by omega) ?_)))))
    rw [decide_eq_true m1]; exact hk
  refine hop_cases hv hx hy hway (fun h => ?_) (fun m h1 hm hs => ?_)
  · have h0 : l.getD (x + W * y) 0 = 0 := by
      rcases h with h | ⟨_, i, h⟩
      · exact h
      · have := d.at i; omega
    refine ifF rfl (ifF rfl (ifF rfl ⟨⟨by omega, by omega⟩, ?_⟩))
    refine ifF (by rw [h0]; rfl) (ifF hne ?_)
    intro J hJ
    exact ifF rfl (rest J hJ)
  · refine ifF rfl (ifF rfl (ifF rfl ⟨⟨by omega, by omega⟩, ?_⟩))
    refine ifF (by rw [decide_eq_true (show l.getD (x + W * y) 0 > 0 by omega)]; rfl) (ifF hne ?_)
    intro J hJ
    refine ifT rfl (impl_atoms hm (impl_BondsIn_ok hm (ifF rfl (ifF rfl (ifF (by rw [hs]; simp) ?_)))))
    have b2 := bondS_le (W := W) (H := H) (valid_top hm) (by omega)
    rw [wrap64 (by omega) (by omega)]
    refine ifF ?_ (rest J hJ)
    have : bondS l W H - (bondS l W H - bondS m W H) = bondS m W H := by omega
    rw [this]; simp
end Go.K.heights
