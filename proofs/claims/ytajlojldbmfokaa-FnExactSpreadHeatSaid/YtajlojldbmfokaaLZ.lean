/- Heat that spreads, as the program has it; and the law. -/
import Derived.Test.YtajlojldbmfokaaLY
set_option linter.unusedSimpArgs false
set_option linter.unusedVariables false
set_option maxRecDepth 10000
set_option maxHeartbeats 1500000
namespace Go.K.melts
open Go.K Go

section
variable {m : Melt} {t W H : Nat}
/-- a bad row: then the heat that is spread is not finite, or there is none -/
theorem bad_row (g : Heat m W H) {y : Nat} (hy : y < H) (hb : rowB (rowF m.q W y) (shV m t) W m.r2 = false) : spB m t = false := by
  have lw := g.lw
  have hrow : (tab W (rowF m.q W y)).all (fin .f32) = true := by
    rw [tab_all]
    intro x hx
    have hlt := wh_lt hx hy
    exact List.all_eq_true.1 g.fin _ (getD_mem 0 (by rw [g.q]; exact hlt))
  unfold rowB at hb
  rw [hrow, Bool.true_and] at hb
  unfold spB spC
  rw [g.w2, g.h2, Int.toNat_natCast, Int.toNat_natCast]
  cases h1 : longB W m.r2
  · simp
  cases h2 : mass (shV m t)
  · simp
  rw [h1, h2, Bool.true_and, Bool.true_and] at hb
  have : (spL m t).all (fin .f32) = false := by
    cases e : (spL m t).all (fin .f32)
    · rfl
    · exfalso
      rw [spL_eq g, tab_all] at e
      have : (tab W (solS (rowF m.q W y) (shV m t) W m.r2)).all (fin .f32) = true := by
        rw [tab_all]
        intro x hx
        have hlt := wh_lt hx hy
        cases hf : fin .f32 (solS (rowF m.q W y) (shV m t) W m.r2 x)
        · have h3 := e _ hlt
          rw [R2_at hx] at h3
          have h4 : fin .f32 (colF (R1 m.q (shV m t) W m.r2) W x y) = false := by
            unfold colF
            rw [R1_at hx]; exact hf
          rw [sol_notfin hy h4] at h3
          cases h3
        · rfl
      rw [this] at hb
      cases hb
  rw [this]
  simp
theorem good_row {y : Nat} (h : rowB (rowF m.q W y) (shV m t) W m.r2 = true) : longB W m.r2 = true ∧ mass (shV m t) = true ∧ ∀ x, x < W → fin .f32 (solS (rowF m.q W y) (shV m t) W m.r2 x) = true := by
  unfold rowB at h
  simp only [Bool.and_eq_true] at h
  obtain ⟨⟨h1, h2⟩, _, h3⟩ := h
  exact ⟨h1, h2, tab_all.1 h3⟩
theorem bad_col (g : Heat m W H) (hg : ∀ y, y < H → rowB (rowF m.q W y) (shV m t) W m.r2 = true) {x : Nat} (hx : x < W) (hb : rowB (colF (R1 m.q (shV m t) W m.r2) W x) (shV m t) H m.r2 = false) : spB m t = false := by
  have lh := g.lh
  have hcol : (tab H (colF (R1 m.q (shV m t) W m.r2) W x)).all (fin .f32) = true := by
    rw [tab_all]
    intro y hy
    unfold colF
    rw [R1_at hx]
    exact (good_row (hg y hy)).2.2 x hx
  unfold rowB at hb
  rw [hcol, Bool.true_and] at hb
  unfold spB spC
  rw [g.w2, g.h2, Int.toNat_natCast, Int.toNat_natCast]
  cases h1 : longB H m.r2
  · simp
  cases h2 : mass (shV m t)
  · simp
  rw [h1, h2, Bool.true_and, Bool.true_and] at hb
  have : (spL m t).all (fin .f32) = false := by
    cases e : (spL m t).all (fin .f32)
    · rfl
    · exfalso
      rw [spL_eq g, tab_all] at e
      have : (tab H (solS (colF (R1 m.q (shV m t) W m.r2) W x) (shV m t) H m.r2)).all (fin .f32) = true := by
        rw [tab_all]
        intro y hy
        have h3 := e _ (wh_lt hx hy)
        rw [R2_at hx] at h3
        exact h3
      rw [this] at hb
      cases hb
  rw [this]
  simp
theorem all_good (hv : isM m = true) (ht : mass t = true) (g : Heat m W H) (hg : ∀ y, y < H → rowB (rowF m.q W y) (shV m t) W m.r2 = true) (hc : ∀ x, x < W → rowB (colF (R1 m.q (shV m t) W m.r2) W x) (shV m t) H m.r2 = true) : spB m t = true := by
  have lw := g.lw
  have lh := g.lh
  obtain ⟨h1, h2, _⟩ := good_row (hg 0 (by omega))
  have h3 := hc 0 (by omega)
  unfold rowB at h3
  simp only [Bool.and_eq_true] at h3
  have hf : (spL m t).all (fin .f32) = true := by
    rw [spL_eq g, tab_all]
    intro k hk
    have hx : k % W < W := Nat.mod_lt _ (by omega)
    have hy : k / W < H := Nat.div_lt_of_lt_mul hk
    have h4 := hc (k % W) hx
    unfold rowB at h4
    simp only [Bool.and_eq_true] at h4
    have h5 := tab_all.1 h4.2.2 (k / W) hy
    exact h5
  unfold spB spC
  rw [hf, hv, ht, h2, g.w2, g.h2, Int.toNat_natCast, Int.toNat_natCast, h1, h3.1.1]
  rfl
theorem fieldAt_ok {l : List Nat} {r : Bool} {x y : Nat} (hx : x < W) (hy : y < H) (w16 : W ≤ 16) (h16 : H ≤ 16) (hl : l.length = W * H) {K : Nat → Prop} (hk : K (l.getD (x + W * y) 0)) : impl_Field_at.wp l (W : Int) (H : Int) r (x : Int) (y : Int) K := by
  have hb := wh_lt hx hy
  have hwh : W * H ≤ 256 := Nat.mul_le_mul w16 h16
  rw [impl_Field_at.eq]
  have e1 : Go.IntKind.wrap .i64 ((W : Int) * (y : Int)) = ((W * y : Nat) : Int) := by rw [← Int.natCast_mul, wrap_nat (by omega)]
  rw [e1, ← Int.natCast_add, wrap_nat (by omega), Int.toNat_natCast]
  exact ⟨⟨by omega, by omega⟩, hk⟩
/-- from a place on: all are good, or there is a first that is not -/
theorem first_bad {n : Nat} {p : Nat → Bool} (h : ¬ ∀ i, i < n → p i = true) : ∃ i, i < n ∧ p i = false := by
  false_or_by_contra
  rename_i hc
  apply h
  intro i hi
  cases e : p i
  · exact absurd ⟨i, hi, e⟩ hc
  · rfl
theorem impl_Spread (hs : Small m) {K : MK} (hk : K (spR m t).p (spR m t).q (spR m t).w1 (spR m t).h1 (spR m t).r1 (spR m t).w2 (spR m t).h2 (spR m t).r2 (spR m t).a (spR m t).b (spR m t).c (spR m t).d (spR m t).e (spR m t).n (spB m t)) :
    impl_SpreadHeat.wp m.p m.q m.w1 m.h1 m.r1 m.w2 m.h2 m.r2 m.a m.b m.c m.d m.e m.n t K := by
  rw [impl_SpreadHeat.eq]
  refine cloned_ok m hs ?_
  cases hv : isM m
  · have hb : spB m t = false := by unfold spB spC; rw [hv]; rfl
    unfold spR at hk
    rw [hb] at hk
    simp only [Bool.false_eq_true, if_false] at hk
    exact ifT rfl hk
  have hok : okM m = m := by unfold okM; rw [if_pos hv]
  rw [hok]
  refine ifF rfl (impl_mass ?_)
  cases ht : mass t
  · have hb : spB m t = false := by unfold spB spC; rw [ht]; simp
    unfold spR at hk
    rw [hb] at hk
    simp only [Bool.false_eq_true, if_false] at hk
    exact ifT rfl hk
  refine ifF rfl ?_
  obtain ⟨W, H, g⟩ := heat_of hv
  have w16 := g.w16
  have h16 := g.h16
  have lw := g.lw
  have lh := g.lh
  have hwh : W * H ≤ 256 := Nat.mul_le_mul w16 h16
  have hz : spB m t = false → zK K := by
    intro hb
    unfold spR at hk
    rw [hb] at hk
    simp only [Bool.false_eq_true, if_false] at hk
    exact hk
  rw [g.w2, g.h2]
  change ∀ _, _ → _
  intro J hJ
  -- one row
  have rowstep : ∀ y, y < H → (rowB (rowF m.q W y) (shV m t) W m.r2 = false → zK K) → (rowB (rowF m.q W y) (shV m t) W m.r2 = true → J 0 0 false 0 0 false 0 0 0 0 0 0 m.w1 m.h1 m.r1 (W : Int) (H : Int) m.r2 m.a m.b m.c m.d m.e m.n (W : Int) (H : Int) m.r2 [] [] m.p (curR m.q (shV m t) W H m.r2 (W * (y + 1))) (shV m t) (H : Int) ((y + 1 : Nat) : Int)) →
      J 0 0 false 0 0 false 0 0 0 0 0 0 m.w1 m.h1 m.r1 (W : Int) (H : Int) m.r2 m.a m.b m.c m.d m.e m.n (W : Int) (H : Int) m.r2 [] [] m.p (curR m.q (shV m t) W H m.r2 (W * y)) (shV m t) (H : Int) (y : Int) := by
    intro y hy hbad hgood
    refine hJ _ _ _ _ _ _ _ _ _ _ _ _ _ _ _ _ _ _ _ _ _ _ _ _ _ _ _ _ _ _ _ _ _ _ (ifD (by omega) ?_)
    have hle : W * (y + 1) ≤ W * H := Nat.mul_le_mul_left W hy
    rw [Nat.mul_add, Nat.mul_one] at hle
    have e1 : Go.IntKind.wrap .i64 ((y : Int) * (W : Int)) = ((W * y : Nat) : Int) := by
      rw [← Int.natCast_mul, Nat.mul_comm y W, wrap_nat (by omega)]
    have e2 : Go.IntKind.wrap .i64 (((y + 1 : Nat) : Int) * (W : Int)) = ((W * y + W : Nat) : Int) := by
      rw [← Int.natCast_mul, Nat.mul_comm (y + 1) W, Nat.mul_add, Nat.mul_one, wrap_nat (by omega)]
    have hlen : (curR m.q (shV m t) W H m.r2 (W * y)).length = W * H := tab_length _ _
    rw [wrap_succ (i := y) (by omega), e1, e2, hlen, Int.toNat_natCast, Int.toNat_natCast, show W * y + W - W * y = W by omega, curR_row hy]
    refine ⟨⟨by omega, by omega, by omega⟩, impl_row (by omega) ?_⟩
    cases hb : rowB (rowF m.q W y) (shV m t) W m.r2
    · simp only [Bool.false_eq_true, if_false]
      exact ifT rfl (hbad hb)
    · simp only [if_true]
      refine ifF rfl ⟨⟨by omega, by omega⟩, ⟨by rw [tab_length]; omega, by rw [tab_length]; omega⟩, ?_⟩
      rw [tab_length, curR_copy hy]
      exact hgood hb
  have start : (curR m.q (shV m t) W H m.r2 (W * 0)) = m.q := by rw [Nat.mul_zero, curR_zero g.q]
  by_cases hg : ∀ y, y < H → rowB (rowF m.q W y) (shV m t) W m.r2 = true
  case neg =>
    obtain ⟨y0, hy0, hb0⟩ := first_bad hg
    have rows := down (Q := fun y => J 0 0 false 0 0 false 0 0 0 0 0 0 m.w1 m.h1 m.r1 (W : Int) (H : Int) m.r2 m.a m.b m.c m.d m.e m.n (W : Int) (H : Int) m.r2 [] [] m.p (curR m.q (shV m t) W H m.r2 (W * y)) (shV m t) (H : Int) (y : Int)) (n := y0)
      (rowstep y0 hy0 (fun h => hz (bad_row g hy0 h)) (fun h => by rw [h] at hb0; cases hb0)) (fun y hy ih => rowstep y (by omega) (fun h => hz (bad_row g (by omega) h)) (fun _ => ih)) 0 (Nat.zero_le _)
    rw [start] at rows
    exact rows
  case pos =>
    have rows := down (Q := fun y => J 0 0 false 0 0 false 0 0 0 0 0 0 m.w1 m.h1 m.r1 (W : Int) (H : Int) m.r2 m.a m.b m.c m.d m.e m.n (W : Int) (H : Int) m.r2 [] [] m.p (curR m.q (shV m t) W H m.r2 (W * y)) (shV m t) (H : Int) (y : Int)) (n := H)
      ?_ (fun y hy ih => rowstep y hy (fun h => by rw [hg y hy] at h; cases h) (fun _ => ih)) 0 (Nat.zero_le _)
    · rw [start] at rows
      exact rows
    refine hJ _ _ _ _ _ _ _ _ _ _ _ _ _ _ _ _ _ _ _ _ _ _ _ _ _ _ _ _ _ _ _ _ _ _ (ifN (by omega) ?_)
    intro JC hJC
    -- one column
    have colstep : ∀ x, x < W → (rowB (colF (R1 m.q (shV m t) W m.r2) W x) (shV m t) H m.r2 = false → zK K) →
        (rowB (colF (R1 m.q (shV m t) W m.r2) W x) (shV m t) H m.r2 = true → JC 0 0 false 0 0 false 0 0 0 0 0 0 m.w1 m.h1 m.r1 (W : Int) (H : Int) m.r2 m.a m.b m.c m.d m.e m.n (W : Int) (H : Int) m.r2 [] [] m.p (curC m.q (shV m t) W H m.r2 (x + 1) 0) (shV m t) (W : Int) ((x + 1 : Nat) : Int)) →
        JC 0 0 false 0 0 false 0 0 0 0 0 0 m.w1 m.h1 m.r1 (W : Int) (H : Int) m.r2 m.a m.b m.c m.d m.e m.n (W : Int) (H : Int) m.r2 [] [] m.p (curC m.q (shV m t) W H m.r2 x 0) (shV m t) (W : Int) (x : Int) := by
      intro x hx hbad hgood
      refine hJC _ _ _ _ _ _ _ _ _ _ _ _ _ _ _ _ _ _ _ _ _ _ _ _ _ _ _ _ _ _ _ _ _ _ (ifD (by omega) ?_)
      intro JA hJA
      have gather := down (Q := fun y => JA 0 0 false 0 0 false 0 0 0 0 0 0 m.w1 m.h1 m.r1 (W : Int) (H : Int) m.r2 m.a m.b m.c m.d m.e m.n (W : Int) (H : Int) m.r2 (tab y (colF (R1 m.q (shV m t) W m.r2) W x)) [] [] m.p (curC m.q (shV m t) W H m.r2 x 0) (shV m t) (x : Int) (W : Int) (x : Int) (H : Int) (y : Int)) (n := H) ?_ ?_ 0 (Nat.zero_le _)
      · exact gather
      · refine hJA _ _ _ _ _ _ _ _ _ _ _ _ _ _ _ _ _ _ _ _ _ _ _ _ _ _ _ _ _ _ _ _ _ _ _ _ _ _ (ifN (by omega) ?_)
        refine impl_row (by omega) ?_
        cases hb : rowB (colF (R1 m.q (shV m t) W m.r2) W x) (shV m t) H m.r2
        · simp only [Bool.false_eq_true, if_false]
          exact ifT rfl (hbad hb)
        simp only [if_true]
        refine ifF rfl ?_
        intro JB hJB
        have put := down (Q := fun y => JB 0 0 false 0 0 false 0 0 0 0 0 0 m.w1 m.h1 m.r1 (W : Int) (H : Int) m.r2 m.a m.b m.c m.d m.e m.n (W : Int) (H : Int) m.r2 (tab H (solS (colF (R1 m.q (shV m t) W m.r2) W x) (shV m t) H m.r2)) [] [] m.p (curC m.q (shV m t) W H m.r2 x y) (shV m t) (x : Int) (W : Int) (x : Int) (H : Int) (y : Int)) (n := H) ?_ ?_ 0 (Nat.zero_le _)
        · rw [tab_length]
          exact put
        · refine hJB _ _ _ _ _ _ _ _ _ _ _ _ _ _ _ _ _ _ _ _ _ _ _ _ _ _ _ _ _ _ _ _ _ _ _ _ _ _ (ifN (by omega) ?_)
          rw [curC_next lw, wrap_succ (by omega)]
          exact hgood hb
        · intro y hy ihy
          have hbnd := wh_lt hx hy
          refine hJB _ _ _ _ _ _ _ _ _ _ _ _ _ _ _ _ _ _ _ _ _ _ _ _ _ _ _ _ _ _ _ _ _ _ _ _ _ _ (ifD (by omega) ?_)
          have ei : Go.IntKind.wrap .i64 ((x : Int) + Go.IntKind.wrap .i64 ((W : Int) * (y : Int))) = ((x + W * y : Nat) : Int) := by
            rw [← Int.natCast_mul, wrap_nat (by omega), ← Int.natCast_add, wrap_nat (by omega)]
          have hlen : (curC m.q (shV m t) W H m.r2 x y).length = W * H := tab_length _ _
          rw [ei, tab_length, hlen, Int.toNat_natCast, Int.toNat_natCast, tab_get hy, curC_set hx hy rfl, wrap_succ (by omega)]
          exact ⟨⟨by omega, by omega⟩, ⟨by omega, by omega⟩, ihy⟩
      · intro y hy ihy
        refine hJA _ _ _ _ _ _ _ _ _ _ _ _ _ _ _ _ _ _ _ _ _ _ _ _ _ _ _ _ _ _ _ _ _ _ _ _ _ _ (ifD (by omega) ?_)
        have hlen : (curC m.q (shV m t) W H m.r2 x 0).length = W * H := tab_length _ _
        refine fieldAt_ok hx hy w16 h16 hlen ?_
        rw [curC_get hx hy, tab_snoc (f := colF (R1 m.q (shV m t) W m.r2) W x) rfl, tab_length, wrap_succ (by omega)]
        exact ⟨by omega, ihy⟩
    have startC : curR m.q (shV m t) W H m.r2 (W * H) = curC m.q (shV m t) W H m.r2 0 0 := curC_zero.symm
    rw [startC]
    by_cases hc : ∀ x, x < W → rowB (colF (R1 m.q (shV m t) W m.r2) W x) (shV m t) H m.r2 = true
    case neg =>
      obtain ⟨x0, hx0, hb0⟩ := first_bad hc
      exact down (Q := fun x => JC 0 0 false 0 0 false 0 0 0 0 0 0 m.w1 m.h1 m.r1 (W : Int) (H : Int) m.r2 m.a m.b m.c m.d m.e m.n (W : Int) (H : Int) m.r2 [] [] m.p (curC m.q (shV m t) W H m.r2 x 0) (shV m t) (W : Int) (x : Int)) (n := x0)
        (colstep x0 hx0 (fun h => hz (bad_col g hg hx0 h)) (fun h => by rw [h] at hb0; cases hb0)) (fun x hx ih => colstep x (by omega) (fun h => hz (bad_col g hg (by omega) h)) (fun _ => ih)) 0 (Nat.zero_le _)
    case pos =>
      refine down (Q := fun x => JC 0 0 false 0 0 false 0 0 0 0 0 0 m.w1 m.h1 m.r1 (W : Int) (H : Int) m.r2 m.a m.b m.c m.d m.e m.n (W : Int) (H : Int) m.r2 [] [] m.p (curC m.q (shV m t) W H m.r2 x 0) (shV m t) (W : Int) (x : Int)) (n := W)
        ?_ (fun x hx ih => colstep x hx (fun h => by rw [hc x hx] at h; cases h) (fun _ => ih)) 0 (Nat.zero_le _)
      refine hJC _ _ _ _ _ _ _ _ _ _ _ _ _ _ _ _ _ _ _ _ _ _ _ _ _ _ _ _ _ _ _ _ _ _ (ifN (by omega) ?_)
      have e : curC m.q (shV m t) W H m.r2 W 0 = spL m t := by rw [curC_end lw, spL_eq g]
      rw [e, ← g.w2, ← g.h2]
      refine cloned_ok (spM m t) (spM_small g) ?_
      have hgood := all_good hv ht g hg hc
      have hi := spM_is (t := t) hv g
      have hf : (spL m t).all (fin .f32) = true := by
        unfold spB at hgood
        rw [Bool.and_eq_true] at hgood
        exact hgood.2
      rw [hf] at hi
      unfold okM
      rw [hi]
      unfold spR at hk
      rw [hgood] at hk
      simp only [if_true] at hk ⊢
      exact hk
theorem spread_law (m : Melt) (t : Nat) (hp : m.p.length ≤ 9223372036854775807) (hq : m.q.length ≤ 9223372036854775807) {K : Bool → Prop} (hk : K true) :
    laws_FnExactSpreadHeat.wp m.p m.q m.w1 m.h1 m.r1 m.w2 m.h2 m.r2 m.a m.b m.c m.d m.e m.n t K := by
  rw [laws_FnExactSpreadHeat.eq]
  refine szMelt_ok m hp hq (ifD (by decide) hk) fun hs k => ifN (by omega) ?_
  have hr := spR_small (t := t) hs
  refine toMelt_ok m hs (spec_Spread (t := t) hs (toMelt_ok m hs (impl_Spread (t := t) hs ?_)))
  refine eqMelt_self (spR m t) hr (ifF rfl (ifF (by simp) (toMelt_ok m hs (eqMelt_self m hs (ifF rfl ?_)))))
  refine markMelt_ok m hs (ifN (by unfold mkN; omega) (eqMelt_self (spR m t) hr (ifF rfl (ifF (by simp) ?_))))
  refine markMelt_ok (spR m t) hr (heldMelt_ok (spR m t) hr (ifN (by unfold mkN; omega) (ifF (by simp) ?_)))
  refine toMelt_ok m hs (impl_Spread (t := t) hs (eqMelt_self (spR m t) hr (ifF rfl (ifF (by simp) ?_))))
  exact heldMelt_ok (spR m t) hr (ifN (by unfold mkN; omega) (ifF (by simp) hk))
end
end Go.K.melts
