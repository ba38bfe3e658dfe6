/- Screws. -/
import Derived.Test.YtcmbpondkipbkaaLA
import Derived.Test.YtcmbpondkipbkaaF16
set_option linter.unusedSimpArgs false
set_option linter.unusedVariables false
set_option maxRecDepth 10000
set_option maxHeartbeats 4000000
namespace Go.K.heights
open Go.K Go Ieee

def gridI (W : Nat) (g : Nat → Nat → Int) (i : Nat) : List Int := (List.range i).map fun k => g (k % W) (k / W)
theorem gridI_length (W : Nat) (g : Nat → Nat → Int) (i : Nat) : (gridI W g i).length = i := by simp [gridI]
theorem gridI_succ (W : Nat) (g : Nat → Nat → Int) (i : Nat) : gridI W g (i + 1) = gridI W g i ++ [g (i % W) (i / W)] := by simp [gridI, List.range_succ]
theorem turnN_bd {y x : Nat} (hy : fin .f32 y = true) (hx : fin .f32 x = true) : Bd .f32 14 (turnN y x) := by
  unfold turnN
  rw [hy, hx, if_pos (by rfl)]
  cases h0 : (feq .f32 y 0 && feq .f32 x 0)
  · rw [if_neg (by decide)]
    refine down_bd (angle_bd (by rw [fin_up]; exact hy) (by rw [fin_up]; exact hx) ?_) (by decide) (by decide)
    rw [feq_up hy, feq_up hx]; exact h0
  · rw [if_pos rfl]
    exact ⟨false, 0, -149, by decide, LeP.zero⟩
theorem half32_bd : Bd .f32 0 1056964608 := bd_of (m := 8388608) (e := -24) (s := false) 24 (by decide) (by decide) (by decide) (by decide)
def riseV (r y x v u : Int) : Nat := farith .mul .f32 (fofint .f32 r) (farith .add .f32 (turnN (fofint .f32 (v - y)) (fofint .f32 (u - x))) 1056964608)
def riseN (r y x v u : Int) : Int := (ftoint .f64 (fwhole .down (fconv .f32 .f64 (riseV r y x v u))) .i64).getD 0
theorem rise_bd {r y x v u : Int} (hr : 1 ≤ r ∧ r ≤ 100) (hv : (v - y).natAbs ≤ 16) (hu : (u - x).natAbs ≤ 16) : Bd .f32 22 (riseV r y x v u) := by
  unfold riseV
  have h1 : Bd .f32 7 (fofint .f32 r) := fofint_bdI (k := 7) (by omega) ⟨by decide, by decide⟩
  have h2 : Bd .f32 4 (fofint .f32 (v - y)) := fofint_bdI (k := 4) (by omega) ⟨by decide, by decide⟩
  have h3 : Bd .f32 4 (fofint .f32 (u - x)) := fofint_bdI (k := 4) (by omega) ⟨by decide, by decide⟩
  exact mul_bd h1 (add_bd (r := 15) (turnN_bd h2.fin h3.fin) (half32_bd.mono (by decide)) (by decide) ⟨by decide, by decide⟩) (by decide) ⟨by decide, by decide⟩
def screwG (r y x : Int) (u v : Nat) : Int := riseN r y x (v : Int) (u : Int)
def screwL (r y x : Int) (W H : Nat) : List Int := gridI W (screwG r y x) (W * H)
section
variable {r y x : Int} {W H : Nat}
theorem impl_rise {v u : Nat} (hr : 1 ≤ r ∧ r ≤ 100) (hx : 0 ≤ x ∧ x ≤ 15) (hy : 0 ≤ y ∧ y ≤ 15) (hu : u ≤ 15) (hv : v ≤ 15) {K : Int → Prop} (hk : K (screwG r y x u v)) : impl_ScrewHeights_1.wp r y x (u : Int) (v : Int) K := by
  rw [impl_ScrewHeights_1.eq, wrap64 (x := (v : Int) - y) (by omega) (by omega), wrap64 (x := (u : Int) - x) (by omega) (by omega)]
  refine impl_turnN ?_
  rw [impl_floor32.eq, math_Floor.eq]
  obtain ⟨n, h1, h2, h3⟩ := floor_ok (rise_bd (r := r) (y := y) (x := x) (v := v) (u := u) hr (by omega) (by omega))
  unfold screwG riseN at hk
  rw [h2] at hk
  unfold riseV at h1 h3
  refine ⟨h1, ?_⟩
  rw [h3]
  exact ⟨rfl, hk⟩
theorem impl_scr (hr : 1 ≤ r ∧ r ≤ 100) (hx : 0 ≤ x ∧ x ≤ 15) (hy : 0 ≤ y ∧ y ≤ 15) (w2 : 2 ≤ W) (w16 : W ≤ 16) (h2 : 2 ≤ H) (h16 : H ≤ 16) {K : List Int → Int → Int → Bool → Prop}
    (hk : K (if validH (screwL r y x W H) W H = true then screwL r y x W H else []) (if validH (screwL r y x W H) W H = true then (W : Int) else 0) (if validH (screwL r y x W H) W H = true then (H : Int) else 0) (validH (screwL r y x W H) W H)) :
    impl_built__ScrewHeights_1.wp r y x (W : Int) (H : Int) K := by
  have hwh : W * H ≤ 256 := Nat.mul_le_mul w16 h16
  rw [impl_built__ScrewHeights_1.eq]
  refine areWithin (by simp) ?_
  have e : (((W : Int) :: (H : Int) :: List.replicate 0 0).all fun v => inB v 2 16) = true := by
    simp [inB]; omega
  rw [e]
  refine ifF rfl ?_
  intro J hJ
  have main := down (Q := fun v => J 0 0 (W : Int) (H : Int) [] (gridI W (screwG r y x) (W * v)) (H : Int) (v : Int)) (n := H) ?_ ?_ 0 (Nat.zero_le _)
  · simpa [gridI] using main
  · refine hJ _ _ _ _ _ _ _ _ (ifN (by omega) ?_)
    rw [impl_Heights_told.eq]
    have hlen : (gridI W (screwG r y x) (W * H)).length ≤ 1099511627776 := by rw [gridI_length]; omega
    refine impl_is hlen ?_
    unfold screwL at hk
    cases hv : validH (gridI W (screwG r y x) (W * H)) W H
    · simp only [hv, Bool.false_eq_true, if_false] at hk; exact ifT rfl hk
    · simp only [hv, if_true] at hk; exact ifF rfl hk
  · intro v hv ih
    refine hJ _ _ _ _ _ _ _ _ (ifD (by omega) fun J2 hJ2 => ?_)
    have inner := down (Q := fun u => J2 0 0 (W : Int) (H : Int) [] (gridI W (screwG r y x) (u + W * v)) (v : Int) (H : Int) (v : Int) (W : Int) (u : Int)) (n := W) ?_ ?_ 0 (Nat.zero_le _)
    · rw [Nat.zero_add] at inner; exact inner
    · refine hJ2 _ _ _ _ _ _ _ _ _ _ _ (ifN (by omega) ?_)
      rw [wrap_succ (by omega), show W + W * v = W * (v + 1) by rw [Nat.mul_add]; omega]
      exact ih
    · intro u hu ihu
      have hb := wh_lt hu hv
      have hs := gridI_succ W (screwG r y x) (u + W * v)
      obtain ⟨g1, g2⟩ := grid_at (y := v) hu
      rw [g1, g2] at hs
      have hs' : gridI W (screwG r y x) (u + W * v) ++ screwG r y x u v :: List.replicate 0 0 = gridI W (screwG r y x) (u + 1 + W * v) := by
        rw [show u + 1 + W * v = u + W * v + 1 by omega, hs]; rfl
      have hlen := gridI_length W (screwG r y x) (u + 1 + W * v)
      refine hJ2 _ _ _ _ _ _ _ _ _ _ _ (ifD (by omega) ?_)
      refine impl_rise hr hx hy (by omega) (by omega) ?_
      rw [hs', hlen, wrap_succ (by omega)]
      exact ⟨by omega, ihu⟩
end
def screwB (w h x y r : Int) : Bool := sizeB w h && (inB x 0 (Go.IntKind.wrap .i64 (w - 1)) && (inB y 0 (Go.IntKind.wrap .i64 (h - 1)) && (inB r 1 100 && validH (screwL r y x w.toNat h.toNat) w h)))
def screwR (w h x y r : Int) : List Int := if screwB w h x y r = true then screwL r y x w.toNat h.toNat else []
def screwW (w h x y r : Int) : Int := if screwB w h x y r = true then w else 0
def screwH (w h x y r : Int) : Int := if screwB w h x y r = true then h else 0
section
variable {w h x y r : Int}
theorem impl_Screw {K : List Int → Int → Int → Bool → Prop} (hk : K (screwR w h x y r) (screwW w h x y r) (screwH w h x y r) (screwB w h x y r)) : impl_ScrewHeights.wp w h x y r K := by
  rw [impl_ScrewHeights.eq]
  unfold screwR screwW screwH screwB at hk
  refine impl_in ?_
  cases e1 : inB x 0 (Go.IntKind.wrap .i64 (w - 1))
  · simp only [e1, Bool.false_and, Bool.and_false, Bool.false_eq_true, if_false] at hk; exact ifT rfl hk
  refine ifF rfl (impl_in ?_)
  cases e2 : inB y 0 (Go.IntKind.wrap .i64 (h - 1))
  · simp only [e2, Bool.false_and, Bool.and_false, Bool.false_eq_true, if_false] at hk; exact ifT rfl hk
  refine ifF rfl (impl_in ?_)
  cases e3 : inB r 1 100
  · simp only [e3, Bool.false_and, Bool.and_false, Bool.false_eq_true, if_false] at hk; exact ifT rfl hk
  refine ifF rfl ?_
  simp only [e1, e2, e3, Bool.true_and] at hk
  cases e0 : sizeB w h
  · simp only [e0, Bool.false_and, Bool.false_eq_true, if_false] at hk
    rw [impl_built__ScrewHeights_1.eq]
    refine areWithin (by simp) ?_
    have e : ((w :: h :: List.replicate 0 0).all fun v => inB v 2 16) = sizeB w h := by simp [sizeB]
    rw [e, e0]
    exact ifT rfl hk
  · simp only [e0, Bool.true_and] at hk
    unfold sizeB at e0
    rw [Bool.and_eq_true, inB_iff, inB_iff] at e0
    rw [inB_iff] at e1 e2 e3
    rw [wrap64 (x := w - 1) (by omega) (by omega)] at e1
    rw [wrap64 (x := h - 1) (by omega) (by omega)] at e2
    obtain ⟨W, rfl⟩ : ∃ W : Nat, w = (W : Int) := ⟨w.toNat, by omega⟩
    obtain ⟨H, rfl⟩ : ∃ H : Nat, h = (H : Int) := ⟨h.toNat, by omega⟩
    rw [Int.toNat_natCast, Int.toNat_natCast] at hk
    exact impl_scr e3 (by omega) (by omega) (by omega) (by omega) (by omega) (by omega) hk
theorem spec_Screw {K : List Int → Int → Int → Bool → Prop} (hk : K (screwR w h x y r) (screwW w h x y r) (screwH w h x y r) (screwB w h x y r)) : spec_ScrewHeights.wp w h x y r K := by
  rw [spec_ScrewHeights.eq]
  unfold screwR screwW screwH screwB at hk
  refine spec_size ?_
  cases e0 : sizeB w h
  · simp only [e0, Bool.false_and, Bool.false_eq_true, if_false] at hk; exact ifT rfl hk
  refine ifF rfl (spec_in ?_)
  cases e1 : inB x 0 (Go.IntKind.wrap .i64 (w - 1))
  · simp only [e1, Bool.false_and, Bool.and_false, Bool.false_eq_true, if_false] at hk; exact ifT rfl hk
  refine ifF rfl (spec_in ?_)
  cases e2 : inB y 0 (Go.IntKind.wrap .i64 (h - 1))
  · simp only [e2, Bool.false_and, Bool.and_false, Bool.false_eq_true, if_false] at hk; exact ifT rfl hk
  refine ifF rfl (spec_in ?_)
  cases e3 : inB r 1 100
  · simp only [e3, Bool.false_and, Bool.and_false, Bool.false_eq_true, if_false] at hk; exact ifT rfl hk
  refine ifF rfl ?_
  simp only [e0, e1, e2, e3, Bool.true_and] at hk
  unfold sizeB at e0
  rw [Bool.and_eq_true, inB_iff, inB_iff] at e0
  rw [inB_iff] at e1 e2 e3
  rw [wrap64 (x := w - 1) (by omega) (by omega)] at e1
  rw [wrap64 (x := h - 1) (by omega) (by omega)] at e2
  obtain ⟨W, rfl⟩ : ∃ W : Nat, w = (W : Int) := ⟨w.toNat, by omega⟩
  obtain ⟨H, rfl⟩ : ∃ H : Nat, h = (H : Int) := ⟨h.toNat, by omega⟩
  rw [Int.toNat_natCast, Int.toNat_natCast] at hk
  have w16 : W ≤ 16 := by omega
  have h16 : H ≤ 16 := by omega
  have hwh : W * H ≤ 256 := Nat.mul_le_mul w16 h16
  intro J hJ
  have main := down (Q := fun v => J 0 0 (W : Int) (H : Int) [] (gridI W (screwG r y x) (W * v)) (v : Int)) (n := H) ?_ ?_ 0 (Nat.zero_le _)
  · simpa [gridI] using main
  · refine hJ _ _ _ _ _ _ _ (ifN (by omega) ?_)
    rw [spec_l05Give.eq]
    have hlen : (gridI W (screwG r y x) (W * H)).length ≤ 1099511627776 := by rw [gridI_length]; omega
    refine spec_is hlen ?_
    unfold screwL at hk
    cases hv : validH (gridI W (screwG r y x) (W * H)) W H
    · simp only [hv, Bool.false_eq_true, if_false] at hk; exact ifT rfl hk
    · simp only [hv, if_true] at hk; exact ifF rfl hk
  · intro v hv ih
    refine hJ _ _ _ _ _ _ _ (ifD (by omega) fun J2 hJ2 => ?_)
    have inner := down (Q := fun u => J2 0 0 (W : Int) (H : Int) [] (gridI W (screwG r y x) (u + W * v)) (v : Int) (u : Int)) (n := W) ?_ ?_ 0 (Nat.zero_le _)
    · rw [Nat.zero_add] at inner; exact inner
    · refine hJ2 _ _ _ _ _ _ _ _ (ifN (by omega) ?_)
      rw [wrap_succ (by omega), show W + W * v = W * (v + 1) by rw [Nat.mul_add]; omega]
      exact ih
    · intro u hu ihu
      have hb := wh_lt hu hv
      have hs := gridI_succ W (screwG r y x) (u + W * v)
      obtain ⟨g1, g2⟩ := grid_at (y := v) hu
      rw [g1, g2] at hs
      have hs' : gridI W (screwG r y x) (u + W * v) ++ screwG r y x u v :: List.replicate 0 0 = gridI W (screwG r y x) (u + 1 + W * v) := by
        rw [show u + 1 + W * v = u + W * v + 1 by omega, hs]; rfl
      have hlen := gridI_length W (screwG r y x) (u + 1 + W * v)
      refine hJ2 _ _ _ _ _ _ _ _ (ifD (by omega) ?_)
      rw [wrap64 (x := (v : Int) - y) (by omega) (by omega), wrap64 (x := (u : Int) - x) (by omega) (by omega)]
      refine spec_turnN ?_
      rw [math_Floor.eq]
      obtain ⟨n, f1, f2, f3⟩ := floor_ok (rise_bd (r := r) (y := y) (x := x) (v := v) (u := u) e3 (by omega) (by omega))
      have hg : screwG r y x u v = n := by
        unfold screwG riseN
        rw [f2]; rfl
      unfold riseV at f2
      rw [f2, Option.getD_some, ← hg, hs', hlen, wrap_succ (by omega)]
      exact ⟨rfl, by omega, ihu⟩
end
theorem screw_small (w h x y r : Int) : (screwR w h x y r).length ≤ 1099511627776 := by
  unfold screwR
  split
  · rename_i hb
    unfold screwB at hb
    simp only [Bool.and_eq_true] at hb
    obtain ⟨e0, _⟩ := hb
    unfold sizeB at e0
    rw [Bool.and_eq_true, inB_iff, inB_iff] at e0
    obtain ⟨W, rfl⟩ : ∃ W : Nat, w = (W : Int) := ⟨w.toNat, by omega⟩
    obtain ⟨H, rfl⟩ : ∃ H : Nat, h = (H : Int) := ⟨h.toNat, by omega⟩
    unfold screwL
    rw [gridI_length, Int.toNat_natCast, Int.toNat_natCast]
    have hwh : W * H ≤ 16 * 16 := Nat.mul_le_mul (by omega) (by omega)
    omega
  · simp
theorem screw_law (w h x y r : Int) {K : Bool → Prop} (hk : K true) : laws_FnExactScrewHeights.wp w h x y r K := by
  rw [laws_FnExactScrewHeights.eq]
  have hl := screw_small w h x y r
  refine spec_Screw (impl_Screw (eqH_self hl (ifF rfl (ifF (by simp) (markH_ok (k := 1) hl (by decide) (heldH_ok (k := 1) hl (by decide) (ifN (by omega) (ifF (by simp) ?_))))))))
  exact impl_Screw (eqH_self hl (ifF rfl (ifF (by simp) (heldH_ok (k := 1) hl (by decide) (ifN (by omega) (ifF (by simp) hk))))))
end Go.K.heights
