/- How easily a front moves. -/
import Derived.Test.YtajlojldbmfokaaLT
import Derived.Test.YtajlojldbmfokaaF14
set_option linter.unusedSimpArgs false
set_option linter.unusedVariables false
set_option maxRecDepth 10000
set_option maxHeartbeats 4000000
namespace Go.K.melts
open Go.K Go Ieee

theorem c8 : Go.IntKind.wrap .i64 (Go.IntKind.wrap .i64 ((2 : Int) * 8) * Go.IntKind.wrap .i64 (Go.IntKind.wrap .i64 ((2 : Int) * 8) + (1 : Int))) = 272 := by decide
theorem c7 : Go.IntKind.wrap .i64 (Go.IntKind.wrap .i64 ((2 : Int) * 7) * Go.IntKind.wrap .i64 (Go.IntKind.wrap .i64 ((2 : Int) * 7) + (1 : Int))) = 210 := by decide
theorem c6 : Go.IntKind.wrap .i64 (Go.IntKind.wrap .i64 ((2 : Int) * 6) * Go.IntKind.wrap .i64 (Go.IntKind.wrap .i64 ((2 : Int) * 6) + (1 : Int))) = 156 := by decide
theorem c5 : Go.IntKind.wrap .i64 (Go.IntKind.wrap .i64 ((2 : Int) * 5) * Go.IntKind.wrap .i64 (Go.IntKind.wrap .i64 ((2 : Int) * 5) + (1 : Int))) = 110 := by decide
theorem c4 : Go.IntKind.wrap .i64 (Go.IntKind.wrap .i64 ((2 : Int) * 4) * Go.IntKind.wrap .i64 (Go.IntKind.wrap .i64 ((2 : Int) * 4) + (1 : Int))) = 72 := by decide
theorem c3 : Go.IntKind.wrap .i64 (Go.IntKind.wrap .i64 ((2 : Int) * 3) * Go.IntKind.wrap .i64 (Go.IntKind.wrap .i64 ((2 : Int) * 3) + (1 : Int))) = 42 := by decide
theorem c2 : Go.IntKind.wrap .i64 (Go.IntKind.wrap .i64 ((2 : Int) * 2) * Go.IntKind.wrap .i64 (Go.IntKind.wrap .i64 ((2 : Int) * 2) + (1 : Int))) = 20 := by decide
theorem c1 : Go.IntKind.wrap .i64 (Go.IntKind.wrap .i64 ((2 : Int) * 1) * Go.IntKind.wrap .i64 (Go.IntKind.wrap .i64 ((2 : Int) * 1) + (1 : Int))) = 6 := by decide
theorem d8 : Go.IntKind.wrap .i64 ((8 : Int) - 1) = 7 := by decide
theorem d7 : Go.IntKind.wrap .i64 ((7 : Int) - 1) = 6 := by decide
theorem d6 : Go.IntKind.wrap .i64 ((6 : Int) - 1) = 5 := by decide
theorem d5 : Go.IntKind.wrap .i64 ((5 : Int) - 1) = 4 := by decide
theorem d4 : Go.IntKind.wrap .i64 ((4 : Int) - 1) = 3 := by decide
theorem d3 : Go.IntKind.wrap .i64 ((3 : Int) - 1) = 2 := by decide
theorem d2 : Go.IntKind.wrap .i64 ((2 : Int) - 1) = 1 := by decide
theorem d1 : Go.IntKind.wrap .i64 ((1 : Int) - 1) = 0 := by decide
section
variable {x m d : Nat} {s : Bool}
theorem impl_beh (h : Near x s m d) {K : Nat → Prop} (hk : K (behindV x)) : impl_behind.wp x K := by
  rw [impl_behind.eq, math_Trunc.eq, h.frac_eq]
  unfold behindV fracV at hk
  refine ifB_of (fun e => ?_) (fun e => ?_)
  · rw [if_pos e] at hk; exact hk
  · rw [if_neg (by simp [e])] at hk; exact hk
theorem impl_sin (h : Near x s m d) {K : Nat → Prop} (hk : K (sineV x)) : impl_sine.wp x K := by
  rw [impl_sine.eq]
  refine impl_beh h ?_
  unfold sineV sinV arcV at hk
  generalize behindV x = f at *
  intro J hJ
  have main : J (lowV f) (fge .f64 f 4602678819172646912) := by
    refine hJ _ _ ?_
    generalize lowV f = g at *
    intro J5 hJ5
    have main2 : J5 (foldV g) (fge .f64 f 4602678819172646912) := by
      refine hJ5 _ _ ?_
      generalize farith .mul .f64 (foldV g) 4618760256179416344 = z at *
      generalize farith .mul .f64 z z = u at *
      intro J8 hJ8
      refine hJ8 _ _ _ _ _ (ifD (by decide) ?_)
      rw [c8, d8]
      refine hJ8 _ _ _ _ _ (ifD (by decide) ?_)
      rw [c7, d7]
      refine hJ8 _ _ _ _ _ (ifD (by decide) ?_)
      rw [c6, d6]
      refine hJ8 _ _ _ _ _ (ifD (by decide) ?_)
      rw [c5, d5]
      refine hJ8 _ _ _ _ _ (ifD (by decide) ?_)
      rw [c4, d4]
      refine hJ8 _ _ _ _ _ (ifD (by decide) ?_)
      rw [c3, d3]
      refine hJ8 _ _ _ _ _ (ifD (by decide) ?_)
      rw [c2, d2]
      refine hJ8 _ _ _ _ _ (ifD (by decide) ?_)
      rw [c1, d1]
      refine hJ8 _ _ _ _ _ (ifN (by decide) ?_)
      change ifB _ (K (fneg .f64 (farith .mul .f64 z (polyS u)))) (K (farith .mul .f64 z (polyS u)))
      generalize polyS u = p at *
      refine ifB_of (fun e => ?_) (fun e => ?_)
      · rw [if_pos e] at hk; exact hk
      · rw [if_neg (by simp [e])] at hk; exact hk
    unfold foldV at main2
    refine ifB_of (fun e => ?_) (fun e => ?_)
    · rw [if_pos e] at main2; exact main2
    · rw [if_neg (by simp [e])] at main2; exact main2
  unfold lowV at main
  refine ifB_of (fun e => ?_) (fun e => ?_)
  · rw [if_pos e, e] at main; exact main
  · rw [if_neg (by simp [e]), e] at main; exact main
theorem spec_sin (hf : fin .f64 x = true) (hfar : fge .f64 (x % 9223372036854775808) 4841369599423283200 = false) {K : Nat → Prop} (hk : K (sineV x)) : spec_l01SineWide.wp x K := by
  obtain ⟨s, m, d, h⟩ := near_of hf hfar
  have hfar2 := far_eq hf
  rw [hfar, Bool.or_eq_false_iff] at hfar2
  rw [spec_l01SineWide.eq, fne_sub, hf]
  refine ifF rfl (ifF hfar2.1 (ifF hfar2.2 ⟨by rw [h.toint]; rfl, ?_⟩))
  unfold sineV sinV arcV at hk
  intro J hJ
  have main0 : J (behindV x) := by
    refine hJ _ ?_
    generalize behindV x = f at *
    intro J4 hJ4
    have main : J4 (lowV f) (fge .f64 f 4602678819172646912) := by
      refine hJ4 _ _ ?_
      generalize lowV f = g at *
      intro J5 hJ5
      have main2 : J5 (foldV g) (fge .f64 f 4602678819172646912) := by
        refine hJ5 _ _ ?_
        generalize farith .mul .f64 (foldV g) 4618760256179416344 = z at *
        generalize farith .mul .f64 z z = u at *
        intro J8 hJ8
        refine hJ8 _ _ _ _ _ (ifD (by decide) ?_)
        rw [c8, d8]
        refine hJ8 _ _ _ _ _ (ifD (by decide) ?_)
        rw [c7, d7]
        refine hJ8 _ _ _ _ _ (ifD (by decide) ?_)
        rw [c6, d6]
        refine hJ8 _ _ _ _ _ (ifD (by decide) ?_)
        rw [c5, d5]
        refine hJ8 _ _ _ _ _ (ifD (by decide) ?_)
        rw [c4, d4]
        refine hJ8 _ _ _ _ _ (ifD (by decide) ?_)
        rw [c3, d3]
        refine hJ8 _ _ _ _ _ (ifD (by decide) ?_)
        rw [c2, d2]
        refine hJ8 _ _ _ _ _ (ifD (by decide) ?_)
        rw [c1, d1]
        refine hJ8 _ _ _ _ _ (ifN (by decide) ?_)
        change ifB _ (K (fneg .f64 (farith .mul .f64 z (polyS u)))) (K (farith .mul .f64 z (polyS u)))
        generalize polyS u = p at *
        refine ifB_of (fun e => ?_) (fun e => ?_)
        · rw [if_pos e] at hk; exact hk
        · rw [if_neg (by simp [e])] at hk; exact hk
      unfold foldV at main2
      refine ifB_of (fun e => ?_) (fun e => ?_)
      · rw [if_pos e] at main2; exact main2
      · rw [if_neg (by simp [e])] at main2; exact main2
    unfold lowV at main
    refine ifB_of (fun e => ?_) (fun e => ?_)
    · rw [if_pos e] at main; exact main
    · rw [if_neg (by simp [e])] at main; exact main
  unfold behindV fracV wholeF at main0
  refine ifB_of (fun e => ?_) (fun e => ?_)
  · rw [if_pos e] at main0; exact main0
  · rw [if_neg (by simp [e])] at main0; exact main0
end
/-- the sine of a number of turns -/
def sineN (u : Nat) : Nat := if fin .f32 u = true then (if fge .f64 (fconv .f32 .f64 u % 9223372036854775808) 4841369599423283200 = true then 0 else fconv .f64 .f32 (sineV (fconv .f32 .f64 u))) else nanW .f32
theorem impl_sineN {u : Nat} {K : Nat → Prop} (hk : K (sineN u)) : impl_SineTurns.wp u K := by
  rw [impl_SineTurns.eq]
  refine impl_fin ?_
  unfold sineN at hk
  cases hu : fin .f32 u
  · rw [hu, if_neg (by simp)] at hk
    refine ifT rfl (nan_ok ⟨nan_fits, ?_⟩)
    rw [nan_down]; exact hk
  · rw [hu, if_pos rfl] at hk
    have hf : fin .f64 (fconv .f32 .f64 u) = true := by rw [fin_up]; exact hu
    refine ifF rfl (abs_ok (fin_notNaN hf) (ifB_of (fun e => ?_) (fun e => ?_)))
    · rw [if_pos e] at hk; exact hk
    · rw [if_neg (by simp [e])] at hk
      obtain ⟨s, m, d, h⟩ := near_of hf e
      exact impl_sin h ⟨bd_fits (sine_bd h) (by decide), hk⟩
theorem spec_sineN {u : Nat} {K : Nat → Prop} (hk : K (sineN u)) : spec_l01Sine.wp u K := by
  rw [spec_l01Sine.eq]
  unfold sineN at hk
  have hf : fin .f64 (fconv .f32 .f64 u) = fin .f32 u := fin_up u
  cases hu : fin .f32 u
  · rw [hu, if_neg (by simp)] at hk
    rw [spec_l01SineWide.eq, fne_sub, hf, hu]
    refine ifT rfl (nan_ok (narrow_ok nan_fits ?_))
    rw [nan_down]; exact hk
  · rw [hu, if_pos rfl] at hk
    rw [hu] at hf
    cases e : fge .f64 (fconv .f32 .f64 u % 9223372036854775808) 4841369599423283200
    · rw [if_neg (by simp [e])] at hk
      exact spec_sin hf e (narrow_ok (bd_fits (sine_bd' hf e) (by decide)) hk)
    · rw [if_pos e] at hk
      have hfar2 := far_eq hf
      rw [e, Bool.or_eq_true] at hfar2
      rw [spec_l01SineWide.eq, fne_sub, hf]
      have h0 : spec_l01Narrow.wp 0 K := narrow_ok (by decide) (by rw [show fconv .f64 .f32 0 = 0 by decide]; exact hk)
      refine ifF rfl (ifB_of (fun e1 => h0) (fun e1 => ifB_of (fun e2 => h0) (fun e2 => ?_)))
      rw [e1, e2] at hfar2
      simp at hfar2
def easeAt (m : Melt) (x y : Int) : Nat := farith .add .f32 1065353216 (farith .mul .f32 m.e (sineN (farith .add .f32 (farith .mul .f32 (fofint .f32 m.n) (turnAt m x y)) 1048576000)))
section
variable {m : Melt} {x y : Int} {W H X Y : Nat}
theorem spec_ease (g : Geo m x y W H X Y) {K : Nat → Prop} (hk : K (easeAt m x y)) : spec_l03Ease.wp m.w1 m.h1 m.r1 m.w2 m.h2 m.r2 m.a m.b m.c m.d m.e m.n m.p m.q x y K := by
  rw [spec_l03Ease.eq]
  exact spec_turn g (spec_sineN hk)
theorem impl_ease (g : Geo m x y W H X Y) {K : Nat → Prop} (hk : K (easeAt m x y)) : impl_Melt_ease.wp m.p m.q m.w1 m.h1 m.r1 m.w2 m.h2 m.r2 m.a m.b m.c m.d m.e m.n x y K := by
  rw [impl_Melt_ease.eq]
  exact impl_turn g (impl_sineN hk)
end
def easeR (m : Melt) (x y : Int) : Nat := if hasB m x y = true then (if fin .f32 (easeAt m x y) = true then easeAt m x y else 0) else 0
def easeB (m : Melt) (x y : Int) : Bool := hasB m x y && fin .f32 (easeAt m x y)
theorem spec_Ease (m : Melt) (hs : Small m) {x y : Int} {K : Nat → Bool → Prop} (hk : K (easeR m x y) (easeB m x y)) : spec_EaseAt.wp m.p m.q m.w1 m.h1 m.r1 m.w2 m.h2 m.r2 m.a m.b m.c m.d m.e m.n x y K := by
  rw [spec_EaseAt.eq]
  refine spec_has m hs ?_
  unfold easeR easeB at hk
  cases hv : hasB m x y
  · simp only [hv, Bool.false_eq_true, if_false, Bool.false_and] at hk; exact ifT rfl hk
  · simp only [hv, if_true, Bool.true_and] at hk
    obtain ⟨W, H, X, Y, g⟩ := has_nat hv
    exact ifF rfl (spec_ease g (spec_told hk))
theorem impl_Ease (m : Melt) (hs : Small m) {x y : Int} {K : Nat → Bool → Prop} (hk : K (easeR m x y) (easeB m x y)) : impl_EaseAt.wp m.p m.q m.w1 m.h1 m.r1 m.w2 m.h2 m.r2 m.a m.b m.c m.d m.e m.n x y K := by
  rw [impl_EaseAt.eq, impl_Melt_toldAt__Melt_ease.eq]
  refine impl_has m hs ?_
  unfold easeR easeB at hk
  cases hv : hasB m x y
  · simp only [hv, Bool.false_eq_true, if_false, Bool.false_and] at hk; exact ifT rfl hk
  · simp only [hv, if_true, Bool.true_and] at hk
    obtain ⟨W, H, X, Y, g⟩ := has_nat hv
    exact ifF rfl (impl_ease g (impl_told' hk))
theorem ease_law (m : Melt) (x y : Int) (hp : m.p.length ≤ 9223372036854775807) (hq : m.q.length ≤ 9223372036854775807) {K : Bool → Prop} (hk : K true) :
    laws_FnExactEaseAt.wp m.p m.q m.w1 m.h1 m.r1 m.w2 m.h2 m.r2 m.a m.b m.c m.d m.e m.n x y K := by
  rw [laws_FnExactEaseAt.eq, sameFloat_eq]
  refine szMelt_ok m hp hq (ifD (by decide) hk) fun hs k => ifN (by omega) ?_
  exact toMelt_ok m hs (spec_Ease m hs (toMelt_ok m hs (impl_Ease m hs (sameT_self (ifF rfl (ifF (by simp) (toMelt_ok m hs (eqMelt_self m hs (ifF rfl hk)))))))))
end Go.K.melts
