/- The angle, here too. -/
import Derived.Test.YtcmbpondkipbkaaLB
import Derived.Test.YtcmbpondkipbkaaF15
set_option linter.unusedSimpArgs false
set_option linter.unusedVariables false
set_option maxRecDepth 10000
set_option maxHeartbeats 4000000
namespace Go.K.heights
open Go.K Go Ieee

theorem impl_fin {x : Nat} {K : Bool → Prop} (h : K (fin .f32 x)) : impl_IsFinite.wp x K := by
  rw [impl_IsFinite.eq, impl_finite.eq, math_IsNaN.eq, fne_self, isNaN_up]
  cases hx : isNaNW .f32 x
  · refine ifT rfl ?_
    rw [math_IsInf.eq]
    refine ifT rfl ?_
    rw [math_Abs.eq]
    refine ⟨by rw [isNaN_up]; exact hx, ?_⟩
    rw [isInf_bits (by rw [isNaN_up]; exact hx), fin_up, Bool.not_not]
    exact h
  · refine ifF rfl ?_
    have : fin .f32 x = false := by
      cases hf : fin .f32 x
      · rfl
      · rw [fin_notNaN hf] at hx; cases hx
    rw [this] at h; exact h
/-! ### the angle -/
theorem abs_notNaN {y : Nat} (h : isNaNW .f64 y = false) : isNaNW .f64 (y % 9223372036854775808) = false := by
  unfold isNaNW at h ⊢
  show (double.read (y % 9223372036854775808)).isNaN = false
  rw [read_abs]
  have h' : (double.read y).isNaN = false := h
  cases hd : double.read y <;> rw [hd] at h' <;> first | rfl | cases h'
theorem abs_ok {y : Nat} {K : Nat → Prop} (h : isNaNW .f64 y = false) (hk : K (y % 9223372036854775808)) : math_Abs.wp y K := by
  rw [math_Abs.eq]
  refine ⟨h, ?_⟩
  rw [abs_bits, Int.toNat_natCast, cF_of_not (abs_notNaN h)]
  exact hk
theorem nan_ok {K : Nat → Prop} (hk : K (nanW .f64)) : math_NaN.wp K := by
  rw [math_NaN.eq, show cF .f64 (Int.toNat (9221120237041090561 : Int)) = nanW .f64 by decide]
  exact hk
theorem fne_sub {k : FloatKind} {x : Nat} : fne k (farith .sub k x x) 0 = !fin k x := by
  rw [← sub_self k x]; rfl
/-- the angle of two numbers -/
def turnN (y x : Nat) : Nat := if (fin .f32 y && fin .f32 x) = true then (if (feq .f32 y 0 && feq .f32 x 0) = true then 0 else fconv .f64 .f32 (angleV (fconv .f32 .f64 y) (fconv .f32 .f64 x))) else nanW .f32
theorem w01 : Go.IntKind.wrap .i64 ((0 : Int) + 1) = 1 := by decide
theorem w12 : Go.IntKind.wrap .i64 ((1 : Int) + 1) = 2 := by decide
theorem w23 : Go.IntKind.wrap .i64 ((2 : Int) + 1) = 3 := by decide
theorem w15 : Go.IntKind.wrap .i64 ((15 : Int) - 2) = 13 := by decide
theorem w13 : Go.IntKind.wrap .i64 ((13 : Int) - 2) = 11 := by decide
theorem w11 : Go.IntKind.wrap .i64 ((11 : Int) - 2) = 9 := by decide
theorem w9 : Go.IntKind.wrap .i64 ((9 : Int) - 2) = 7 := by decide
theorem w7 : Go.IntKind.wrap .i64 ((7 : Int) - 2) = 5 := by decide
theorem w5 : Go.IntKind.wrap .i64 ((5 : Int) - 2) = 3 := by decide
theorem w3 : Go.IntKind.wrap .i64 ((3 : Int) - 2) = 1 := by decide
theorem w1' : Go.IntKind.wrap .i64 ((1 : Int) - 2) = -1 := by decide
theorem impl_ang {y x : Nat} (hy : fin .f64 y = true) (hx : fin .f64 x = true) {K : Nat → Prop} (hk : K (angleV y x)) : impl_angle.wp y x K := by
  rw [impl_angle.eq]
  refine abs_ok (fin_notNaN hy) (abs_ok (fin_notNaN hx) ?_)
  intro J hJ
  have main : J (y % 9223372036854775808) (x % 9223372036854775808) (smaller (y % 9223372036854775808) (x % 9223372036854775808)) := by
    refine hJ _ _ _ ?_
    unfold angleV angleA at hk
    generalize smaller (y % 9223372036854775808) (x % 9223372036854775808) = t at *
    intro J8 hJ8
    refine hJ8 _ _ _ _ (ifD (by decide) ?_)
    rw [math_Sqrt.eq, w01]
    refine hJ8 _ _ _ _ (ifD (by decide) ?_)
    rw [math_Sqrt.eq, w12]
    refine hJ8 _ _ _ _ (ifD (by decide) ?_)
    rw [math_Sqrt.eq, w23]
    refine hJ8 _ _ _ _ (ifN (by decide) ?_)
    change K (if _ then _ else _) at hk
    have ht : tanV (tanV (tanV t)) = tanV (tanV (tanV t)) := rfl
    change ∀ J13 : Nat → Nat → Nat → Nat → Nat → Int → Prop, _ → J13 _ _ (tanV (tanV (tanV t))) (farith Go.BinOp.mul .f64 (tanV (tanV (tanV t))) (tanV (tanV (tanV t)))) (0 : Nat) (15 : Int)
    generalize tanV (tanV (tanV t)) = T at *
    intro J13 hJ13
    refine hJ13 _ _ _ _ _ _ (ifD (by decide) ?_)
    rw [w15]
    refine hJ13 _ _ _ _ _ _ (ifD (by decide) ?_)
    rw [w13]
    refine hJ13 _ _ _ _ _ _ (ifD (by decide) ?_)
    rw [w11]
    refine hJ13 _ _ _ _ _ _ (ifD (by decide) ?_)
    rw [w9]
    refine hJ13 _ _ _ _ _ _ (ifD (by decide) ?_)
    rw [w7]
    refine hJ13 _ _ _ _ _ _ (ifD (by decide) ?_)
    rw [w5]
    refine hJ13 _ _ _ _ _ _ (ifD (by decide) ?_)
    rw [w3]
    refine hJ13 _ _ _ _ _ _ (ifD (by decide) ?_)
    rw [w1']
    refine hJ13 _ _ _ _ _ _ (ifN (by decide) ?_)
    change ifB _ (ifB _ (ifB _ (K (fneg .f64 (farith .sub .f64 4602678819172646912 (farith .sub .f64 4598175219545276416 (outV T))))) (K (farith .sub .f64 4602678819172646912 (farith .sub .f64 4598175219545276416 (outV T))))) (ifB _ (K (fneg .f64 (farith .sub .f64 4598175219545276416 (outV T)))) (K (farith .sub .f64 4598175219545276416 (outV T))))) (ifB _ (ifB _ (K (fneg .f64 (farith .sub .f64 4602678819172646912 (outV T)))) (K (farith .sub .f64 4602678819172646912 (outV T)))) (ifB _ (K (fneg .f64 (outV T))) (K (outV T))))
    unfold turnedV at hk
    generalize outV T = z at *
    refine ifB_of (fun e1 => ifB_of (fun e2 => ifB_of (fun e3 => ?_) (fun e3 => ?_)) (fun e2 => ifB_of (fun e3 => ?_) (fun e3 => ?_))) (fun e1 => ifB_of (fun e2 => ifB_of (fun e3 => ?_) (fun e3 => ?_)) (fun e2 => ifB_of (fun e3 => ?_) (fun e3 => ?_))) <;>
      simpa only [e1, e2, e3, if_true, if_false, Bool.false_eq_true] using hk
  unfold smaller at main
  refine ifB_of (fun e => ?_) (fun e => ?_)
  · rw [if_pos e] at main; exact main
  · rw [if_neg (by simp [e])] at main; exact main
theorem spec_ang {y x : Nat} (hy : fin .f64 y = true) (hx : fin .f64 x = true) {K : Nat → Prop} (hk : K (if (feq .f64 y 0 && feq .f64 x 0) = true then 0 else angleV y x)) : spec_l01AngleWide.wp y x K := by
  rw [spec_l01AngleWide.eq, fne_sub, hy]
  refine ifF rfl ?_
  rw [fne_sub, hx]
  refine ifF rfl ?_
  refine ifB_of (fun q1 => ifB_of (fun q2 => ?_) (fun q2 => ?_)) (fun q1 => ?_)
  · rw [q1, q2] at hk; exact hk
  all_goals
    have hk : K (angleV y x) := by
      first
      | (rw [q1, q2] at hk; exact hk)
      | (rw [q1, Bool.and_false] at hk; exact hk)
    refine abs_ok (fin_notNaN hy) (abs_ok (fin_notNaN hx) ?_)
    intro J hJ
    have main : J (fgt .f64 (y % 9223372036854775808) (x % 9223372036854775808)) (smaller (y % 9223372036854775808) (x % 9223372036854775808)) := by
      refine hJ _ _ ?_
      unfold angleV angleA at hk
      generalize smaller (y % 9223372036854775808) (x % 9223372036854775808) = t at *
      intro J8 hJ8
      refine hJ8 _ _ _ (ifD (by decide) ?_)
      rw [math_Sqrt.eq, w01]
      refine hJ8 _ _ _ (ifD (by decide) ?_)
      rw [math_Sqrt.eq, w12]
      refine hJ8 _ _ _ (ifD (by decide) ?_)
      rw [math_Sqrt.eq, w23]
      refine hJ8 _ _ _ (ifN (by decide) ?_)
      change ∀ J13 : Bool → Nat → Nat → Nat → Int → Prop, _ → J13 _ (tanV (tanV (tanV t))) (farith Go.BinOp.mul .f64 (tanV (tanV (tanV t))) (tanV (tanV (tanV t)))) (0 : Nat) (15 : Int)
      generalize tanV (tanV (tanV t)) = T at *
      intro J13 hJ13
      refine hJ13 _ _ _ _ _ (ifD (by decide) ?_)
      rw [w15]
      refine hJ13 _ _ _ _ _ (ifD (by decide) ?_)
      rw [w13]
      refine hJ13 _ _ _ _ _ (ifD (by decide) ?_)
      rw [w11]
      refine hJ13 _ _ _ _ _ (ifD (by decide) ?_)
      rw [w9]
      refine hJ13 _ _ _ _ _ (ifD (by decide) ?_)
      rw [w7]
      refine hJ13 _ _ _ _ _ (ifD (by decide) ?_)
      rw [w5]
      refine hJ13 _ _ _ _ _ (ifD (by decide) ?_)
      rw [w3]
      refine hJ13 _ _ _ _ _ (ifD (by decide) ?_)
      rw [w1']
      refine hJ13 _ _ _ _ _ (ifN (by decide) ?_)
      change ifB _ (ifB _ (ifB _ (K (fneg .f64 (farith .sub .f64 4602678819172646912 (farith .sub .f64 4598175219545276416 (outV T))))) (K (farith .sub .f64 4602678819172646912 (farith .sub .f64 4598175219545276416 (outV T))))) (ifB _ (K (fneg .f64 (farith .sub .f64 4598175219545276416 (outV T)))) (K (farith .sub .f64 4598175219545276416 (outV T))))) (ifB _ (ifB _ (K (fneg .f64 (farith .sub .f64 4602678819172646912 (outV T)))) (K (farith .sub .f64 4602678819172646912 (outV T)))) (ifB _ (K (fneg .f64 (outV T))) (K (outV T))))
      unfold turnedV at hk
      generalize outV T = z at *
      refine ifB_of (fun e1 => ifB_of (fun e2 => ifB_of (fun e3 => ?_) (fun e3 => ?_)) (fun e2 => ifB_of (fun e3 => ?_) (fun e3 => ?_))) (fun e1 => ifB_of (fun e2 => ifB_of (fun e3 => ?_) (fun e3 => ?_)) (fun e2 => ifB_of (fun e3 => ?_) (fun e3 => ?_))) <;>
        simpa only [e1, e2, e3, if_true, if_false, Bool.false_eq_true] using hk
    unfold smaller at main
    refine ifB_of (fun e => ?_) (fun e => ?_)
    · rw [if_pos e] at main; exact main
    · rw [if_neg (by simp [e])] at main; exact main
theorem angle_fits {y x : Nat} (hy : fin .f32 y = true) (hx : fin .f32 x = true) (h0 : (feq .f32 y 0 && feq .f32 x 0) = false) : fitsF .f64 .f32 (angleV (fconv .f32 .f64 y) (fconv .f32 .f64 x)) = true := by
  refine bd_fits (k := 14) (angle_bd (by rw [fin_up]; exact hy) (by rw [fin_up]; exact hx) ?_) (by decide)
  rw [feq_up hy, feq_up hx]; exact h0
theorem narrow_ok {z : Nat} {K : Nat → Prop} (h : fitsF .f64 .f32 z = true) (hk : K (fconv .f64 .f32 z)) : spec_l01Narrow.wp z K := by
  rw [spec_l01Narrow.eq]; exact ⟨h, hk⟩
theorem nan_fits : fitsF .f64 .f32 (nanW .f64) = true := by decide
theorem nan_down : fconv .f64 .f32 (nanW .f64) = nanW .f32 := by decide
theorem impl_turnN {y x : Nat} {K : Nat → Prop} (hk : K (turnN y x)) : impl_AngleTurns.wp y x K := by
  rw [impl_AngleTurns.eq]
  refine impl_fin ?_
  unfold turnN at hk
  cases hy : fin .f32 y
  · rw [hy, Bool.false_and, if_neg (by simp)] at hk
    refine ifT rfl (nan_ok ⟨nan_fits, ?_⟩)
    rw [nan_down]; exact hk
  refine ifF rfl (impl_fin ?_)
  cases hx : fin .f32 x
  · rw [hx, Bool.and_false, if_neg (by simp)] at hk
    refine ifT rfl (nan_ok ⟨nan_fits, ?_⟩)
    rw [nan_down]; exact hk
  rw [hy, hx, if_pos (by rfl)] at hk
  have hy' : fin .f64 (fconv .f32 .f64 y) = true := by rw [fin_up]; exact hy
  have hx' : fin .f64 (fconv .f32 .f64 x) = true := by rw [fin_up]; exact hx
  refine ifF rfl (ifB_of (fun q1 => ifB_of (fun q2 => ?_) (fun q2 => ?_)) (fun q1 => ?_))
  · rw [q1, q2, if_pos (by rfl)] at hk; exact hk
  · rw [q1, q2, if_neg (by decide)] at hk
    exact impl_ang hy' hx' ⟨angle_fits hy hx (by rw [q1, q2]; rfl), hk⟩
  · rw [q1, Bool.false_and, if_neg (by decide)] at hk
    exact impl_ang hy' hx' ⟨angle_fits hy hx (by rw [q1]; rfl), hk⟩
theorem spec_turnN {y x : Nat} {K : Nat → Prop} (hk : K (turnN y x)) : spec_l01Angle.wp y x K := by
  rw [spec_l01Angle.eq]
  unfold turnN at hk
  have hy' : fin .f64 (fconv .f32 .f64 y) = fin .f32 y := fin_up y
  have hx' : fin .f64 (fconv .f32 .f64 x) = fin .f32 x := fin_up x
  cases hy : fin .f32 y
  · rw [hy, Bool.false_and, if_neg (by simp)] at hk
    rw [spec_l01AngleWide.eq, fne_sub, hy', hy]
    refine ifT rfl (nan_ok (narrow_ok nan_fits ?_))
    rw [nan_down]; exact hk
  cases hx : fin .f32 x
  · rw [hx, Bool.and_false, if_neg (by simp)] at hk
    rw [spec_l01AngleWide.eq, fne_sub, hy', hy]
    refine ifF rfl ?_
    rw [fne_sub, hx', hx]
    refine ifT rfl (nan_ok (narrow_ok nan_fits ?_))
    rw [nan_down]; exact hk
  rw [hy, hx, if_pos (by rfl)] at hk
  refine spec_ang (by rw [hy', hy]) (by rw [hx', hx]) ?_
  rw [feq_up hy, feq_up hx]
  cases q : (feq .f32 y 0 && feq .f32 x 0)
  · rw [q, if_neg (by decide)] at hk
    rw [if_neg (by decide)]
    exact narrow_ok (angle_fits hy hx q) hk
  · rw [q, if_pos rfl] at hk
    rw [if_pos rfl]
    exact narrow_ok (by decide) (by rw [show fconv .f64 .f32 0 = 0 by decide]; exact hk)
end Go.K.heights
