/- The angle in which a phase grows. -/
import Derived.Test.YtajlojldbmfokaaLB
import Derived.Test.YtajlojldbmfokaaF12
set_option linter.unusedSimpArgs false
set_option linter.unusedVariables false
set_option maxRecDepth 10000
set_option maxHeartbeats 4000000
namespace Go.K.melts
open Go.K Go Ieee

/-- a place in a row: round, or held at its ends -/
def plF (W : Nat) (r : Bool) (x : Int) : Nat := if r = true then pl W x else min x.toNat (W - 1)
theorem plF_lt {W : Nat} (h : 1 ≤ W) (r : Bool) (x : Int) : plF W r x < W := by
  unfold plF
  split
  · exact pl_lt (by omega) x
  · omega
theorem plF_self {W x : Nat} {r : Bool} (h : x < W) : plF W r (x : Int) = x := by
  unfold plF
  split
  · exact pl_self h
  · rw [Int.toNat_natCast]; omega
theorem pl_eq1 {W : Nat} {x : Int} (h0 : 1 ≤ W) (hW : W ≤ 1048576) (h1 : -1 ≤ x) (h2 : x ≤ W) : Int.tmod (Go.IntKind.wrap .i64 (Int.tmod x W + W)) W = (pl W x : Int) := by
  rcases Nat.lt_or_ge W 2 with h | h
  · obtain rfl : W = 1 := by omega
    unfold pl
    rw [Nat.mod_one]
    show Int.tmod _ 1 = 0
    exact Int.tmod_one _
  · exact pl_eq h hW h1 h2
theorem spec_place {W : Nat} {r : Bool} {x : Int} {K : Int → Prop} (h0 : 1 ≤ W) (hW : W ≤ 16) (h1 : -1 ≤ x) (h2 : x ≤ W) (hk : K (plF W r x : Int)) : spec_l02Place.wp x (W : Int) r K := by
  rw [spec_l02Place.eq]
  unfold plF at hk
  cases r
  · simp only [Bool.false_eq_true, if_false] at hk
    refine ifF rfl ?_
    rw [wrap64 (by omega) (by omega), spec_l00Min.eq]
    have go : ∀ z : Int, max 0 z = ((min x.toNat (W - 1) : Nat) : Int) → spec_l00Max.wp 0 z K := by
      intro z hz
      rw [spec_l00Max.eq]
      by_cases hc : (0 : Int) > z
      · refine ifD hc ?_
        rw [← hz] at hk
        rwa [show max 0 z = 0 by omega] at hk
      · refine ifN hc ?_
        rw [← hz] at hk
        rwa [show max 0 z = z by omega] at hk
    by_cases hc : (W : Int) - 1 < x
    · exact ifD hc (go _ (by omega))
    · exact ifN hc (go _ (by omega))
  · simp only [if_true] at hk
    refine ifT rfl ⟨by omega, by omega, ?_⟩
    rw [pl_eq1 h0 (by omega) h1 h2]; exact hk
theorem impl_place' {W : Nat} {r : Bool} {x : Int} {K : Int → Prop} (h0 : 1 ≤ W) (hW : W ≤ 16) (h1 : -1 ≤ x) (h2 : x ≤ W) (hk : K (plF W r x : Int)) : impl_place.wp x (W : Int) r K := by
  rw [impl_place.eq]
  unfold plF at hk
  cases r
  · simp only [Bool.false_eq_true, if_false] at hk
    refine ifF rfl ?_
    have mx : ∀ x y : Int, mmI true x y = max x y := by
      intro x y; show maxI x y = max x y; unfold maxI; split <;> omega
    have mn : ∀ x y : Int, mmI false x y = min x y := by
      intro x y; show minI x y = min x y; unfold minI; split <;> omega
    rw [wrap64 (by omega) (by omega), mx, mn, show min (max x 0) ((W : Int) - 1) = ((min x.toNat (W - 1) : Nat) : Int) by omega]
    exact hk
  · simp only [if_true] at hk
    refine ifT rfl ⟨by omega, by omega, ?_⟩
    rw [pl_eq1 h0 (by omega) h1 h2]; exact hk
def cellF (W H : Nat) (r : Bool) (x y : Int) : Nat := plF W r x + W * plF H r y
theorem cellF_lt {W H : Nat} (hW : 1 ≤ W) (hH : 1 ≤ H) (r : Bool) (x y : Int) : cellF W H r x y < W * H := wh_lt (plF_lt hW r x) (plF_lt hH r y)
section
variable {l : List Nat} {W H : Nat} {r : Bool} {x y : Int}
theorem spec_at (w1 : 1 ≤ W) (w16 : W ≤ 16) (h1 : 1 ≤ H) (h16 : H ≤ 16) (hl : l.length = W * H) (hx : -1 ≤ x ∧ x ≤ W) (hy : -1 ≤ y ∧ y ≤ H) {K : Nat → Prop} (hk : K (l.getD (cellF W H r x y) 0)) : spec_l02At.wp (W : Int) (H : Int) r l x y K := by
  rw [spec_l02At.eq, spec_l02Index.eq]
  refine spec_place w1 w16 hx.1 hx.2 (spec_place h1 h16 hy.1 hy.2 ?_)
  have hc := cellF_lt w1 h1 r x y
  have hwh : W * H ≤ 256 := Nat.mul_le_mul w16 h16
  unfold cellF at hc hk
  have e1 : Go.IntKind.wrap .i64 ((W : Int) * (plF H r y : Int)) = ((W * plF H r y : Nat) : Int) := by rw [← Int.natCast_mul, wrap_nat (by omega)]
  rw [e1, ← Int.natCast_add, wrap_nat (by omega), Int.toNat_natCast]
  exact ⟨⟨by omega, by omega⟩, hk⟩
theorem impl_about (w1 : 1 ≤ W) (w16 : W ≤ 16) (h1 : 1 ≤ H) (h16 : H ≤ 16) (hl : l.length = W * H) (hx : -1 ≤ x ∧ x ≤ W) (hy : -1 ≤ y ∧ y ≤ H) {K : Nat → Prop} (hk : K (l.getD (cellF W H r x y) 0)) : impl_Field_about.wp l (W : Int) (H : Int) r x y K := by
  rw [impl_Field_about.eq, impl_Field_cell.eq]
  refine impl_place' w1 w16 hx.1 hx.2 (impl_place' h1 h16 hy.1 hy.2 ?_)
  have hc := cellF_lt w1 h1 r x y
  have hwh : W * H ≤ 256 := Nat.mul_le_mul w16 h16
  unfold cellF at hc hk
  have e1 : Go.IntKind.wrap .i64 ((W : Int) * (plF H r y : Int)) = ((W * plF H r y : Nat) : Int) := by rw [← Int.natCast_mul, wrap_nat (by omega)]
  rw [e1, ← Int.natCast_add, wrap_nat (by omega), Int.toNat_natCast]
  exact ⟨⟨by omega, by omega⟩, hk⟩
end
theorem spec_told {z : Nat} {K : Nat → Bool → Prop} (hk : K (if fin .f32 z = true then z else 0) (fin .f32 z)) : spec_l03Number.wp z K := by
  rw [spec_l03Number.eq]
  refine spec_fin ?_
  cases hz : fin .f32 z
  · simp only [hz, Bool.false_eq_true, if_false] at hk; exact ifT rfl hk
  · simp only [hz, if_true] at hk; exact ifF rfl hk
theorem impl_told' {z : Nat} {K : Nat → Bool → Prop} (hk : K (if fin .f32 z = true then z else 0) (fin .f32 z)) : impl_told.wp z K := by
  rw [impl_told.eq]
  refine impl_fin ?_
  cases hz : fin .f32 z
  · simp only [hz, Bool.false_eq_true, if_false] at hk; exact ifT rfl hk
  · simp only [hz, if_true] at hk; exact ifF rfl hk

def hasB (m : Melt) (x y : Int) : Bool := isM m && (inB x 0 (Go.IntKind.wrap .i64 (m.w1 - 1)) && inB y 0 (Go.IntKind.wrap .i64 (m.h1 - 1)))
theorem spec_has (m : Melt) (hs : Small m) {x y : Int} {K : Bool → Prop} (hk : K (hasB m x y)) : spec_l03Cell.wp m.w1 m.h1 m.r1 m.w2 m.h2 m.r2 m.a m.b m.c m.d m.e m.n m.p m.q x y K := by
  rw [spec_l03Cell.eq]
  refine spec_is m hs ?_
  unfold hasB at hk
  refine ifB_of (fun e => ?_) (fun e => ?_)
  · rw [e, Bool.true_and] at hk
    refine spec_in (ifB_of (fun e => ?_) (fun e => ?_))
    · rw [e, Bool.true_and] at hk; exact spec_in hk
    · rw [e] at hk; exact hk
  · rw [e] at hk; exact hk
theorem impl_has (m : Melt) (hs : Small m) {x y : Int} {K : Bool → Prop} (hk : K (hasB m x y)) : impl_Melt_isCell.wp m.p m.q m.w1 m.h1 m.r1 m.w2 m.h2 m.r2 m.a m.b m.c m.d m.e m.n x y K := by
  rw [impl_Melt_isCell.eq]
  refine impl_is m hs ?_
  unfold hasB at hk
  refine ifB_of (fun e => ?_) (fun e => ?_)
  · rw [e, Bool.true_and] at hk
    refine impl_in (ifB_of (fun e => ?_) (fun e => ?_))
    · rw [e, Bool.true_and] at hk; exact impl_in hk
    · rw [e] at hk; exact hk
  · rw [e] at hk; exact hk
/-- what is known where there is such a cell -/
structure Geo (m : Melt) (x y : Int) (W H X Y : Nat) : Prop where
  w1 : m.w1 = (W : Int)
  h1 : m.h1 = (H : Int)
  w2 : m.w2 = (W : Int)
  h2 : m.h2 = (H : Int)
  x : x = (X : Int)
  y : y = (Y : Int)
  hx : X < W
  hy : Y < H
  w16 : W ≤ 16
  h16 : H ≤ 16
  p : m.p.length = W * H
  q : m.q.length = W * H
  lean : fin .f32 m.d = true
  heat : m.q.all (fin .f32) = true
theorem has_nat {m : Melt} {x y : Int} (hv : hasB m x y = true) : ∃ W H X Y : Nat, Geo m x y W H X Y := by
  simp only [hasB, Bool.and_eq_true, inB_iff] at hv
  obtain ⟨hv, ⟨b1, b2⟩, b3, b4⟩ := hv
  have hv' := hv
  unfold isM tailB mass at hv'
  simp only [Bool.and_eq_true, beq_iff_eq] at hv'
  obtain ⟨f1, f2, e1, e2, _, ⟨_, hq⟩, _, _, _, ⟨hd, _⟩, _⟩ := hv'
  obtain ⟨W, H, a1, a2, _, c1, _, c2, _, a3⟩ := field_nat f1
  have hlen := same_len f1 f2 e1 e2
  rw [a1, wrap64 (by omega) (by omega)] at b2
  rw [a2, wrap64 (by omega) (by omega)] at b4
  exact ⟨W, H, x.toNat, y.toNat, ⟨a1, a2, by omega, by omega, by omega, by omega, by omega, by omega, c1, c2, a3, by omega, hd, hq⟩⟩

/-! ### the angle -/
theorem abs_notNaN {y : Nat} (h : isNaNW .f64 y = false) : isNaNW .f64 (y % 9223372036854775808) = false := by
  unfold isNaNW at h ⊢
  show (double.read (y % 9223372036854775808)).isNaN = false
  rw [read_abs]
  have h' : (double.read y).isNaN = false := h
  cases hd : double.read y <;> rw [hd] at h' <;> first | rfl | cases h'
theorem abs_ok {y : Nat} {K : Nat → Prop} (h : isNaNW .f64 y = false) (hk : K (y % 9223372036854775808)) : math_Abs.wp y K := by
  rw [math_Abs.eq]
  refine ⟨h, ?_⟩
  rw [abs_bits, Int.toNat_natCast, cF_of_not (abs_notNaN h)]
  exact hk
theorem nan_ok {K : Nat → Prop} (hk : K (nanW .f64)) : math_NaN.wp K := by
  rw [math_NaN.eq, show cF .f64 (Int.toNat (9221120237041090561 : Int)) = nanW .f64 by decide]
  exact hk
theorem fne_sub {k : FloatKind} {x : Nat} : fne k (farith .sub k x x) 0 = !fin k x := by
  rw [← sub_self k x]; rfl
/-- the angle of two numbers -/
def turnN (y x : Nat) : Nat := if (fin .f32 y && fin .f32 x) = true then (if (feq .f32 y 0 && feq .f32 x 0) = true then 0 else fconv .f64 .f32 (angleV (fconv .f32 .f64 y) (fconv .f32 .f64 x))) else nanW .f32
theorem w01 : Go.IntKind.wrap .i64 ((0 : Int) + 1) = 1 := by decide
theorem w12 : Go.IntKind.wrap .i64 ((1 : Int) + 1) = 2 := by decide
theorem w23 : Go.IntKind.wrap .i64 ((2 : Int) + 1) = 3 := by decide
theorem w15 : Go.IntKind.wrap .i64 ((15 : Int) - 2) = 13 := by decide
theorem w13 : Go.IntKind.wrap .i64 ((13 : Int) - 2) = 11 := by decide
theorem w11 : Go.IntKind.wrap .i64 ((11 : Int) - 2) = 9 := by decide
theorem w9 : Go.IntKind.wrap .i64 ((9 : Int) - 2) = 7 := by decide
theorem w7 : Go.IntKind.wrap .i64 ((7 : Int) - 2) = 5 := by decide
theorem w5 : Go.IntKind.wrap .i64 ((5 : Int) - 2) = 3 := by decide
theorem w3 : Go.IntKind.wrap .i64 ((3 : Int) - 2) = 1 := by decide
theorem w1' : Go.IntKind.wrap .i64 ((1 : Int) - 2) = -1 := by decide
theorem impl_ang {y x : Nat} (hy : fin .f64 y = true) (hx : fin .f64 x = true) {K : Nat → Prop} (hk : K (angleV y x)) : impl_angle.wp y x K := by
  rw [impl_angle.eq]
  refine abs_ok (fin_notNaN hy) (abs_ok (fin_notNaN hx) ?_)
  intro J hJ
  have main : J (y % 9223372036854775808) (x % 9223372036854775808) (smaller (y % 9223372036854775808) (x % 9223372036854775808)) := by
    refine hJ _ _ _ ?_
    unfold angleV angleA at hk
    generalize smaller (y % 9223372036854775808) (x % 9223372036854775808) = t at *
    intro J8 hJ8
    refine hJ8 _ _ _ _ (ifD (by decide) ?_)
    rw [math_Sqrt.eq, w01]
    refine hJ8 _ _ _ _ (ifD (by decide) ?_)
    rw [math_Sqrt.eq, w12]
    refine hJ8 _ _ _ _ (ifD (by decide) ?_)
    rw [math_Sqrt.eq, w23]
    refine hJ8 _ _ _ _ (ifN (by decide) ?_)
    change K (if _ then _ else _) at hk
    have ht : tanV (tanV (tanV t)) = tanV (tanV (tanV t)) := rfl
    change ∀ J13 : Nat → Nat → Nat → Nat → Nat → Int → Prop, _ → J13 _ _ (tanV (tanV (tanV t))) (farith Go.BinOp.mul .f64 (tanV (tanV (tanV t))) (tanV (tanV (tanV t)))) (0 : Nat) (15 : Int)
    generalize tanV (tanV (tanV t)) = T at *
    intro J13 hJ13
    refine hJ13 _ _ _ _ _ _ (ifD (by decide) ?_)
    rw [w15]
    refine hJ13 _ _ _ _ _ _ (ifD (by decide) ?_)
    rw [w13]
    refine hJ13 _ _ _ _ _ _ (ifD (by decide) ?_)
    rw [w11]
    refine hJ13 _ _ _ _ _ _ (ifD (by decide) ?_)
    rw [w9]
    refine hJ13 _ _ _ _ _ _ (ifD (by decide) ?_)
    rw [w7]
    refine hJ13 _ _ _ _ _ _ (ifD (by decide) ?_)
    rw [w5]
    refine hJ13 _ _ _ _ _ _ (ifD (by decide) ?_)
    rw [w3]
    refine hJ13 _ _ _ _ _ _ (ifD (by decide) ?_)
    rw [w1']
    refine hJ13 _ _ _ _ _ _ (ifN (by decide) ?_)
    change ifB _ (ifB _ (ifB _ (K (fneg .f64 (farith .sub .f64 4602678819172646912 (farith .sub .f64 4598175219545276416 (outV T))))) (K (farith .sub .f64 4602678819172646912 (farith .sub .f64 4598175219545276416 (outV T))))) (ifB _ (K (fneg .f64 (farith .sub .f64 4598175219545276416 (outV T)))) (K (farith .sub .f64 4598175219545276416 (outV T))))) (ifB _ (ifB _ (K (fneg .f64 (farith .sub .f64 4602678819172646912 (outV T)))) (K (farith .sub .f64 4602678819172646912 (outV T)))) (ifB _ (K (fneg .f64 (outV T))) (K (outV T))))
    unfold turnedV at hk
    generalize outV T = z at *
    refine ifB_of (fun e1 => ifB_of (fun e2 => ifB_of (fun e3 => ?_) (fun e3 => ?_)) (fun e2 => ifB_of (fun e3 => ?_) (fun e3 => ?_))) (fun e1 => ifB_of (fun e2 => ifB_of (fun e3 => ?_) (fun e3 => ?_)) (fun e2 => ifB_of (fun e3 => ?_) (fun e3 => ?_))) <;>
      simpa only [e1, e2, e3, if_true, if_false, Bool.false_eq_true] using hk
  unfold smaller at main
  refine ifB_of (fun e => ?_) (fun e => ?_)
  · rw [if_pos e] at main; exact main
  · rw [if_neg (by simp [e])] at main; exact main
theorem spec_ang {y x : Nat} (hy : fin .f64 y = true) (hx : fin .f64 x = true) {K : Nat → Prop} (hk : K (if (feq .f64 y 0 && feq .f64 x 0) = true then 0 else angleV y x)) : spec_l01AngleWide.wp y x K := by
  rw [spec_l01AngleWide.eq, fne_sub, hy]
  refine ifF rfl ?_
  rw [fne_sub, hx]
  refine ifF rfl ?_
  refine ifB_of (fun q1 => ifB_of (fun q2 => ?_) (fun q2 => ?_)) (fun q1 => ?_)
  · rw [q1, q2] at hk; exact hk
  all_goals
    have hk : K (angleV y x) := by
      first
      | (rw [q1, q2] at hk; exact hk)
      | (rw [q1, Bool.and_false] at hk; exact hk)
    refine abs_ok (fin_notNaN hy) (abs_ok (fin_notNaN hx) ?_)
    intro J hJ
    have main : J (fgt .f64 (y % 9223372036854775808) (x % 9223372036854775808)) (smaller (y % 9223372036854775808) (x % 9223372036854775808)) := by
      refine hJ _ _ ?_
      unfold angleV angleA at hk
      generalize smaller (y % 9223372036854775808) (x % 9223372036854775808) = t at *
      intro J8 hJ8
      refine hJ8 _ _ _ (ifD (by decide) ?_)
      rw [math_Sqrt.eq, w01]
      refine hJ8 _ _ _ (ifD (by decide) ?_)
      rw [math_Sqrt.eq, w12]
      refine hJ8 _ _ _ (ifD (by decide) ?_)
      rw [math_Sqrt.eq, w23]
      refine hJ8 _ _ _ (ifN (by decide) ?_)
      change ∀ J13 : Bool → Nat → Nat → Nat → Int → Prop, _ → J13 _ (tanV (tanV (tanV t))) (farith Go.BinOp.mul .f64 (tanV (tanV (tanV t))) (tanV (tanV (tanV t)))) (0 : Nat) (15 : Int)
      generalize tanV (tanV (tanV t)) = T at *
      intro J13 hJ13
      refine hJ13 _ _ _ _ _ (ifD (by decide) ?_)
      rw [w15]
      refine hJ13 _ _ _ _ _ (ifD (by decide) ?_)
      rw [w13]
      refine hJ13 _ _ _ _ _ (ifD (by decide) ?_)
      rw [w11]
      refine hJ13 _ _ _ _ _ (ifD (by decide) ?_)
      rw [w9]
      refine hJ13 _ _ _ _ _ (ifD (by decide) ?_)
      rw [w7]
      refine hJ13 _ _ _ _ _ (ifD (by decide) ?_)
      rw [w5]
      refine hJ13 _ _ _ _ _ (ifD (by decide) ?_)
      rw [w3]
      refine hJ13 _ _ _ _ _ (ifD (by decide) ?_)
      rw [w1']
      refine hJ13 _ _ _ _ _ (ifN (by decide) ?_)
      change ifB _ (ifB _ (ifB _ (K (fneg .f64 (farith .sub .f64 4602678819172646912 (farith .sub .f64 4598175219545276416 (outV T))))) (K (farith .sub .f64 4602678819172646912 (farith .sub .f64 4598175219545276416 (outV T))))) (ifB _ (K (fneg .f64 (farith .sub .f64 4598175219545276416 (outV T)))) (K (farith .sub .f64 4598175219545276416 (outV T))))) (ifB _ (ifB _ (K (fneg .f64 (farith .sub .f64 4602678819172646912 (outV T)))) (K (farith .sub .f64 4602678819172646912 (outV T)))) (ifB _ (K (fneg .f64 (outV T))) (K (outV T))))
      unfold turnedV at hk
      generalize outV T = z at *
      refine ifB_of (fun e1 => ifB_of (fun e2 => ifB_of (fun e3 => ?_) (fun e3 => ?_)) (fun e2 => ifB_of (fun e3 => ?_) (fun e3 => ?_))) (fun e1 => ifB_of (fun e2 => ifB_of (fun e3 => ?_) (fun e3 => ?_)) (fun e2 => ifB_of (fun e3 => ?_) (fun e3 => ?_))) <;>
        simpa only [e1, e2, e3, if_true, if_false, Bool.false_eq_true] using hk
    unfold smaller at main
    refine ifB_of (fun e => ?_) (fun e => ?_)
    · rw [if_pos e] at main; exact main
    · rw [if_neg (by simp [e])] at main; exact main
theorem angle_fits {y x : Nat} (hy : fin .f32 y = true) (hx : fin .f32 x = true) (h0 : (feq .f32 y 0 && feq .f32 x 0) = false) : fitsF .f64 .f32 (angleV (fconv .f32 .f64 y) (fconv .f32 .f64 x)) = true := by
  refine bd_fits (k := 14) (angle_bd (by rw [fin_up]; exact hy) (by rw [fin_up]; exact hx) ?_) (by decide)
  rw [feq_up hy, feq_up hx]; exact h0
theorem narrow_ok {z : Nat} {K : Nat → Prop} (h : fitsF .f64 .f32 z = true) (hk : K (fconv .f64 .f32 z)) : spec_l01Narrow.wp z K := by
  rw [spec_l01Narrow.eq]; exact ⟨h, hk⟩
theorem nan_fits : fitsF .f64 .f32 (nanW .f64) = true := by decide
theorem nan_down : fconv .f64 .f32 (nanW .f64) = nanW .f32 := by decide
theorem impl_turnN {y x : Nat} {K : Nat → Prop} (hk : K (turnN y x)) : impl_AngleTurns.wp y x K := by
  rw [impl_AngleTurns.eq]
  refine impl_fin ?_
  unfold turnN at hk
  cases hy : fin .f32 y
  · rw [hy, Bool.false_and, if_neg (by simp)] at hk
    refine ifT rfl (nan_ok ⟨nan_fits, ?_⟩)
    rw [nan_down]; exact hk
  refine ifF rfl (impl_fin ?_)
  cases hx : fin .f32 x
  · rw [hx, Bool.and_false, if_neg (by simp)] at hk
    refine ifT rfl (nan_ok ⟨nan_fits, ?_⟩)
    rw [nan_down]; exact hk
  rw [hy, hx, if_pos (by rfl)] at hk
  have hy' : fin .f64 (fconv .f32 .f64 y) = true := by rw [fin_up]; exact hy
  have hx' : fin .f64 (fconv .f32 .f64 x) = true := by rw [fin_up]; exact hx
  refine ifF rfl (ifB_of (fun q1 => ifB_of (fun q2 => ?_) (fun q2 => ?_)) (fun q1 => ?_))
  · rw [q1, q2, if_pos (by rfl)] at hk; exact hk
  · rw [q1, q2, if_neg (by decide)] at hk
    exact impl_ang hy' hx' ⟨angle_fits hy hx (by rw [q1, q2]; rfl), hk⟩
  · rw [q1, Bool.false_and, if_neg (by decide)] at hk
    exact impl_ang hy' hx' ⟨angle_fits hy hx (by rw [q1]; rfl), hk⟩
theorem spec_turnN {y x : Nat} {K : Nat → Prop} (hk : K (turnN y x)) : spec_l01Angle.wp y x K := by
  rw [spec_l01Angle.eq]
  unfold turnN at hk
  have hy' : fin .f64 (fconv .f32 .f64 y) = fin .f32 y := fin_up y
  have hx' : fin .f64 (fconv .f32 .f64 x) = fin .f32 x := fin_up x
  cases hy : fin .f32 y
  · rw [hy, Bool.false_and, if_neg (by simp)] at hk
    rw [spec_l01AngleWide.eq, fne_sub, hy', hy]
    refine ifT rfl (nan_ok (narrow_ok nan_fits ?_))
    rw [nan_down]; exact hk
  cases hx : fin .f32 x
  · rw [hx, Bool.and_false, if_neg (by simp)] at hk
    rw [spec_l01AngleWide.eq, fne_sub, hy', hy]
    refine ifF rfl ?_
    rw [fne_sub, hx', hx]
    refine ifT rfl (nan_ok (narrow_ok nan_fits ?_))
    rw [nan_down]; exact hk
  rw [hy, hx, if_pos (by rfl)] at hk
  refine spec_ang (by rw [hy', hy]) (by rw [hx', hx]) ?_
  rw [feq_up hy, feq_up hx]
  cases q : (feq .f32 y 0 && feq .f32 x 0)
  · rw [q, if_neg (by decide)] at hk
    rw [if_neg (by decide)]
    exact narrow_ok (angle_fits hy hx q) hk
  · rw [q, if_pos rfl] at hk
    rw [if_pos rfl]
    exact narrow_ok (by decide) (by rw [show fconv .f64 .f32 0 = 0 by decide]; exact hk)
end Go.K.melts
