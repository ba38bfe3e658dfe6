/- Where a phase grows. -/
import Derived.Test.YtajlojldbmfokaaLA
set_option linter.unusedSimpArgs false
set_option linter.unusedVariables false
set_option maxRecDepth 10000
set_option maxHeartbeats 4000000
namespace Go.K.melts
open Go.K Go Ieee

def half (a b : Nat) : Nat := farith .mul .f32 1056964608 (farith .sub .f32 a b)
def turnC (l : List Nat) (W H : Nat) (r : Bool) (x y : Nat) : Nat :=
  turnN (half (l.getD (cellF W H r (x : Int) ((y : Int) + 1)) 0) (l.getD (cellF W H r (x : Int) ((y : Int) - 1)) 0)) (half (l.getD (cellF W H r ((x : Int) + 1) (y : Int)) 0) (l.getD (cellF W H r ((x : Int) - 1) (y : Int)) 0))
def turnAt (m : Melt) (x y : Int) : Nat := turnC m.p m.w1.toNat m.h1.toNat m.r1 x.toNat y.toNat
section
variable {m : Melt} {x y : Int} {W H X Y : Nat}
theorem turnAt_eq (g : Geo m x y W H X Y) : turnAt m x y = turnC m.p W H m.r1 X Y := by
  unfold turnAt
  rw [g.w1, g.h1, g.x, g.y, Int.toNat_natCast, Int.toNat_natCast, Int.toNat_natCast, Int.toNat_natCast]
theorem spec_turn (g : Geo m x y W H X Y) {K : Nat → Prop} (hk : K (turnAt m x y)) : spec_l03Turn.wp m.w1 m.h1 m.r1 m.w2 m.h2 m.r2 m.a m.b m.c m.d m.e m.n m.p m.q x y K := by
  rw [turnAt_eq g] at hk
  have hx := g.hx
  have hy := g.hy
  have w16 := g.w16
  have h16 := g.h16
  have e1 : Go.IntKind.wrap .i64 ((X : Int) + 1) = (X : Int) + 1 := wrap64 (by omega) (by omega)
  have e2 : Go.IntKind.wrap .i64 ((X : Int) - 1) = (X : Int) - 1 := wrap64 (by omega) (by omega)
  have e3 : Go.IntKind.wrap .i64 ((Y : Int) + 1) = (Y : Int) + 1 := wrap64 (by omega) (by omega)
  have e4 : Go.IntKind.wrap .i64 ((Y : Int) - 1) = (Y : Int) - 1 := wrap64 (by omega) (by omega)
  rw [spec_l03Turn.eq, spec_l02SlopeY.eq, g.w1, g.h1, g.x, g.y, e3, e4]
  refine spec_at (by omega) w16 (by omega) h16 g.p ⟨by omega, by omega⟩ ⟨by omega, by omega⟩ ?_
  refine spec_at (by omega) w16 (by omega) h16 g.p ⟨by omega, by omega⟩ ⟨by omega, by omega⟩ ?_
  rw [spec_l02SlopeX.eq, e1, e2]
  refine spec_at (by omega) w16 (by omega) h16 g.p ⟨by omega, by omega⟩ ⟨by omega, by omega⟩ ?_
  refine spec_at (by omega) w16 (by omega) h16 g.p ⟨by omega, by omega⟩ ⟨by omega, by omega⟩ ?_
  exact spec_turnN hk
theorem impl_turn (g : Geo m x y W H X Y) {K : Nat → Prop} (hk : K (turnAt m x y)) : impl_Melt_turn.wp m.p m.q m.w1 m.h1 m.r1 m.w2 m.h2 m.r2 m.a m.b m.c m.d m.e m.n x y K := by
  rw [turnAt_eq g] at hk
  have hx := g.hx
  have hy := g.hy
  have w16 := g.w16
  have h16 := g.h16
  have e1 : Go.IntKind.wrap .i64 ((X : Int) + 1) = (X : Int) + 1 := wrap64 (by omega) (by omega)
  have e2 : Go.IntKind.wrap .i64 ((X : Int) - 1) = (X : Int) - 1 := wrap64 (by omega) (by omega)
  have e3 : Go.IntKind.wrap .i64 ((Y : Int) + 1) = (Y : Int) + 1 := wrap64 (by omega) (by omega)
  have e4 : Go.IntKind.wrap .i64 ((Y : Int) - 1) = (Y : Int) - 1 := wrap64 (by omega) (by omega)
  rw [impl_Melt_turn.eq, impl_Field_slopes.eq, g.w1, g.h1, g.x, g.y, e1, e2, e3, e4]
  refine impl_about (by omega) w16 (by omega) h16 g.p ⟨by omega, by omega⟩ ⟨by omega, by omega⟩ ?_
  refine impl_about (by omega) w16 (by omega) h16 g.p ⟨by omega, by omega⟩ ⟨by omega, by omega⟩ ?_
  refine impl_about (by omega) w16 (by omega) h16 g.p ⟨by omega, by omega⟩ ⟨by omega, by omega⟩ ?_
  refine impl_about (by omega) w16 (by omega) h16 g.p ⟨by omega, by omega⟩ ⟨by omega, by omega⟩ ?_
  exact impl_turnN hk
end
def turnR (m : Melt) (x y : Int) : Nat := if hasB m x y = true then (if fin .f32 (turnAt m x y) = true then turnAt m x y else 0) else 0
def turnB (m : Melt) (x y : Int) : Bool := hasB m x y && fin .f32 (turnAt m x y)
theorem spec_Turn (m : Melt) (hs : Small m) {x y : Int} {K : Nat → Bool → Prop} (hk : K (turnR m x y) (turnB m x y)) : spec_TurnAt.wp m.p m.q m.w1 m.h1 m.r1 m.w2 m.h2 m.r2 m.a m.b m.c m.d m.e m.n x y K := by
  rw [spec_TurnAt.eq]
  refine spec_has m hs ?_
  unfold turnR turnB at hk
  cases hv : hasB m x y
  · simp only [hv, Bool.false_eq_true, if_false, Bool.false_and] at hk; exact ifT rfl hk
  · simp only [hv, if_true, Bool.true_and] at hk
    obtain ⟨W, H, X, Y, g⟩ := has_nat hv
    exact ifF rfl (spec_turn g (spec_told hk))
theorem impl_Turn (m : Melt) (hs : Small m) {x y : Int} {K : Nat → Bool → Prop} (hk : K (turnR m x y) (turnB m x y)) : impl_TurnAt.wp m.p m.q m.w1 m.h1 m.r1 m.w2 m.h2 m.r2 m.a m.b m.c m.d m.e m.n x y K := by
  rw [impl_TurnAt.eq, impl_Melt_toldAt__Melt_turn.eq]
  refine impl_has m hs ?_
  unfold turnR turnB at hk
  cases hv : hasB m x y
  · simp only [hv, Bool.false_eq_true, if_false, Bool.false_and] at hk; exact ifT rfl hk
  · simp only [hv, if_true, Bool.true_and] at hk
    obtain ⟨W, H, X, Y, g⟩ := has_nat hv
    exact ifF rfl (impl_turn g (impl_told' hk))
theorem turn_law (m : Melt) (x y : Int) (hp : m.p.length ≤ 9223372036854775807) (hq : m.q.length ≤ 9223372036854775807) {K : Bool → Prop} (hk : K true) :
    laws_FnExactTurnAt.wp m.p m.q m.w1 m.h1 m.r1 m.w2 m.h2 m.r2 m.a m.b m.c m.d m.e m.n x y K := by
  rw [laws_FnExactTurnAt.eq, sameFloat_eq]
  refine szMelt_ok m hp hq (ifD (by decide) hk) fun hs k => ifN (by omega) ?_
  exact toMelt_ok m hs (spec_Turn m hs (toMelt_ok m hs (impl_Turn m hs (sameT_self (ifF rfl (ifF (by simp) (toMelt_ok m hs (eqMelt_self m hs (ifF rfl hk)))))))))
end Go.K.melts
