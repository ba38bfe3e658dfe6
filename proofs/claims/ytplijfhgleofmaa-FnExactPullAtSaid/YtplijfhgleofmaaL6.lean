/- What pulls at a phase. -/
import Derived.Test.YtplijfhgleofmaaL4
import Derived.Test.YtplijfhgleofmaaF8
set_option linter.unusedSimpArgs false
set_option linter.unusedVariables false
set_option maxRecDepth 10000
set_option maxHeartbeats 4000000
namespace Go.K.melts
open Go.K Go Ieee

theorem abs_notNaN {y : Nat} (h : isNaNW .f64 y = false) : isNaNW .f64 (y % 9223372036854775808) = false := by
  unfold isNaNW at h ⊢
  show (double.read (y % 9223372036854775808)).isNaN = false
  rw [read_abs]
  have h' : (double.read y).isNaN = false := h
  cases hd : double.read y <;> rw [hd] at h' <;> first | rfl | cases h'
theorem impl_abs {u : Nat} {K : Nat → Prop} (hu : u < 4294967296) (hn : isNaNW .f32 u = false) (hk : K (u % 2147483648)) : impl_absolute.wp u K := by
  rw [impl_absolute.eq, math_Abs.eq]
  have hy : isNaNW .f64 (fconv .f32 .f64 u) = false := by rw [isNaN_up]; exact hn
  refine ⟨hy, ?_⟩
  rw [abs_bits, Int.toNat_natCast, cF_of_not (abs_notNaN hy)]
  obtain ⟨h1, h2⟩ := abs_back hu hn
  refine ⟨h1, ?_⟩
  rw [h2]; exact hk
def driveV (lean t : Nat) : Nat := farith .mul .f32 1055286886 (farith .quo .f32 (farith .mul .f32 lean (fneg .f32 t)) (farith .add .f32 1065353216 (farith .mul .f32 lean (fneg .f32 t) % 2147483648)))
def pullV (p d : Nat) : Nat := farith .mul .f32 (farith .mul .f32 p (farith .sub .f32 1065353216 p)) (farith .add .f32 (farith .sub .f32 p 1056964608) d)
theorem pull_notfin {p d : Nat} (h : fin .f32 d = false) : fin .f32 (pullV p d) = false := mul_notfin (add_notfin h)
def hasB (m : Melt) (x y : Int) : Bool := isM m && (inB x 0 (Go.IntKind.wrap .i64 (m.w1 - 1)) && inB y 0 (Go.IntKind.wrap .i64 (m.h1 - 1)))
theorem spec_has (m : Melt) (hs : Small m) {x y : Int} {K : Bool → Prop} (hk : K (hasB m x y)) : spec_l03Cell.wp m.w1 m.h1 m.r1 m.w2 m.h2 m.r2 m.a m.b m.c m.d m.e m.n m.p m.q x y K := by
  rw [spec_l03Cell.eq]
  refine spec_is m hs ?_
  unfold hasB at hk
  refine ifB_of (fun e => ?_) (fun e => ?_)
  · rw [e, Bool.true_and] at hk
    refine spec_in (ifB_of (fun e => ?_) (fun e => ?_))
    · rw [e, Bool.true_and] at hk; exact spec_in hk
    · rw [e] at hk; exact hk
  · rw [e] at hk; exact hk
theorem impl_has (m : Melt) (hs : Small m) {x y : Int} {K : Bool → Prop} (hk : K (hasB m x y)) : impl_Melt_isCell.wp m.p m.q m.w1 m.h1 m.r1 m.w2 m.h2 m.r2 m.a m.b m.c m.d m.e m.n x y K := by
  rw [impl_Melt_isCell.eq]
  refine impl_is m hs ?_
  unfold hasB at hk
  refine ifB_of (fun e => ?_) (fun e => ?_)
  · rw [e, Bool.true_and] at hk
    refine impl_in (ifB_of (fun e => ?_) (fun e => ?_))
    · rw [e, Bool.true_and] at hk; exact impl_in hk
    · rw [e] at hk; exact hk
  · rw [e] at hk; exact hk
/-- what is known where there is such a cell -/
structure Geo (m : Melt) (x y : Int) (W H X Y : Nat) : Prop where
  w1 : m.w1 = (W : Int)
  h1 : m.h1 = (H : Int)
  w2 : m.w2 = (W : Int)
  h2 : m.h2 = (H : Int)
  x : x = (X : Int)
  y : y = (Y : Int)
  hx : X < W
  hy : Y < H
  w16 : W ≤ 16
  h16 : H ≤ 16
  p : m.p.length = W * H
  q : m.q.length = W * H
  lean : fin .f32 m.d = true
  heat : m.q.all (fin .f32) = true
theorem has_nat {m : Melt} {x y : Int} (hv : hasB m x y = true) : ∃ W H X Y : Nat, Geo m x y W H X Y := by
  simp only [hasB, Bool.and_eq_true, inB_iff] at hv
  obtain ⟨hv, ⟨b1, b2⟩, b3, b4⟩ := hv
  have hv' := hv
  unfold isM tailB mass at hv'
  simp only [Bool.and_eq_true, beq_iff_eq] at hv'
  obtain ⟨f1, f2, e1, e2, _, ⟨_, hq⟩, _, _, _, ⟨hd, _⟩, _⟩ := hv'
  obtain ⟨W, H, a1, a2, _, c1, _, c2, _, a3⟩ := field_nat f1
  have hlen := same_len f1 f2 e1 e2
  rw [a1, wrap64 (by omega) (by omega)] at b2
  rw [a2, wrap64 (by omega) (by omega)] at b4
  exact ⟨W, H, x.toNat, y.toNat, ⟨a1, a2, by omega, by omega, by omega, by omega, by omega, by omega, c1, c2, a3, by omega, hd, hq⟩⟩
section
variable {m : Melt} {x y : Int} {W H X Y : Nat}
theorem impl_fieldAt {l : List Nat} {r : Bool} (hx : X < W) (hy : Y < H) (w16 : W ≤ 16) (h16 : H ≤ 16) (hl : l.length = W * H) {K : Nat → Prop} (hk : K (l.getD (X + W * Y) 0)) : impl_Field_at.wp l (W : Int) (H : Int) r (X : Int) (Y : Int) K := by
  have hb := wh_lt hx hy
  have hwh : W * H ≤ 256 := Nat.mul_le_mul w16 h16
  rw [impl_Field_at.eq]
  have e1 : Go.IntKind.wrap .i64 ((W : Int) * (Y : Int)) = ((W * Y : Nat) : Int) := by rw [← Int.natCast_mul, wrap_nat (by omega)]
  rw [e1, ← Int.natCast_add, wrap_nat (by omega), Int.toNat_natCast]
  exact ⟨⟨by omega, by omega⟩, hk⟩
theorem spec_fieldAt {l : List Nat} {r : Bool} (hx : X < W) (hy : Y < H) (w16 : W ≤ 16) (h16 : H ≤ 16) (hl : l.length = W * H) {K : Nat → Prop} (hk : K (l.getD (X + W * Y) 0)) : spec_l02At.wp (W : Int) (H : Int) r l (X : Int) (Y : Int) K := by
  refine spec_at (by omega) w16 (by omega) h16 hl ⟨by omega, by omega⟩ ⟨by omega, by omega⟩ ?_
  have ec : cellF W H r (X : Int) (Y : Int) = X + W * Y := by unfold cellF; rw [plF_self hx, plF_self hy]
  rw [ec]; exact hk
def heatV (m : Melt) (W X Y : Nat) : Nat := m.q.getD (X + W * Y) 0
theorem u_ok (g : Geo m x y W H X Y) : isNaNW .f32 (farith .mul .f32 m.d (fneg .f32 (heatV m W X Y))) = false ∧ farith .mul .f32 m.d (fneg .f32 (heatV m W X Y)) < 4294967296 := by
  have hb := wh_lt g.hx g.hy
  have hl := g.q
  refine mul_fin g.lean (fneg_fin ?_)
  exact List.all_eq_true.1 g.heat _ (getD_mem 0 (by omega))
theorem spec_drive (g : Geo m x y W H X Y) {K : Nat → Prop} (hk : K (driveV m.d (heatV m W X Y))) : spec_l03Drive.wp m.w1 m.h1 m.r1 m.w2 m.h2 m.r2 m.a m.b m.c m.d m.e m.n m.p m.q x y K := by
  obtain ⟨hn, hu⟩ := u_ok g
  rw [spec_l03Drive.eq, g.w2, g.h2, g.x, g.y]
  refine spec_fieldAt g.hx g.hy g.w16 g.h16 g.q ?_
  unfold driveV at hk
  unfold heatV at *
  generalize farith .mul .f32 m.d (fneg .f32 (m.q.getD (X + W * Y) 0)) = u at *
  refine ifB_of (fun e => ?_) (fun e => ?_)
  · rw [(flt_zero hu hn e).2]; exact hk
  · rcases not_flt_zero hu hn e with h | h
    · rw [Nat.mod_eq_of_lt h] at hk; exact hk
    · subst h
      rw [show farith .add .f32 1065353216 2147483648 = farith .add .f32 1065353216 (2147483648 % 2147483648) by decide]
      exact hk
theorem impl_drive (g : Geo m x y W H X Y) {K : Nat → Prop} (hk : K (driveV m.d (heatV m W X Y))) : impl_Melt_drive.wp m.p m.q m.w1 m.h1 m.r1 m.w2 m.h2 m.r2 m.a m.b m.c m.d m.e m.n x y K := by
  obtain ⟨hn, hu⟩ := u_ok g
  rw [impl_Melt_drive.eq, g.w2, g.h2, g.x, g.y]
  refine impl_fieldAt g.hx g.hy g.w16 g.h16 g.q ?_
  exact impl_abs hu hn hk
end
def pullC (m : Melt) (W X Y : Nat) : Nat := pullV (m.p.getD (X + W * Y) 0) (driveV m.d (heatV m W X Y))
def pullN (m : Melt) (x y : Int) : Nat := pullC m m.w1.toNat x.toNat y.toNat
def pullR (m : Melt) (x y : Int) : Nat := if hasB m x y = true then (if fin .f32 (pullN m x y) = true then pullN m x y else 0) else 0
def pullB (m : Melt) (x y : Int) : Bool := hasB m x y && fin .f32 (pullN m x y)
theorem spec_Pull (m : Melt) (hs : Small m) {x y : Int} {K : Nat → Bool → Prop} (hk : K (pullR m x y) (pullB m x y)) : spec_PullAt.wp m.p m.q m.w1 m.h1 m.r1 m.w2 m.h2 m.r2 m.a m.b m.c m.d m.e m.n x y K := by
  rw [spec_PullAt.eq]
  refine spec_has m hs ?_
  unfold pullR pullB at hk
  cases hv : hasB m x y
  · simp only [hv, Bool.false_eq_true, if_false, Bool.false_and] at hk; exact ifT rfl hk
  · simp only [hv, if_true, Bool.true_and] at hk
    obtain ⟨W, H, X, Y, g⟩ := has_nat hv
    have eN : pullN m x y = pullC m W X Y := by
      unfold pullN
      rw [g.w1, g.x, g.y, Int.toNat_natCast, Int.toNat_natCast, Int.toNat_natCast]
    rw [eN] at hk
    refine ifF rfl (spec_drive g (spec_fin ?_))
    cases hf : fin .f32 (driveV m.d (heatV m W X Y))
    · have : fin .f32 (pullC m W X Y) = false := pull_notfin hf
      simp only [this, Bool.false_eq_true, if_false] at hk
      exact ifT rfl hk
    · refine ifF rfl ?_
      rw [spec_l03Pull.eq]
      have hk2 : spec_l02At.wp m.w1 m.h1 m.r1 m.p x y fun y1 => spec_l03Drive.wp m.w1 m.h1 m.r1 m.w2 m.h2 m.r2 m.a m.b m.c m.d m.e m.n m.p m.q x y fun y2 => spec_l03Number.wp (pullV y1 y2) K := by
        have inner : ∀ z : Nat, z = m.p.getD (X + W * Y) 0 → spec_l03Drive.wp m.w1 m.h1 m.r1 m.w2 m.h2 m.r2 m.a m.b m.c m.d m.e m.n m.p m.q x y fun y2 => spec_l03Number.wp (pullV z y2) K := by
          intro z hz
          refine spec_drive g ?_
          subst hz
          exact spec_told hk
        have := spec_fieldAt (r := m.r1) g.hx g.hy g.w16 g.h16 g.p (K := fun y1 => spec_l03Drive.wp m.w1 m.h1 m.r1 m.w2 m.h2 m.r2 m.a m.b m.c m.d m.e m.n m.p m.q x y fun y2 => spec_l03Number.wp (pullV y1 y2) K) (inner _ rfl)
        rw [← g.w1, ← g.h1, ← g.x, ← g.y] at this
        exact this
      exact hk2
theorem impl_Pull (m : Melt) (hs : Small m) {x y : Int} {K : Nat → Bool → Prop} (hk : K (pullR m x y) (pullB m x y)) : impl_PullAt.wp m.p m.q m.w1 m.h1 m.r1 m.w2 m.h2 m.r2 m.a m.b m.c m.d m.e m.n x y K := by
  rw [impl_PullAt.eq, impl_Melt_toldAt__Melt_pull.eq]
  refine impl_has m hs ?_
  unfold pullR pullB at hk
  cases hv : hasB m x y
  · simp only [hv, Bool.false_eq_true, if_false, Bool.false_and] at hk; exact ifT rfl hk
  · simp only [hv, if_true, Bool.true_and] at hk
    obtain ⟨W, H, X, Y, g⟩ := has_nat hv
    have eN : pullN m x y = pullC m W X Y := by
      unfold pullN
      rw [g.w1, g.x, g.y, Int.toNat_natCast, Int.toNat_natCast, Int.toNat_natCast]
    rw [eN] at hk
    refine ifF rfl ?_
    rw [impl_Melt_pull.eq]
    have hk2 : impl_Field_at.wp m.p m.w1 m.h1 m.r1 x y fun y1 => impl_Melt_drive.wp m.p m.q m.w1 m.h1 m.r1 m.w2 m.h2 m.r2 m.a m.b m.c m.d m.e m.n x y fun y2 => impl_told.wp (pullV y1 y2) K := by
      have inner : ∀ z : Nat, z = m.p.getD (X + W * Y) 0 → impl_Melt_drive.wp m.p m.q m.w1 m.h1 m.r1 m.w2 m.h2 m.r2 m.a m.b m.c m.d m.e m.n x y fun y2 => impl_told.wp (pullV z y2) K := by
        intro z hz
        refine impl_drive g ?_
        subst hz
        exact impl_told' hk
      have := impl_fieldAt (r := m.r1) g.hx g.hy g.w16 g.h16 g.p (K := fun y1 => impl_Melt_drive.wp m.p m.q m.w1 m.h1 m.r1 m.w2 m.h2 m.r2 m.a m.b m.c m.d m.e m.n x y fun y2 => impl_told.wp (pullV y1 y2) K) (inner _ rfl)
      rw [← g.w1, ← g.h1, ← g.x, ← g.y] at this
      exact this
    exact hk2
theorem pull_law (m : Melt) (x y : Int) (hp : m.p.length ≤ 9223372036854775807) (hq : m.q.length ≤ 9223372036854775807) {K : Bool → Prop} (hk : K true) :
    laws_FnExactPullAt.wp m.p m.q m.w1 m.h1 m.r1 m.w2 m.h2 m.r2 m.a m.b m.c m.d m.e m.n x y K := by
  rw [laws_FnExactPullAt.eq, sameFloat_eq]
  refine szMelt_ok m hp hq (ifD (by decide) hk) fun hs k => ifN (by omega) ?_
  exact toMelt_ok m hs (spec_Pull m hs (toMelt_ok m hs (impl_Pull m hs (sameT_self (ifF rfl (ifF (by simp) (toMelt_ok m hs (eqMelt_self m hs (ifF rfl hk)))))))))
end Go.K.melts
