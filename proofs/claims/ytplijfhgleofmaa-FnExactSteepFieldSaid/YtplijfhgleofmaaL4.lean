/- The energy of a melt. -/
import Derived.Test.YtplijfhgleofmaaL2
set_option linter.unusedSimpArgs false
set_option linter.unusedVariables false
set_option maxRecDepth 10000
set_option maxHeartbeats 4000000
namespace Go.K.melts
open Go.K Go

/-- a place in a row: round, or held at its ends -/
def plF (W : Nat) (r : Bool) (x : Int) : Nat := if r = true then pl W x else min x.toNat (W - 1)
theorem plF_lt {W : Nat} (h : 1 ≤ W) (r : Bool) (x : Int) : plF W r x < W := by
  unfold plF
  split
  · exact pl_lt (by omega) x
  · omega
theorem plF_self {W x : Nat} {r : Bool} (h : x < W) : plF W r (x : Int) = x := by
  unfold plF
  split
  · exact pl_self h
  · rw [Int.toNat_natCast]; omega
theorem pl_eq1 {W : Nat} {x : Int} (h0 : 1 ≤ W) (hW : W ≤ 1048576) (h1 : -1 ≤ x) (h2 : x ≤ W) : Int.tmod (Go.IntKind.wrap .i64 (Int.tmod x W + W)) W = (pl W x : Int) := by
  rcases Nat.lt_or_ge W 2 with h | h
  · obtain rfl : W = 1 := by omega
    unfold pl
    rw [Nat.mod_one]
    show Int.tmod _ 1 = 0
    exact Int.tmod_one _
  · exact pl_eq h hW h1 h2
theorem spec_place {W : Nat} {r : Bool} {x : Int} {K : Int → Prop} (h0 : 1 ≤ W) (hW : W ≤ 16) (h1 : -1 ≤ x) (h2 : x ≤ W) (hk : K (plF W r x : Int)) : spec_l02Place.wp x (W : Int) r K := by
  rw [spec_l02Place.eq]
  unfold plF at hk
  cases r
  · simp only [Bool.false_eq_true, if_false] at hk
    refine ifF rfl ?_
    rw [wrap64 (by omega) (by omega), spec_l00Min.eq]
    have go : ∀ z : Int, max 0 z = ((min x.toNat (W - 1) : Nat) : Int) → spec_l00Max.wp 0 z K := by
      intro z hz
      rw [spec_l00Max.eq]
      by_cases hc : (0 : Int) > z
      · refine ifD hc ?_
        rw [← hz] at hk
        rwa [show max 0 z = 0 by omega] at hk
      · refine ifN hc ?_
        rw [← hz] at hk
        rwa [show max 0 z = z by omega] at hk
    by_cases hc : (W : Int) - 1 < x
    · exact ifD hc (go _ (by omega))
    · exact ifN hc (go _ (by omega))
  · simp only [if_true] at hk
    refine ifT rfl ⟨by omega, by omega, ?_⟩
    rw [pl_eq1 h0 (by omega) h1 h2]; exact hk
theorem impl_place' {W : Nat} {r : Bool} {x : Int} {K : Int → Prop} (h0 : 1 ≤ W) (hW : W ≤ 16) (h1 : -1 ≤ x) (h2 : x ≤ W) (hk : K (plF W r x : Int)) : impl_place.wp x (W : Int) r K := by
  rw [impl_place.eq]
  unfold plF at hk
  cases r
  · simp only [Bool.false_eq_true, if_false] at hk
    refine ifF rfl ?_
    have mx : ∀ x y : Int, mmI true x y = max x y := by
      intro x y; show maxI x y = max x y; unfold maxI; split <;> omega
    have mn : ∀ x y : Int, mmI false x y = min x y := by
      intro x y; show minI x y = min x y; unfold minI; split <;> omega
    rw [wrap64 (by omega) (by omega), mx, mn, show min (max x 0) ((W : Int) - 1) = ((min x.toNat (W - 1) : Nat) : Int) by omega]
    exact hk
  · simp only [if_true] at hk
    refine ifT rfl ⟨by omega, by omega, ?_⟩
    rw [pl_eq1 h0 (by omega) h1 h2]; exact hk
def cellF (W H : Nat) (r : Bool) (x y : Int) : Nat := plF W r x + W * plF H r y
theorem cellF_lt {W H : Nat} (hW : 1 ≤ W) (hH : 1 ≤ H) (r : Bool) (x y : Int) : cellF W H r x y < W * H := wh_lt (plF_lt hW r x) (plF_lt hH r y)
section
variable {l : List Nat} {W H : Nat} {r : Bool} {x y : Int}
theorem spec_at (w1 : 1 ≤ W) (w16 : W ≤ 16) (h1 : 1 ≤ H) (h16 : H ≤ 16) (hl : l.length = W * H) (hx : -1 ≤ x ∧ x ≤ W) (hy : -1 ≤ y ∧ y ≤ H) {K : Nat → Prop} (hk : K (l.getD (cellF W H r x y) 0)) : spec_l02At.wp (W : Int) (H : Int) r l x y K := by
  rw [spec_l02At.eq, spec_l02Index.eq]
  refine spec_place w1 w16 hx.1 hx.2 (spec_place h1 h16 hy.1 hy.2 ?_)
  have hc := cellF_lt w1 h1 r x y
  have hwh : W * H ≤ 256 := Nat.mul_le_mul w16 h16
  unfold cellF at hc hk
  have e1 : Go.IntKind.wrap .i64 ((W : Int) * (plF H r y : Int)) = ((W * plF H r y : Nat) : Int) := by rw [← Int.natCast_mul, wrap_nat (by omega)]
  rw [e1, ← Int.natCast_add, wrap_nat (by omega), Int.toNat_natCast]
  exact ⟨⟨by omega, by omega⟩, hk⟩
theorem impl_about (w1 : 1 ≤ W) (w16 : W ≤ 16) (h1 : 1 ≤ H) (h16 : H ≤ 16) (hl : l.length = W * H) (hx : -1 ≤ x ∧ x ≤ W) (hy : -1 ≤ y ∧ y ≤ H) {K : Nat → Prop} (hk : K (l.getD (cellF W H r x y) 0)) : impl_Field_about.wp l (W : Int) (H : Int) r x y K := by
  rw [impl_Field_about.eq, impl_Field_cell.eq]
  refine impl_place' w1 w16 hx.1 hx.2 (impl_place' h1 h16 hy.1 hy.2 ?_)
  have hc := cellF_lt w1 h1 r x y
  have hwh : W * H ≤ 256 := Nat.mul_le_mul w16 h16
  unfold cellF at hc hk
  have e1 : Go.IntKind.wrap .i64 ((W : Int) * (plF H r y : Int)) = ((W * plF H r y : Nat) : Int) := by rw [← Int.natCast_mul, wrap_nat (by omega)]
  rw [e1, ← Int.natCast_add, wrap_nat (by omega), Int.toNat_natCast]
  exact ⟨⟨by omega, by omega⟩, hk⟩
end
def wellF (z : Nat) : Nat := farith .mul .f32 (farith .mul .f32 (farith .mul .f32 (farith .mul .f32 z z) (farith .sub .f32 1065353216 z)) (farith .sub .f32 1065353216 z)) 1048576000
def e1U (l : List Nat) : Nat → Nat
  | 0 => 0
  | i + 1 => farith .add .f32 (e1U l i) (wellF (l.getD i 0))
def slopeF (a : Nat) (p g h : Nat) : Nat := farith .mul .f32 (farith .mul .f32 1056964608 a) (farith .add .f32 (farith .mul .f32 (farith .sub .f32 g p) (farith .sub .f32 g p)) (farith .mul .f32 (farith .sub .f32 h p) (farith .sub .f32 h p)))
def e2U (l : List Nat) (W H : Nat) (r : Bool) (a s : Nat) : Nat → Nat
  | 0 => s
  | i + 1 => farith .add .f32 (e2U l W H r a s i) (slopeF a (l.getD i 0) (l.getD (cellF W H r (((i % W : Nat) : Int) + 1) ((i / W : Nat) : Int)) 0) (l.getD (cellF W H r ((i % W : Nat) : Int) (((i / W : Nat) : Int) + 1)) 0))
def energyN (l : List Nat) (W H : Nat) (r : Bool) (a : Nat) : Nat := e2U l W H r a (e1U l (W * H)) (W * H)
def energyV (m : Melt) : Nat := energyN m.p m.w1.toNat m.h1.toNat m.r1 m.a
def energyR (m : Melt) : Nat := if isM m = true then (if fin .f32 (energyV m) = true then energyV m else 0) else 0
def energyB (m : Melt) : Bool := isM m && fin .f32 (energyV m)
theorem spec_told {z : Nat} {K : Nat → Bool → Prop} (hk : K (if fin .f32 z = true then z else 0) (fin .f32 z)) : spec_l03Number.wp z K := by
  rw [spec_l03Number.eq]
  refine spec_fin ?_
  cases hz : fin .f32 z
  · simp only [hz, Bool.false_eq_true, if_false] at hk; exact ifT rfl hk
  · simp only [hz, if_true] at hk; exact ifF rfl hk
theorem impl_told' {z : Nat} {K : Nat → Bool → Prop} (hk : K (if fin .f32 z = true then z else 0) (fin .f32 z)) : impl_told.wp z K := by
  rw [impl_told.eq]
  refine impl_fin ?_
  cases hz : fin .f32 z
  · simp only [hz, Bool.false_eq_true, if_false] at hk; exact ifT rfl hk
  · simp only [hz, if_true] at hk; exact ifF rfl hk
theorem spec_Energy (m : Melt) (hs : Small m) {K : Nat → Bool → Prop} (hk : K (energyR m) (energyB m)) : spec_EnergyOfMelt.wp m.p m.q m.w1 m.h1 m.r1 m.w2 m.h2 m.r2 m.a m.b m.c m.d m.e m.n K := by
  rw [spec_EnergyOfMelt.eq]
  refine spec_is m hs ?_
  unfold energyR energyB at hk
  cases hv : isM m
  · simp only [hv, Bool.false_eq_true, if_false, Bool.false_and] at hk; exact ifT rfl hk
  · simp only [hv, if_true, Bool.true_and] at hk
    have f1 : fieldB m.p m.w1 m.h1 = true := by
      unfold isM at hv
      simp only [Bool.and_eq_true] at hv
      exact hv.1
    obtain ⟨W, H, a1, a2, h1, h16, h2, h216, hw, hl⟩ := field_nat f1
    unfold energyV at hk
    rw [a1, a2, Int.toNat_natCast, Int.toNat_natCast] at hk
    rw [a1, a2]
    refine ifF rfl fun J hJ => ?_
    refine down (Q := fun i => J (W : Int) (H : Int) m.r1 m.w2 m.h2 m.r2 m.a m.b m.c m.d m.e m.n (e1U m.p i) (m.p.length : Int) (i : Int)) (n := m.p.length) (hJ _ _ _ _ _ _ _ _ _ _ _ _ _ _ _ (ifN (by omega) fun J2 hJ2 => ?_)) (fun i hi ih => hJ _ _ _ _ _ _ _ _ _ _ _ _ _ _ _ (ifD (by omega) ⟨⟨by omega, by omega⟩, ?_⟩)) 0 (Nat.zero_le _)
    · rw [hl]
      have main := down (Q := fun y => J2 (W : Int) (H : Int) m.r1 m.w2 m.h2 m.r2 m.a m.b m.c m.d m.e m.n (e2U m.p W H m.r1 m.a (e1U m.p (W * H)) (W * y)) (y : Int)) (n := H) ?_ ?_ 0 (Nat.zero_le _)
      · exact main
      · exact hJ2 _ _ _ _ _ _ _ _ _ _ _ _ _ _ (ifN (by omega) (spec_told hk))
      · intro y hy ih
        refine hJ2 _ _ _ _ _ _ _ _ _ _ _ _ _ _ (ifD (by omega) fun J3 hJ3 => ?_)
        have inner := down (Q := fun x => J3 (W : Int) (H : Int) m.r1 m.w2 m.h2 m.r2 m.a m.b m.c m.d m.e m.n (e2U m.p W H m.r1 m.a (e1U m.p (W * H)) (x + W * y)) (y : Int) (x : Int)) (n := W) ?_ ?_ 0 (Nat.zero_le _)
        · rw [Nat.zero_add] at inner; exact inner
        · refine hJ3 _ _ _ _ _ _ _ _ _ _ _ _ _ _ _ (ifN (by omega) ?_)
          rw [wrap_succ (by omega), show W + W * y = W * (y + 1) by rw [Nat.mul_add]; omega]
          exact ih
        · intro x hx ihx
          obtain ⟨g1, g2⟩ := grid_at (y := y) hx
          have ex : Go.IntKind.wrap .i64 ((x : Int) + 1) = (x : Int) + 1 := wrap64 (by omega) (by omega)
          have ey : Go.IntKind.wrap .i64 ((y : Int) + 1) = (y : Int) + 1 := wrap64 (by omega) (by omega)
          have e3 : e2U m.p W H m.r1 m.a (e1U m.p (W * H)) (x + 1 + W * y) = farith .add .f32 (e2U m.p W H m.r1 m.a (e1U m.p (W * H)) (x + W * y)) (slopeF m.a (m.p.getD (x + W * y) 0) (m.p.getD (cellF W H m.r1 ((x : Int) + 1) (y : Int)) 0) (m.p.getD (cellF W H m.r1 (x : Int) ((y : Int) + 1)) 0)) := by
            rw [show x + 1 + W * y = (x + W * y) + 1 by omega]
            show farith .add .f32 _ (slopeF _ _ (m.p.getD (cellF W H m.r1 ((((x + W * y) % W : Nat) : Int) + 1) (((x + W * y) / W : Nat) : Int)) 0) (m.p.getD (cellF W H m.r1 (((x + W * y) % W : Nat) : Int) ((((x + W * y) / W : Nat) : Int) + 1)) 0)) = _
            rw [g1, g2]
          rw [e3] at ihx
          have ec : cellF W H m.r1 (x : Int) (y : Int) = x + W * y := by unfold cellF; rw [plF_self hx, plF_self hy]
          refine hJ3 _ _ _ _ _ _ _ _ _ _ _ _ _ _ _ (ifD (by omega) ?_)
          refine spec_at h1 h16 h2 h216 hl ⟨by omega, by omega⟩ ⟨by omega, by omega⟩ ?_
          rw [ec, ex, ey]
          refine spec_at h1 h16 h2 h216 hl ⟨by omega, by omega⟩ ⟨by omega, by omega⟩ ?_
          refine spec_at h1 h16 h2 h216 hl ⟨by omega, by omega⟩ ⟨by omega, by omega⟩ ?_
          have e4 : Go.IntKind.wrap .i64 ((x : Int) + 1) = ((x + 1 : Nat) : Int) := wrap_succ (by omega)
          rw [show ((x : Int) + 1) = ((x + 1 : Nat) : Int) by omega] at ihx ⊢
          exact ihx
    · rw [Int.toNat_natCast, wrap_succ (by omega)]
      exact ih
theorem impl_Energy (m : Melt) (hs : Small m) {K : Nat → Bool → Prop} (hk : K (energyR m) (energyB m)) : impl_EnergyOfMelt.wp m.p m.q m.w1 m.h1 m.r1 m.w2 m.h2 m.r2 m.a m.b m.c m.d m.e m.n K := by
  rw [impl_EnergyOfMelt.eq]
  refine impl_is m hs ?_
  unfold energyR energyB at hk
  cases hv : isM m
  · simp only [hv, Bool.false_eq_true, if_false, Bool.false_and] at hk; exact ifT rfl hk
  · simp only [hv, if_true, Bool.true_and] at hk
    have f1 : fieldB m.p m.w1 m.h1 = true := by
      unfold isM at hv
      simp only [Bool.and_eq_true] at hv
      exact hv.1
    obtain ⟨W, H, a1, a2, h1, h16, h2, h216, hw, hl⟩ := field_nat f1
    unfold energyV at hk
    rw [a1, a2, Int.toNat_natCast, Int.toNat_natCast] at hk
    rw [a1, a2]
    refine ifF rfl fun J hJ => ?_
    refine down (Q := fun i => J (W : Int) (H : Int) m.r1 m.w2 m.h2 m.r2 m.a m.b m.c m.d m.e m.n (e1U m.p i) (m.p.length : Int) (i : Int)) (n := m.p.length) (hJ _ _ _ _ _ _ _ _ _ _ _ _ _ _ _ (ifN (by omega) fun J2 hJ2 => ?_)) (fun i hi ih => hJ _ _ _ _ _ _ _ _ _ _ _ _ _ _ _ (ifD (by omega) ⟨⟨by omega, by omega⟩, ?_⟩)) 0 (Nat.zero_le _)
    · rw [hl]
      refine down (Q := fun i => J2 (W : Int) (H : Int) m.r1 m.w2 m.h2 m.r2 m.a m.b m.c m.d m.e m.n (e2U m.p W H m.r1 m.a (e1U m.p (W * H)) i) ((W * H : Nat) : Int) (i : Int)) (n := W * H) (hJ2 _ _ _ _ _ _ _ _ _ _ _ _ _ _ _ (ifN (by omega) (impl_told' hk))) (fun i hi ih => hJ2 _ _ _ _ _ _ _ _ _ _ _ _ _ _ _ (ifD (by omega) ⟨⟨by omega, by omega⟩, by omega, by omega, ?_⟩)) 0 (Nat.zero_le _)
      have hx : i % W < W := Nat.mod_lt _ (by omega)
      have hy : i / W < H := Nat.div_lt_of_lt_mul hi
      rw [tmod_nat, tdiv_nat, Int.toNat_natCast]
      have ih' : J2 (W : Int) (H : Int) m.r1 m.w2 m.h2 m.r2 m.a m.b m.c m.d m.e m.n (farith .add .f32 (e2U m.p W H m.r1 m.a (e1U m.p (W * H)) i) (slopeF m.a (m.p.getD i 0) (m.p.getD (cellF W H m.r1 (((i % W : Nat) : Int) + 1) ((i / W : Nat) : Int)) 0) (m.p.getD (cellF W H m.r1 ((i % W : Nat) : Int) (((i / W : Nat) : Int) + 1)) 0))) ((W * H : Nat) : Int) ((i + 1 : Nat) : Int) := ih
      clear ih
      generalize i % W = x at *
      generalize i / W = y at *
      have ex : Go.IntKind.wrap .i64 ((x : Int) + 1) = (x : Int) + 1 := wrap64 (by omega) (by omega)
      have ey0 : Go.IntKind.wrap .i64 (y : Int) = (y : Int) := wrap_nat (by omega)
      have ey : Go.IntKind.wrap .i64 ((y : Int) + 1) = (y : Int) + 1 := wrap64 (by omega) (by omega)
      rw [ex, ey0, ey]
      refine impl_about h1 h16 h2 h216 hl ⟨by omega, by omega⟩ ⟨by omega, by omega⟩ ?_
      refine impl_about h1 h16 h2 h216 hl ⟨by omega, by omega⟩ ⟨by omega, by omega⟩ ?_
      rw [wrap_succ (by omega)]
      exact ih'
    · rw [Int.toNat_natCast, wrap_succ (by omega)]
      exact ih
theorem energy_law (m : Melt) (hp : m.p.length ≤ 9223372036854775807) (hq : m.q.length ≤ 9223372036854775807) {K : Bool → Prop} (hk : K true) :
    laws_FnExactEnergyOfMelt.wp m.p m.q m.w1 m.h1 m.r1 m.w2 m.h2 m.r2 m.a m.b m.c m.d m.e m.n K := by
  rw [laws_FnExactEnergyOfMelt.eq, sameFloat_eq]
  refine szMelt_ok m hp hq (ifD (by decide) hk) fun hs k => ifN (by omega) ?_
  exact toMelt_ok m hs (spec_Energy m hs (toMelt_ok m hs (impl_Energy m hs (sameT_self (ifF rfl (ifF (by simp) (toMelt_ok m hs (eqMelt_self m hs (ifF rfl hk)))))))))
end Go.K.melts
