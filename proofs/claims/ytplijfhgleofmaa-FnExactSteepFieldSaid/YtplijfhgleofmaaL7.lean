/- How steep a field is. -/
import Derived.Test.YtplijfhgleofmaaL3
import Derived.Test.YtplijfhgleofmaaL4
import Derived.Test.YtplijfhgleofmaaF9
set_option linter.unusedSimpArgs false
set_option linter.unusedVariables false
set_option maxRecDepth 10000
set_option maxHeartbeats 4000000
namespace Go.K.melts
open Go.K Go

def half (a b : Nat) : Nat := farith .mul .f32 1056964608 (farith .sub .f32 a b)
def rootV (z : Nat) : Nat := fconv .f64 .f32 (fsqrt (fconv .f32 .f64 z))
def steepG (l : List Nat) (W H : Nat) (r : Bool) (x y : Nat) : Nat :=
  rootV (farith .add .f32
    (farith .mul .f32 (half (l.getD (cellF W H r ((x : Int) + 1) (y : Int)) 0) (l.getD (cellF W H r ((x : Int) - 1) (y : Int)) 0)) (half (l.getD (cellF W H r ((x : Int) + 1) (y : Int)) 0) (l.getD (cellF W H r ((x : Int) - 1) (y : Int)) 0)))
    (farith .mul .f32 (half (l.getD (cellF W H r (x : Int) ((y : Int) + 1)) 0) (l.getD (cellF W H r (x : Int) ((y : Int) - 1)) 0)) (half (l.getD (cellF W H r (x : Int) ((y : Int) + 1)) 0) (l.getD (cellF W H r (x : Int) ((y : Int) - 1)) 0))))
def steepL (l : List Nat) (W H : Nat) (r : Bool) : List Nat := gridUp W (steepG l W H r) (W * H)
section
variable {l : List Nat} {W H : Nat} {r : Bool}
theorem spec_steep (h1 : 1 ≤ W) (w16 : W ≤ 16) (h2 : 1 ≤ H) (h16 : H ≤ 16) (hl : l.length = W * H) {x y : Nat} (hx : x < W) (hy : y < H) {K : Nat → Prop} (hk : K (steepG l W H r x y)) : spec_l02Steep.wp (W : Int) (H : Int) r l (x : Int) (y : Int) K := by
  have e1 : Go.IntKind.wrap .i64 ((x : Int) + 1) = (x : Int) + 1 := wrap64 (by omega) (by omega)
  have e2 : Go.IntKind.wrap .i64 ((x : Int) - 1) = (x : Int) - 1 := wrap64 (by omega) (by omega)
  have e3 : Go.IntKind.wrap .i64 ((y : Int) + 1) = (y : Int) + 1 := wrap64 (by omega) (by omega)
  have e4 : Go.IntKind.wrap .i64 ((y : Int) - 1) = (y : Int) - 1 := wrap64 (by omega) (by omega)
  rw [spec_l02Steep.eq, spec_l02SlopeX.eq, e1, e2]
  refine spec_at h1 w16 h2 h16 hl ⟨by omega, by omega⟩ ⟨by omega, by omega⟩ ?_
  refine spec_at h1 w16 h2 h16 hl ⟨by omega, by omega⟩ ⟨by omega, by omega⟩ ?_
  rw [spec_l02SlopeY.eq, e3, e4]
  refine spec_at h1 w16 h2 h16 hl ⟨by omega, by omega⟩ ⟨by omega, by omega⟩ ?_
  refine spec_at h1 w16 h2 h16 hl ⟨by omega, by omega⟩ ⟨by omega, by omega⟩ ?_
  rw [spec_l01Sqrt.eq, math_Sqrt.eq, spec_l01Narrow.eq]
  exact ⟨sqrt_fits, hk⟩
theorem impl_steep (h1 : 1 ≤ W) (w16 : W ≤ 16) (h2 : 1 ≤ H) (h16 : H ≤ 16) (hl : l.length = W * H) {x y : Nat} (hx : x < W) (hy : y < H) {K : Nat → Prop} (hk : K (steepG l W H r x y)) : impl_Field_steep.wp l (W : Int) (H : Int) r (x : Int) (y : Int) K := by
  have e1 : Go.IntKind.wrap .i64 ((x : Int) + 1) = (x : Int) + 1 := wrap64 (by omega) (by omega)
  have e2 : Go.IntKind.wrap .i64 ((x : Int) - 1) = (x : Int) - 1 := wrap64 (by omega) (by omega)
  have e3 : Go.IntKind.wrap .i64 ((y : Int) + 1) = (y : Int) + 1 := wrap64 (by omega) (by omega)
  have e4 : Go.IntKind.wrap .i64 ((y : Int) - 1) = (y : Int) - 1 := wrap64 (by omega) (by omega)
  rw [impl_Field_steep.eq, impl_Field_slopes.eq, e1, e2, e3, e4]
  refine impl_about h1 w16 h2 h16 hl ⟨by omega, by omega⟩ ⟨by omega, by omega⟩ ?_
  refine impl_about h1 w16 h2 h16 hl ⟨by omega, by omega⟩ ⟨by omega, by omega⟩ ?_
  refine impl_about h1 w16 h2 h16 hl ⟨by omega, by omega⟩ ⟨by omega, by omega⟩ ?_
  refine impl_about h1 w16 h2 h16 hl ⟨by omega, by omega⟩ ⟨by omega, by omega⟩ ?_
  rw [impl_RootNumber.eq, math_Sqrt.eq]
  exact ⟨sqrt_fits, hk⟩
theorem spec_SteepF (hf : fieldB l (W : Int) (H : Int) = true) (h1 : 1 ≤ W) (w16 : W ≤ 16) (h2 : 1 ≤ H) (h16 : H ≤ 16) (hw : W * H ≤ 256) (hl : l.length = W * H) {K : List Nat → Int → Int → Bool → Bool → Prop} (hk : K (steepL l W H r) (W : Int) (H : Int) r true) :
    spec_SteepField.wp l (W : Int) (H : Int) r K := by
  rw [spec_SteepField.eq]
  refine spec_field ?_
  rw [hf]
  refine ifF rfl ?_
  rw [spec_l02New.eq]
  intro J hJ
  have enn : Go.IntKind.wrap .i64 ((W : Int) * (H : Int)) = ((W * H : Nat) : Int) := by rw [← Int.natCast_mul, wrap_nat (by omega)]
  refine down (Q := fun i => J (W : Int) (H : Int) r 0 0 false (W : Int) (H : Int) r [] (gridUp W (steepG l W H r) i) (i : Int)) (n := W * H) (hJ _ _ _ _ _ _ _ _ _ _ _ _ ?_) (fun i hi ih => hJ _ _ _ _ _ _ _ _ _ _ _ _ ?_) 0 (Nat.zero_le _)
  · rw [enn]; exact ifN (by omega) hk
  · rw [enn]
    refine ifD (by omega) ⟨by omega, by omega, ?_⟩
    have hx : i % W < W := Nat.mod_lt _ (by omega)
    have hy : i / W < H := Nat.div_lt_of_lt_mul hi
    have hs := gridUp_succ W (steepG l W H r) i
    have hlen := gridUp_length W (steepG l W H r) (i + 1)
    rw [tdiv_nat, tmod_nat]
    have hs' : gridUp W (steepG l W H r) i ++ steepG l W H r (i % W) (i / W) :: List.replicate 0 0 = gridUp W (steepG l W H r) (i + 1) := by rw [hs]; rfl
    clear hs
    generalize i % W = x at *
    generalize i / W = y at *
    have ey : Go.IntKind.wrap .i64 (y : Int) = (y : Int) := wrap_nat (by omega)
    rw [ey]
    refine spec_steep h1 w16 h2 h16 hl hx hy ?_
    rw [hs', hlen, wrap_succ (by omega)]
    exact ⟨by omega, ih⟩
theorem impl_SteepF (hf : fieldB l (W : Int) (H : Int) = true) (h1 : 1 ≤ W) (w16 : W ≤ 16) (h2 : 1 ≤ H) (h16 : H ≤ 16) (hw : W * H ≤ 256) (hl : l.length = W * H) {K : List Nat → Int → Int → Bool → Bool → Prop} (hk : K (steepL l W H r) (W : Int) (H : Int) r true) :
    impl_SteepField.wp l (W : Int) (H : Int) r K := by
  rw [impl_SteepField.eq]
  refine impl_field ?_
  rw [hf]
  refine ifF rfl ?_
  rw [impl_Field_each__Field_steep.eq, impl_made__Field_steep.eq]
  intro J hJ
  have main := down (Q := fun y => J 0 0 false (W : Int) (H : Int) r [] (gridUp W (steepG l W H r) (W * y)) (H : Int) (y : Int)) (n := H) ?_ ?_ 0 (Nat.zero_le _)
  · simpa [gridUp] using main
  · exact hJ _ _ _ _ _ _ _ _ _ _ (ifN (by omega) hk)
  · intro y hy ih
    refine hJ _ _ _ _ _ _ _ _ _ _ (ifD (by omega) fun J2 hJ2 => ?_)
    have inner := down (Q := fun x => J2 0 0 false (W : Int) (H : Int) r [] (gridUp W (steepG l W H r) (x + W * y)) (y : Int) (H : Int) (y : Int) (W : Int) (x : Int)) (n := W) ?_ ?_ 0 (Nat.zero_le _)
    · rw [Nat.zero_add] at inner; exact inner
    · refine hJ2 _ _ _ _ _ _ _ _ _ _ _ _ _ (ifN (by omega) ?_)
      rw [wrap_succ (by omega), show W + W * y = W * (y + 1) by rw [Nat.mul_add]; omega]
      exact ih
    · intro x hx ihx
      have hb := wh_lt hx hy
      have hs := gridUp_succ W (steepG l W H r) (x + W * y)
      obtain ⟨g1, g2⟩ := grid_at (y := y) hx
      rw [g1, g2] at hs
      have hs' : gridUp W (steepG l W H r) (x + W * y) ++ steepG l W H r x y :: List.replicate 0 0 = gridUp W (steepG l W H r) (x + 1 + W * y) := by
        rw [show x + 1 + W * y = x + W * y + 1 by omega, hs]; rfl
      have hlen := gridUp_length W (steepG l W H r) (x + 1 + W * y)
      refine hJ2 _ _ _ _ _ _ _ _ _ _ _ _ _ (ifD (by omega) ?_)
      refine impl_steep h1 w16 h2 h16 hl hx hy ?_
      rw [hs', hlen, wrap_succ (by omega)]
      exact ⟨by omega, ihx⟩
end
section
variable (l : List Nat) (w h : Int) (r : Bool)
def stL : List Nat := if fieldB l w h = true then steepL l w.toNat h.toNat r else []
def stW : Int := if fieldB l w h = true then w else 0
def stH : Int := if fieldB l w h = true then h else 0
def stR : Bool := if fieldB l w h = true then r else false
theorem st_small : (stL l w h r).length ≤ 1099511627776 := by
  unfold stL
  split
  · rename_i hv
    obtain ⟨W, H, a1, a2, _, _, _, _, hw, _⟩ := field_nat hv
    unfold steepL
    rw [gridUp_length, a1, a2, Int.toNat_natCast, Int.toNat_natCast]; omega
  · simp
theorem spec_St {K : List Nat → Int → Int → Bool → Bool → Prop} (hk : K (stL l w h r) (stW l w h) (stH l w h) (stR l w h r) (fieldB l w h)) : spec_SteepField.wp l w h r K := by
  unfold stL stW stH stR at hk
  cases hv : fieldB l w h
  · simp only [hv, Bool.false_eq_true, if_false] at hk
    rw [spec_SteepField.eq]
    refine spec_field ?_
    rw [hv]
    exact ifT rfl hk
  · simp only [hv, if_true] at hk
    obtain ⟨W, H, rfl, rfl, h1, w16, h2, h16, hw, hl⟩ := field_nat hv
    rw [Int.toNat_natCast, Int.toNat_natCast] at hk
    exact spec_SteepF hv h1 w16 h2 h16 hw hl hk
theorem impl_St {K : List Nat → Int → Int → Bool → Bool → Prop} (hk : K (stL l w h r) (stW l w h) (stH l w h) (stR l w h r) (fieldB l w h)) : impl_SteepField.wp l w h r K := by
  unfold stL stW stH stR at hk
  cases hv : fieldB l w h
  · simp only [hv, Bool.false_eq_true, if_false] at hk
    rw [impl_SteepField.eq]
    refine impl_field ?_
    rw [hv]
    exact ifT rfl hk
  · simp only [hv, if_true] at hk
    obtain ⟨W, H, rfl, rfl, h1, w16, h2, h16, hw, hl⟩ := field_nat hv
    rw [Int.toNat_natCast, Int.toNat_natCast] at hk
    exact impl_SteepF hv h1 w16 h2 h16 hw hl hk
theorem steep_law (hl : l.length ≤ 9223372036854775807) {K : Bool → Prop} (hk : K true) : laws_FnExactSteepField.wp l w h r K := by
  rw [laws_FnExactSteepField.eq]
  refine szField_ok (m := 1048576) hl (by decide) (fun _ => ifD (by decide) hk) fun hlen => ifN (by omega) ?_
  have hl : l.length ≤ 1099511627776 := by omega
  have hr := st_small l w h r
  refine toField_ok hl (spec_St l w h r (toField_ok hl (impl_St l w h r ?_)))
  refine eqField_self hr (ifF rfl (ifF (by simp) (toField_ok hl (eqField_self hl (ifF rfl ?_)))))
  refine markField_ok (k := 1) hl (by decide) (ifN (by omega) (eqField_self hr (ifF rfl (ifF (by simp) ?_))))
  refine markField_ok (k := 1) hr (by decide) (heldField_ok (k := 1) hr (by decide) (ifN (by omega) (ifF (by simp) ?_)))
  refine toField_ok hl (impl_St l w h r (eqField_self hr (ifF rfl (ifF (by simp) ?_))))
  exact heldField_ok (k := 1) hr (by decide) (ifN (by omega) (ifF (by simp) hk))
end
end Go.K.melts
