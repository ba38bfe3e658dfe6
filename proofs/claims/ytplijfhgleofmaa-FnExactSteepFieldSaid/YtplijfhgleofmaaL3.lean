/- Melts mirrored; their energy. -/
import Derived.Test.YtplijfhgleofmaaL2
set_option linter.unusedSimpArgs false
set_option linter.unusedVariables false
set_option maxRecDepth 10000
set_option maxHeartbeats 4000000
namespace Go.K.melts
open Go.K Go

def mirG (l : List Nat) (W : Nat) (x y : Nat) : Nat := l.getD (W - 1 - x + W * y) 0
def mirL (l : List Nat) (W H : Nat) : List Nat := gridUp W (mirG l W) (W * H)
theorem mirL_length (l : List Nat) (W H : Nat) : (mirL l W H).length = W * H := gridUp_length _ _ _

section
variable {l : List Nat} {W H : Nat} {r : Bool}
theorem mir_idx {x y : Nat} (hw : W * H ≤ 256) (hx : x < W) (hy : y < H) :
    Go.IntKind.wrap .i64 (Go.IntKind.wrap .i64 (Go.IntKind.wrap .i64 ((W : Int) - 1) - (x : Int)) + Go.IntKind.wrap .i64 ((W : Int) * (y : Int))) = ((W - 1 - x + W * y : Nat) : Int) ∧ W - 1 - x + W * y < W * H := by
  have hb := wh_lt (show W - 1 - x < W by omega) hy
  have hW : W ≤ 256 := by
    have := Nat.mul_le_mul_left W (show 1 ≤ H by omega)
    omega
  have e0 : Go.IntKind.wrap .i64 ((W : Int) - 1) = (W : Int) - 1 := wrap64 (by omega) (by omega)
  have e1 : Go.IntKind.wrap .i64 ((W : Int) - 1 - (x : Int)) = ((W - 1 - x : Nat) : Int) := by rw [wrap64 (by omega) (by omega)]; omega
  have e2 : Go.IntKind.wrap .i64 ((W : Int) * (y : Int)) = ((W * y : Nat) : Int) := by rw [← Int.natCast_mul, wrap_nat (by omega)]
  rw [e0, e1, e2, ← Int.natCast_add, wrap_nat (by omega)]
  exact ⟨rfl, hb⟩
theorem spec_MirF (hf : fieldB l (W : Int) (H : Int) = true) (h1 : 1 ≤ W) (h2 : 1 ≤ H) (hw : W * H ≤ 256) (hl : l.length = W * H) {K : List Nat → Int → Int → Bool → Bool → Prop} (hk : K (mirL l W H) (W : Int) (H : Int) r true) :
    spec_MirrorField.wp l (W : Int) (H : Int) r K := by
  rw [spec_MirrorField.eq]
  refine spec_field ?_
  rw [hf]
  refine ifF rfl ?_
  rw [spec_l02New.eq]
  intro J hJ
  have enn : Go.IntKind.wrap .i64 ((W : Int) * (H : Int)) = ((W * H : Nat) : Int) := by rw [← Int.natCast_mul, wrap_nat (by omega)]
  refine down (Q := fun i => J (W : Int) (H : Int) r 0 0 false (W : Int) (H : Int) r [] (gridUp W (mirG l W) i) (i : Int)) (n := W * H) (hJ _ _ _ _ _ _ _ _ _ _ _ _ ?_) (fun i hi ih => hJ _ _ _ _ _ _ _ _ _ _ _ _ ?_) 0 (Nat.zero_le _)
  · rw [enn]; exact ifN (by omega) hk
  · rw [enn]
    refine ifD (by omega) ⟨by omega, by omega, ?_⟩
    have hx : i % W < W := Nat.mod_lt _ (by omega)
    have hy : i / W < H := Nat.div_lt_of_lt_mul hi
    have hs := gridUp_succ W (mirG l W) i
    have hlen := gridUp_length W (mirG l W) (i + 1)
    simp only [tdiv_nat, tmod_nat]
    have hs' : gridUp W (mirG l W) i ++ mirG l W (i % W) (i / W) :: List.replicate 0 0 = gridUp W (mirG l W) (i + 1) := by rw [hs]; rfl
    clear hs
    generalize i % W = x at *
    generalize i / W = y at *
    have hyH : y ≤ 256 := by
      have := Nat.mul_le_mul_right H h1
      omega
    obtain ⟨e1, e2⟩ := mir_idx hw hx hy
    have ey : Go.IntKind.wrap .i64 (y : Int) = (y : Int) := wrap_nat (by omega)
    rw [ey, e1, Int.toNat_natCast]
    rw [show l.getD (W - 1 - x + W * y) 0 = mirG l W x y from rfl, hs', hlen, wrap_succ (by omega)]
    exact ⟨⟨by omega, by omega⟩, by omega, ih⟩
theorem impl_MirF (hf : fieldB l (W : Int) (H : Int) = true) (h1 : 1 ≤ W) (h2 : 1 ≤ H) (hw : W * H ≤ 256) (hl : l.length = W * H) {K : List Nat → Int → Int → Bool → Bool → Prop} (hk : K (mirL l W H) (W : Int) (H : Int) r true) :
    impl_MirrorField.wp l (W : Int) (H : Int) r K := by
  rw [impl_MirrorField.eq]
  refine impl_field ?_
  rw [hf]
  refine ifF rfl ?_
  rw [impl_Field_each__MirrorField_1.eq, impl_made__MirrorField_1.eq]
  intro J hJ
  have hW : W ≤ 256 := by
    have := Nat.mul_le_mul_left W h2
    omega
  have hH : H ≤ 256 := by
    have := Nat.mul_le_mul_right H h1
    omega
  have main := down (Q := fun y => J 0 0 false (W : Int) (H : Int) r [] (gridUp W (mirG l W) (W * y)) (H : Int) (y : Int)) (n := H) ?_ ?_ 0 (Nat.zero_le _)
  · simpa [gridUp] using main
  · exact hJ _ _ _ _ _ _ _ _ _ _ (ifN (by omega) hk)
  · intro y hy ih
    refine hJ _ _ _ _ _ _ _ _ _ _ (ifD (by omega) fun J2 hJ2 => ?_)
    have inner := down (Q := fun x => J2 0 0 false (W : Int) (H : Int) r [] (gridUp W (mirG l W) (x + W * y)) (y : Int) (H : Int) (y : Int) (W : Int) (x : Int)) (n := W) ?_ ?_ 0 (Nat.zero_le _)
    · rw [Nat.zero_add] at inner; exact inner
    · refine hJ2 _ _ _ _ _ _ _ _ _ _ _ _ _ (ifN (by omega) ?_)
      rw [wrap_succ (by omega), show W + W * y = W * (y + 1) by rw [Nat.mul_add]; omega]
      exact ih
    · intro x hx ihx
      have hb := wh_lt hx hy
      have hs := gridUp_succ W (mirG l W) (x + W * y)
      obtain ⟨g1, g2⟩ := grid_at (y := y) hx
      rw [g1, g2] at hs
      have hs' : gridUp W (mirG l W) (x + W * y) ++ mirG l W x y :: List.replicate 0 0 = gridUp W (mirG l W) (x + 1 + W * y) := by
        rw [show x + 1 + W * y = x + W * y + 1 by omega, hs]; rfl
      have hlen := gridUp_length W (mirG l W) (x + 1 + W * y)
      refine hJ2 _ _ _ _ _ _ _ _ _ _ _ _ _ (ifD (by omega) ?_)
      rw [impl_MirrorField_1.eq, impl_Field_at.eq]
      obtain ⟨e1, e2⟩ := mir_idx hw hx hy
      rw [e1, Int.toNat_natCast]
      rw [show l.getD (W - 1 - x + W * y) 0 = mirG l W x y from rfl, hs', hlen, wrap_succ (by omega)]
      exact ⟨⟨by omega, by omega⟩, by omega, ihx⟩
end
section
variable (m : Melt)
def mirM : Melt := ⟨mirL m.p m.w1.toNat m.h1.toNat, mirL m.q m.w2.toNat m.h2.toNat, m.w1, m.h1, m.r1, m.w2, m.h2, m.r2, m.a, m.b, m.c, m.d, m.e, m.n⟩
def mirR : Melt := if isM m = true then mirM m else zeroM
theorem valid_fields {m : Melt} (hv : isM m = true) : fieldB m.p m.w1 m.h1 = true ∧ fieldB m.q m.w2 m.h2 = true := by
  unfold isM at hv
  simp only [Bool.and_eq_true] at hv
  exact ⟨hv.1, hv.2.1⟩
theorem mir_small : Small (mirR m) := by
  unfold mirR
  split
  · rename_i hv
    obtain ⟨f1, f2⟩ := valid_fields hv
    obtain ⟨W, H, a1, a2, _, _, _, _, hw, _⟩ := field_nat f1
    obtain ⟨W', H', b1, b2, _, _, _, _, hw', _⟩ := field_nat f2
    constructor
    · show (mirL m.p m.w1.toNat m.h1.toNat).length ≤ _
      rw [mirL_length, a1, a2, Int.toNat_natCast, Int.toNat_natCast]; omega
    · show (mirL m.q m.w2.toNat m.h2.toNat).length ≤ _
      rw [mirL_length, b1, b2, Int.toNat_natCast, Int.toNat_natCast]; omega
  · exact small_zero
theorem spec_Mir (hs : Small m) {K : MK} (hk : K (mirR m).p (mirR m).q (mirR m).w1 (mirR m).h1 (mirR m).r1 (mirR m).w2 (mirR m).h2 (mirR m).r2 (mirR m).a (mirR m).b (mirR m).c (mirR m).d (mirR m).e (mirR m).n (isM m)) : spec_MirrorMelt.wp m.p m.q m.w1 m.h1 m.r1 m.w2 m.h2 m.r2 m.a m.b m.c m.d m.e m.n K := by
  rw [spec_MirrorMelt.eq]
  refine spec_is m hs ?_
  unfold mirR at hk
  cases hv : isM m
  · simp only [hv, Bool.false_eq_true, if_false] at hk; exact ifT rfl hk
  · simp only [hv, if_true] at hk
    refine ifF rfl ?_
    obtain ⟨f1, f2⟩ := valid_fields hv
    obtain ⟨W, H, a1, a2, h1, _, h2, _, hw, hl⟩ := field_nat f1
    obtain ⟨W', H', b1, b2, h1', _, h2', _, hw', hl'⟩ := field_nat f2
    unfold mirM at hk
    rw [a1, a2, b1, b2, Int.toNat_natCast, Int.toNat_natCast, Int.toNat_natCast, Int.toNat_natCast] at hk
    rw [a1, a2] at f1
    rw [b1, b2] at f2
    rw [a1, a2, b1, b2]
    exact spec_MirF f1 h1 h2 hw hl (spec_MirF f2 h1' h2' hw' hl' (ifF rfl (ifF rfl hk)))
theorem impl_Mir (hs : Small m) {K : MK} (hk : K (mirR m).p (mirR m).q (mirR m).w1 (mirR m).h1 (mirR m).r1 (mirR m).w2 (mirR m).h2 (mirR m).r2 (mirR m).a (mirR m).b (mirR m).c (mirR m).d (mirR m).e (mirR m).n (isM m)) : impl_MirrorMelt.wp m.p m.q m.w1 m.h1 m.r1 m.w2 m.h2 m.r2 m.a m.b m.c m.d m.e m.n K := by
  rw [impl_MirrorMelt.eq]
  refine impl_is m hs ?_
  unfold mirR at hk
  cases hv : isM m
  · simp only [hv, Bool.false_eq_true, if_false] at hk; exact ifT rfl hk
  · simp only [hv, if_true] at hk
    refine ifF rfl ?_
    obtain ⟨f1, f2⟩ := valid_fields hv
    obtain ⟨W, H, a1, a2, h1, _, h2, _, hw, hl⟩ := field_nat f1
    obtain ⟨W', H', b1, b2, h1', _, h2', _, hw', hl'⟩ := field_nat f2
    unfold mirM at hk
    rw [a1, a2, b1, b2, Int.toNat_natCast, Int.toNat_natCast, Int.toNat_natCast, Int.toNat_natCast] at hk
    rw [a1, a2] at f1
    rw [b1, b2] at f2
    rw [a1, a2, b1, b2]
    exact impl_MirF f1 h1 h2 hw hl (impl_MirF f2 h1' h2' hw' hl' hk)
theorem mir_law (hp : m.p.length ≤ 9223372036854775807) (hq : m.q.length ≤ 9223372036854775807) {K : Bool → Prop} (hk : K true) :
    laws_FnExactMirrorMelt.wp m.p m.q m.w1 m.h1 m.r1 m.w2 m.h2 m.r2 m.a m.b m.c m.d m.e m.n K := by
  rw [laws_FnExactMirrorMelt.eq]
  refine szMelt_ok m hp hq (ifD (by decide) hk) fun hs k => ifN (by omega) ?_
  have hr := mir_small m
  refine toMelt_ok m hs (spec_Mir m hs (toMelt_ok m hs (impl_Mir m hs ?_)))
  refine eqMelt_self (mirR m) hr (ifF rfl (ifF (by simp) (toMelt_ok m hs (eqMelt_self m hs (ifF rfl ?_)))))
  refine markMelt_ok m hs (ifN (by unfold mkN; omega) (eqMelt_self (mirR m) hr (ifF rfl (ifF (by simp) ?_))))
  refine markMelt_ok (mirR m) hr (heldMelt_ok (mirR m) hr (ifN (by unfold mkN; omega) (ifF (by simp) ?_)))
  refine toMelt_ok m hs (impl_Mir m hs (eqMelt_self (mirR m) hr (ifF rfl (ifF (by simp) ?_))))
  exact heldMelt_ok (mirR m) hr (ifN (by unfold mkN; omega) (ifF (by simp) hk))
end
end Go.K.melts
