/- Melts that are set and cooled. -/
import Derived.Test.YtajlojldbmfokaaL
set_option linter.unusedSimpArgs false
set_option linter.unusedVariables false
set_option maxRecDepth 10000
set_option maxHeartbeats 4000000
namespace Go.K.melts
open Go.K Go

abbrev MK := List Nat → List Nat → Int → Int → Bool → Int → Int → Bool → Nat → Nat → Nat → Nat → Nat → Int → Bool → Prop
def okM (m : Melt) : Melt := if isM m = true then m else zeroM
theorem small_zero : Small zeroM := ⟨by decide, by decide⟩
theorem small_ok {m : Melt} (h : Small m) : Small (okM m) := by
  unfold okM; split
  · exact h
  · exact small_zero
theorem own_ok (m : Melt) (hs : Small m) {K : List Nat → List Nat → Int → Int → Bool → Int → Int → Bool → Nat → Nat → Nat → Nat → Nat → Int → Prop} (hk : K m.p m.q m.w1 m.h1 m.r1 m.w2 m.h2 m.r2 m.a m.b m.c m.d m.e m.n) :
    spec_l03Own.wp m.w1 m.h1 m.r1 m.w2 m.h2 m.r2 m.a m.b m.c m.d m.e m.n m.p m.q K := by
  have s1 := hs.1
  have s2 := hs.2
  rw [spec_l03Own.eq, spec_l02Own.eq, spec_l02New.eq]
  refine ⟨by simp; omega, ?_⟩
  rw [spec_l02Own.eq, spec_l02New.eq]
  exact ⟨by simp; omega, hk⟩
theorem give_ok (m : Melt) (hs : Small m) {K : MK} (hk : K (okM m).p (okM m).q (okM m).w1 (okM m).h1 (okM m).r1 (okM m).w2 (okM m).h2 (okM m).r2 (okM m).a (okM m).b (okM m).c (okM m).d (okM m).e (okM m).n (isM m)) : spec_l03Give.wp m.p m.q m.w1 m.h1 m.r1 m.w2 m.h2 m.r2 m.a m.b m.c m.d m.e m.n K := by
  rw [spec_l03Give.eq]
  refine spec_is m hs ?_
  unfold okM at hk
  cases hv : isM m
  · simp only [hv, Bool.false_eq_true, if_false, if_true, Bool.false_and] at hk; exact ifT rfl hk
  · simp only [hv, Bool.false_eq_true, if_false, if_true, Bool.false_and] at hk; exact ifF rfl hk
theorem nonempty {m : Melt} (hv : isM m = true) : m.p.length ≠ 0 ∧ m.q.length ≠ 0 := by
  unfold isM at hv
  simp only [Bool.and_eq_true] at hv
  obtain ⟨f1, f2, _⟩ := hv
  obtain ⟨W, H, _, _, a1, _, a2, _, _, a3⟩ := field_nat f1
  obtain ⟨W', H', _, _, b1, _, b2, _, _, b3⟩ := field_nat f2
  have := Nat.mul_le_mul a1 a2
  have := Nat.mul_le_mul b1 b2
  exact ⟨by omega, by omega⟩
theorem cloned_ok (m : Melt) (hs : Small m) {K : MK} (hk : K (okM m).p (okM m).q (okM m).w1 (okM m).h1 (okM m).r1 (okM m).w2 (okM m).h2 (okM m).r2 (okM m).a (okM m).b (okM m).c (okM m).d (okM m).e (okM m).n (isM m)) : impl_Melt_cloned.wp m.p m.q m.w1 m.h1 m.r1 m.w2 m.h2 m.r2 m.a m.b m.c m.d m.e m.n K := by
  have s1 := hs.1
  have s2 := hs.2
  rw [impl_Melt_cloned.eq]
  refine impl_is m hs ?_
  unfold okM at hk
  cases hv : isM m
  · simp only [hv, Bool.false_eq_true, if_false, if_true, Bool.false_and] at hk; exact ifT rfl hk
  · simp only [hv, Bool.false_eq_true, if_false, if_true, Bool.false_and] at hk
    obtain ⟨n1, n2⟩ := nonempty hv
    refine ifF rfl ?_
    rw [slices_Clone_float32_float32.eq]
    refine ⟨n1, by simp; omega, ?_⟩
    rw [slices_Clone_float32_float32.eq]
    exact ⟨n2, by simp; omega, hk⟩

/-! ### SetMelt -/
section
variable (m : Melt) (a b c d e : Nat) (n : Int)
end

/-! ### CoolMelt -/
section
variable (m : Melt) (x : Nat)
end
end Go.K.melts
