/- Floats of single precision, there and back. -/
import Derived.Test.YtblejagpndbicaaF7
set_option linter.unusedSimpArgs false
set_option linter.unusedVariables false
set_option maxRecDepth 10000
namespace Go.K
open Ieee

theorem cut_exact {s : Bool} {m d : Nat} (h : 0 < m) : Toward.even.cut s (m * 2 ^ d) d = m := by
  have hp : 0 < 2 ^ d := Nat.pow_pos (by decide)
  have hle : d ≤ (m * 2 ^ d).log2 := (Nat.le_log2 (by have := Nat.mul_pos h hp; omega)).2 (Nat.le_mul_of_pos_left _ h)
  unfold Toward.cut
  rw [show min d ((m * 2 ^ d).log2 + 2) = d by omega]
  simp only [Nat.shiftLeft_eq, Nat.one_mul, Nat.mul_div_cancel _ hp, Nat.mul_mod_left, Nat.mul_zero]
  have h1 : decide (2 ^ d < 0) = false := by simp
  have h2 : (2 ^ d == 0) = false := by rw [beq_eq_false_iff_ne]; omega
  simp [h1, h2]
theorem log2_52 {M : Nat} (h1 : 4503599627370496 ≤ M) (h2 : M < 9007199254740992) : M.log2 = 52 := by
  have a1 : M.log2 < 53 := (Nat.log2_lt (by omega)).2 h2
  have a2 : ¬ M.log2 < 52 := fun hc => by
    have := (Nat.log2_lt (by omega)).1 hc
    have h52 : (2 : Nat) ^ 52 = 4503599627370496 := rfl
    omega
  omega
theorem scaled {m : Nat} (h0 : 0 < m) (hl : m.log2 ≤ 52) : 4503599627370496 ≤ m * 2 ^ (52 - m.log2) ∧ m * 2 ^ (52 - m.log2) < 9007199254740992 := by
  have hlm : m < 2 ^ (m.log2 + 1) := Nat.lt_log2_self
  have hle : 2 ^ m.log2 ≤ m := Nat.log2_self_le (by omega)
  constructor
  · calc 4503599627370496 = 2 ^ 52 := rfl
      _ = 2 ^ m.log2 * 2 ^ (52 - m.log2) := by rw [← Nat.pow_add]; congr 1; omega
      _ ≤ m * 2 ^ (52 - m.log2) := Nat.mul_le_mul_right _ hle
  · calc m * 2 ^ (52 - m.log2) < 2 ^ (m.log2 + 1) * 2 ^ (52 - m.log2) := Nat.mul_lt_mul_of_pos_right hlm (Nat.pow_pos (by decide))
      _ = 2 ^ 53 := by rw [← Nat.pow_add]; congr 1; omega
      _ = 9007199254740992 := rfl
theorem rung_back {r B I : Nat} (hp : 0 < B) (h : B ≤ r) (hr : r < I) : min ((r / B - 1) * B + (B + r % B)) I = r := by
  have hq : 1 ≤ r / B := (Nat.one_le_div_iff hp).2 h
  have e : (r / B - 1) * B + B = r / B * B := by
    obtain ⟨q, hq'⟩ : ∃ q, r / B = q + 1 := ⟨r / B - 1, by omega⟩
    rw [hq', Nat.add_sub_cancel, Nat.add_mul, Nat.one_mul]
  have e2 : (r / B - 1) * B + (B + r % B) = r := by
    rw [← Nat.add_assoc, e, Nat.mul_comm]
    exact Nat.div_add_mod r B
  rw [e2]
  exact Nat.min_eq_left (Nat.le_of_lt hr)
theorem down_nearest {r : Nat} (h0 : r ≠ 0) (hr : r < 2139095040) : single.nearest false (mag r * 2 ^ (52 - (mag r).log2)) (plc r + ((mag r).log2 : Int) - 52) = r := by
  have hm0 : 0 < mag r := by unfold mag; split <;> omega
  have hm24 : mag r < 16777216 := by unfold mag; split <;> omega
  have hl : (mag r).log2 < 24 := (Nat.log2_lt (by omega)).2 hm24
  obtain ⟨s1, s2⟩ := scaled hm0 (by omega)
  have hlog := log2_52 s1 s2
  have hB : single.binade = 8388608 := rfl
  have hI : single.infRung = 2139095040 := rfl
  have hP : single.leastPlace = -149 := rfl
  unfold Format.nearest
  rw [if_neg (by omega), hlog]
  by_cases h : r < 8388608
  · have e1 : mag r = r := by unfold mag; rw [if_pos h]
    have e2 : plc r = -149 := by unfold plc; rw [if_pos h]
    rw [e1] at hl s1 s2 hlog hm0 ⊢
    rw [e2]
    have hl22 : r.log2 < 23 := (Nat.log2_lt (by omega)).2 h
    have elast : max ((-149 : Int) + (r.log2 : Int) - 52 + ((52 : Nat) : Int) - (single.fractionBits : Int)) single.leastPlace = -149 := by
      simp only [single, Format.leastPlace]; omega
    simp only [elast]
    rw [show ((-149 : Int) + (r.log2 : Int) - 52 - -149).toNat = 0 by omega, show ((-149 : Int) - (-149 + (r.log2 : Int) - 52)).toNat = 52 - r.log2 by omega]
    rw [Nat.shiftLeft_zero, cut_exact hm0, hP, hB, hI]
    rw [show ((-149 : Int) - -149).toNat = 0 by omega]
    unfold Format.word
    simp only [Bool.false_eq_true, if_false]
    omega
  · have e1 : mag r = 8388608 + r % 8388608 := by unfold mag; rw [if_neg h]
    have e2 : plc r = -149 + ((r / 8388608 - 1 : Nat) : Int) := by unfold plc; rw [if_neg h]
    have hl23 : (mag r).log2 = 23 := by
      have a2 : ¬ (mag r).log2 < 23 := fun hc => by
        have := (Nat.log2_lt (by omega)).1 hc
        omega
      omega
    rw [hl23, e2]
    have elast : max ((-149 : Int) + ((r / 8388608 - 1 : Nat) : Int) + ((23 : Nat) : Int) - 52 + ((52 : Nat) : Int) - (single.fractionBits : Int)) single.leastPlace = -149 + ((r / 8388608 - 1 : Nat) : Int) := by
      simp only [single, Format.leastPlace]; omega
    simp only [elast]
    rw [show ((-149 : Int) + ((r / 8388608 - 1 : Nat) : Int) + ((23 : Nat) : Int) - 52 - (-149 + ((r / 8388608 - 1 : Nat) : Int))).toNat = 0 by omega, show ((-149 : Int) + ((r / 8388608 - 1 : Nat) : Int) - (-149 + ((r / 8388608 - 1 : Nat) : Int) + ((23 : Nat) : Int) - 52)).toNat = 29 by omega]
    rw [Nat.shiftLeft_zero, show (52 - 23 : Nat) = 29 from rfl, cut_exact hm0, hP, hB, hI, e1]
    rw [show ((-149 : Int) + ((r / 8388608 - 1 : Nat) : Int) - -149).toNat = r / 8388608 - 1 by omega]
    unfold Format.word
    simp only [Bool.false_eq_true, if_false]
    exact rung_back (by decide) (by omega) hr

theorem abs_back {u : Nat} (hu : u < 4294967296) (hn : isNaNW .f32 u = false) : fitsF .f64 .f32 (fconv .f32 .f64 u % 9223372036854775808) = true ∧ fconv .f64 .f32 (fconv .f32 .f64 u % 9223372036854775808) = u % 2147483648 := by
  have hd := single_read u
  by_cases hr : u % 2147483648 < 2139095040
  · rw [if_pos hr] at hd
    by_cases h0 : u % 2147483648 = 0
    · have hx2 : u = 0 ∨ u = 2147483648 := by omega
      rcases hx2 with rfl | rfl <;> exact ⟨by decide, by decide⟩
    · have hm0 : 0 < mag (u % 2147483648) := by unfold mag; split <;> omega
      have hb := single_read_bounds hd
      have hy : fconv .f32 .f64 u = double.nearest (u / 2147483648 % 2 == 1) (mag (u % 2147483648)) (plc (u % 2147483648)) := by
        unfold fconv
        rw [if_neg (by decide), show FloatKind.decode .f32 u = single.read u from rfl, hd]; rfl
      have hread := up_exact (a := (u / 2147483648 % 2 == 1)) hm0 hb
      have hz : double.read (fconv .f32 .f64 u % 9223372036854775808) = .number false (mag (u % 2147483648) * 2 ^ (52 - (mag (u % 2147483648)).log2)) (plc (u % 2147483648) + ((mag (u % 2147483648)).log2 : Int) - 52) := by
        rw [read_abs, hy, hread]
      have hnear := down_nearest h0 hr
      have hdz : FloatKind.decode .f64 (fconv .f32 .f64 u % 9223372036854775808) = .number false (mag (u % 2147483648) * 2 ^ (52 - (mag (u % 2147483648)).log2)) (plc (u % 2147483648) + ((mag (u % 2147483648)).log2 : Int) - 52) := hz
      constructor
      · unfold fitsF
        rw [hdz]
        show (false || !(single.read (single.nearest false _ _)).isInfinity) = true
        rw [hnear, single_read]
        have : u % 2147483648 % 2147483648 = u % 2147483648 := Nat.mod_mod _ _
        rw [this, if_pos hr]; rfl
      · unfold fconv at *
        rw [if_neg (by decide)]
        rw [hdz]
        exact hnear
  · rw [if_neg hr] at hd
    by_cases h2 : u % 2147483648 = 2139095040
    · have hx2 : u = 2139095040 ∨ u = 4286578688 := by omega
      rcases hx2 with rfl | rfl <;> exact ⟨by decide, by decide⟩
    · rw [if_neg h2] at hd
      unfold isNaNW at hn
      rw [show FloatKind.decode .f32 u = single.read u from rfl, hd] at hn
      cases hn

/-! ### what is not finite stays so -/
theorem notfin_of {o : Option Datum} (h : ∀ d, o = some d → ∃ s, d = .infinity s) : fin .f32 ((o.map single.write).getD (nanW .f32)) = false := by
  cases o with
  | none => decide
  | some d =>
    obtain ⟨s, rfl⟩ := h d rfl
    unfold fin
    rw [show (Option.map single.write (some (.infinity s))).getD (nanW .f32) = FloatKind.encode .f32 (.infinity s) from rfl, read_inf .f32]
theorem add_notfin {x y : Nat} (hy : fin .f32 y = false) : fin .f32 (farith .add .f32 x y) = false := by
  refine notfin_of (o := (single.read x).sum (single.read y)) fun d hd => ?_
  unfold fin at hy
  rw [show FloatKind.decode .f32 y = single.read y from rfl] at hy
  cases hdy : single.read y <;> rw [hdy] at hy hd
  · cases hy
  · cases hdx : single.read x <;> rw [hdx] at hd <;> simp [Datum.sum] at hd
    · exact ⟨_, hd.symm⟩
    · exact ⟨_, hd.2.symm⟩
  · rw [sum_nan_right] at hd; cases hd
theorem mul_notfin {x y : Nat} (hy : fin .f32 y = false) : fin .f32 (farith .mul .f32 x y) = false := by
  refine notfin_of (o := (single.read x).product (single.read y)) fun d hd => ?_
  unfold fin at hy
  rw [show FloatKind.decode .f32 y = single.read y from rfl] at hy
  cases hdy : single.read y <;> rw [hdy] at hy hd
  · cases hy
  · cases hdx : single.read x <;> rw [hdx] at hd <;> simp [Datum.product] at hd
    · exact ⟨_, hd.2.symm⟩
    · exact ⟨_, hd.symm⟩
  · rw [product_nan_right] at hd; cases hd
theorem mul_fin {x y : Nat} (hx : fin .f32 x = true) (hy : fin .f32 y = true) : isNaNW .f32 (farith .mul .f32 x y) = false ∧ farith .mul .f32 x y < 4294967296 := by
  unfold fin at hx hy
  rw [show FloatKind.decode .f32 x = single.read x from rfl] at hx
  rw [show FloatKind.decode .f32 y = single.read y from rfl] at hy
  cases hdx : single.read x <;> rw [hdx] at hx <;> first | (cases hx; done) | skip
  cases hdy : single.read y <;> rw [hdy] at hy <;> first | (cases hy; done) | skip
  rename_i s m i t n j
  have e : floatBits .mul .f32 x y = some (single.write (.number (s ^^ t) (m * n) (i + j))) := by
    show ((single.read x).product (single.read y)).map single.write = _
    rw [hdx, hdy]; rfl
  have e2 : farith .mul .f32 x y = single.write (.number (s ^^ t) (m * n) (i + j)) := by unfold farith; rw [e]; rfl
  constructor
  · rw [e2]; exact floatBits_notNaN e
  · rw [e2]
    have hI : single.infRung = 2139095040 := rfl
    have hS : single.signWeight = 2147483648 := rfl
    have hw : ∀ (b : Bool) (r : Nat), r ≤ 2139095040 → single.word b r < 4294967296 := by
      intro b r h
      unfold Format.word
      rw [hS]
      split <;> omega
    unfold Format.write Format.nearest
    dsimp only
    split
    · exact hw _ _ (by omega)
    · exact hw _ _ (by rw [← hI]; exact Nat.min_le_right _ _)
theorem xor_sign {r : Nat} (hr : r < 2147483648) : (2147483648 + r) ^^^ 2147483648 = r := by
  rw [show (2147483648 : Nat) = 2 ^ 31 from rfl] at *
  apply Nat.eq_of_testBit_eq
  intro j
  rw [Nat.testBit_xor, Nat.testBit_two_pow]
  by_cases h : 31 = j
  · subst h
    rw [Nat.testBit_two_pow_add_eq, Nat.testBit_lt_two_pow hr]; rfl
  · by_cases h2 : j < 31
    · rw [Nat.testBit_two_pow_add_gt h2]; simp [h]
    · have h3 : 2 ^ 32 ≤ 2 ^ j := Nat.pow_le_pow_right (by decide) (by omega)
      rw [Nat.testBit_lt_two_pow (show 2 ^ 31 + r < 2 ^ j by omega), Nat.testBit_lt_two_pow (show r < 2 ^ j by omega)]
      simp [h]
theorem fneg_fin {x : Nat} (hx : fin .f32 x = true) : fin .f32 (fneg .f32 x) = true := by
  have hn := fin_notNaN hx
  have hmod := negFloat_mod .f32 x
  rw [show FloatKind.format .f32 = single from rfl, show single.signWeight = 2147483648 from rfl] at hmod
  have hd := single_read x
  have hr : x % 2147483648 < 2139095040 := by
    unfold fin at hx
    rw [show FloatKind.decode .f32 x = single.read x from rfl, hd] at hx
    by_cases h : x % 2147483648 < 2139095040
    · exact h
    · rw [if_neg h] at hx
      by_cases h2 : x % 2147483648 = 2139095040
      · rw [if_pos h2] at hx; cases hx
      · rw [if_neg h2] at hx; cases hx
  have hd2 := single_read (Op.negFloat .f32 x)
  rw [hmod, if_pos hr] at hd2
  have hn2 : isNaNW .f32 (Op.negFloat .f32 x) = false := by
    unfold isNaNW
    rw [show FloatKind.decode .f32 (Op.negFloat .f32 x) = single.read (Op.negFloat .f32 x) from rfl, hd2]; rfl
  unfold fneg fin
  rw [cF_of_not hn2, show FloatKind.decode .f32 (Op.negFloat .f32 x) = single.read (Op.negFloat .f32 x) from rfl, hd2]
/-- what a number is less than nought -/
theorem flt_zero {u : Nat} (hu : u < 4294967296) (hn : isNaNW .f32 u = false) : flt .f32 u 0 = true → 2147483648 ≤ u ∧ fneg .f32 u = u % 2147483648 := by
  intro h
  have hs : 2147483648 ≤ u := by
    by_cases hs : 2147483648 ≤ u
    · exact hs
    · exfalso
      have hsg : (u / 2147483648 % 2 == 1) = false := by rw [beq_eq_false_iff_ne]; omega
      unfold flt forder Format.order at h
      rw [show FloatKind.format .f32 = single from rfl, single_read u, show single.read 0 = .number false 0 (-149) from by decide, hsg] at h
      split at h
      · simp only [Datum.order] at h
        rw [signed_false, signed_false, Nat.zero_mul] at h
        have := compare_nlt (a := ((mag (u % 2147483648) * 2 ^ (plc (u % 2147483648) - min (plc (u % 2147483648)) (-149)).toNat : Nat) : Int)) (b := ((0 : Nat) : Int)) (by omega)
        exact this (by simpa using h)
      · split at h
        · simp [Datum.order] at h
        · simp [Datum.order] at h
  refine ⟨hs, ?_⟩
  have e : Op.negFloat .f32 u = u % 2147483648 := by
    have hx := xor_sign (r := u - 2147483648) (by omega)
    rw [show 2147483648 + (u - 2147483648) = u by omega] at hx
    have : Op.negFloat .f32 u = u ^^^ 2147483648 := rfl
    rw [this, hx]; omega
  unfold fneg
  rw [e]
  refine cF_of_not ?_
  unfold isNaNW at hn ⊢
  rw [show FloatKind.decode .f32 u = single.read u from rfl, single_read u] at hn
  rw [show FloatKind.decode .f32 (u % 2147483648) = single.read (u % 2147483648) from rfl, single_read, Nat.mod_mod]
  by_cases h1 : u % 2147483648 < 2139095040
  · rw [if_pos h1]; rfl
  · rw [if_neg h1] at hn ⊢
    by_cases h2 : u % 2147483648 = 2139095040
    · rw [if_pos h2]; rfl
    · rw [if_neg h2] at hn; cases hn
theorem not_flt_zero {u : Nat} (hu : u < 4294967296) (hn : isNaNW .f32 u = false) (h : flt .f32 u 0 = false) : u < 2147483648 ∨ u = 2147483648 := by
  by_cases hs : u < 2147483648
  · exact .inl hs
  · right
    by_cases h0 : u % 2147483648 = 0
    · omega
    · exfalso
      have hsg : (u / 2147483648 % 2 == 1) = true := by rw [beq_iff_eq]; omega
      unfold flt forder Format.order at h
      rw [show FloatKind.format .f32 = single from rfl, single_read u, show single.read 0 = .number false 0 (-149) from by decide, hsg] at h
      have hm0 : 0 < mag (u % 2147483648) := by unfold mag; split <;> omega
      split at h
      · simp only [Datum.order] at h
        have h3 : 0 < mag (u % 2147483648) * 2 ^ (plc (u % 2147483648) - min (plc (u % 2147483648)) (-149)).toNat := Nat.mul_pos hm0 (Nat.pow_pos (by decide))
        rw [signed_false, Nat.zero_mul] at h
        have hlt : signed true (mag (u % 2147483648)) (plc (u % 2147483648) - min (plc (u % 2147483648)) (-149)).toNat < ((0 : Nat) : Int) := by
          simp only [signed, if_true, Nat.shiftLeft_eq]; omega
        rw [compare_lt hlt] at h
        cases h
      · split at h
        · simp [Datum.order] at h
        · rename_i h1 h2
          unfold isNaNW at hn
          rw [show FloatKind.decode .f32 u = single.read u from rfl, single_read u, if_neg h1, if_neg h2] at hn
          cases hn
end Go.K
