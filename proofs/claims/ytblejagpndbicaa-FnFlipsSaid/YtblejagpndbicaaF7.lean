/- Floats of single precision that are flushed. -/
import Derived.Test.YtblejagpndbicaaF4
import Derived.Test.YtblejagpndbicaaF6
set_option linter.unusedSimpArgs false
set_option linter.unusedVariables false
set_option maxRecDepth 10000
namespace Go.K
open Ieee

theorem rung_aux2 {N kept B I : Nat} (hbin : B = 4503599627370496) (hinf : I = 9218868437227405312) (hl : N ≤ 1200) (h1 : 4503599627370496 ≤ kept) (h2 : kept < 9007199254740992) :
    N * B + kept < I ∧ ¬ N * B + kept < B ∧ B + (N * B + kept) % B = kept ∧ (N * B + kept) / B = N + 1 := by
  subst hbin
  subst hinf
  refine ⟨by omega, by omega, by omega, by omega⟩
theorem read_rung2 {a : Bool} {N kept : Nat} (hl : N ≤ 1200) (h1 : 4503599627370496 ≤ kept) (h2 : kept < 9007199254740992) : double.read (double.word a (min (N * double.binade + kept) double.infRung)) = .number a kept ((N : Int) - 1074) := by
  have hP : double.leastPlace = -1074 := rfl
  obtain ⟨e4, e5, e6, e7⟩ := rung_aux2 (B := double.binade) (I := double.infRung) rfl rfl hl h1 h2
  rw [Nat.min_eq_left (Nat.le_of_lt e4), read_word (Nat.le_of_lt e4), if_neg e5, if_pos e4, e6, e7, hP]
  have e8 : (-1074 : Int) + ((N + 1 - 1 : Nat) : Int) = (N : Int) - 1074 := by omega
  rw [e8]
theorem up_exact {a : Bool} {m : Nat} {e : Int} (h0 : 0 < m) (h : m < 2 ^ 24 ∧ -149 ≤ e ∧ e ≤ 104) : double.read (double.nearest a m e) = .number a (m * 2 ^ (52 - m.log2)) (e + (m.log2 : Int) - 52) := by
  obtain ⟨h1, h2, h3⟩ := h
  have hl : m.log2 < 24 := (Nat.log2_lt (by omega)).2 h1
  have hlm : m < 2 ^ (m.log2 + 1) := Nat.lt_log2_self
  have hle : 2 ^ m.log2 ≤ m := Nat.log2_self_le (by omega)
  have elast : max (e + (m.log2 : Int) - (double.fractionBits : Int)) double.leastPlace = e + m.log2 - 52 := by
    simp only [double, Format.leastPlace]; omega
  unfold Format.nearest
  rw [if_neg (by omega)]
  simp only [elast]
  have e1 : (e + (m.log2 : Int) - 52 - e).toNat = 0 := by omega
  have e2 : (e - (e + (m.log2 : Int) - 52)).toNat = 52 - m.log2 := by omega
  rw [e1, e2]
  have ecut : ∀ n, Toward.even.cut a n 0 = n := by
    intro n
    simp [Toward.cut, Nat.mod_one]
  rw [ecut, Nat.shiftLeft_eq]
  have hb : m * 2 ^ (52 - m.log2) < 2 ^ 53 := by
    calc m * 2 ^ (52 - m.log2) < 2 ^ (m.log2 + 1) * 2 ^ (52 - m.log2) := Nat.mul_lt_mul_of_pos_right hlm (Nat.pow_pos (by decide))
      _ = 2 ^ 53 := by rw [← Nat.pow_add]; congr 1; omega
  have hb2 : 2 ^ 52 ≤ m * 2 ^ (52 - m.log2) := by
    calc 2 ^ 52 = 2 ^ m.log2 * 2 ^ (52 - m.log2) := by rw [← Nat.pow_add]; congr 1; omega
      _ ≤ m * 2 ^ (52 - m.log2) := Nat.mul_le_mul_right _ hle
  have hP : double.leastPlace = -1074 := rfl
  rw [show (2 : Nat) ^ 52 = 4503599627370496 from rfl] at hb2
  rw [show (2 : Nat) ^ 53 = 9007199254740992 from rfl] at hb
  generalize m * 2 ^ (52 - m.log2) = kept at *
  have e3 : (e + (m.log2 : Int) - 52 - double.leastPlace).toNat = (e + (m.log2 : Int) + 1022).toNat := by simp only [hP]; congr 1; omega
  rw [e3, read_rung2 (by omega) hb2 hb]
  congr 1
  omega

/-- 2 to the power -126, as a double -/
theorem least_normal : double.read 4039728865751334912 = .number false 4503599627370496 (-178) := by decide
theorem compare_lt {a b : Int} (h : a < b) : compare a b = .lt := by
  show compareOfLessAndEq a b = .lt
  unfold compareOfLessAndEq
  rw [if_pos h]
theorem compare_nlt {a b : Int} (h : b ≤ a) : compare a b ≠ .lt := by
  show compareOfLessAndEq a b ≠ .lt
  unfold compareOfLessAndEq
  rw [if_neg (by omega)]
  split <;> simp
theorem signed_false (m k : Nat) : signed false m k = ((m * 2 ^ k : Nat) : Int) := by
  simp [signed, Nat.shiftLeft_eq]
/-- what is below the least normal number -/
theorem sub_least {z m : Nat} {e : Int} (h0 : 0 < m) (hz : double.read z = .number false (m * 2 ^ (52 - m.log2)) (e + (m.log2 : Int) - 52)) (hm : (m < 8388608 ∧ e = -149) ∨ (8388608 ≤ m ∧ m < 16777216 ∧ -149 ≤ e)) :
    flt .f64 z 4039728865751334912 = decide (m < 8388608) := by
  have hlm : m < 2 ^ (m.log2 + 1) := Nat.lt_log2_self
  have hle : 2 ^ m.log2 ≤ m := Nat.log2_self_le (by omega)
  unfold flt forder Format.order
  rw [show FloatKind.format .f64 = double from rfl, hz, least_normal]
  simp only [Datum.order]
  rcases hm with ⟨h1, rfl⟩ | ⟨h1, h2, h3⟩
  · have hl : m.log2 < 23 := (Nat.log2_lt (by omega)).2 h1
    rw [decide_eq_true h1]
    rw [show min ((-149 : Int) + (m.log2 : Int) - 52) (-178) = -149 + (m.log2 : Int) - 52 by omega]
    rw [show ((-149 : Int) + (m.log2 : Int) - 52 - (-149 + (m.log2 : Int) - 52)).toNat = 0 by omega]
    rw [show ((-178 : Int) - (-149 + (m.log2 : Int) - 52)).toNat = 23 - m.log2 by omega]
    rw [signed_false, signed_false, Nat.pow_zero, Nat.mul_one]
    have hb : m * 2 ^ (52 - m.log2) < 9007199254740992 := by
      calc m * 2 ^ (52 - m.log2) < 2 ^ (m.log2 + 1) * 2 ^ (52 - m.log2) := Nat.mul_lt_mul_of_pos_right hlm (Nat.pow_pos (by decide))
        _ = 2 ^ 53 := by rw [← Nat.pow_add]; congr 1; omega
        _ = 9007199254740992 := rfl
    have hp : 2 ^ 1 ≤ 2 ^ (23 - m.log2) := Nat.pow_le_pow_right (by decide) (by omega)
    have hq := Nat.mul_le_mul_left 4503599627370496 hp
    rw [compare_lt (by omega)]
    rfl
  · have hl : m.log2 = 23 := by
      have a1 : m.log2 < 24 := (Nat.log2_lt (by omega)).2 h2
      have a2 : ¬ m.log2 < 23 := fun hc => by
        have := (Nat.log2_lt (by omega)).1 hc
        omega
      omega
    rw [decide_eq_false (by omega), hl]
    rw [show min (e + ((23 : Nat) : Int) - 52) (-178) = -178 by omega]
    rw [show ((-178 : Int) - -178).toNat = 0 by omega]
    rw [signed_false, signed_false, Nat.pow_zero, Nat.mul_one]
    have hp : 1 ≤ 2 ^ (e + ((23 : Nat) : Int) - 52 - -178).toNat := Nat.one_le_two_pow
    have hq := Nat.mul_le_mul_left (m * 2 ^ (52 - 23)) hp
    have h29 : (2 : Nat) ^ (52 - 23) = 536870912 := rfl
    rw [h29] at hq ⊢
    have := compare_nlt (a := ((m * 536870912 * 2 ^ (e + ((23 : Nat) : Int) - 52 - -178).toNat : Nat) : Int)) (b := ((4503599627370496 : Nat) : Int)) (by omega)
    cases hc : compare ((m * 536870912 * 2 ^ (e + ((23 : Nat) : Int) - 52 - -178).toNat : Nat) : Int) ((4503599627370496 : Nat) : Int) <;> simp_all

/-! ### bits -/
theorem ibits_andi {x y : Nat} (hx : x < 18446744073709551616) (hy : y < 18446744073709551616) : ibits BinOp.and .i64 (x : Int) (y : Int) = Go.IntKind.wrap .i64 ((x &&& y : Nat) : Int) := by
  have key : ibits BinOp.and .i64 (x : Int) (y : Int) = IntKind.wrap .i64 ((BitVec.ofInt 64 (x : Int) &&& BitVec.ofInt 64 (y : Int)).toNat : Int) := rfl
  rw [key, BitVec.ofInt_natCast, BitVec.ofInt_natCast, BitVec.toNat_and, BitVec.toNat_ofNat, BitVec.toNat_ofNat, Nat.mod_eq_of_lt (by omega), Nat.mod_eq_of_lt (by omega)]
theorem ibits_andu {x y : Nat} (hx : x < 18446744073709551616) (hy : y < 18446744073709551616) : ibits BinOp.and .u64 (x : Int) (y : Int) = Go.IntKind.wrap .u64 ((x &&& y : Nat) : Int) := by
  have key : ibits BinOp.and .u64 (x : Int) (y : Int) = IntKind.wrap .u64 ((BitVec.ofInt 64 (x : Int) &&& BitVec.ofInt 64 (y : Int)).toNat : Int) := rfl
  rw [key, BitVec.ofInt_natCast, BitVec.ofInt_natCast, BitVec.toNat_and, BitVec.toNat_ofNat, BitVec.toNat_ofNat, Nat.mod_eq_of_lt (by omega), Nat.mod_eq_of_lt (by omega)]
theorem and_exp (x : Nat) : x &&& 2139095040 = (x % 2 ^ 31 / 2 ^ 23) * 2 ^ 23 := by
  rw [show (2139095040 : Nat) = (2 ^ 8 - 1) <<< 23 from rfl, ← Nat.shiftLeft_eq]
  apply Nat.eq_of_testBit_eq
  intro j
  simp only [Nat.testBit_and, Nat.testBit_shiftLeft, Nat.testBit_two_pow_sub_one, Nat.testBit_div_two_pow, Nat.testBit_mod_two_pow]
  by_cases h : 23 ≤ j
  · have e : 23 + (j - 23) = j := by omega
    have e' : j - 23 + 23 = j := by omega
    simp only [h, decide_true, Bool.true_and, e, e']
    by_cases h2 : j - 23 < 8
    · have : j < 31 := by omega
      simp [h2, this]
    · have : ¬ j < 31 := by omega
      simp [h2, this]
  · simp [h]
theorem and_pow (x i : Nat) : x &&& 2 ^ i = if x.testBit i = true then 2 ^ i else 0 := by
  apply Nat.eq_of_testBit_eq
  intro j
  rw [Nat.testBit_and, Nat.testBit_two_pow]
  by_cases h : i = j
  · subst h
    cases hx : x.testBit i
    · simp
    · simp [Nat.testBit_two_pow]
  · cases hx : x.testBit i
    · simp [h]
    · simp [h, Nat.testBit_two_pow]
theorem and_sign {x : Nat} (hx : x < 4294967296) : x &&& 2147483648 = if 2147483648 ≤ x then 2147483648 else 0 := by
  have key := and_pow x 31
  rw [show (2 : Nat) ^ 31 = 2147483648 from rfl] at key
  rw [key]
  by_cases h : 2147483648 ≤ x
  · have e : x = 2 ^ 31 + (x - 2147483648) := by omega
    have hb : x.testBit 31 = true := by
      rw [e, Nat.testBit_two_pow_add_eq, Nat.testBit_lt_two_pow (show x - 2147483648 < 2 ^ 31 by omega)]; rfl
    rw [hb, if_pos rfl, if_pos h]
  · have hb : x.testBit 31 = false := Nat.testBit_lt_two_pow (show x < 2 ^ 31 by omega)
    rw [hb, if_neg h]; rfl
theorem and_sign64 {s : Bool} {r : Nat} (hr : r < 9223372036854775808) : double.word s r &&& 9223372036854775808 = if s = true then 9223372036854775808 else 0 := by
  have hS : double.signWeight = 9223372036854775808 := rfl
  unfold Format.word
  rw [hS]
  have key : ∀ z : Nat, z &&& 9223372036854775808 = if z.testBit 63 = true then 9223372036854775808 else 0 := fun z => and_pow z 63
  rw [key]
  have hb : r.testBit 63 = false := Nat.testBit_lt_two_pow (show r < 2 ^ 63 from hr)
  cases s
  · simp only [Bool.false_eq_true, if_false]
    rw [hb]; rfl
  · simp only [if_true]
    have : (9223372036854775808 + r).testBit 63 = true := by
      rw [show (9223372036854775808 : Nat) + r = 2 ^ 63 + r from rfl, Nat.testBit_two_pow_add_eq, hb]; rfl
    rw [this]; rfl
end Go.K
