/- Floats of single precision: the same number is the same word. -/
import Derived.Test.YtblejagpndbicaaF3
set_option linter.unusedSimpArgs false
set_option linter.unusedVariables false
set_option maxRecDepth 10000
namespace Go.K
open Ieee

/-- a word as the walk knows it -/
def Can (x : Nat) : Prop := x < 4294967296 ∧ (isNaNW .f32 x = true → x = 2143289344)
theorem can_cF {b : Nat} (h : b < 4294967296) : Can (cF .f32 b) := by
  cases hb : isNaNW .f32 b
  · rw [cF_of_not hb]
    exact ⟨h, fun hc => by rw [hb] at hc; cases hc⟩
  · rw [cF_of_nan hb]
    exact ⟨by decide, fun _ => rfl⟩

def mag (r : Nat) : Nat := if r < 8388608 then r else 8388608 + r % 8388608
def plc (r : Nat) : Int := if r < 8388608 then -149 else -149 + (r / 8388608 - 1 : Nat)
theorem mag_plc {r q : Nat} (h : plc r ≤ plc q) (e : mag r = mag q * 2 ^ (plc q - plc r).toNat) : r = q := by
  unfold mag plc at *
  by_cases h1 : r < 8388608 <;> by_cases h2 : q < 8388608
  · simp only [h1, h2, if_true] at e
    simpa using e
  · simp only [h1, h2, if_true, if_false] at e h
    have : 1 ≤ 2 ^ ((-149 : Int) + ((q / 8388608 - 1 : Nat) : Int) - -149).toNat := Nat.one_le_two_pow
    have := Nat.mul_le_mul_left (8388608 + q % 8388608) this
    omega
  · simp only [h1, h2, if_true, if_false] at e h
    have hq : r / 8388608 - 1 = 0 := by omega
    simp only [hq] at e
    simp at e
    omega
  · simp only [h1, h2, if_false] at e h
    have hle : r / 8388608 ≤ q / 8388608 := by omega
    rcases Nat.eq_or_lt_of_le hle with hq | hq
    · rw [hq] at e
      have : ((-149 : Int) + ((q / 8388608 - 1 : Nat) : Int) - (-149 + ((q / 8388608 - 1 : Nat) : Int))).toNat = 0 := by omega
      rw [this] at e
      omega
    · have h3 : 1 ≤ ((-149 : Int) + ((q / 8388608 - 1 : Nat) : Int) - (-149 + ((r / 8388608 - 1 : Nat) : Int))).toNat := by omega
      have h4 : 2 ^ 1 ≤ 2 ^ ((-149 : Int) + ((q / 8388608 - 1 : Nat) : Int) - (-149 + ((r / 8388608 - 1 : Nat) : Int))).toNat := Nat.pow_le_pow_right (by decide) h3
      have := Nat.mul_le_mul_left (8388608 + q % 8388608) h4
      omega
theorem single_read (x : Nat) : single.read x = if x % 2147483648 < 2139095040 then .number (x / 2147483648 % 2 == 1) (mag (x % 2147483648)) (plc (x % 2147483648)) else if x % 2147483648 = 2139095040 then .infinity (x / 2147483648 % 2 == 1) else .nan (x / 2147483648 % 2 == 1) (x % 2147483648 - 2139095040) := by
  have hB : single.binade = 8388608 := rfl
  have hI : single.infRung = 2139095040 := rfl
  have hP : single.leastPlace = -149 := rfl
  have hS : single.signWeight = 2147483648 := rfl
  unfold Format.read
  rw [hB, hI, hP, hS]
  generalize x % 2147483648 = r
  dsimp only
  unfold mag plc
  by_cases h1 : r < 8388608
  · rw [if_pos h1, if_pos (by omega), if_pos h1, if_pos h1]
  · rw [if_neg h1, if_neg h1, if_neg h1]
theorem signed_eq {s : Bool} {m n k j : Nat} (h : signed s m k = signed s n j) : m * 2 ^ k = n * 2 ^ j := by
  unfold signed at h
  rw [Nat.shiftLeft_eq, Nat.shiftLeft_eq] at h
  cases s <;> simp only [Bool.false_eq_true, if_false, if_true] at h <;> omega
theorem compare_eq {a b : Int} (h : compare a b = .eq) : a = b := by
  have : compareOfLessAndEq a b = .eq := h
  unfold compareOfLessAndEq at this
  split at this
  · cases this
  · split at this
    · assumption
    · cases this
theorem feq_rung {x y : Nat} (hs : (x / 2147483648 % 2 == 1) = (y / 2147483648 % 2 == 1)) (h : feq .f32 x y = true) : x % 2147483648 = y % 2147483648 := by
  unfold feq forder Format.order at h
  rw [show FloatKind.format .f32 = single from rfl, single_read x, single_read y, hs] at h
  generalize (y / 2147483648 % 2 == 1) = s at *
  generalize x % 2147483648 = r at *
  generalize y % 2147483648 = q at *
  split at h
  · split at h
    · simp only [Datum.order] at h
      have h' := compare_eq (by simpa using h)
      have h2 := signed_eq h'
      rcases Int.le_total (plc r) (plc q) with hl | hl
      · rw [show min (plc r) (plc q) = plc r by omega, show (plc r - plc r).toNat = 0 by omega] at h2
        exact mag_plc hl (by simpa using h2)
      · rw [show min (plc r) (plc q) = plc q by omega, show (plc q - plc q).toNat = 0 by omega] at h2
        exact (mag_plc hl (by simpa using h2.symm)).symm
    · split at h
      · cases s <;> simp [Datum.order] at h
      · simp [Datum.order] at h
  · split at h
    · split at h
      · cases s <;> simp [Datum.order] at h
      · rename_i h1 h2 
        split at h
        · omega
        · simp [Datum.order] at h
    · simp [Datum.order] at h

/-- the sign, as the program finds it -/
theorem sign_up {x : Nat} (hx : isNaNW .f32 x = false) : decide (Go.IntKind.wrap .i64 ((fconv .f32 .f64 x : Nat) : Int) < 0) = (x / 2147483648 % 2 == 1) := by
  have key : ∃ r, fconv .f32 .f64 x = double.word (x / 2147483648 % 2 == 1) r ∧ r ≤ 9218868437227405312 := by
    have hr := single_read x
    have hd : FloatKind.decode .f32 x = single.read x := rfl
    unfold fconv
    rw [if_neg (by decide), hd]
    by_cases h : x % 2147483648 < 2139095040
    · rw [if_pos h] at hr
      rw [hr]
      obtain ⟨r, h1, h2⟩ := double_nearest_fin (a := (x / 2147483648 % 2 == 1)) (single_read_bounds hr)
      have hI : double.infRung = 9218868437227405312 := rfl
      exact ⟨r, h1, by rw [hI] at h2; exact Nat.le_of_lt h2⟩
    · rw [if_neg h] at hr
      by_cases h2 : x % 2147483648 = 2139095040
      · rw [if_pos h2] at hr
        rw [hr]
        exact ⟨9218868437227405312, rfl, Nat.le_refl _⟩
      · rw [if_neg h2] at hr
        unfold isNaNW at hx
        rw [hd, hr] at hx
        cases hx
  obtain ⟨r, e, hr⟩ := key
  rw [e]
  generalize (x / 2147483648 % 2 == 1) = s
  have hS : double.signWeight = 9223372036854775808 := rfl
  unfold Format.word
  rw [hS]
  cases s
  · simp only [Bool.false_eq_true, if_false]
    rw [wrap64 (by omega) (by omega)]
    exact decide_eq_false (by omega)
  · simp only [if_true]
    have : Go.IntKind.wrap .i64 ((9223372036854775808 + r : Nat) : Int) = (r : Int) - 9223372036854775808 := by
      have e : Go.IntKind.wrap .i64 ((9223372036854775808 + r : Nat) : Int) = if (true && decide (((9223372036854775808 + r : Nat) : Int) % 18446744073709551616 ≥ 9223372036854775808)) = true then ((9223372036854775808 + r : Nat) : Int) % 18446744073709551616 - 18446744073709551616 else ((9223372036854775808 + r : Nat) : Int) % 18446744073709551616 := rfl
      rw [e, decide_eq_true (by omega)]
      simp only [Bool.true_and, if_true]
      omega
    rw [this]
    exact decide_eq_true (by omega)

def SameT (sgn : Nat → (Bool → Prop) → Prop) (a1 a2 : Nat) (K : Bool → Prop) : Prop :=
  ifB (fne .f32 a1 a1) (ifB (fne .f32 a1 a1) (K (fne .f32 a2 a2)) (K Bool.false))
  (ifB (fne .f32 a2 a2) (ifB (fne .f32 a1 a1) (K (fne .f32 a2 a2)) (K Bool.false))
    (ifB (feq .f32 a1 a2)
      (sgn (fconv .f32 .f64 a1) fun y1 =>
        sgn (fconv .f32 .f64 a2) fun y2 => K (y1 == y2))
      (K Bool.false)))
theorem SameT_ok {sgn : Nat → (Bool → Prop) → Prop} (hsgn : ∀ z K, isNaNW .f64 z = false → K (decide (Go.IntKind.wrap .i64 ((z : Nat) : Int) < 0)) → sgn z K) {x y : Nat} (hx : Can x) (hy : Can y) {K : Bool → Prop} (h : K (x == y)) : SameT sgn x y K := by
  unfold SameT
  rw [fne_self, fne_self]
  cases h1 : isNaNW .f32 x <;> cases h2 : isNaNW .f32 y
  · refine ifF rfl (ifF rfl (ifB_of (fun he => ?_) (fun he => ?_)))
    · refine hsgn _ _ (by rw [isNaN_up]; exact h1) (hsgn _ _ (by rw [isNaN_up]; exact h2) ?_)
      rw [sign_up h1, sign_up h2]
      by_cases hs : (x / 2147483648 % 2 == 1) = (y / 2147483648 % 2 == 1)
      · have hr := feq_rung hs he
        have hxy : x = y := by
          have h3 := hx.1
          have h4 := hy.1
          have h5 : x / 2147483648 % 2 = y / 2147483648 % 2 := by
            have a1 : x / 2147483648 % 2 < 2 := Nat.mod_lt _ (by decide)
            have a2 : y / 2147483648 % 2 < 2 := Nat.mod_lt _ (by decide)
            generalize x / 2147483648 % 2 = p at *
            generalize y / 2147483648 % 2 = q at *
            rcases (by omega : p = 0 ∨ p = 1) with rfl | rfl <;> rcases (by omega : q = 0 ∨ q = 1) with rfl | rfl <;> first | rfl | (exact absurd hs (by decide))
          omega
        rw [show (x == y) = true by simp [hxy]] at h
        rw [hs, beq_self_eq_true]; exact h
      · have hxy : x ≠ y := fun e => hs (by rw [e])
        rw [show (x == y) = false by simp [hxy]] at h
        rw [show ((x / 2147483648 % 2 == 1) == (y / 2147483648 % 2 == 1)) = false from beq_eq_false_iff_ne.2 hs]; exact h
    · have hxy : x ≠ y := by
        intro e
        subst e
        rw [feq_self, h1] at he; cases he
      rw [show (x == y) = false by simp [hxy]] at h
      exact h
  · have hxy : x ≠ y := fun e => by rw [e, h2] at h1; cases h1
    rw [show (x == y) = false by simp [hxy]] at h
    exact ifF rfl (ifT rfl (ifF rfl h))
  · have hxy : x ≠ y := fun e => by rw [e, h2] at h1; cases h1
    rw [show (x == y) = false by simp [hxy]] at h
    exact ifT rfl (ifT rfl h)
  · have hxy : x = y := by rw [hx.2 h1, hy.2 h2]
    rw [show (x == y) = true by simp [hxy]] at h
    exact ifT rfl (ifT rfl h)
/-- the bits, as the reference finds them -/
def bitsT (a1 : Nat) (K : Int → Prop) : Prop := ifB (fne .f32 a1 a1) (K (2143289344 : Int)) (isNaNW .f32 a1 = Bool.false ∧ K (Go.IntKind.wrap .i64 (↑a1 : Int)))
theorem bitsT_ok {x : Nat} (hx : Can x) {K : Int → Prop} (h : K (x : Int)) : bitsT x K := by
  unfold bitsT
  rw [fne_self]
  have := hx.1
  cases h1 : isNaNW .f32 x
  · refine ifF rfl ⟨rfl, ?_⟩
    rw [wrap64 (by omega) (by omega)]; exact h
  · rw [hx.2 h1] at h
    exact ifT rfl h

/-- a loop over two lists that looks whether all are the same -/
theorem same_loop {l m : List Nat} (hlen : l.length = m.length) {J : Int → Prop} {K : Bool → Prop} (h : K (l == m)) (hend : K true → J (l.length : Int)) (hbad : ∀ i : Nat, i < l.length → (l.getD i 0 == m.getD i 0) = false → K false → J (i : Int))
    (hstep : ∀ i : Nat, i < l.length → (l.getD i 0 == m.getD i 0) = true → J ((i + 1 : Nat) : Int) → J (i : Int)) : J 0 := by
  have key := down (Q := fun i => K (l.drop i == m.drop i) → J (i : Int)) (n := l.length) (by
    intro h
    rw [List.drop_length, hlen, List.drop_length] at h
    exact hend h) (by
    intro i hi ih h
    have hi2 : i < m.length := by omega
    rw [List.drop_eq_getElem_cons hi, List.drop_eq_getElem_cons hi2] at h
    have e1 : l.getD i 0 = l[i] := by simp [List.getD, hi]
    have e2 : m.getD i 0 = m[i] := by simp [List.getD, hi2]
    have e3 : ((l[i] :: List.drop (i + 1) l) == (m[i] :: List.drop (i + 1) m)) = (l[i] == m[i] && List.drop (i + 1) l == List.drop (i + 1) m) := rfl
    rw [e3] at h
    cases hp : l[i] == m[i]
    · rw [hp] at h; exact hbad i hi (by rw [e1, e2]; exact hp) h
    · rw [hp] at h; exact hstep i hi (by rw [e1, e2]; exact hp) (ih h)) 0 (Nat.zero_le _)
  exact key (by simpa using h)
end Go.K
