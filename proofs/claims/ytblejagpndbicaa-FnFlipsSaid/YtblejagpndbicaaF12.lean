/- Angles: their floats stay within bounds. -/
import Derived.Test.YtblejagpndbicaaF11
set_option linter.unusedSimpArgs false
set_option linter.unusedVariables false
set_option maxRecDepth 10000
namespace Go.K
open Ieee

/-! ### constants -/
theorem bd_of {fk : FloatKind} {x m : Nat} {e k : Int} {s : Bool} (B : Nat) (h : fk.decode x = .number s m e) (h1 : 0 ≤ e + B) (h2 : 0 ≤ k + B) (h3 : m * 2 ^ (e + B).toNat ≤ 2 ^ (k + B).toNat) : Bd fk k x := ⟨_, _, _, h, LeP_of B h1 h2 h3⟩
theorem gt_of {fk : FloatKind} {x m : Nat} {e j k : Int} (B : Nat) (h : fk.decode x = .number false m e) (h1 : 0 ≤ e + B) (h2 : 0 ≤ k + B) (h3 : m * 2 ^ (e + B).toNat ≤ 2 ^ (k + B).toNat) (h4 : 0 ≤ j + B) (h5 : 2 ^ (j + B).toNat ≤ m * 2 ^ (e + B).toNat) : Gt fk j k x := ⟨_, _, h, LeP_of B h1 h2 h3, GeP_of B h1 h4 h5⟩
theorem zero_bd (k : Int) : Bd .f64 k 0 := ⟨false, 0, -1074, by decide, LeP.zero⟩
theorem one_gt : Gt .f64 0 0 4607182418800017408 := gt_of (m := 4503599627370496) (e := -52) 52 (by decide) (by decide) (by decide) (by decide) (by decide) (by decide)
theorem eight_bd : Bd .f64 3 4620693217682128896 := bd_of (m := 4503599627370496) (e := -49) (s := false) 52 (by decide) (by decide) (by decide) (by decide)
theorem quarter_bd : Bd .f64 0 4598175219545276416 := bd_of (m := 4503599627370496) (e := -54) (s := false) 54 (by decide) (by decide) (by decide) (by decide)
theorem half_bd : Bd .f64 0 4602678819172646912 := bd_of (m := 4503599627370496) (e := -53) (s := false) 54 (by decide) (by decide) (by decide) (by decide)
theorem turn_gt : Gt .f64 2 3 4618760256179416344 := gt_of (m := 7074237752028440) (e := -50) 52 (by decide) (by decide) (by decide) (by decide) (by decide) (by decide)
theorem fofint_gt {n : Nat} (h0 : 0 < n) (h : n < 1024) : Gt .f64 0 10 (fofint .f64 (n : Int)) := by
  have hl : n.log2 < 10 := (Nat.log2_lt (by omega)).2 h
  obtain ⟨s1, s2⟩ := scaled h0 (by omega)
  have hlog := log2_52 s1 s2
  refine ⟨_, _, decode_fofint h0 (by omega), LeP_log (by rw [hlog]; omega), ?_⟩
  refine GeP_of 52 (by omega) (by decide) ?_
  rw [show ((n.log2 : Int) - 52 + ((52 : Nat) : Int)).toNat = n.log2 by omega]
  exact Nat.le_trans s1 (Nat.le_mul_of_pos_right _ (Nat.pow_pos (by decide)))

/-! ### signs, orders -/
theorem neg_num {fk : FloatKind} {x m : Nat} {e : Int} {s : Bool} (h : fk.decode x = .number s m e) : ∃ t, fk.decode (Op.negFloat fk x) = .number t m e := by
  have hm := negFloat_mod fk x
  have h' : fk.format.read x = .number s m e := h
  show ∃ t, fk.format.read (Op.negFloat fk x) = .number t m e
  unfold Format.read at h' ⊢
  dsimp only at h' ⊢
  rw [hm]
  generalize x % fk.format.signWeight = r at *
  by_cases h1 : r < fk.format.binade
  · rw [if_pos h1] at h' ⊢
    cases h'
    exact ⟨_, rfl⟩
  · rw [if_neg h1] at h' ⊢
    by_cases h2 : r < fk.format.infRung
    · rw [if_pos h2] at h' ⊢
      cases h'
      exact ⟨_, rfl⟩
    · rw [if_neg h2] at h' ⊢
      by_cases h3 : r = fk.format.infRung
      · rw [if_pos h3] at h'; cases h'
      · rw [if_neg h3] at h'; cases h'
theorem neg_bd {fk : FloatKind} {k : Int} {x : Nat} (h : Bd fk k x) : Bd fk k (fneg fk x) := by
  obtain ⟨s, m, e, h1, h2⟩ := h
  obtain ⟨t, h3⟩ := neg_num h1
  unfold fneg
  rw [cF_of_not (fin_notNaN (by unfold fin; rw [h3]))]
  exact ⟨_, _, _, h3, h2⟩
theorem compare_gt {a b : Int} (h : b < a) : compare a b = .gt := by
  show compareOfLessAndEq a b = .gt
  unfold compareOfLessAndEq
  rw [if_neg (by omega), if_neg (by omega)]
theorem compare_same {a : Int} : compare a a = .eq := by
  show compareOfLessAndEq a a = .eq
  unfold compareOfLessAndEq
  rw [if_neg (by omega), if_pos rfl]
theorem feq_num {fk : FloatKind} {x m : Nat} {e : Int} {s : Bool} (h : fk.decode x = .number s m e) : feq fk x 0 = decide (m = 0) := by
  have h' : fk.format.read x = .number s m e := h
  have h0 : ∃ p, fk.format.read 0 = .number false 0 p := by
    cases fk
    · exact ⟨-149, by decide⟩
    · exact ⟨-1074, by decide⟩
  obtain ⟨p, h0⟩ := h0
  unfold feq forder Format.order
  rw [h', h0]
  simp only [Datum.order]
  rw [signed_false, Nat.zero_mul]
  have ha := signed_abs s m (e - min e p).toNat
  generalize signed s m (e - min e p).toNat = z at *
  have hp : 0 < 2 ^ (e - min e p).toNat := Nat.pow_pos (by decide)
  by_cases hm : m = 0
  · subst hm
    rw [Nat.zero_mul] at ha
    obtain rfl : z = 0 := by omega
    rw [show ((0 : Nat) : Int) = 0 from rfl, compare_same]; simp
  · have hz : z ≠ 0 := by
      intro e
      subst e
      have := Nat.mul_pos (Nat.pos_of_ne_zero hm) hp
      simp at ha
      omega
    rcases Int.lt_or_gt_of_ne hz with h | h
    · rw [compare_lt (show z < ((0 : Nat) : Int) by omega)]; simp [hm]
    · rw [compare_gt (show ((0 : Nat) : Int) < z by omega)]; simp [hm]
theorem fgt_num {fk : FloatKind} {x y m n : Nat} {i j : Int} (hx : fk.decode x = .number false m i) (hy : fk.decode y = .number false n j) : fgt fk x y = decide (n * 2 ^ (j - min i j).toNat < m * 2 ^ (i - min i j).toNat) := by
  have hx' : fk.format.read x = .number false m i := hx
  have hy' : fk.format.read y = .number false n j := hy
  unfold fgt forder Format.order
  rw [hx', hy']
  simp only [Datum.order]
  rw [signed_false, signed_false]
  generalize m * 2 ^ (i - min i j).toNat = a
  generalize n * 2 ^ (j - min i j).toNat = b
  rcases Nat.lt_trichotomy a b with h | h | h
  · rw [compare_lt (show (a : Int) < (b : Int) by omega), decide_eq_false (by omega)]; rfl
  · subst h
    rw [compare_same, decide_eq_false (by omega)]; rfl
  · rw [compare_gt (show (b : Int) < (a : Int) by omega), decide_eq_true h]; rfl
theorem abs_num {y m : Nat} {e : Int} {s : Bool} (h : FloatKind.decode .f64 y = .number s m e) : FloatKind.decode .f64 (y % 9223372036854775808) = .number false m e := by
  have h' : double.read y = .number s m e := h
  show double.read (y % 9223372036854775808) = _
  rw [read_abs, h']
theorem up_zero {u m m' : Nat} {e e' : Int} {s s' : Bool} (h : FloatKind.decode .f32 u = .number s m e) (h' : FloatKind.decode .f64 (fconv .f32 .f64 u) = .number s' m' e') : (m' = 0) ↔ (m = 0) := by
  have hd : single.read u = .number s m e := h
  have hb := single_read_bounds hd
  have hy : fconv .f32 .f64 u = double.nearest s m e := by
    unfold fconv
    rw [if_neg (by decide), h]; rfl
  rcases Nat.eq_zero_or_pos m with h0 | h0
  · subst h0
    have : double.nearest s 0 e = double.word s 0 := by unfold Format.nearest; rw [if_pos rfl]
    have hz : FloatKind.decode .f64 (fconv .f32 .f64 u) = .number s 0 (-1074) := by
      show double.read _ = _
      rw [hy, this, read_word (by decide), if_pos (by decide)]; rfl
    rw [h'] at hz
    cases hz
    simp
  · have hz : FloatKind.decode .f64 (fconv .f32 .f64 u) = .number s (m * 2 ^ (52 - m.log2)) (e + (m.log2 : Int) - 52) := by
      show double.read _ = _
      rw [hy]; exact up_exact h0 hb
    rw [h'] at hz
    cases hz
    have := Nat.mul_pos h0 (Nat.pow_pos (show 0 < 2 by decide) (n := 52 - m.log2))
    omega
theorem fin_num {k : FloatKind} {x : Nat} (h : fin k x = true) : ∃ s m e, k.decode x = .number s m e := by
  unfold fin at h
  cases hd : k.decode x <;> rw [hd] at h
  · exact ⟨_, _, _, rfl⟩
  · cases h
  · cases h
theorem feq_up {u : Nat} (h : fin .f32 u = true) : feq .f64 (fconv .f32 .f64 u) 0 = feq .f32 u 0 := by
  obtain ⟨s, m, e, hd⟩ := fin_num h
  obtain ⟨s', m', e', hd'⟩ := fin_num (show fin .f64 (fconv .f32 .f64 u) = true by rw [fin_up]; exact h)
  rw [feq_num hd, feq_num hd', decide_eq_decide]
  exact up_zero hd hd'

/-! ### the angle -/
def smaller (a b : Nat) : Nat := if fgt .f64 a b = true then farith .quo .f64 b a else farith .quo .f64 a b
def tanV (t : Nat) : Nat := farith .quo .f64 t (farith .add .f64 4607182418800017408 (fsqrt (farith .add .f64 4607182418800017408 (farith .mul .f64 t t))))
def nextP (u p : Nat) (k : Int) : Nat := farith .sub .f64 (farith .quo .f64 4607182418800017408 (fofint .f64 k)) (farith .mul .f64 u p)
def polyV (u : Nat) : Nat := nextP u (nextP u (nextP u (nextP u (nextP u (nextP u (nextP u (nextP u 0 15) 13) 11) 9) 7) 5) 3) 1
def outV (t : Nat) : Nat := farith .quo .f64 (farith .mul .f64 4620693217682128896 (farith .mul .f64 t (polyV (farith .mul .f64 t t)))) 4618760256179416344
def turnedV (b : Bool) (c z : Nat) : Nat := if b = true then farith .sub .f64 c z else z
def angleA (y x : Nat) : Nat :=
  turnedV (flt .f64 x 0) 4602678819172646912 (turnedV (fgt .f64 (y % 9223372036854775808) (x % 9223372036854775808)) 4598175219545276416 (outV (tanV (tanV (tanV (smaller (y % 9223372036854775808) (x % 9223372036854775808)))))))
def angleV (y x : Nat) : Nat := if flt .f64 y 0 = true then fneg .f64 (angleA y x) else angleA y x
theorem smaller_pn {y x : Nat} (hy : fin .f64 y = true) (hx : fin .f64 x = true) (h0 : (feq .f64 y 0 && feq .f64 x 0) = false) : Pn .f64 0 (smaller (y % 9223372036854775808) (x % 9223372036854775808)) := by
  obtain ⟨s, m, i, h1⟩ := fin_num hy
  obtain ⟨t, n, j, h2⟩ := fin_num hx
  rw [feq_num h1, feq_num h2] at h0
  have a1 := abs_num h1
  have a2 := abs_num h2
  unfold smaller
  rw [fgt_num a1 a2]
  have p1 : 0 < 2 ^ (i - min i j).toNat := Nat.pow_pos (by decide)
  have p2 : 0 < 2 ^ (j - min i j).toNat := Nat.pow_pos (by decide)
  by_cases hc : n * 2 ^ (j - min i j).toNat < m * 2 ^ (i - min i j).toNat
  · rw [if_pos (by simpa using hc)]
    refine quo_one a2 a1 ?_ ?_
    · rcases Nat.eq_zero_or_pos m with h | h
      · subst h; rw [Nat.zero_mul] at hc; omega
      · exact h
    · rw [Int.min_comm j i]
      omega
  · rw [if_neg (by simpa using hc)]
    refine quo_one a1 a2 ?_ (by omega)
    rcases Nat.eq_zero_or_pos n with h | h
    · subst h
      rw [Nat.zero_mul] at hc
      rcases Nat.eq_zero_or_pos m with h' | h'
      · subst h'; simp at h0
      · have := Nat.mul_pos h' p1
        omega
    · exact h
theorem tan_pn {t : Nat} (h : Pn .f64 0 t) : Pn .f64 0 (tanV t) := by
  unfold tanV
  have h1 := mul_pn h h (r := 0) (by decide) ⟨by decide, by decide⟩
  have h2 := add_gt (r := 1) one_gt h1 (by decide) (by decide) ⟨by decide, by decide⟩
  have h3 := sqrt_pn h2 (by decide)
  have h4 := add_gt (r := 65) (one_gt.mono (j := 0) (l := 64) (by decide) (by decide)) h3 (by decide) (by decide) ⟨by decide, by decide⟩
  exact quo_pn h h4 (by decide) ⟨by decide, by decide⟩
theorem next_bd {u p : Nat} {j : Int} {k : Nat} (hu : Bd .f64 0 u) (hp : Bd .f64 j p) (hj : 0 ≤ j ∧ j ≤ 900) (h0 : 0 < k) (hk : k < 1024) : Bd .f64 (j + 1) (nextP u p (k : Int)) := by
  unfold nextP
  have h1 := quo_bd (r := 0) one_gt.pn.bd (fofint_gt h0 hk) (by decide) ⟨by decide, by decide⟩
  have h2 := mul_bd (r := j) hu hp (by omega) ⟨by omega, by omega⟩
  exact sub_bd (h1.mono hj.1) h2 (Int.le_refl _) ⟨by omega, by omega⟩
theorem poly_bd {u : Nat} (hu : Bd .f64 0 u) : Bd .f64 8 (polyV u) := by
  unfold polyV
  have h1 := next_bd (k := 15) hu (zero_bd 0) ⟨by decide, by decide⟩ (by decide) (by decide)
  have h2 := next_bd (k := 13) hu h1 ⟨by decide, by decide⟩ (by decide) (by decide)
  have h3 := next_bd (k := 11) hu h2 ⟨by decide, by decide⟩ (by decide) (by decide)
  have h4 := next_bd (k := 9) hu h3 ⟨by decide, by decide⟩ (by decide) (by decide)
  have h5 := next_bd (k := 7) hu h4 ⟨by decide, by decide⟩ (by decide) (by decide)
  have h6 := next_bd (k := 5) hu h5 ⟨by decide, by decide⟩ (by decide) (by decide)
  have h7 := next_bd (k := 3) hu h6 ⟨by decide, by decide⟩ (by decide) (by decide)
  exact next_bd (k := 1) hu h7 ⟨by decide, by decide⟩ (by decide) (by decide)
theorem out_bd {t : Nat} (h : Pn .f64 0 t) : Bd .f64 12 (outV t) := by
  unfold outV
  have h1 := mul_pn h h (r := 0) (by decide) ⟨by decide, by decide⟩
  have h2 := mul_bd (r := 8) h.bd (poly_bd h1.bd) (by decide) ⟨by decide, by decide⟩
  have h3 := mul_bd (r := 12) eight_bd h2 (by decide) ⟨by decide, by decide⟩
  exact quo_bd h3 turn_gt (by decide) ⟨by decide, by decide⟩
theorem turned_bd {b : Bool} {c z : Nat} {k : Int} (hc : Bd .f64 0 c) (hz : Bd .f64 k z) (hk : 0 ≤ k ∧ k ≤ 900) : Bd .f64 (k + 1) (turnedV b c z) := by
  unfold turnedV
  split
  · exact sub_bd (hc.mono hk.1) hz (Int.le_refl _) ⟨by omega, by omega⟩
  · exact hz.mono (by omega)
theorem angle_bd {y x : Nat} (hy : fin .f64 y = true) (hx : fin .f64 x = true) (h0 : (feq .f64 y 0 && feq .f64 x 0) = false) : Bd .f64 14 (angleV y x) := by
  have h1 := out_bd (tan_pn (tan_pn (tan_pn (smaller_pn hy hx h0))))
  have h2 : Bd .f64 14 (angleA y x) := turned_bd half_bd (turned_bd quarter_bd h1 ⟨by decide, by decide⟩) ⟨by decide, by decide⟩
  unfold angleV
  split
  · exact neg_bd h2
  · exact h2
end Go.K
