/- Sines: their floats stay within bounds. -/
import Derived.Test.YtblejagpndbicaaF12
set_option linter.unusedSimpArgs false
set_option linter.unusedVariables false
set_option maxRecDepth 10000
namespace Go.K
open Ieee

/-! ### orders and differences -/
theorem LeP.up {k : Int} {m : Nat} {e b : Int} (h : LeP k (m * 2 ^ (e - b).toNat) b) (hb : b ≤ e) : LeP k m e := by
  refine LeP_of (e.natAbs + b.natAbs + k.natAbs) (by omega) (by omega) ?_
  have := h (e.natAbs + b.natAbs + k.natAbs) (by omega) (by omega)
  rw [Nat.mul_assoc, ← Nat.pow_add, show (e - b).toNat + (b + ((e.natAbs + b.natAbs + k.natAbs : Nat) : Int)).toNat = (e + ((e.natAbs + b.natAbs + k.natAbs : Nat) : Int)).toNat by omega] at this
  exact this
theorem GeP.up {k : Int} {m : Nat} {e b : Int} (h : GeP k (m * 2 ^ (e - b).toNat) b) (hb : b ≤ e) : GeP k m e := by
  refine GeP_of (e.natAbs + b.natAbs + k.natAbs) (by omega) (by omega) ?_
  have := h (e.natAbs + b.natAbs + k.natAbs) (by omega) (by omega)
  rw [Nat.mul_assoc, ← Nat.pow_add, show (e - b).toNat + (b + ((e.natAbs + b.natAbs + k.natAbs : Nat) : Int)).toNat = (e + ((e.natAbs + b.natAbs + k.natAbs : Nat) : Int)).toNat by omega] at this
  exact this
theorem LeP_GeP {k : Int} {m n : Nat} {b : Int} (h1 : LeP k m b) (h2 : GeP k n b) : m ≤ n := by
  have a1 := h1 (b.natAbs + k.natAbs) (by omega) (by omega)
  have a2 := h2 (b.natAbs + k.natAbs) (by omega) (by omega)
  exact Nat.le_of_mul_le_mul_right (Nat.le_trans a1 a2) (Nat.pow_pos (by decide))
theorem LeP.minus {k : Int} {m n : Nat} {b : Int} (h1 : LeP (k + 1) m b) (h2 : GeP k n b) : LeP k (m - n) b := by
  have a1 := h1 (b.natAbs + k.natAbs + 1) (by omega) (by omega)
  have a2 := h2 (b.natAbs + k.natAbs + 1) (by omega) (by omega)
  refine LeP_of (b.natAbs + k.natAbs + 1) (by omega) (by omega) ?_
  rw [show (k + 1 + ((b.natAbs + k.natAbs + 1 : Nat) : Int)).toNat = (k + ((b.natAbs + k.natAbs + 1 : Nat) : Int)).toNat + 1 by omega, Nat.pow_succ] at a1
  rw [Nat.sub_mul]
  omega
theorem ord_pos {fk : FloatKind} {x y m n : Nat} {i j : Int} (hx : fk.decode x = .number false m i) (hy : fk.decode y = .number false n j) :
    forder fk x y = some (compare ((m * 2 ^ (i - min i j).toNat : Nat) : Int) ((n * 2 ^ (j - min i j).toNat : Nat) : Int)) := by
  have hx' : fk.format.read x = .number false m i := hx
  have hy' : fk.format.read y = .number false n j := hy
  unfold forder Format.order
  rw [hx', hy']
  simp only [Datum.order]
  rw [signed_false, signed_false]
theorem compare_nat (a b : Nat) : compare (a : Int) (b : Int) = if a < b then .lt else if a = b then .eq else .gt := by
  by_cases h : a < b
  · rw [compare_lt (by omega), if_pos h]
  · rw [if_neg h]
    by_cases h2 : a = b
    · subst h2; rw [compare_same, if_pos rfl]
    · rw [compare_gt (by omega), if_neg h2]
section
variable {fk : FloatKind} {x c : Nat} {k l : Int}
theorem fge_true (hx : Pn fk l x) (hc : Gt fk k k c) (h : fge fk x c = true) : Gt fk k l x := by
  obtain ⟨m, i, h1, h2⟩ := hx
  obtain ⟨n, j, h3, h4, h5⟩ := hc
  unfold fge at h
  rw [ord_pos h1 h3, compare_nat] at h
  refine ⟨_, _, h1, h2, GeP.up (b := min i j) ((h5.down (b := min i j) (by omega)).le ?_) (by omega)⟩
  by_cases a : m * 2 ^ (i - min i j).toNat < n * 2 ^ (j - min i j).toNat
  · rw [if_pos a] at h; simp at h
  · omega
theorem fge_false (hx : Pn fk l x) (hc : Gt fk k k c) (h : fge fk x c = false) : Pn fk k x := by
  obtain ⟨m, i, h1, h2⟩ := hx
  obtain ⟨n, j, h3, h4, h5⟩ := hc
  unfold fge at h
  rw [ord_pos h1 h3, compare_nat] at h
  refine ⟨_, _, h1, LeP.up (b := min i j) ((h4.down (b := min i j) (by omega)).le ?_) (by omega)⟩
  by_cases a : m * 2 ^ (i - min i j).toNat < n * 2 ^ (j - min i j).toNat
  · omega
  · rw [if_neg a] at h
    split at h <;> simp at h
theorem fgt_true (hx : Pn fk l x) (hc : Gt fk k k c) (h : fgt fk x c = true) : Gt fk k l x := by
  obtain ⟨m, i, h1, h2⟩ := hx
  obtain ⟨n, j, h3, h4, h5⟩ := hc
  rw [fgt_num h1 h3] at h
  refine ⟨_, _, h1, h2, GeP.up (b := min i j) ((h5.down (b := min i j) (by omega)).le ?_) (by omega)⟩
  simp at h
  omega
theorem fgt_false (hx : Pn fk l x) (hc : Gt fk k k c) (h : fgt fk x c = false) : Pn fk k x := by
  obtain ⟨m, i, h1, h2⟩ := hx
  obtain ⟨n, j, h3, h4, h5⟩ := hc
  rw [fgt_num h1 h3] at h
  refine ⟨_, _, h1, LeP.up (b := min i j) ((h4.down (b := min i j) (by omega)).le ?_) (by omega)⟩
  simp at h
  omega
/-- a nought, of either sign -/
def Zr (fk : FloatKind) (x : Nat) : Prop := ∃ s e, fk.decode x = .number s 0 e
theorem Zr.bd (h : Zr fk x) (k : Int) : Bd fk k x := by
  obtain ⟨s, e, h1⟩ := h
  exact ⟨_, _, _, h1, LeP.zero⟩
theorem ord_zr (h : Zr fk x) (hc : Gt fk k l c) : forder fk x c = some .lt := by
  obtain ⟨s, i, h1⟩ := h
  obtain ⟨n, j, h3, h4, h5⟩ := hc
  have hx' : fk.format.read x = .number s 0 i := h1
  have hy' : fk.format.read c = .number false n j := h3
  have hn := h5.log.1
  unfold forder Format.order
  rw [hx', hy']
  simp only [Datum.order]
  have ha := signed_abs s 0 (i - min i j).toNat
  rw [Nat.zero_mul] at ha
  rw [signed_false, show signed s 0 (i - min i j).toNat = 0 by omega]
  have := Nat.mul_pos hn (Nat.pow_pos (show 0 < 2 by decide) (n := (j - min i j).toNat))
  rw [compare_lt (by omega)]
end
theorem diff_num {fk : FloatKind} {x y : Nat} {m n : Nat} {i j : Int} (hx : fk.decode x = .number false m i) (hy : fk.decode y = .number false n j) (hle : n * 2 ^ (j - min i j).toNat ≤ m * 2 ^ (i - min i j).toNat) :
    farith .sub fk x y = fk.encode (.number false (m * 2 ^ (i - min i j).toNat - n * 2 ^ (j - min i j).toNat) (min i j)) := by
  obtain ⟨o, h5, h6⟩ := sub_num hx hy
  rw [h6]
  unfold Datum.sum at h5
  cases h5
  have e0 : signed (!false) n (j - min i j).toNat = -((n * 2 ^ (j - min i j).toNat : Nat) : Int) := by
    unfold signed
    simp only [Bool.not_false, if_true]
    rw [Nat.shiftLeft_eq]
  rw [signed_false, e0]
  generalize m * 2 ^ (i - min i j).toNat = M at *
  generalize n * 2 ^ (j - min i j).toNat = N at *
  have e1 : ((M : Int) + -(N : Int)).natAbs = M - N := by omega
  have e2 : (if ((M : Int) + -(N : Int)) = 0 then false && !false else decide ((M : Int) + -(N : Int) < 0)) = false := by
    split
    · rfl
    · exact decide_eq_false (by omega)
  rw [e1, e2]
/-- the difference of what is at least and what is at most a power of two -/
theorem sub_pn {fk : FloatKind} {x y : Nat} {a k : Int} (hx : Gt fk a (k + 1) x) (hy : Gt fk k a y) (ok : okP fk k) : Pn fk k (farith .sub fk x y) := by
  obtain ⟨m, i, h1, h2, h3⟩ := hx
  obtain ⟨n, j, h4, h5, h6⟩ := hy
  have hle := LeP_GeP (h5.down (b := min i j) (by omega)) (h3.down (b := min i j) (by omega))
  rw [diff_num h1 h4 hle]
  obtain ⟨M, E, p, q, _⟩ := near (s := false) ((h2.down (b := min i j) (by omega)).minus (h6.down (b := min i j) (by omega))) ok
  exact ⟨_, _, p, q⟩
theorem sub_pn0 {fk : FloatKind} {x y : Nat} {a k : Int} (hx : Gt fk a k x) (hy : Pn fk a y) (ok : okP fk k) : Pn fk k (farith .sub fk x y) := by
  obtain ⟨m, i, h1, h2, h3⟩ := hx
  obtain ⟨n, j, h4, h5⟩ := hy
  have hle := LeP_GeP (h5.down (b := min i j) (by omega)) (h3.down (b := min i j) (by omega))
  rw [diff_num h1 h4 hle]
  obtain ⟨M, E, p, q, _⟩ := near (s := false) ((h2.down (b := min i j) (by omega)).le (Nat.sub_le _ (n * 2 ^ (j - min i j).toNat))) ok
  exact ⟨_, _, p, q⟩
theorem mul_self_pn {fk : FloatKind} {x : Nat} {k r : Int} (hx : Bd fk k x) (hr : k + k ≤ r) (ok : okP fk r) : Pn fk r (farith .mul fk x x) := by
  obtain ⟨s, m, i, h1, h2⟩ := hx
  obtain ⟨M, E, a, b, _⟩ := near (s := s ^^ s) ((h2.mul h2).mono hr) ok
  rw [mul_num h1 h1]
  rw [show (s ^^ s) = false by cases s <;> rfl] at a ⊢
  exact ⟨_, _, a, b⟩
theorem flt_num {fk : FloatKind} {x m : Nat} {e : Int} {s : Bool} (h : fk.decode x = .number s m e) : flt fk x 0 = (s && decide (m ≠ 0)) := by
  have h' : fk.format.read x = .number s m e := h
  have h0 : ∃ p, fk.format.read 0 = .number false 0 p := by
    cases fk
    · exact ⟨-149, by decide⟩
    · exact ⟨-1074, by decide⟩
  obtain ⟨p, h0⟩ := h0
  unfold flt forder Format.order
  rw [h', h0]
  simp only [Datum.order]
  rw [signed_false, Nat.zero_mul]
  have hp : 0 < 2 ^ (e - min e p).toNat := Nat.pow_pos (by decide)
  generalize (e - min e p).toNat = q at *
  unfold signed
  rw [Nat.shiftLeft_eq]
  by_cases hm : m = 0
  · subst hm
    rw [Nat.zero_mul]
    cases s
    · simp only [Bool.false_eq_true, if_false]
      rw [compare_same]; rfl
    · simp only [if_true]
      rw [show (-((0 : Nat) : Int)) = ((0 : Nat) : Int) by omega, compare_same]; rfl
  · have h1 := Nat.mul_pos (Nat.pos_of_ne_zero hm) hp
    cases s
    · simp only [Bool.false_eq_true, if_false]
      rw [compare_gt (by omega)]; rfl
    · simp only [if_true]
      rw [compare_lt (by omega)]; simp [hm]
theorem add_neg_pn {fk : FloatKind} {x y m : Nat} {i k : Int} (hx : fk.decode x = .number true m i) (hl : LeP k m i) (hy : Gt fk k k y) (ok : okP fk k) : Pn fk k (farith .add fk x y) := by
  obtain ⟨n, j, h4, h5, h6⟩ := hy
  have hle := LeP_GeP (hl.down (b := min i j) (by omega)) (h6.down (b := min i j) (by omega))
  have hup := h5.down (b := min i j) (by omega)
  obtain ⟨o, ho, h⟩ := add_num hx h4
  rw [h]
  unfold Datum.sum at ho
  cases ho
  have e0 : signed true m (i - min i j).toNat = -((m * 2 ^ (i - min i j).toNat : Nat) : Int) := by
    unfold signed
    rw [if_pos rfl, Nat.shiftLeft_eq]
  rw [signed_false, e0]
  generalize m * 2 ^ (i - min i j).toNat = M at *
  generalize n * 2 ^ (j - min i j).toNat = N at *
  have e1 : (-(M : Int) + (N : Int)).natAbs = N - M := by omega
  have e2 : (if (-(M : Int) + (N : Int)) = 0 then true && false else decide (-(M : Int) + (N : Int) < 0)) = false := by
    split
    · rfl
    · exact decide_eq_false (by omega)
  rw [e1, e2]
  obtain ⟨M', E, p, q, _⟩ := near (s := false) (hup.le (Nat.sub_le N M)) ok
  exact ⟨_, _, p, q⟩

/-! ### whole parts -/
theorem near_whole {s : Bool} {T d : Nat} (h0 : 0 < T) (h : T < 2 ^ 53) : double.read (double.nearest s (T * 2 ^ d) (-(d : Int))) = .number s (T * 2 ^ (52 - T.log2)) ((T.log2 : Int) - 52) := by
  have hl : T.log2 < 53 := (Nat.log2_lt (by omega)).2 h
  have hlm : T < 2 ^ (T.log2 + 1) := Nat.lt_log2_self
  have hle : 2 ^ T.log2 ≤ T := Nat.log2_self_le (by omega)
  obtain ⟨s1, s2⟩ := scaled h0 (by omega)
  have hTd : 0 < T * 2 ^ d := Nat.mul_pos h0 (Nat.pow_pos (by decide))
  have hlog : (T * 2 ^ d).log2 = T.log2 + d := by
    have a1 : (T * 2 ^ d).log2 < T.log2 + d + 1 := by
      rw [Nat.log2_lt (by omega)]
      calc T * 2 ^ d < 2 ^ (T.log2 + 1) * 2 ^ d := Nat.mul_lt_mul_of_pos_right hlm (Nat.pow_pos (by decide))
        _ = 2 ^ (T.log2 + d + 1) := by rw [← Nat.pow_add]; congr 1; omega
    have a2 : T.log2 + d ≤ (T * 2 ^ d).log2 := by
      rw [Nat.le_log2 (by omega), Nat.pow_add]
      exact Nat.mul_le_mul_right _ hle
    omega
  have elast : max (-(d : Int) + ((T.log2 + d : Nat) : Int) - (double.fractionBits : Int)) double.leastPlace = T.log2 - 52 := by
    simp only [double, Format.leastPlace]; omega
  unfold Format.nearest
  rw [if_neg (by omega), hlog]
  simp only [elast]
  have hP : double.leastPlace = -1074 := rfl
  have hkept : Toward.even.cut s ((T * 2 ^ d) <<< (-(d : Int) - ((T.log2 : Int) - 52)).toNat) ((T.log2 : Int) - 52 - -(d : Int)).toNat = T * 2 ^ (52 - T.log2) := by
    rw [Nat.shiftLeft_eq]
    by_cases hd : d + T.log2 ≤ 52
    · rw [show ((T.log2 : Int) - 52 - -(d : Int)).toNat = 0 by omega, show (-(d : Int) - ((T.log2 : Int) - 52)).toNat = 52 - T.log2 - d by omega, Nat.mul_assoc, ← Nat.pow_add, show d + (52 - T.log2 - d) = 52 - T.log2 by omega]
      simp [Toward.cut, Nat.mod_one]
    · rw [show (-(d : Int) - ((T.log2 : Int) - 52)).toNat = 0 by omega, Nat.pow_zero, Nat.mul_one, show d = (52 - T.log2) + ((T.log2 : Int) - 52 - -(d : Int)).toNat by omega, Nat.pow_add, ← Nat.mul_assoc]
      rw [show ((T.log2 : Int) - 52 - -((((52 - T.log2) + ((T.log2 : Int) - 52 - -(d : Int)).toNat) : Nat) : Int)).toNat = ((T.log2 : Int) - 52 - -(d : Int)).toNat by omega]
      exact cut_exact (by omega)
  rw [hkept]
  have e3 : ((T.log2 : Int) - 52 - double.leastPlace).toNat = 1022 + T.log2 := by simp only [hP]; omega
  rw [e3, read_rung2 (by omega) s1 s2]
  congr 1
  omega
theorem cut_zero (s : Bool) (n d : Nat) : Toward.zero.cut s n d = n / 2 ^ d := by
  unfold Toward.cut
  dsimp only
  rw [Nat.shiftLeft_eq, Nat.one_mul]
  simp only [Bool.toNat_false, Nat.add_zero]
  rcases Nat.le_total d (n.log2 + 2) with h | h
  · rw [Nat.min_eq_left h]
  · rw [Nat.min_eq_right h]
    have hn : n < 2 ^ (n.log2 + 1) := Nat.lt_log2_self
    rw [Nat.div_eq_of_lt (Nat.lt_of_lt_of_le hn (Nat.pow_le_pow_right (by decide) (by omega))), Nat.div_eq_of_lt (Nat.lt_of_lt_of_le hn (Nat.pow_le_pow_right (by decide) (by omega)))]
theorem canonical {x m : Nat} {e : Int} {s : Bool} (h : double.read x = .number s m e) : e = -1074 ∨ 4503599627370496 ≤ m := by
  have hB : double.binade = 4503599627370496 := rfl
  have hP : double.leastPlace = -1074 := rfl
  unfold Format.read at h
  dsimp only at h
  generalize x % double.signWeight = r at *
  by_cases h1 : r < double.binade
  · rw [if_pos h1] at h
    cases h
    exact .inl rfl
  · rw [if_neg h1] at h
    by_cases h2 : r < double.infRung
    · rw [if_pos h2] at h
      cases h
      right
      rw [← hB]
      exact Nat.le_add_right _ _
    · rw [if_neg h2] at h
      by_cases h3 : r = double.infRung
      · rw [if_pos h3] at h; cases h
      · rw [if_neg h3] at h; cases h
theorem far_gt : Gt .f64 52 52 4841369599423283200 := gt_of (m := 4503599627370496) (e := 0) 0 (by decide) (by decide) (by decide) (by decide) (by decide) (by decide)
/-- what is not far has a fraction -/
structure Near (x : Nat) (s : Bool) (m d : Nat) : Prop where
  num : FloatKind.decode .f64 x = .number s m (-(d : Int))
  pos : 0 < d
  lt : m < 2 ^ (52 + d)
  big : d ≤ 1074
theorem near_of {x : Nat} (hf : fin .f64 x = true) (h : fge .f64 (x % 9223372036854775808) 4841369599423283200 = false) : ∃ s m d, Near x s m d := by
  obtain ⟨s, m, e, hd⟩ := fin_num hf
  have ha := abs_num hd
  have hc := canonical (show double.read x = .number s m e from hd)
  obtain ⟨b1, b2, b3⟩ := double_read_bounds (show double.read x = .number s m e from hd)
  unfold fge at h
  have hfar : FloatKind.decode .f64 4841369599423283200 = .number false 4503599627370496 0 := by decide
  rw [ord_pos ha hfar, compare_nat] at h
  have hlt : m * 2 ^ (e - min e 0).toNat < 4503599627370496 * 2 ^ (0 - min e 0).toNat := by
    by_cases a : m * 2 ^ (e - min e 0).toNat < 4503599627370496 * 2 ^ (0 - min e 0).toNat
    · exact a
    · rw [if_neg a] at h
      split at h <;> simp at h
  have he : e < 0 := by
    rcases Int.lt_or_le e 0 with he | he
    · exact he
    · exfalso
      rw [show min e 0 = 0 by omega] at hlt
      have hp : 1 ≤ 2 ^ (e - 0).toNat := Nat.one_le_two_pow
      have := Nat.mul_le_mul_left m hp
      rcases hc with hc | hc
      · omega
      · have z : (2 : Nat) ^ ((0 : Int) - 0).toNat = 1 := rfl
        rw [z] at hlt
        omega
  refine ⟨s, m, (-e).toNat, ⟨by rw [hd]; congr 1; omega, by omega, ?_, by omega⟩⟩
  rw [show min e 0 = e by omega, show (e - e).toNat = 0 by omega, Nat.pow_zero, Nat.mul_one, show (0 - e).toNat = (-e).toNat by omega] at hlt
  rw [Nat.pow_add]
  exact hlt
section
variable {x m d : Nat} {s : Bool}
theorem Near.T_lt (h : Near x s m d) : m / 2 ^ d < 2 ^ 52 := by
  rw [Nat.div_lt_iff_lt_mul (Nat.pow_pos (by decide)), ← Nat.pow_add]
  exact h.lt
theorem Near.toint (h : Near x s m d) : ftoint .f64 x .i64 = some (if s = true then -((m / 2 ^ d : Nat) : Int) else ((m / 2 ^ d : Nat) : Int)) := by
  have hT := h.T_lt
  rw [show (2 : Nat) ^ 52 = 4503599627370496 from rfl] at hT
  have hd := h.pos
  unfold ftoint floatToIntVal
  rw [h.num]
  unfold Datum.toInt Datum.integral
  dsimp only
  rw [show (-(d : Int)).toNat = 0 by omega, show (-(-(d : Int))).toNat = d by omega, Nat.shiftLeft_zero, cut_zero]
  generalize m / 2 ^ d = T at *
  have hmin : IntKind.min .i64 = -9223372036854775808 := rfl
  have hmax : IntKind.max .i64 = 9223372036854775807 := rfl
  have hs : signed s T 0 = if s = true then -(T : Int) else (T : Int) := by
    unfold signed
    rw [Nat.shiftLeft_zero]
  rw [hs]
  refine if_pos ?_
  rw [hmin, hmax]
  cases s
  · simp only [Bool.false_eq_true, if_false]; omega
  · simp only [if_true]; omega
/-- the whole part, as a float -/
def wholeF (x : Nat) : Nat := fofint .f64 ((ftoint .f64 x .i64).getD 0)
theorem Near.whole_num (h : Near x s m d) : FloatKind.decode .f64 (wholeF x) = if m / 2 ^ d = 0 then .number false 0 (-1074) else .number s (m / 2 ^ d * 2 ^ (52 - (m / 2 ^ d).log2)) (((m / 2 ^ d).log2 : Int) - 52) := by
  have hT := h.T_lt
  unfold wholeF
  rw [h.toint, Option.getD_some]
  generalize m / 2 ^ d = T at *
  by_cases h0 : T = 0
  · subst h0
    rw [if_pos rfl]
    cases s <;> decide
  · rw [if_neg h0]
    have key := near_whole (s := s) (T := T) (d := 0) (by omega) (by rw [show (2 : Nat) ^ 53 = 9007199254740992 from rfl]; rw [show (2 : Nat) ^ 52 = 4503599627370496 from rfl] at hT; omega)
    rw [Nat.pow_zero, Nat.mul_one] at key
    cases s
    · simp only [Bool.false_eq_true, if_false]
      show double.read (double.nearest (decide ((T : Int) < 0)) (T : Int).natAbs 0) = _
      rw [show decide ((T : Int) < 0) = false by simp, Int.natAbs_natCast]
      exact key
    · simp only [if_true]
      show double.read (double.nearest (decide (-(T : Int) < 0)) (-(T : Int)).natAbs 0) = _
      rw [show decide (-(T : Int) < 0) = true by simp; omega, Int.natAbs_neg, Int.natAbs_natCast]
      exact key
/-- as the program makes it -/
theorem Near.trunc_num (h : Near x s m d) : FloatKind.decode .f64 (farith .add .f64 (fwhole .zero x) 0) = FloatKind.decode .f64 (wholeF x) := by
  have hT := h.T_lt
  have hd := h.pos
  rw [h.whole_num]
  have e : fwhole .zero x = double.nearest s (m / 2 ^ d) 0 := by
    unfold fwhole
    rw [h.num]
    unfold Datum.integral
    dsimp only
    rw [show (-(d : Int)).toNat = 0 by omega, show (-(-(d : Int))).toNat = d by omega, Nat.shiftLeft_zero, cut_zero]
    rfl
  rw [e]
  generalize m / 2 ^ d = T at *
  have hz : FloatKind.decode .f64 0 = .number false 0 (-1074) := by decide
  by_cases h0 : T = 0
  · subst h0
    rw [if_pos rfl]
    cases s <;> decide
  · rw [if_neg h0]
    have h53 : T < 2 ^ 53 := by rw [show (2 : Nat) ^ 53 = 9007199254740992 from rfl]; rw [show (2 : Nat) ^ 52 = 4503599627370496 from rfl] at hT; omega
    have hl : T.log2 < 53 := (Nat.log2_lt (by omega)).2 h53
    have key := near_whole (s := s) (T := T) (d := 0) (by omega) h53
    rw [Nat.pow_zero, Nat.mul_one] at key
    have key' : FloatKind.decode .f64 (double.nearest s T 0) = .number s (T * 2 ^ (52 - T.log2)) ((T.log2 : Int) - 52) := key
    obtain ⟨o, ho, h6⟩ := add_num key' hz
    rw [h6]
    unfold Datum.sum at ho
    cases ho
    rw [show min ((T.log2 : Int) - 52) (-1074) = -1074 by omega, signed_false, Nat.zero_mul]
    have hp : 0 < T * 2 ^ (52 - T.log2) * 2 ^ ((T.log2 : Int) - 52 - -1074).toNat := Nat.mul_pos (Nat.mul_pos (by omega) (Nat.pow_pos (by decide))) (Nat.pow_pos (by decide))
    have e3 : T * 2 ^ (52 - T.log2) * 2 ^ ((T.log2 : Int) - 52 - -1074).toNat = T * 2 ^ 1074 := by
      rw [Nat.mul_assoc, ← Nat.pow_add]; congr 2; omega
    have e4 : signed s (T * 2 ^ (52 - T.log2)) ((T.log2 : Int) - 52 - -1074).toNat = if s = true then -((T * 2 ^ 1074 : Nat) : Int) else ((T * 2 ^ 1074 : Nat) : Int) := by
      unfold signed
      rw [Nat.shiftLeft_eq, e3]
    rw [e4]
    rw [e3] at hp
    generalize hD : T * 2 ^ 1074 = D at *
    have e5 : ((if s = true then -(D : Int) else (D : Int)) + ((0 : Nat) : Int)).natAbs = D := by split <;> omega
    have e6 : (if ((if s = true then -(D : Int) else (D : Int)) + ((0 : Nat) : Int)) = 0 then s && false else decide (((if s = true then -(D : Int) else (D : Int)) + ((0 : Nat) : Int)) < 0)) = s := by
      cases s
      · simp only [Bool.false_eq_true, if_false]
        split
        · rfl
        · exact decide_eq_false (by omega)
      · simp only [if_true]
        rw [if_neg (by omega)]
        exact decide_eq_true (by omega)
    rw [e5, e6, ← hD]
    exact near_whole (s := s) (T := T) (d := 1074) (by omega) h53
theorem sub_congr {fk : FloatKind} {a y z : Nat} (h : fk.decode y = fk.decode z) : farith .sub fk a y = farith .sub fk a z := by
  have h' : fk.format.read y = fk.format.read z := h
  unfold farith
  have e : ∀ w, floatBits .sub fk a w = ((fk.format.read a).sum (fk.format.read w).opposite).map fk.format.write := fun w => rfl
  rw [e, e, h']
theorem Near.frac_eq (h : Near x s m d) : farith .sub .f64 x (farith .add .f64 (fwhole .zero x) 0) = farith .sub .f64 x (wholeF x) := sub_congr h.trunc_num
theorem Near.frac_num (h : Near x s m d) : ∃ t M E, FloatKind.decode .f64 (farith .sub .f64 x (wholeF x)) = .number t M E ∧ LeP 0 M E := by
  have hw := h.whole_num
  have hr : m % 2 ^ d < 2 ^ d := Nat.mod_lt _ (Nat.pow_pos (by decide))
  have hdm : 2 ^ d * (m / 2 ^ d) + m % 2 ^ d = m := Nat.div_add_mod m (2 ^ d)
  have hT := h.T_lt
  generalize m / 2 ^ d = T at *
  generalize m % 2 ^ d = r at *
  by_cases h0 : T = 0
  · subst h0
    rw [if_pos rfl] at hw
    obtain ⟨o, ho, h6⟩ := sub_num h.num hw
    rw [h6]
    unfold Datum.sum at ho
    cases ho
    have hm : LeP 0 m (-(d : Int)) := by
      refine LeP_of d (by omega) (by omega) ?_
      rw [show (-(d : Int) + (d : Int)).toNat = 0 by omega, show ((0 : Int) + (d : Int)).toNat = d by omega]
      omega
    have hb : (signed s m (-(d : Int) - min (-(d : Int)) (-1074)).toNat + signed (!false) 0 ((-1074 : Int) - min (-(d : Int)) (-1074)).toNat).natAbs ≤ m * 2 ^ (-(d : Int) - min (-(d : Int)) (-1074)).toNat := by
      refine Nat.le_trans (Int.natAbs_add_le _ _) ?_
      rw [signed_abs, signed_abs, Nat.zero_mul, Nat.add_zero]
      exact Nat.le_refl _
    obtain ⟨M, E, p, q, _⟩ := near (fk := .f64) (s := if signed s m (-(d : Int) - min (-(d : Int)) (-1074)).toNat + signed (!false) 0 ((-1074 : Int) - min (-(d : Int)) (-1074)).toNat = 0 then s && !false else decide (signed s m (-(d : Int) - min (-(d : Int)) (-1074)).toNat + signed (!false) 0 ((-1074 : Int) - min (-(d : Int)) (-1074)).toNat < 0)) ((hm.down (b := min (-(d : Int)) (-1074)) (by omega)).le hb) ⟨by decide, by decide⟩
    exact ⟨_, _, _, p, q⟩
  · rw [if_neg h0] at hw
    obtain ⟨o, ho, h6⟩ := sub_num h.num hw
    rw [h6]
    unfold Datum.sum at ho
    cases ho
    have hl : T.log2 < 52 := (Nat.log2_lt h0).2 hT
    generalize hbase : min (-(d : Int)) ((T.log2 : Int) - 52) = base
    have hN : T * 2 ^ (52 - T.log2) * 2 ^ ((T.log2 : Int) - 52 - base).toNat = T * 2 ^ (-base).toNat := by
      rw [Nat.mul_assoc, ← Nat.pow_add]; congr 2; omega
    have hM : m * 2 ^ (-(d : Int) - base).toNat = T * 2 ^ (-base).toNat + r * 2 ^ (-(d : Int) - base).toNat := by
      rw [← hdm, Nat.add_mul, Nat.mul_comm (2 ^ d) T, Nat.mul_assoc, ← Nat.pow_add, show d + (-(d : Int) - base).toNat = (-base).toNat by omega]
    have hrl : LeP 0 r (-(d : Int)) := by
      refine LeP_of d (by omega) (by omega) ?_
      rw [show (-(d : Int) + (d : Int)).toNat = 0 by omega, show ((0 : Int) + (d : Int)).toNat = d by omega]
      omega
    have habs : (signed s m (-(d : Int) - base).toNat + signed (!s) (T * 2 ^ (52 - T.log2)) ((T.log2 : Int) - 52 - base).toNat).natAbs ≤ r * 2 ^ (-(d : Int) - base).toNat := by
      unfold signed
      rw [Nat.shiftLeft_eq, Nat.shiftLeft_eq, hN, hM]
      cases s
      · simp only [Bool.not_false, Bool.false_eq_true, if_false, if_true]; omega
      · simp only [Bool.not_true, Bool.false_eq_true, if_false, if_true]; omega
    obtain ⟨M, E, p, q, _⟩ := near (fk := .f64) (s := if signed s m (-(d : Int) - base).toNat + signed (!s) (T * 2 ^ (52 - T.log2)) ((T.log2 : Int) - 52 - base).toNat = 0 then s && !s else decide (signed s m (-(d : Int) - base).toNat + signed (!s) (T * 2 ^ (52 - T.log2)) ((T.log2 : Int) - 52 - base).toNat < 0)) ((hrl.down (b := base) (by omega)).le habs) ⟨by decide, by decide⟩
    exact ⟨_, _, _, p, q⟩
end
end Go.K
