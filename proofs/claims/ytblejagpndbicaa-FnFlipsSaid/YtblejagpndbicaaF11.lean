/- Bounds of sums, products, quotients and square roots of floats. -/
import Derived.Test.YtblejagpndbicaaF10
set_option linter.unusedSimpArgs false
set_option linter.unusedVariables false
set_option maxRecDepth 10000
namespace Go.K
open Ieee

/-! ### bounds of exact results -/
theorem LeP_log {k : Int} {m : Nat} {e : Int} (h : e + (m.log2 : Int) + 1 ≤ k) : LeP k m e := by
  have hl : m < 2 ^ (m.log2 + 1) := Nat.lt_log2_self
  refine LeP_of (e.natAbs + k.natAbs) (by omega) (by omega) (Nat.le_of_lt ?_)
  refine Nat.lt_of_lt_of_le (Nat.mul_lt_mul_of_pos_right hl (Nat.pow_pos (by decide))) ?_
  rw [← Nat.pow_add]
  exact Nat.pow_le_pow_right (by decide) (by omega)
theorem LeP.mul {k l : Int} {m n : Nat} {e f : Int} (h1 : LeP k m e) (h2 : LeP l n f) : LeP (k + l) (m * n) (e + f) := by
  have a := h1 (e.natAbs + k.natAbs) (by omega) (by omega)
  have b := h2 (f.natAbs + l.natAbs) (by omega) (by omega)
  have c := Nat.mul_le_mul a b
  refine LeP_of (e.natAbs + k.natAbs + (f.natAbs + l.natAbs)) (by omega) (by omega) ?_
  rw [← Nat.pow_add, Nat.mul_mul_mul_comm, ← Nat.pow_add] at c
  rw [show (e + f + ((e.natAbs + k.natAbs + (f.natAbs + l.natAbs) : Nat) : Int)).toNat = (e + ((e.natAbs + k.natAbs : Nat) : Int)).toNat + (f + ((f.natAbs + l.natAbs : Nat) : Int)).toNat by omega,
    show (k + l + ((e.natAbs + k.natAbs + (f.natAbs + l.natAbs) : Nat) : Int)).toNat = (k + ((e.natAbs + k.natAbs : Nat) : Int)).toNat + (l + ((f.natAbs + l.natAbs : Nat) : Int)).toNat by omega]
  exact c
theorem LeP.down {k : Int} {m : Nat} {e b : Int} (h : LeP k m e) (hb : b ≤ e) : LeP k (m * 2 ^ (e - b).toNat) b := by
  refine LeP_of (e.natAbs + b.natAbs + k.natAbs) (by omega) (by omega) ?_
  rw [Nat.mul_assoc, ← Nat.pow_add, show (e - b).toNat + (b + ((e.natAbs + b.natAbs + k.natAbs : Nat) : Int)).toNat = (e + ((e.natAbs + b.natAbs + k.natAbs : Nat) : Int)).toNat by omega]
  exact h _ (by omega) (by omega)
theorem GeP.down {k : Int} {m : Nat} {e b : Int} (h : GeP k m e) (hb : b ≤ e) : GeP k (m * 2 ^ (e - b).toNat) b := by
  refine GeP_of (e.natAbs + b.natAbs + k.natAbs) (by omega) (by omega) ?_
  rw [Nat.mul_assoc, ← Nat.pow_add, show (e - b).toNat + (b + ((e.natAbs + b.natAbs + k.natAbs : Nat) : Int)).toNat = (e + ((e.natAbs + b.natAbs + k.natAbs : Nat) : Int)).toNat by omega]
  exact h _ (by omega) (by omega)
theorem LeP.add {k : Int} {m n t : Nat} {e : Int} (h1 : LeP k m e) (h2 : LeP k n e) (ht : t ≤ m + n) : LeP (k + 1) t e := by
  have a := h1 (e.natAbs + k.natAbs) (by omega) (by omega)
  have b := h2 (e.natAbs + k.natAbs) (by omega) (by omega)
  refine LeP_of (e.natAbs + k.natAbs) (by omega) (by omega) ?_
  have c := Nat.mul_le_mul_right (2 ^ (e + ((e.natAbs + k.natAbs : Nat) : Int)).toNat) ht
  rw [Nat.add_mul] at c
  rw [show (k + 1 + ((e.natAbs + k.natAbs : Nat) : Int)).toNat = (k + ((e.natAbs + k.natAbs : Nat) : Int)).toNat + 1 by omega, Nat.pow_succ]
  omega
theorem LeP.le {k : Int} {m n : Nat} {e : Int} (h : LeP k n e) (hm : m ≤ n) : LeP k m e := fun B h1 h2 => Nat.le_trans (Nat.mul_le_mul_right _ hm) (h B h1 h2)
theorem GeP.le {k : Int} {m n : Nat} {e : Int} (h : GeP k n e) (hm : n ≤ m) : GeP k m e := fun B h1 h2 => Nat.le_trans (h B h1 h2) (Nat.mul_le_mul_right _ hm)
theorem GeP.mono {k j : Int} {m : Nat} {e : Int} (h : GeP k m e) (hj : j ≤ k) : GeP j m e := by
  refine GeP_of (e.natAbs + k.natAbs + j.natAbs) (by omega) (by omega) (Nat.le_trans (Nat.pow_le_pow_right (by decide) (by omega)) (h _ (by omega) (by omega)))

theorem quo_int {k l i j : Int} {m n more t : Nat} (h1 : LeP k m i) (h2 : GeP l n j) (ht : k - l - (i - j - more - 1) = t + 1) : m * 2 ^ more ≤ n * 2 ^ t := by
  have a := h1 (i.natAbs + k.natAbs) (by omega) (by omega)
  have b := h2 (j.natAbs + l.natAbs) (by omega) (by omega)
  have c := Nat.mul_le_mul a b
  generalize hx : (i + ((i.natAbs + k.natAbs : Nat) : Int)).toNat = x at *
  generalize hy : (k + ((i.natAbs + k.natAbs : Nat) : Int)).toNat = y at *
  generalize hu : (j + ((j.natAbs + l.natAbs : Nat) : Int)).toNat = u at *
  generalize hv : (l + ((j.natAbs + l.natAbs : Nat) : Int)).toNat = v at *
  have e : x + v + t = y + u + more := by omega
  have c2 := Nat.mul_le_mul_right (2 ^ more) c
  rw [Nat.mul_assoc m, ← Nat.pow_add, show 2 ^ y * (n * 2 ^ u) * 2 ^ more = n * 2 ^ (y + u + more) by rw [Nat.pow_add, Nat.pow_add]; simp only [Nat.mul_comm, Nat.mul_left_comm, Nat.mul_assoc], ← e, show m * 2 ^ (x + v) * 2 ^ more = m * 2 ^ more * 2 ^ (x + v) by simp only [Nat.mul_comm, Nat.mul_left_comm, Nat.mul_assoc], Nat.pow_add 2 (x + v) t, show n * (2 ^ (x + v) * 2 ^ t) = n * 2 ^ t * 2 ^ (x + v) by simp only [Nat.mul_comm, Nat.mul_left_comm, Nat.mul_assoc]] at c2
  exact Nat.le_of_mul_le_mul_right c2 (Nat.pow_pos (by decide))
theorem quo_le {k l i j : Int} {m n digits : Nat} (h1 : LeP k m i) (h2 : GeP l n j) :
    LeP (k - l) (2 * ((m <<< (digits + n.log2 - m.log2)) / n) + ((m <<< (digits + n.log2 - m.log2)) % n != 0).toNat) (i - j - ((digits + n.log2 - m.log2 : Nat) : Int) - 1) := by
  obtain ⟨hn, hl⟩ := h2.log
  rcases Nat.eq_zero_or_pos m with h0 | h0
  · subst h0
    have e : (2 * ((0 <<< (digits + n.log2 - (0 : Nat).log2)) / n) + ((0 <<< (digits + n.log2 - (0 : Nat).log2)) % n != 0).toNat) = 0 := by
      rw [Nat.zero_shiftLeft, Nat.zero_div, Nat.zero_mod]; rfl
    rw [e]
    exact LeP.zero
  have hm := h1.log h0
  have hmore : n.log2 ≤ digits + n.log2 - m.log2 + m.log2 := by omega
  generalize digits + n.log2 - m.log2 = more at *
  obtain ⟨t, ht⟩ : ∃ t : Nat, k - l - (i - j - more - 1) = t + 1 := ⟨(k - l - (i - j - more - 1) - 1).toNat, by omega⟩
  have hq := quo_int h1 h2 ht
  rw [Nat.shiftLeft_eq]
  generalize m * 2 ^ more = D at *
  have key : 2 * (D / n) + (D % n != 0).toNat ≤ 2 ^ (t + 1) := by
    rw [Nat.pow_succ]
    have hd : D / n ≤ 2 ^ t := Nat.div_le_of_le_mul hq
    have hdm := Nat.div_add_mod D n
    by_cases hr : D % n = 0
    · rw [hr]; simp; omega
    · have hb : (D % n != 0) = true := by simpa using hr
      rw [hb]
      have : D / n ≠ 2 ^ t := by
        intro e
        rw [e] at hdm
        omega
      simp only [Bool.toNat_true]
      omega
  refine LeP_of ((i - j - (more : Int) - 1).natAbs + (k - l).natAbs) (by omega) (by omega) (Nat.le_trans (Nat.mul_le_mul_right _ key) (Nat.le_of_eq ?_))
  rw [← Nat.pow_add]
  congr 1
  omega

/-! ### floats -/
/-- a number, not greater than a power of two -/
def Bd (fk : FloatKind) (k : Int) (x : Nat) : Prop := ∃ s m e, fk.decode x = .number s m e ∧ LeP k m e
/-- and not less than nought -/
def Pn (fk : FloatKind) (k : Int) (x : Nat) : Prop := ∃ m e, fk.decode x = .number false m e ∧ LeP k m e
/-- and not less than a power of two -/
def Gt (fk : FloatKind) (j k : Int) (x : Nat) : Prop := ∃ m e, fk.decode x = .number false m e ∧ LeP k m e ∧ GeP j m e
theorem Pn.bd {fk : FloatKind} {k : Int} {x : Nat} (h : Pn fk k x) : Bd fk k x := by
  obtain ⟨m, e, h1, h2⟩ := h
  exact ⟨_, _, _, h1, h2⟩
theorem Gt.pn {fk : FloatKind} {j k : Int} {x : Nat} (h : Gt fk j k x) : Pn fk k x := by
  obtain ⟨m, e, h1, h2, h3⟩ := h
  exact ⟨_, _, h1, h2⟩
theorem Bd.mono {fk : FloatKind} {k j : Int} {x : Nat} (h : Bd fk k x) (hj : k ≤ j) : Bd fk j x := by
  obtain ⟨s, m, e, h1, h2⟩ := h
  exact ⟨_, _, _, h1, h2.mono hj⟩
theorem Pn.mono {fk : FloatKind} {k j : Int} {x : Nat} (h : Pn fk k x) (hj : k ≤ j) : Pn fk j x := by
  obtain ⟨m, e, h1, h2⟩ := h
  exact ⟨_, _, h1, h2.mono hj⟩
theorem Gt.mono {fk : FloatKind} {i j k l : Int} {x : Nat} (h : Gt fk i k x) (hj : j ≤ i) (hk : k ≤ l) : Gt fk j l x := by
  obtain ⟨m, e, h1, h2, h3⟩ := h
  exact ⟨_, _, h1, h2.mono hk, h3.mono hj⟩
theorem Bd.fin {fk : FloatKind} {k : Int} {x : Nat} (h : Bd fk k x) : Go.K.fin fk x = true := by
  obtain ⟨s, m, e, h1, h2⟩ := h
  unfold Go.K.fin
  rw [h1]
theorem Bd.notNaN {fk : FloatKind} {k : Int} {x : Nat} (h : Bd fk k x) : isNaNW fk x = false := fin_notNaN h.fin

theorem mul_num {fk : FloatKind} {x y : Nat} {s t : Bool} {m n : Nat} {i j : Int} (hx : fk.decode x = .number s m i) (hy : fk.decode y = .number t n j) : farith .mul fk x y = fk.encode (.number (s ^^ t) (m * n) (i + j)) := by
  have hx' : fk.format.read x = .number s m i := hx
  have hy' : fk.format.read y = .number t n j := hy
  have : floatBits .mul fk x y = some (fk.encode (.number (s ^^ t) (m * n) (i + j))) := by
    show ((fk.format.read x).product (fk.format.read y)).map fk.format.write = _
    rw [hx', hy']; rfl
  unfold farith; rw [this]; rfl
theorem mul_bd {fk : FloatKind} {k l r : Int} {x y : Nat} (hx : Bd fk k x) (hy : Bd fk l y) (hr : k + l ≤ r) (ok : okP fk r) : Bd fk r (farith .mul fk x y) := by
  obtain ⟨s, m, i, h1, h2⟩ := hx
  obtain ⟨t, n, j, h3, h4⟩ := hy
  obtain ⟨M, E, a, b, _⟩ := near (s := s ^^ t) ((h2.mul h4).mono hr) ok
  rw [mul_num h1 h3]
  exact ⟨_, _, _, a, b⟩
theorem mul_pn {fk : FloatKind} {k l r : Int} {x y : Nat} (hx : Pn fk k x) (hy : Pn fk l y) (hr : k + l ≤ r) (ok : okP fk r) : Pn fk r (farith .mul fk x y) := by
  obtain ⟨m, i, h1, h2⟩ := hx
  obtain ⟨n, j, h3, h4⟩ := hy
  obtain ⟨M, E, a, b, _⟩ := near (s := false) ((h2.mul h4).mono hr) ok
  rw [mul_num h1 h3]
  exact ⟨_, _, a, b⟩
theorem signed_abs (s : Bool) (m k : Nat) : (signed s m k).natAbs = m * 2 ^ k := by
  unfold signed
  rw [Nat.shiftLeft_eq]
  split
  · rw [Int.natAbs_neg, Int.natAbs_natCast]
  · rw [Int.natAbs_natCast]
theorem sum_bd {fk : FloatKind} {k r : Int} {s t : Bool} {m n : Nat} {i j : Int} {o : Datum} (ho : (Datum.number s m i).sum (.number t n j) = some o) (hx : LeP k m i) (hy : LeP k n j) (hr : k + 1 ≤ r) (ok : okP fk r) : Bd fk r (fk.encode o) := by
  unfold Datum.sum at ho
  cases ho
  have a := hx.down (b := min i j) (by omega)
  have b := hy.down (b := min i j) (by omega)
  have ht : (signed s m (i - min i j).toNat + signed t n (j - min i j).toNat).natAbs ≤ m * 2 ^ (i - min i j).toNat + n * 2 ^ (j - min i j).toNat := by
    rw [← signed_abs s, ← signed_abs t]
    exact Int.natAbs_add_le _ _
  obtain ⟨M, E, p, q, _⟩ := near (s := if signed s m (i - min i j).toNat + signed t n (j - min i j).toNat = 0 then s && t else decide (signed s m (i - min i j).toNat + signed t n (j - min i j).toNat < 0)) ((a.add b ht).mono hr) ok
  exact ⟨_, _, _, p, q⟩
theorem add_num {fk : FloatKind} {x y : Nat} {s t : Bool} {m n : Nat} {i j : Int} (hx : fk.decode x = .number s m i) (hy : fk.decode y = .number t n j) : ∃ o, (Datum.number s m i).sum (.number t n j) = some o ∧ farith .add fk x y = fk.encode o := by
  have hx' : fk.format.read x = .number s m i := hx
  have hy' : fk.format.read y = .number t n j := hy
  refine ⟨_, rfl, ?_⟩
  unfold farith
  have : floatBits .add fk x y = ((fk.format.read x).sum (fk.format.read y)).map fk.format.write := rfl
  rw [this, hx', hy']; rfl
theorem sub_num {fk : FloatKind} {x y : Nat} {s t : Bool} {m n : Nat} {i j : Int} (hx : fk.decode x = .number s m i) (hy : fk.decode y = .number t n j) : ∃ o, (Datum.number s m i).sum (.number (!t) n j) = some o ∧ farith .sub fk x y = fk.encode o := by
  have hx' : fk.format.read x = .number s m i := hx
  have hy' : fk.format.read y = .number t n j := hy
  refine ⟨_, rfl, ?_⟩
  unfold farith
  have : floatBits .sub fk x y = ((fk.format.read x).sum (fk.format.read y).opposite).map fk.format.write := rfl
  rw [this, hx', hy']; rfl
theorem add_bd {fk : FloatKind} {k r : Int} {x y : Nat} (hx : Bd fk k x) (hy : Bd fk k y) (hr : k + 1 ≤ r) (ok : okP fk r) : Bd fk r (farith .add fk x y) := by
  obtain ⟨s, m, i, h1, h2⟩ := hx
  obtain ⟨t, n, j, h3, h4⟩ := hy
  obtain ⟨o, h5, h6⟩ := add_num h1 h3
  rw [h6]
  exact sum_bd h5 h2 h4 hr ok
theorem sub_bd {fk : FloatKind} {k r : Int} {x y : Nat} (hx : Bd fk k x) (hy : Bd fk k y) (hr : k + 1 ≤ r) (ok : okP fk r) : Bd fk r (farith .sub fk x y) := by
  obtain ⟨s, m, i, h1, h2⟩ := hx
  obtain ⟨t, n, j, h3, h4⟩ := hy
  obtain ⟨o, h5, h6⟩ := sub_num h1 h3
  rw [h6]
  exact sum_bd h5 h2 h4 hr ok
/-- the sum of what is at least a power of two and what is not less than nought -/
theorem add_gt {fk : FloatKind} {j k r : Int} {x y : Nat} (hx : Gt fk j k x) (hy : Pn fk k y) (hj : lowP fk ≤ j) (hr : k + 1 ≤ r) (ok : okP fk r) : Gt fk j r (farith .add fk x y) := by
  obtain ⟨m, i, h1, h2, hg⟩ := hx
  obtain ⟨n, l, h3, h4⟩ := hy
  obtain ⟨o, h5, h6⟩ := add_num h1 h3
  rw [h6]
  unfold Datum.sum at h5
  cases h5
  have a := h2.down (b := min i l) (by omega)
  have b := h4.down (b := min i l) (by omega)
  have c := hg.down (b := min i l) (by omega)
  rw [signed_false, signed_false]
  generalize m * 2 ^ (i - min i l).toNat = M at *
  generalize n * 2 ^ (l - min i l).toNat = N at *
  have hM := c.log.1
  have e1 : ((M : Int) + (N : Int)).natAbs = M + N := by omega
  have e2 : (if ((M : Int) + (N : Int)) = 0 then false && false else decide ((M : Int) + (N : Int) < 0)) = false := by
    split
    · rfl
    · exact decide_eq_false (by omega)
  rw [e1, e2]
  obtain ⟨M', E, p, q, w⟩ := near (s := false) ((a.add b (Nat.le_refl _)).mono hr) ok
  exact ⟨_, _, p, q, w j hj (c.le (by omega))⟩
theorem quo_num {fk : FloatKind} {x y : Nat} {s t : Bool} {m n : Nat} {i j : Int} (hx : fk.decode x = .number s m i) (hy : fk.decode y = .number t n j) (hn : 0 < n) :
    farith .quo fk x y = fk.encode (.number (s ^^ t) (2 * ((m <<< (fk.format.fractionBits + 2 + n.log2 - m.log2)) / n) + ((m <<< (fk.format.fractionBits + 2 + n.log2 - m.log2)) % n != 0).toNat) (i - j - ((fk.format.fractionBits + 2 + n.log2 - m.log2 : Nat) : Int) - 1)) := by
  have hx' : fk.format.read x = .number s m i := hx
  have hy' : fk.format.read y = .number t n j := hy
  have : floatBits .quo fk x y = ((fk.format.read x).quotient (fk.format.fractionBits + 2) (fk.format.read y)).map fk.format.write := rfl
  unfold farith
  rw [this, hx', hy']
  unfold Datum.quotient
  dsimp only
  rw [if_neg (by omega)]
  rfl
theorem quo_bd {fk : FloatKind} {j k l r : Int} {x y : Nat} (hx : Bd fk k x) (hy : Gt fk j l y) (hr : k - j ≤ r) (ok : okP fk r) : Bd fk r (farith .quo fk x y) := by
  obtain ⟨s, m, i, h1, h2⟩ := hx
  obtain ⟨n, p, h3, h4, h5⟩ := hy
  obtain ⟨M, E, a, b, _⟩ := near (s := s ^^ false) ((quo_le (digits := fk.format.fractionBits + 2) h2 h5).mono hr) ok
  rw [quo_num h1 h3 h5.log.1]
  exact ⟨_, _, _, a, b⟩
theorem quo_pn {fk : FloatKind} {j k l r : Int} {x y : Nat} (hx : Pn fk k x) (hy : Gt fk j l y) (hr : k - j ≤ r) (ok : okP fk r) : Pn fk r (farith .quo fk x y) := by
  obtain ⟨m, i, h1, h2⟩ := hx
  obtain ⟨n, p, h3, h4, h5⟩ := hy
  obtain ⟨M, E, a, b, _⟩ := near (s := false) ((quo_le (digits := fk.format.fractionBits + 2) h2 h5).mono hr) ok
  rw [quo_num h1 h3 h5.log.1]
  exact ⟨_, _, a, b⟩
/-- a quotient of two numbers of which the first is not greater -/
theorem quo_one {fk : FloatKind} {x y : Nat} {m n : Nat} {i j : Int} (hx : fk.decode x = .number false m i) (hy : fk.decode y = .number false n j) (hn : 0 < n) (hle : m * 2 ^ (i - min i j).toNat ≤ n * 2 ^ (j - min i j).toNat) : Pn fk 0 (farith .quo fk x y) := by
  have key : LeP 0 (2 * ((m <<< (fk.format.fractionBits + 2 + n.log2 - m.log2)) / n) + ((m <<< (fk.format.fractionBits + 2 + n.log2 - m.log2)) % n != 0).toNat) (i - j - ((fk.format.fractionBits + 2 + n.log2 - m.log2 : Nat) : Int) - 1) := by
    generalize hmore : fk.format.fractionBits + 2 + n.log2 - m.log2 = more
    rcases Nat.eq_zero_or_pos m with h0 | h0
    · subst h0
      have e : (2 * ((0 <<< more) / n) + ((0 <<< more) % n != 0).toNat) = 0 := by
        rw [Nat.zero_shiftLeft, Nat.zero_div, Nat.zero_mod]; rfl
      rw [e]
      exact LeP.zero
    -- the place is below nought
    have hpl : i - j ≤ more := by
      have a1 : 2 ^ m.log2 ≤ m := Nat.log2_self_le (by omega)
      have a2 : n < 2 ^ (n.log2 + 1) := Nat.lt_log2_self
      have a3 := Nat.lt_of_le_of_lt (Nat.le_trans (Nat.mul_le_mul_right (2 ^ (i - min i j).toNat) a1) hle) (Nat.mul_lt_mul_of_pos_right a2 (Nat.pow_pos (show 0 < 2 by decide) (n := (j - min i j).toNat)))
      rw [← Nat.pow_add, ← Nat.pow_add] at a3
      have := (Nat.pow_lt_pow_iff_right (by decide)).1 a3
      omega
    obtain ⟨t, ht⟩ : ∃ t : Nat, (more : Int) - (i - j) = t := ⟨((more : Int) - (i - j)).toNat, by omega⟩
    have hq : m * 2 ^ more ≤ n * 2 ^ t := by
      have c := Nat.mul_le_mul_right (2 ^ t) hle
      have e1 : (i - min i j).toNat + t = more + (j - min i j).toNat := by omega
      rw [Nat.mul_assoc, ← Nat.pow_add, e1, Nat.pow_add, ← Nat.mul_assoc, show n * 2 ^ (j - min i j).toNat * 2 ^ t = n * 2 ^ t * 2 ^ (j - min i j).toNat by simp only [Nat.mul_comm, Nat.mul_left_comm, Nat.mul_assoc]] at c
      exact Nat.le_of_mul_le_mul_right c (Nat.pow_pos (by decide))
    rw [Nat.shiftLeft_eq]
    generalize m * 2 ^ more = D at *
    have hk : 2 * (D / n) + (D % n != 0).toNat ≤ 2 ^ (t + 1) := by
      rw [Nat.pow_succ]
      have hd : D / n ≤ 2 ^ t := Nat.div_le_of_le_mul hq
      have hdm := Nat.div_add_mod D n
      by_cases hr : D % n = 0
      · rw [hr]; simp; omega
      · have hb : (D % n != 0) = true := by simpa using hr
        rw [hb]
        have : D / n ≠ 2 ^ t := by
          intro e
          rw [e] at hdm
          omega
        simp only [Bool.toNat_true]
        omega
    refine LeP_of (i - j - (more : Int) - 1).natAbs (by omega) (by omega) (Nat.le_trans (Nat.mul_le_mul_right _ hk) (Nat.le_of_eq ?_))
    rw [← Nat.pow_add]
    congr 1
    omega
  obtain ⟨M, E, a, b, _⟩ := near (fk := fk) (s := false) key (by cases fk <;> exact ⟨by decide, by decide⟩)
  rw [quo_num hx hy hn]
  exact ⟨_, _, a, b⟩
theorem sqrt_pn {k : Int} {x : Nat} (hx : Gt .f64 0 k x) (hk : k ≤ 127) : Pn .f64 64 (fsqrt x) := by
  obtain ⟨m, i, h1, h2, h3⟩ := hx
  have h1' : double.read x = .number false m i := h1
  obtain ⟨hm, _⟩ := h3.log
  obtain ⟨D, p, e, hp⟩ := root_bound (m := m) (i := i) hm (by have := h2.log hm; omega)
  have e2 : fsqrt x = double.write (.number false D p) := by
    show (((double.read x).root 54).map double.write).getD (nanW .f64) = _
    rw [h1', e]; rfl
  have hl : LeP 64 D p := by
    rcases Nat.eq_zero_or_pos D with h0 | h0
    · subst h0; exact LeP.zero
    · exact LeP_log (by have := hp h0; omega)
  obtain ⟨M, E, a, b, _⟩ := near (fk := .f64) (s := false) hl ⟨by decide, by decide⟩
  rw [e2]
  exact ⟨_, _, a, b⟩
/-- a number that is not too great fits into single precision -/
theorem bd_fits {k : Int} {x : Nat} (hx : Bd .f64 k x) (hk : k ≤ 102) : fitsF .f64 .f32 x = true := by
  obtain ⟨s, m, e, h1, h2⟩ := hx
  obtain ⟨M, E, a, b, _⟩ := near (fk := .f32) (s := s) (h2.mono (show k ≤ max k (-149) by omega)) ⟨by omega, by omega⟩
  unfold fitsF
  rw [h1]
  dsimp only
  rw [a]; rfl
end Go.K
