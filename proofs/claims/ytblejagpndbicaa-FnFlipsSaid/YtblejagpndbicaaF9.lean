/- Square roots of single precision fit. -/
import Derived.Test.YtblejagpndbicaaF8
set_option linter.unusedSimpArgs false
set_option linter.unusedVariables false
set_option maxRecDepth 10000
namespace Go.K
open Ieee

theorem cut_le (s : Bool) (n d : Nat) : Toward.even.cut s n d ≤ n / (1 <<< min d (n.log2 + 2)) + 1 := by
  unfold Toward.cut
  dsimp only
  generalize (decide (1 <<< min d (n.log2 + 2) < 2 * (n % 1 <<< min d (n.log2 + 2))) || (1 <<< min d (n.log2 + 2) == 2 * (n % 1 <<< min d (n.log2 + 2)) && n / 1 <<< min d (n.log2 + 2) % 2 == 1)) = b
  cases b <;> simp
theorem kept_le {s : Bool} {n F : Nat} {p last : Int} (h0 : 0 < n) (hl : p + (n.log2 : Int) - (F : Int) ≤ last) : Toward.even.cut s (n <<< (p - last).toNat) (last - p).toNat ≤ 2 ^ (F + 1) := by
  have hn : n < 2 ^ (n.log2 + 1) := Nat.lt_log2_self
  by_cases h : last ≤ p
  · rw [show (last - p).toNat = 0 by omega]
    have ecut : ∀ k, Toward.even.cut s k 0 = k := by
      intro k
      simp [Toward.cut, Nat.mod_one]
    rw [ecut, Nat.shiftLeft_eq]
    refine Nat.le_of_lt ?_
    calc n * 2 ^ (p - last).toNat < 2 ^ (n.log2 + 1) * 2 ^ (p - last).toNat := Nat.mul_lt_mul_of_pos_right hn (Nat.pow_pos (by decide))
      _ = 2 ^ (n.log2 + 1 + (p - last).toNat) := by rw [← Nat.pow_add]
      _ ≤ 2 ^ (F + 1) := Nat.pow_le_pow_right (by decide) (by omega)
  · rw [show (p - last).toNat = 0 by omega, Nat.shiftLeft_zero]
    refine Nat.le_trans (cut_le s n _) ?_
    rw [Nat.shiftLeft_eq, Nat.one_mul]
    have hp : 1 ≤ 2 ^ (F + 1) := Nat.one_le_two_pow
    by_cases hd : (last - p).toNat ≤ n.log2 + 2
    · rw [Nat.min_eq_left hd]
      have : n / 2 ^ (last - p).toNat < 2 ^ (F + 1) := by
        rw [Nat.div_lt_iff_lt_mul (Nat.pow_pos (by decide))]
        calc n < 2 ^ (n.log2 + 1) := hn
          _ ≤ 2 ^ (F + 1 + (last - p).toNat) := Nat.pow_le_pow_right (by decide) (by omega)
          _ = 2 ^ (F + 1) * 2 ^ (last - p).toNat := Nat.pow_add _ _ _
      omega
    · rw [Nat.min_eq_right (by omega)]
      have : n / 2 ^ (n.log2 + 2) = 0 := Nat.div_eq_of_lt (Nat.lt_of_lt_of_le hn (Nat.pow_le_pow_right (by decide) (by omega)))
      omega
theorem rung_le {N k B C I q : Nat} (hB : 0 < B) (hN : N ≤ C) (hk : k ≤ 2 * B) (hI : I = q * B) (hq : C + 2 < q) : N * B + k < I ∧ (N * B + k) / B ≤ C + 2 := by
  have h1 := Nat.mul_le_mul_right B hN
  have h2 : (C + 3) * B ≤ q * B := Nat.mul_le_mul_right B hq
  have h3 : (C + 3) * B = C * B + 3 * B := by rw [Nat.add_mul]
  have h4 : N * B + k ≤ (C + 2) * B := by rw [Nat.add_mul]; omega
  constructor
  · omega
  · have := Nat.div_le_div_right (c := B) h4
    rwa [Nat.mul_div_cancel _ hB] at this
theorem dbl_bound {D : Nat} {p : Int} (h0 : 0 < D) (h : p + (D.log2 : Int) ≤ 63) : ∃ M E, double.read (double.nearest false D p) = .number false M E ∧ E ≤ 74 := by
  have hP : double.leastPlace = -1074 := rfl
  have hF : double.fractionBits = 52 := rfl
  have hk := kept_le (s := false) (n := D) (p := p) (F := 52) (last := max (p + (D.log2 : Int) - ((52 : Nat) : Int)) (-1074)) h0 (by omega)
  unfold Format.nearest
  rw [if_neg (by omega)]
  simp only [hP, hF]
  have hN : (max (p + (D.log2 : Int) - ((52 : Nat) : Int)) (-1074) - -1074).toNat ≤ 1085 := by omega
  have hk' : Toward.even.cut false (D <<< (p - max (p + (D.log2 : Int) - ((52 : Nat) : Int)) (-1074)).toNat) (max (p + (D.log2 : Int) - ((52 : Nat) : Int)) (-1074) - p).toNat ≤ 2 * double.binade := Nat.le_trans hk (by decide)
  obtain ⟨r1, r2⟩ := rung_le (B := double.binade) (I := double.infRung) (q := 2047) (C := 1085) (by decide) hN hk' (by decide) (by decide)
  rw [Nat.min_eq_left (Nat.le_of_lt r1), read_word (Nat.le_of_lt r1)]
  generalize (max (p + (D.log2 : Int) - ((52 : Nat) : Int)) (-1074) - -1074).toNat * double.binade + Toward.even.cut false (D <<< (p - max (p + (D.log2 : Int) - ((52 : Nat) : Int)) (-1074)).toNat) (max (p + (D.log2 : Int) - ((52 : Nat) : Int)) (-1074) - p).toNat = R at *
  by_cases hR : R < double.binade
  · rw [if_pos hR]
    exact ⟨_, _, rfl, by rw [hP]; decide⟩
  · rw [if_neg hR, if_pos r1]
    refine ⟨_, _, rfl, ?_⟩
    rw [hP]
    generalize R / double.binade = Q at *
    omega
theorem sgl_fin {s : Bool} {M : Nat} {E : Int} (hM : M ≤ 9007199254740991) (hE : E ≤ 74) : (single.read (single.nearest s M E)).isInfinity = false := by
  have hP : single.leastPlace = -149 := rfl
  have hF : single.fractionBits = 23 := rfl
  unfold Format.nearest
  split
  · obtain ⟨m, e, h⟩ := read_word_lt (f := single) (a := s) (r := 0) (by decide)
    rw [h]; rfl
  · rename_i hM0
    have hlog : M.log2 < 53 := (Nat.log2_lt hM0).2 (Nat.lt_of_le_of_lt hM (by decide))
    have hk := kept_le (s := s) (n := M) (F := 23) (p := E) (last := max (E + (M.log2 : Int) - ((23 : Nat) : Int)) (-149)) (by omega) (by omega)
    simp only [hP, hF]
    have hN : (max (E + (M.log2 : Int) - ((23 : Nat) : Int)) (-149) - -149).toNat ≤ 252 := by omega
    have hk' := Nat.le_trans hk (show 2 ^ (23 + 1) ≤ 2 * single.binade by decide)
    obtain ⟨r1, _⟩ := rung_le (B := single.binade) (I := single.infRung) (q := 255) (C := 252) (by decide) hN hk' (by decide) (by decide)
    rw [Nat.min_eq_left (Nat.le_of_lt r1)]
    obtain ⟨m, e, h⟩ := read_word_lt (f := single) (a := s) r1
    rw [h]; rfl
theorem fits_of {z : Nat} {s : Bool} {M : Nat} {E : Int} (hz : double.read z = .number s M E) (hE : E ≤ 74) : fitsF .f64 .f32 z = true := by
  obtain ⟨hM, _, _⟩ := double_read_bounds hz
  unfold fitsF
  rw [show FloatKind.decode .f64 z = double.read z from rfl, hz]
  show (false || !(single.read (single.nearest s M E)).isInfinity) = true
  rw [sgl_fin hM hE]; rfl
theorem rootFrom_lt (n : Nat) : ∀ (todo root : Nat), Datum.rootFrom n todo root < root + 2 ^ todo
  | 0, root => by simp [Datum.rootFrom]
  | todo + 1, root => by
    unfold Datum.rootFrom
    dsimp only
    have hp : 2 ^ (todo + 1) = 2 ^ todo + 2 ^ todo := by rw [Nat.pow_succ]; omega
    rw [Nat.shiftLeft_eq, Nat.one_mul]
    split
    · have := rootFrom_lt n todo (root + 2 ^ todo)
      omega
    · have := rootFrom_lt n todo root
      have h0 : 0 < 2 ^ todo := Nat.pow_pos (by decide)
      omega
theorem root_bound {m : Nat} {i : Int} (h0 : 0 < m) (h : i + (m.log2 : Int) ≤ 127) : ∃ D p, Datum.root 54 (.number false m i) = some (.number false D p) ∧ (0 < D → p + (D.log2 : Int) ≤ 63) := by
  unfold Datum.root
  dsimp only
  rw [if_neg (by omega)]
  generalize 2 * 54 - m.log2 + ((i - ((2 * 54 - m.log2 : Nat) : Int)) % 2).toNat = more
  simp only [Bool.false_eq_true, if_false]
  refine ⟨_, _, rfl, fun hD => ?_⟩
  have hn : (m <<< more).log2 = m.log2 + more := by
    have h1 : 2 ^ m.log2 ≤ m := Nat.log2_self_le (by omega)
    have h2 : m < 2 ^ (m.log2 + 1) := Nat.lt_log2_self
    rw [Nat.shiftLeft_eq]
    have hpos : 0 < m * 2 ^ more := Nat.mul_pos h0 (Nat.pow_pos (by decide))
    have a1 : (m * 2 ^ more).log2 < m.log2 + more + 1 := by
      rw [Nat.log2_lt (by omega)]
      calc m * 2 ^ more < 2 ^ (m.log2 + 1) * 2 ^ more := Nat.mul_lt_mul_of_pos_right h2 (Nat.pow_pos (by decide))
        _ = 2 ^ (m.log2 + more + 1) := by rw [← Nat.pow_add]; congr 1; omega
    have a2 : m.log2 + more ≤ (m * 2 ^ more).log2 := by
      rw [Nat.le_log2 (by omega), Nat.pow_add]
      exact Nat.mul_le_mul_right _ h1
    omega
  have hw := rootFrom_lt (m <<< more) ((m <<< more).log2 / 2 + 1) 0
  rw [hn] at hw hD ⊢
  generalize Datum.rootFrom (m <<< more) ((m.log2 + more) / 2 + 1) 0 = whole at *
  have hb : (whole * whole != m <<< more).toNat ≤ 1 := by cases (whole * whole != m <<< more) <;> decide
  generalize (whole * whole != m <<< more).toNat = bit at *
  have hlt : (2 * whole + bit).log2 < (m.log2 + more) / 2 + 2 := by
    rw [Nat.log2_lt (by omega)]
    have : 2 ^ ((m.log2 + more) / 2 + 2) = 2 * 2 ^ ((m.log2 + more) / 2 + 1) := by rw [Nat.pow_succ _ ((m.log2 + more) / 2 + 1)]; omega
    omega
  omega
/-- a square root of single precision fits -/
theorem sqrt_fits {u : Nat} : fitsF .f64 .f32 (fsqrt (fconv .f32 .f64 u)) = true := by
  have hd := single_read u
  have hres : ∀ o : Option Datum, (∀ d, o = some d → fitsF .f64 .f32 (double.write d) = true) → fitsF .f64 .f32 ((o.map double.write).getD (nanW .f64)) = true := by
    intro o ho
    cases o with
    | none => decide
    | some d => exact ho d rfl
  show fitsF .f64 .f32 (((double.read (fconv .f32 .f64 u)).root 54 |>.map double.write).getD (nanW .f64)) = true
  refine hres _ fun d hdd => ?_
  have hup := decode_up u
  rw [show FloatKind.decode .f32 u = single.read u from rfl] at hup
  by_cases hr : u % 2147483648 < 2139095040
  · rw [if_pos hr] at hd
    by_cases h0 : u % 2147483648 = 0
    · have hx2 : u % 4294967296 = 0 ∨ u % 4294967296 = 2147483648 := by omega
      have hm : mag (u % 2147483648) = 0 := by rw [h0]; rfl
      have hy : fconv .f32 .f64 u = double.word (u / 2147483648 % 2 == 1) 0 := by
        unfold fconv
        rw [if_neg (by decide), show FloatKind.decode .f32 u = single.read u from rfl, hd, hm]
        show double.nearest (u / 2147483648 % 2 == 1) 0 (plc (u % 2147483648)) = _
        unfold Format.nearest
        rw [if_pos rfl]
      have hz : double.read (fconv .f32 .f64 u) = .number (u / 2147483648 % 2 == 1) 0 (-1074) := by
        rw [hy, read_word (by decide), if_pos (by decide)]; rfl
      rw [hz] at hdd
      unfold Datum.root at hdd
      dsimp only at hdd
      rw [if_pos rfl] at hdd
      cases hdd
      generalize (u / 2147483648 % 2 == 1) = s
      cases s <;> decide
    · have hm0 : 0 < mag (u % 2147483648) := by unfold mag; split <;> omega
      have hm24 : mag (u % 2147483648) < 16777216 := by unfold mag; split <;> omega
      have hl : (mag (u % 2147483648)).log2 < 24 := (Nat.log2_lt (by omega)).2 hm24
      have hb := single_read_bounds hd
      have hy : fconv .f32 .f64 u = double.nearest (u / 2147483648 % 2 == 1) (mag (u % 2147483648)) (plc (u % 2147483648)) := by
        unfold fconv
        rw [if_neg (by decide), show FloatKind.decode .f32 u = single.read u from rfl, hd]; rfl
      rw [hy, up_exact hm0 hb] at hdd
      obtain ⟨s1, s2⟩ := scaled hm0 (by omega)
      have hlog := log2_52 s1 s2
      cases hs : (u / 2147483648 % 2 == 1)
      · rw [hs] at hdd
        obtain ⟨D, p, e, hp⟩ := root_bound (m := mag (u % 2147483648) * 2 ^ (52 - (mag (u % 2147483648)).log2)) (i := plc (u % 2147483648) + ((mag (u % 2147483648)).log2 : Int) - 52) (by omega) (by rw [hlog]; omega)
        rw [e] at hdd
        cases hdd
        show fitsF .f64 .f32 (double.nearest false D p) = true
        rcases Nat.eq_zero_or_pos D with hD | hD
        · subst hD
          unfold Format.nearest
          rw [if_pos rfl]
          decide
        · obtain ⟨M, E, h1, h2⟩ := dbl_bound hD (hp hD)
          exact fits_of h1 h2
      · rw [hs] at hdd
        unfold Datum.root at hdd
        dsimp only at hdd
        rw [if_neg (by omega)] at hdd
        simp at hdd
  · rw [if_neg hr] at hd
    by_cases h2 : u % 2147483648 = 2139095040
    · rw [if_pos h2] at hd
      rw [hd] at hup
      simp only at hup
      rw [show double.read (fconv .f32 .f64 u) = .infinity (u / 2147483648 % 2 == 1) from hup] at hdd
      unfold Datum.root at hdd
      dsimp only at hdd
      split at hdd
      · cases hdd
      · cases hdd
        rename_i hs
        rw [show (u / 2147483648 % 2 == 1) = false by simpa using hs]
        decide
    · rw [if_neg h2] at hd
      rw [hd] at hup
      simp only at hup
      obtain ⟨s, t, e⟩ := decode_nan hup
      rw [show double.read (fconv .f32 .f64 u) = .nan s t from e] at hdd
      cases hdd
end Go.K
