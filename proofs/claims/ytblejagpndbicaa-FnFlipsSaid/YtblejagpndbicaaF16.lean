/- Whole numbers, rounded down, in both kinds of floats. -/
import Derived.Test.YtblejagpndbicaaF15
set_option linter.unusedSimpArgs false
set_option linter.unusedVariables false
set_option maxRecDepth 10000
namespace Go.K
open Ieee

theorem whole_aux {f : Format} {F q : Nat} {P : Int} (hB : f.binade = 2 ^ F) (hI : f.infRung = q * 2 ^ F) (hP : f.leastPlace = P) (hF : f.fractionBits = F) {s : Bool} {T : Nat} (h0 : 0 < T) (h : T < 2 ^ (F + 1)) (hP2 : P ≤ -(F : Int)) (hq : 2 - P < q) :
    f.read (f.nearest s T 0) = .number s (T * 2 ^ (F - T.log2)) ((T.log2 : Int) - F) := by
  have hl : T.log2 < F + 1 := (Nat.log2_lt (by omega)).2 h
  have hlm : T < 2 ^ (T.log2 + 1) := Nat.lt_log2_self
  have hle : 2 ^ T.log2 ≤ T := Nat.log2_self_le (by omega)
  have elast : max ((0 : Int) + (T.log2 : Int) - (f.fractionBits : Int)) f.leastPlace = T.log2 - F := by
    rw [hP, hF]; omega
  unfold Format.nearest
  rw [if_neg (by omega)]
  simp only [elast]
  have e1 : ((0 : Int) - ((T.log2 : Int) - F)).toNat = F - T.log2 := by omega
  have e2 : ((T.log2 : Int) - F - 0).toNat = 0 := by omega
  rw [e1, e2]
  have ecut : ∀ n, Toward.even.cut s n 0 = n := by
    intro n
    simp [Toward.cut, Nat.mod_one]
  rw [ecut, Nat.shiftLeft_eq, hP]
  have hb : T * 2 ^ (F - T.log2) < 2 ^ (F + 1) := by
    calc T * 2 ^ (F - T.log2) < 2 ^ (T.log2 + 1) * 2 ^ (F - T.log2) := Nat.mul_lt_mul_of_pos_right hlm (Nat.pow_pos (by decide))
      _ = 2 ^ (F + 1) := by rw [← Nat.pow_add]; congr 1; omega
  have hb2 : 2 ^ F ≤ T * 2 ^ (F - T.log2) := by
    calc 2 ^ F = 2 ^ T.log2 * 2 ^ (F - T.log2) := by rw [← Nat.pow_add]; congr 1; omega
      _ ≤ T * 2 ^ (F - T.log2) := Nat.mul_le_mul_right _ hle
  generalize T * 2 ^ (F - T.log2) = kept at *
  have hmin : min (((T.log2 : Int) - F - P).toNat * f.binade + kept) f.infRung = ((T.log2 : Int) - F - P).toNat * f.binade + kept := by
    refine Nat.min_eq_left ?_
    rw [hB, hI]
    have : (((T.log2 : Int) - F - P).toNat + 3) * 2 ^ F ≤ q * 2 ^ F := Nat.mul_le_mul_right _ (by omega)
    rw [Nat.add_mul] at this
    have h2 : 2 ^ (F + 1) = 2 * 2 ^ F := by rw [Nat.pow_succ]; omega
    omega
  rw [hmin]
  obtain ⟨m, e, hr, hme⟩ := rung_reads hB hI hP (s := s) (Nat.le_of_lt hb) (.inr hb2) (N := ((T.log2 : Int) - F - P).toNat) (by omega)
  rw [hr]
  rcases hme with ⟨rfl, he⟩ | ⟨_, hk, _⟩
  · congr 1; omega
  · omega
/-- a whole number, as a float -/
def Wh (fk : FloatKind) (x : Nat) (s : Bool) (T F : Nat) : Prop := (T = 0 ∧ ∃ e, fk.decode x = .number s 0 e) ∨ (0 < T ∧ T.log2 ≤ F ∧ fk.decode x = .number s (T * 2 ^ (F - T.log2)) ((T.log2 : Int) - F))
theorem Wh.toint {fk : FloatKind} {x T F : Nat} {s : Bool} (h : Wh fk x s T F) (hT : T < 2 ^ 60) : ftoint fk x .i64 = some (if s = true then -(T : Int) else (T : Int)) := by
  rw [show (2 : Nat) ^ 60 = 1152921504606846976 from rfl] at hT
  have hmin : IntKind.min .i64 = -9223372036854775808 := rfl
  have hmax : IntKind.max .i64 = 9223372036854775807 := rfl
  have key : ∀ M e, fk.decode x = .number s M e → (M <<< e.toNat) / 2 ^ (-e).toNat = T → ftoint fk x .i64 = some (if s = true then -(T : Int) else (T : Int)) := by
    intro M e hd hM
    unfold ftoint floatToIntVal
    rw [hd]
    unfold Datum.toInt Datum.integral
    dsimp only
    rw [cut_zero, hM]
    have hs : signed s T 0 = if s = true then -(T : Int) else (T : Int) := by
      unfold signed
      rw [Nat.shiftLeft_zero]
    rw [hs]
    refine if_pos ?_
    rw [hmin, hmax]
    cases s
    · simp only [Bool.false_eq_true, if_false]; omega
    · simp only [if_true]; omega
  rcases h with ⟨h0, e, hd⟩ | ⟨h0, hl, hd⟩
  · subst h0
    exact key _ _ hd (by simp)
  · refine key _ _ hd ?_
    rw [show ((T.log2 : Int) - F).toNat = 0 by omega, show (-((T.log2 : Int) - F)).toNat = F - T.log2 by omega, Nat.shiftLeft_zero]
    exact Nat.mul_div_cancel _ (Nat.pow_pos (by decide))
theorem wh64 {s : Bool} {T : Nat} (h : T < 2 ^ 53) : Wh .f64 (FloatKind.encode .f64 (.number s T 0)) s T 52 := by
  rcases Nat.eq_zero_or_pos T with h0 | h0
  · subst h0
    refine .inl ⟨rfl, -1074, ?_⟩
    show double.read (double.nearest s 0 0) = _
    unfold Format.nearest
    rw [if_pos rfl]
    cases s <;> decide
  · refine .inr ⟨h0, ?_, whole_aux (f := double) (F := 52) (q := 2047) (P := -1074) rfl rfl rfl rfl h0 h (by decide) (by decide)⟩
    have : T.log2 < 53 := (Nat.log2_lt (by omega)).2 h
    omega
theorem down_wh {x T : Nat} {s : Bool} (h : Wh .f64 x s T 52) (hT : T < 2 ^ 24) : Wh .f32 (fconv .f64 .f32 x) s T 23 := by
  rcases h with ⟨h0, e, hd⟩ | ⟨h0, hl, hd⟩
  · refine .inl ⟨h0, -149, ?_⟩
    have : fconv .f64 .f32 x = FloatKind.encode .f32 (.number s 0 e) := by
      unfold fconv
      rw [if_neg (by decide), hd]
    rw [this]
    exact zero_enc _ _
  · have hl24 : T.log2 < 24 := (Nat.log2_lt (by omega)).2 hT
    refine .inr ⟨h0, by omega, ?_⟩
    have e : fconv .f64 .f32 x = FloatKind.encode .f32 (.number s (T * 2 ^ (52 - T.log2)) ((T.log2 : Int) - 52)) := by
      unfold fconv
      rw [if_neg (by decide), hd]; rfl
    rw [e]
    show single.read (single.nearest s (T * 2 ^ (52 - T.log2)) ((T.log2 : Int) - 52)) = _
    have key := whole_aux (f := single) (F := 23) (q := 255) (P := -149) (s := s) rfl rfl rfl rfl h0 hT (by decide) (by decide)
    -- the same number, written longer
    obtain ⟨s1, s2⟩ := scaled (m := T) h0 (by omega)
    have hlog := log2_52 s1 s2
    have same : single.nearest s (T * 2 ^ (52 - T.log2)) ((T.log2 : Int) - 52) = single.nearest s T 0 := by
      have hP : single.leastPlace = -149 := rfl
      have hF : single.fractionBits = 23 := rfl
      unfold Format.nearest
      rw [if_neg (by omega), if_neg (by omega)]
      dsimp only
      rw [hlog, hP, hF]
      have e1 : max ((T.log2 : Int) - 52 + ((52 : Nat) : Int) - ((23 : Nat) : Int)) (-149) = (T.log2 : Int) - 23 := by omega
      have e2 : max ((0 : Int) + (T.log2 : Int) - ((23 : Nat) : Int)) (-149) = (T.log2 : Int) - 23 := by omega
      rw [e1, e2]
      have c1 : Toward.even.cut s ((T * 2 ^ (52 - T.log2)) <<< ((T.log2 : Int) - 52 - ((T.log2 : Int) - 23)).toNat) ((T.log2 : Int) - 23 - ((T.log2 : Int) - 52)).toNat = T * 2 ^ (23 - T.log2) := by
        rw [show ((T.log2 : Int) - 52 - ((T.log2 : Int) - 23)).toNat = 0 by omega, show ((T.log2 : Int) - 23 - ((T.log2 : Int) - 52)).toNat = 29 by omega, Nat.shiftLeft_zero, show 52 - T.log2 = (23 - T.log2) + 29 by omega, Nat.pow_add, ← Nat.mul_assoc]
        exact cut_exact (Nat.mul_pos h0 (Nat.pow_pos (by decide)))
      have c2 : Toward.even.cut s (T <<< ((0 : Int) - ((T.log2 : Int) - 23)).toNat) ((T.log2 : Int) - 23 - 0).toNat = T * 2 ^ (23 - T.log2) := by
        rw [show ((0 : Int) - ((T.log2 : Int) - 23)).toNat = 23 - T.log2 by omega, show ((T.log2 : Int) - 23 - 0).toNat = 0 by omega, Nat.shiftLeft_eq]
        simp [Toward.cut, Nat.mod_one]
      rw [c1, c2]
    rw [same]
    exact key
theorem cut_down_le (s : Bool) (n d : Nat) : Toward.down.cut s n d ≤ n / 2 ^ d + 1 := by
  have key : Toward.down.cut s n d ≤ n / (1 <<< min d (n.log2 + 2)) + 1 := by
    unfold Toward.cut
    dsimp only
    generalize (s && n % 1 <<< min d (n.log2 + 2) != 0) = b
    cases b <;> simp
  rw [Nat.shiftLeft_eq, Nat.one_mul] at key
  refine Nat.le_trans key ?_
  rcases Nat.le_total d (n.log2 + 2) with h | h
  · rw [Nat.min_eq_left h]; exact Nat.le_refl _
  · rw [Nat.min_eq_right h]
    have hn : n < 2 ^ (n.log2 + 1) := Nat.lt_log2_self
    rw [Nat.div_eq_of_lt (Nat.lt_of_lt_of_le hn (Nat.pow_le_pow_right (by decide) (by omega)))]
    exact Nat.succ_le_succ (Nat.zero_le _)
/-- what is rounded down is whole, and alike in both kinds -/
theorem floor_ok {z : Nat} (h : Bd .f32 22 z) : ∃ n : Int, fitsF .f64 .f32 (fwhole .down (fconv .f32 .f64 z)) = true ∧ ftoint .f64 (fwhole .down (fconv .f32 .f64 z)) .i64 = some n ∧ ftoint .f32 (fconv .f64 .f32 (fwhole .down (fconv .f32 .f64 z))) .i64 = some n := by
  have hb := up_bd h (by decide) (by decide)
  obtain ⟨s, m, d, hn⟩ := near_bd hb (by decide)
  obtain ⟨s', m', e', h1, h2⟩ := hb
  rw [hn.num] at h1
  cases h1
  have hd := hn.pos
  have e : fwhole .down (fconv .f32 .f64 z) = FloatKind.encode .f64 (.number s (Toward.down.cut s m d) 0) := by
    unfold fwhole
    rw [hn.num]
    unfold Datum.integral
    dsimp only
    rw [show (-(d : Int)).toNat = 0 by omega, show (-(-(d : Int))).toNat = d by omega, Nat.shiftLeft_zero]
  have hT : Toward.down.cut s m d < 2 ^ 24 := by
    have a := h2 d (by omega) (by omega)
    rw [show (-(d : Int) + (d : Int)).toNat = 0 by omega, Nat.pow_zero, Nat.mul_one, show ((22 : Int) + (d : Int)).toNat = 22 + d by omega, Nat.pow_add] at a
    have b : m / 2 ^ d ≤ 2 ^ 22 := Nat.div_le_of_le_mul (by rw [Nat.mul_comm]; exact a)
    have c := cut_down_le s m d
    have h22 : (2 : Nat) ^ 22 = 4194304 := rfl
    have h24 : (2 : Nat) ^ 24 = 16777216 := rfl
    omega
  rw [e]
  have h24 : (2 : Nat) ^ 24 = 16777216 := rfl
  generalize Toward.down.cut s m d = T at *
  have w := wh64 (s := s) (T := T) (Nat.lt_of_lt_of_le hT (Nat.pow_le_pow_right (by decide) (by decide)))
  have w2 := down_wh w hT
  have hT60 : T < 2 ^ 60 := Nat.lt_of_lt_of_le hT (Nat.pow_le_pow_right (by decide) (by decide))
  refine ⟨_, ?_, w.toint hT60, w2.toint hT60⟩
  have hl : LeP 24 T 0 := LeP_of 0 (by decide) (by decide) (by simpa using Nat.le_of_lt hT)
  obtain ⟨M, E, p, q, _⟩ := near (fk := .f64) (s := s) hl ⟨by decide, by decide⟩
  exact bd_fits ⟨_, _, _, p, q⟩ (by decide)
theorem fofint_bdI {fk : FloatKind} {n : Int} {k : Nat} (h : n.natAbs ≤ 2 ^ k) (ok : okP fk k) : Bd fk k (fofint fk n) := by
  have hl : LeP k n.natAbs 0 := by
    refine LeP_of 0 (by omega) (by omega) ?_
    simpa using h
  obtain ⟨M, E, p, q, _⟩ := near (fk := fk) (s := decide (n < 0)) hl ok
  exact ⟨_, _, _, p, q⟩
end Go.K
