/- Floats: what the laws' helpers ask. -/
import Derived.Test.YtblejagpndbicaaK21
set_option linter.unusedSimpArgs false
set_option linter.unusedVariables false
namespace Go.K
open Ieee

theorem ifB_true (p q : Prop) : ifB true p q = p := rfl
theorem ifB_false (p q : Prop) : ifB false p q = q := rfl
theorem ifB_of {b : Bool} {p q : Prop} (h1 : b = true → p) (h2 : b = false → q) : ifB b p q := by
  cases b
  · exact h2 rfl
  · exact h1 rfl
theorem wrap64 {x : Int} (h1 : -9223372036854775808 ≤ x) (h2 : x < 9223372036854775808) : Go.IntKind.wrap .i64 x = x := by
  have e : Go.IntKind.wrap .i64 x = if (true && decide (x % 18446744073709551616 ≥ 9223372036854775808)) = true then x % 18446744073709551616 - 18446744073709551616 else x % 18446744073709551616 := rfl
  rw [e]
  by_cases h : x % 18446744073709551616 ≥ 9223372036854775808
  · simp only [h, decide_true, Bool.true_and, if_true]; omega
  · simp only [h, decide_false, Bool.true_and]; simp only [Bool.false_eq_true, if_false]; omega
theorem wrapu64 {x : Int} (h1 : 0 ≤ x) (h2 : x < 18446744073709551616) : Go.IntKind.wrap .u64 x = x := by
  have e : Go.IntKind.wrap .u64 x = if (false && decide (x % 18446744073709551616 ≥ 9223372036854775808)) = true then x % 18446744073709551616 - 18446744073709551616 else x % 18446744073709551616 := rfl
  rw [e]
  simp only [Bool.false_and, Bool.false_eq_true, if_false]
  omega
theorem down {Q : Nat → Prop} {n : Nat} (h1 : Q n) (h2 : ∀ i, i < n → Q (i + 1) → Q i) : ∀ i, i ≤ n → Q i := by
  have key : ∀ d, d ≤ n → Q (n - d) := by
    intro d
    induction d with
    | zero => intro _; exact h1
    | succ d ih =>
      intro hd
      have := ih (by omega)
      refine h2 _ (by omega) ?_
      rw [show n - (d + 1) + 1 = n - d by omega]; exact this
  intro i hi
  have := key (n - i) (by omega)
  rwa [show n - (n - i) = i by omega] at this

/-- a finite number -/
def fin (k : FloatKind) (x : Nat) : Bool := match k.decode x with
  | .number _ _ _ => true
  | _ => false

theorem order_self (d : Datum) : d.order d = if d.isNaN then none else some .eq := by
  cases d <;> simp [Datum.order, Datum.isNaN]
theorem forder_self (k : FloatKind) (x : Nat) : forder k x x = if isNaNW k x then none else some .eq := order_self _
theorem fne_self (k : FloatKind) (x : Nat) : fne k x x = isNaNW k x := by
  unfold fne; rw [forder_self]; cases isNaNW k x <;> rfl
theorem feq_self (k : FloatKind) (x : Nat) : feq k x x = !isNaNW k x := by
  unfold feq; rw [forder_self]; cases isNaNW k x <;> rfl

theorem feq_zero (k : FloatKind) : feq k 0 0 = true := by cases k <;> decide
theorem sub_self (k : FloatKind) (x : Nat) : feq k (farith .sub k x x) 0 = fin k x := by
  unfold fin farith
  cases hd : k.decode x with
  | number s m e =>
    have e' : k.format.read x = .number s m e := hd
    have h0 : floatBits .sub k x x = some 0 := by
      have hs : (Datum.number s m e).sum (Datum.number s m e).opposite = some (.number false 0 e) := by
        have ht : signed s m 0 + signed (!s) m 0 = 0 := by cases s <;> simp [signed] <;> omega
        simp [Datum.opposite, Datum.sum, ht]
      simp only [floatBits, Format.sub, e', hs]
      simp [Format.write, Format.nearest, Format.word]
    rw [h0]; exact feq_zero k
  | infinity s =>
    have e' : k.format.read x = .infinity s := hd
    have h0 : floatBits .sub k x x = none := by cases s <;> simp [floatBits, Format.sub, e', Datum.opposite, Datum.sum]
    rw [h0]
    unfold feq
    rw [show (none : Option Nat).getD (nanW k) = nanW k from rfl, forder_nan_left (isNaNW_nan k)]; rfl
  | nan s t =>
    have h0 : floatBits .sub k x x = none := floatBits_nan_left _ (by simp [isNaNW, hd, Datum.isNaN])
    rw [h0]
    unfold feq
    rw [show (none : Option Nat).getD (nanW k) = nanW k from rfl, forder_nan_left (isNaNW_nan k)]; rfl

theorem fin_notNaN {k : FloatKind} {x : Nat} (h : fin k x = true) : isNaNW k x = false := by
  unfold fin at h; unfold isNaNW
  cases hd : k.decode x <;> simp [hd] at h <;> rfl

/-! ### up -/
theorem read_word {f : Format} {a : Bool} {r : Nat} (h : r ≤ f.infRung) : f.read (f.word a r) = if r < f.binade then .number a r f.leastPlace else if r < f.infRung then .number a (f.binade + r % f.binade) (f.leastPlace + (r / f.binade - 1 : Nat)) else .infinity a := by
  have hlt := f.infRung_lt
  have hp : 0 < f.signWeight := by omega
  have e1 : f.word a r % f.signWeight = r := by
    unfold Format.word
    split
    · rw [Nat.add_mod_left, Nat.mod_eq_of_lt (by omega)]
    · exact Nat.mod_eq_of_lt (by omega)
  have e2 : (f.word a r / f.signWeight % 2 == 1) = a := by
    unfold Format.word
    cases a
    · simp [Nat.div_eq_of_lt (show r < f.signWeight by omega)]
    · simp [Nat.add_div_left _ hp, Nat.div_eq_of_lt (show r < f.signWeight by omega)]
  unfold Format.read
  simp only [e1, e2]
  split
  · rfl
  · split
    · rfl
    · rw [if_pos (by omega)]
theorem read_word_lt {f : Format} {a : Bool} {r : Nat} (h : r < f.infRung) : ∃ m e, f.read (f.word a r) = .number a m e := by
  rw [read_word (by omega)]
  split
  · exact ⟨_, _, rfl⟩
  · exact ⟨_, _, rfl⟩
theorem binade_le {f : Format} (h : 2 ≤ f.exponentBits) : f.binade ≤ f.infRung := by
  unfold Format.infRung
  have : 1 ≤ 2 ^ f.exponentBits - 1 := by
    have : 2 ^ 2 ≤ 2 ^ f.exponentBits := Nat.pow_le_pow_right (by decide) h
    omega
  exact Nat.le_mul_of_pos_left _ this
theorem read_inf (k : FloatKind) (a : Bool) : k.decode (k.encode (.infinity a)) = .infinity a := by
  show k.format.read (k.format.word a k.format.infRung) = _
  rw [read_word (Nat.le_refl _), if_neg (by have := binade_le (f := k.format) (by cases k <;> decide); omega), if_neg (Nat.lt_irrefl _)]

theorem decode_up (x : Nat) : match FloatKind.decode .f32 x with
    | .number a _ _ => ∃ m e, FloatKind.decode .f64 (fconv .f32 .f64 x) = .number a m e
    | .infinity a => FloatKind.decode .f64 (fconv .f32 .f64 x) = .infinity a
    | .nan _ _ => isNaNW .f64 (fconv .f32 .f64 x) = true := by
  unfold fconv
  rw [if_neg (by decide)]
  cases hd : FloatKind.decode .f32 x with
  | number a m e =>
    obtain ⟨r, h1, h2⟩ := double_nearest_fin (a := a) (single_read_bounds (x := x) hd)
    show ∃ m' e', double.read (double.nearest a m e) = _
    rw [h1]
    exact read_word_lt h2
  | infinity a => exact read_inf .f64 a
  | nan a t => exact isNaNW_nan .f64
theorem fin_up (x : Nat) : fin .f64 (fconv .f32 .f64 x) = fin .f32 x := by
  have := decode_up x
  unfold fin
  cases hd : FloatKind.decode .f32 x <;> rw [hd] at this
  · obtain ⟨m, e, h⟩ := this; rw [h]
  · simp only at this; rw [this]
  · obtain ⟨s, t, h⟩ := decode_nan this; rw [h]
theorem isNaN_up (x : Nat) : isNaNW .f64 (fconv .f32 .f64 x) = isNaNW .f32 x := by
  have := decode_up x
  unfold isNaNW
  cases hd : FloatKind.decode .f32 x <;> rw [hd] at this
  · obtain ⟨m, e, h⟩ := this; rw [h]; rfl
  · simp only at this; rw [this]
  · exact this
theorem fconv_notNaN {s k : FloatKind} {x : Nat} (h : isNaNW s x = false) : isNaNW k (fconv s k x) = false := by
  unfold fconv
  split
  · rename_i e; subst e; exact h
  · split
    · rename_i hd; simp [isNaNW, hd, Datum.isNaN] at h
    · rename_i d hd hn
      exact encode_notNaN k _ (by unfold isNaNW at h; exact h)

/-! ### the absolute value, and what is infinite -/
theorem abs_bits (y : Nat) : ibits BinOp.andNot .u64 (y : Int) 9223372036854775808 = ((y % 9223372036854775808 : Nat) : Int) := by
  have key : ibits BinOp.andNot .u64 (y : Int) 9223372036854775808 = IntKind.wrap .u64 ((BitVec.ofInt 64 (y : Int) &&& ~~~ BitVec.ofInt 64 9223372036854775808).toNat : Int) := rfl
  have h1 : ~~~ (BitVec.ofInt 64 9223372036854775808) = BitVec.ofNat 64 (2 ^ 63 - 1) := by decide
  have h3 : (BitVec.ofInt 64 (y : Int) &&& BitVec.ofNat 64 (2 ^ 63 - 1)).toNat = y % 9223372036854775808 := by
    rw [BitVec.ofInt_natCast, BitVec.toNat_and, BitVec.toNat_ofNat, BitVec.toNat_ofNat, Nat.mod_eq_of_lt (a := 2 ^ 63 - 1) (by decide), Nat.and_two_pow_sub_one_eq_mod]
    omega
  rw [key, h1, h3]
  exact wrapu64 (by omega) (by omega)
theorem read_abs (y : Nat) : double.read (y % 9223372036854775808) = match double.read y with
    | .number _ m e => .number false m e
    | .infinity _ => .infinity false
    | .nan _ t => .nan false t := by
  have hs : double.signWeight = 9223372036854775808 := rfl
  unfold Format.read
  rw [hs]
  have e1 : y % 9223372036854775808 % 9223372036854775808 = y % 9223372036854775808 := Nat.mod_mod _ _
  have e2 : (y % 9223372036854775808 / 9223372036854775808 % 2 == 1) = false := by
    rw [Nat.div_eq_of_lt (Nat.mod_lt _ (by decide))]; rfl
  simp only [e1, e2]
  split
  · rfl
  · split
    · rfl
    · split <;> rfl
theorem double_read_bounds {x : Nat} {a : Bool} {m : Nat} {e : Int} (h : double.read x = .number a m e) : m ≤ 9007199254740991 ∧ -1074 ≤ e ∧ e ≤ 971 := by
  have hB : double.binade = 4503599627370496 := rfl
  have hI : double.infRung = 9218868437227405312 := rfl
  have hP : double.leastPlace = -1074 := rfl
  unfold Format.read at h
  rw [hB, hI, hP] at h
  generalize x % double.signWeight = r at h
  dsimp only at h
  split at h
  · cases h; refine ⟨by omega, by decide, by decide⟩
  · split at h
    · cases h
      refine ⟨by omega, by omega, by omega⟩
    · split at h <;> cases h
theorem isInf_bits {y : Nat} (h : isNaNW .f64 y = false) : fgt .f64 (cF .f64 (Int.toNat (ibits BinOp.andNot .u64 (y : Int) 9223372036854775808))) 9218868437227405311 = !fin .f64 y := by
  rw [abs_bits, Int.toNat_natCast]
  have hr := read_abs y
  have hm : double.read 9218868437227405311 = .number false 9007199254740991 971 := by decide
  have hn : isNaNW .f64 (y % 9223372036854775808) = false := by
    unfold isNaNW at h ⊢
    show (double.read (y % 9223372036854775808)).isNaN = false
    rw [hr]
    have h' : (double.read y).isNaN = false := h
    cases hd : double.read y <;> rw [hd] at h' <;> first | rfl | cases h'
  rw [cF_of_not hn]
  unfold fgt forder Format.order fin
  show ((double.read (y % 9223372036854775808)).order (double.read 9218868437227405311) == some .gt) = !(match double.read y with | .number _ _ _ => true | _ => false)
  rw [hm, hr]
  cases hd : double.read y with
  | number a m e =>
    obtain ⟨h1, h2, h3⟩ := double_read_bounds hd
    simp only [Datum.order]
    have hb : min e 971 = e := by omega
    rw [hb, show (e - e).toNat = 0 by omega]
    have e1 : signed false m 0 = (m : Int) := by simp [signed]
    have e2 : (9007199254740991 : Int) ≤ signed false 9007199254740991 (971 - e).toNat := by
      simp only [signed, Nat.shiftLeft_eq]
      have : 1 ≤ 2 ^ (971 - e).toNat := Nat.one_le_two_pow
      have := Nat.mul_le_mul_left 9007199254740991 this
      simp only [Bool.false_eq_true, if_false]
      omega
    rw [e1]
    have e3 : (m : Int) ≤ signed false 9007199254740991 (971 - e).toNat := by omega
    generalize signed false 9007199254740991 (971 - e).toNat = z at e3
    have : compare (m : Int) z ≠ .gt := by
      show compareOfLessAndEq (m : Int) z ≠ .gt
      unfold compareOfLessAndEq
      split
      · simp
      · split
        · simp
        · omega
    cases hc : compare (m : Int) z <;> simp_all
  | infinity a => rfl
  | nan a t => 
    have h' : (double.read y).isNaN = false := h
    rw [hd] at h'; cases h'

/-! ### whole numbers as floats -/
theorem rung_aux {L kept B I : Nat} (hbin : B = 4503599627370496) (hinf : I = 9218868437227405312) (hl : L < 53) (h1 : 4503599627370496 ≤ kept) (h2 : kept < 9007199254740992) :
    (1022 + L) * B + kept < I ∧ ¬ (1022 + L) * B + kept < B ∧ B + ((1022 + L) * B + kept) % B = kept ∧ ((1022 + L) * B + kept) / B = 1023 + L := by
  subst hbin
  subst hinf
  refine ⟨by omega, by omega, by omega, by omega⟩
theorem read_rung {L kept : Nat} (hl : L < 53) (h1 : 4503599627370496 ≤ kept) (h2 : kept < 9007199254740992) : double.read (double.word false (min ((1022 + L) * double.binade + kept) double.infRung)) = .number false kept ((L : Int) - 52) := by
  have hP : double.leastPlace = -1074 := rfl
  obtain ⟨e4, e5, e6, e7⟩ := rung_aux (B := double.binade) (I := double.infRung) rfl rfl hl h1 h2
  rw [Nat.min_eq_left (Nat.le_of_lt e4), read_word (Nat.le_of_lt e4), if_neg e5, if_pos e4, e6, e7, hP]
  have e8 : (-1074 : Int) + ((1023 + L - 1 : Nat) : Int) = (L : Int) - 52 := by omega
  rw [e8]
theorem decode_fofint {n : Nat} (h0 : 0 < n) (h : n < 2 ^ 53) : FloatKind.decode .f64 (fofint .f64 (n : Int)) = .number false (n * 2 ^ (52 - n.log2)) ((n.log2 : Int) - 52) := by
  show double.read (double.nearest (decide ((n : Int) < 0)) (n : Int).natAbs 0) = _
  have hneg : decide ((n : Int) < 0) = false := by simp
  rw [hneg, Int.natAbs_natCast]
  have hl : n.log2 < 53 := (Nat.log2_lt (by omega)).2 h
  have hlm : n < 2 ^ (n.log2 + 1) := Nat.lt_log2_self
  have hle : 2 ^ n.log2 ≤ n := Nat.log2_self_le (by omega)
  have elast : max ((0 : Int) + (n.log2 : Int) - (double.fractionBits : Int)) double.leastPlace = n.log2 - 52 := by
    simp only [double, Format.leastPlace]; omega
  unfold Format.nearest
  rw [if_neg (by omega)]
  simp only [elast]
  have e1 : ((0 : Int) - ((n.log2 : Int) - 52)).toNat = 52 - n.log2 := by omega
  have e2 : ((n.log2 : Int) - 52 - 0).toNat = 0 := by omega
  rw [e1, e2]
  have ecut : ∀ n, Toward.even.cut false n 0 = n := by
    intro n
    simp [Toward.cut, Nat.mod_one]
  rw [ecut, Nat.shiftLeft_eq]
  have hb : n * 2 ^ (52 - n.log2) < 2 ^ 53 := by
    calc n * 2 ^ (52 - n.log2) < 2 ^ (n.log2 + 1) * 2 ^ (52 - n.log2) := Nat.mul_lt_mul_of_pos_right hlm (Nat.pow_pos (by decide))
      _ = 2 ^ 53 := by rw [← Nat.pow_add]; congr 1; omega
  have hb2 : 2 ^ 52 ≤ n * 2 ^ (52 - n.log2) := by
    calc 2 ^ 52 = 2 ^ n.log2 * 2 ^ (52 - n.log2) := by rw [← Nat.pow_add]; congr 1; omega
      _ ≤ n * 2 ^ (52 - n.log2) := Nat.mul_le_mul_right _ hle
  have h52 : (2 : Nat) ^ 52 = 4503599627370496 := rfl
  have h53 : (2 : Nat) ^ 53 = 9007199254740992 := rfl
  rw [h52] at hb2
  rw [h53] at hb
  generalize n * 2 ^ (52 - n.log2) = kept at *
  have hP : double.leastPlace = -1074 := rfl
  have e3 : ((n.log2 : Int) - 52 - double.leastPlace).toNat = 1022 + n.log2 := by simp only [hP]; omega
  rw [e3]
  exact read_rung hl hb2 hb

theorem rung_aux1 {L c B I : Nat} (hbin : B = 8388608) (hinf : I = 2139095040) (hl : L < 53) (h1 : c ≤ 16777216) : (126 + L) * B + c < I := by
  subst hbin
  subst hinf
  omega
theorem fits_fofint {n : Nat} (h : n < 2 ^ 53) : fitsF .f64 .f32 (fofint .f64 (n : Int)) = true := by
  unfold fitsF
  simp only [Bool.or_eq_true]
  right
  rcases Nat.eq_zero_or_pos n with rfl | h0
  · have : FloatKind.decode .f64 (fofint .f64 ((0 : Nat) : Int)) = .number false 0 (-1074) := by decide
    rw [this]; decide
  · rw [decode_fofint h0 h]
    have hl : n.log2 < 53 := (Nat.log2_lt (by omega)).2 h
    have hlm : n < 2 ^ (n.log2 + 1) := Nat.lt_log2_self
    have hle : 2 ^ n.log2 ≤ n := Nat.log2_self_le (by omega)
    have hb : n * 2 ^ (52 - n.log2) < 2 ^ 53 := by
      calc n * 2 ^ (52 - n.log2) < 2 ^ (n.log2 + 1) * 2 ^ (52 - n.log2) := Nat.mul_lt_mul_of_pos_right hlm (Nat.pow_pos (by decide))
        _ = 2 ^ 53 := by rw [← Nat.pow_add]; congr 1; omega
    have hb2 : 2 ^ 52 ≤ n * 2 ^ (52 - n.log2) := by
      calc 2 ^ 52 = 2 ^ n.log2 * 2 ^ (52 - n.log2) := by rw [← Nat.pow_add]; congr 1; omega
        _ ≤ n * 2 ^ (52 - n.log2) := Nat.mul_le_mul_right _ hle
    generalize n * 2 ^ (52 - n.log2) = m at *
    generalize n.log2 = L at *
    have hm : m.log2 = 52 := by
      have h1 : m.log2 < 53 := (Nat.log2_lt (by omega)).2 hb
      have h2 : ¬ m.log2 < 52 := fun hc => by
        have := (Nat.log2_lt (by omega)).1 hc
        omega
      omega
    show (!(single.read (single.nearest false m ((L : Int) - 52))).isInfinity) = true
    unfold Format.nearest
    rw [if_neg (by omega)]
    have elast : max ((L : Int) - 52 + (m.log2 : Int) - (single.fractionBits : Int)) single.leastPlace = (L : Int) - 23 := by
      rw [hm]; simp only [single, Format.leastPlace]; omega
    simp only [elast]
    have e1 : ((L : Int) - 52 - ((L : Int) - 23)).toNat = 0 := by omega
    have e2 : ((L : Int) - 23 - ((L : Int) - 52)).toNat = 29 := by omega
    rw [e1, e2]
    have ec : Toward.even.cut false (m <<< 0) 29 ≤ 16777216 := by
      simp only [Toward.cut, Nat.shiftLeft_zero, hm]
      have : (1 <<< min 29 (52 + 2)) = 536870912 := by decide
      rw [this]
      have : m / 536870912 < 16777216 := by omega
      generalize (decide (536870912 < 2 * (m % 536870912)) || (536870912 == 2 * (m % 536870912) && m / 536870912 % 2 == 1)) = b
      cases b <;> simp <;> omega
    generalize Toward.even.cut false (m <<< 0) 29 = c at *
    have hP : single.leastPlace = -149 := rfl
    have e3 : ((L : Int) - 23 - single.leastPlace).toNat = 126 + L := by simp only [hP]; omega
    rw [e3]
    have e4 := rung_aux1 (B := single.binade) (I := single.infRung) rfl rfl hl ec
    rw [Nat.min_eq_left (Nat.le_of_lt e4)]
    obtain ⟨m', e', h⟩ := read_word_lt (f := single) (a := false) e4
    rw [h]; rfl

/-- the mark of a number -/
def mkF (n : Nat) : Nat := fconv .f64 .f32 (fofint .f64 (n : Int))
theorem fofint_notNaN (n : Int) : isNaNW .f64 (fofint .f64 n) = false := encode_notNaN .f64 (.number (n < 0) n.natAbs 0) rfl
theorem feq_mkF (n : Nat) : feq .f32 (mkF n) (mkF n) = true := by
  rw [feq_self]
  unfold mkF
  rw [fconv_notNaN (fofint_notNaN _)]; rfl
end Go.K
