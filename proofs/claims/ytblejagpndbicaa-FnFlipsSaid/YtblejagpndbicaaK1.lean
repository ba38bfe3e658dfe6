/- Canonical floats: the words of a float kind up to the choice of a not-a-number. -/
import Derived.Laws.FloatArith
import Derived.Laws.ComplexArith
import Derived.Deep.Draws
import GoSem.Extern.MathSqrt
import GoSem.Extern.MathFloor
namespace Go.K
open Ieee

/-- the one word that stands for every not-a-number -/
def nanW : FloatKind → Nat
  | .f32 => 2143289344
  | .f64 => 9221120237041090560

def isNaNW (k : FloatKind) (b : Nat) : Bool := (k.decode b).isNaN

/-- a word, all not-a-numbers as one -/
def cF (k : FloatKind) (b : Nat) : Nat := if isNaNW k b then nanW k else b

theorem isNaNW_nan (k : FloatKind) : isNaNW k (nanW k) = true := by cases k <;> decide

theorem cF_of_nan {k : FloatKind} {b : Nat} (h : isNaNW k b = true) : cF k b = nanW k := by simp [cF, h]
theorem cF_of_not {k : FloatKind} {b : Nat} (h : isNaNW k b = false) : cF k b = b := by simp [cF, h]

theorem isNaNW_cF (k : FloatKind) (b : Nat) : isNaNW k (cF k b) = isNaNW k b := by
  unfold cF
  split
  · rename_i h; rw [isNaNW_nan, h]
  · rfl

theorem cF_cF (k : FloatKind) (b : Nat) : cF k (cF k b) = cF k b := by
  cases h : isNaNW k b
  · rw [cF_of_not h, cF_of_not h]
  · rw [cF_of_nan h, cF_of_nan (isNaNW_nan k)]

/-! what is written is no NaN -/
theorem read_word_notNaN (k : FloatKind) (neg : Bool) (r : Nat) (h : r ≤ k.format.infRung) : (k.format.read (k.format.word neg r)).isNaN = false := by
  have hlt := k.format.infRung_lt
  have e1 : k.format.word neg r % k.format.signWeight = r := by
    unfold Format.word
    split
    · rw [Nat.add_mod_left, Nat.mod_eq_of_lt (by omega)]
    · exact Nat.mod_eq_of_lt (by omega)
  unfold Format.read
  simp only [e1]
  split
  · rfl
  · split
    · rfl
    · have : r = k.format.infRung := by omega
      simp [this, Datum.isNaN]

theorem read_write_notNaN (k : FloatKind) (d : Datum) (h : d.isNaN = false) : (k.format.read (k.format.write d)).isNaN = false := by
  cases d with
  | number neg mag place =>
    unfold Format.write Format.nearest
    dsimp only
    split
    · exact read_word_notNaN k _ _ (Nat.zero_le _)
    · exact read_word_notNaN k _ _ (Nat.min_le_right ..)
  | infinity neg => exact read_word_notNaN k _ _ (Nat.le_refl _)
  | nan neg fraction => simp [Datum.isNaN] at h

theorem encode_notNaN (k : FloatKind) (d : Datum) (h : d.isNaN = false) : isNaNW k (k.encode d) = false := read_write_notNaN k d h

theorem sum_notNaN {a b d : Datum} (h : a.sum b = some d) : d.isNaN = false := by
  unfold Datum.sum at h
  split at h <;> first | (cases h; rfl) | (split at h <;> cases h <;> rfl) | cases h

theorem product_notNaN {a b d : Datum} (h : a.product b = some d) : d.isNaN = false := by
  unfold Datum.product at h
  split at h <;> first | (cases h; rfl) | (split at h <;> cases h <;> rfl) | cases h

theorem quotient_notNaN {n : Nat} {a b d : Datum} (h : Datum.quotient n a b = some d) : d.isNaN = false := by
  unfold Datum.quotient at h
  split at h <;> first | (cases h; rfl) | ((repeat' split at h) <;> cases h <;> rfl) | cases h

theorem root_notNaN {n : Nat} {a d : Datum} (h : Datum.root n a = some d) : d.isNaN = false := by
  unfold Datum.root at h
  split at h <;> first | (cases h; rfl) | ((repeat' split at h) <;> first | (cases h; rfl) | cases h) | cases h

theorem opposite_isNaN (d : Datum) : d.opposite.isNaN = d.isNaN := by cases d <;> rfl

theorem decode_nan {k : FloatKind} {b : Nat} (h : isNaNW k b = true) : ∃ s t, k.decode b = .nan s t := by
  unfold isNaNW at h
  cases hd : k.decode b <;> simp [hd, Datum.isNaN] at h
  exact ⟨_, _, rfl⟩

theorem sum_nan_left {s : Bool} {t : Nat} (d : Datum) : (Datum.nan s t).sum d = none := by cases d <;> rfl
theorem sum_nan_right {s : Bool} {t : Nat} (d : Datum) : d.sum (Datum.nan s t) = none := by cases d <;> rfl
theorem product_nan_left {s : Bool} {t : Nat} (d : Datum) : (Datum.nan s t).product d = none := by cases d <;> rfl
theorem product_nan_right {s : Bool} {t : Nat} (d : Datum) : d.product (Datum.nan s t) = none := by cases d <;> rfl
theorem quotient_nan_left {n : Nat} {s : Bool} {t : Nat} (d : Datum) : Datum.quotient n (Datum.nan s t) d = none := by cases d <;> rfl
theorem quotient_nan_right {n : Nat} {s : Bool} {t : Nat} (d : Datum) : Datum.quotient n d (Datum.nan s t) = none := by cases d <;> rfl

def isArith : BinOp → Bool
  | .add | .sub | .mul | .quo => true
  | _ => false

theorem floatBits_nan_left (op : BinOp) {k : FloatKind} {x y : Nat} (h : isNaNW k x = true) : floatBits op k x y = none := by
  obtain ⟨s, t, e⟩ := decode_nan h
  have e' : k.format.read x = .nan s t := e
  cases op <;> simp [floatBits, Format.add, Format.sub, Format.mul, Format.div, e', sum_nan_left, product_nan_left, quotient_nan_left]

theorem floatBits_nan_right (op : BinOp) {k : FloatKind} {x y : Nat} (h : isNaNW k y = true) : floatBits op k x y = none := by
  obtain ⟨s, t, e⟩ := decode_nan h
  have e' : k.format.read y = .nan s t := e
  cases op <;> simp [floatBits, Format.add, Format.sub, Format.mul, Format.div, e', Datum.opposite, sum_nan_right, product_nan_right, quotient_nan_right]

theorem floatBits_cF (op : BinOp) (k : FloatKind) (x y : Nat) : floatBits op k (cF k x) (cF k y) = floatBits op k x y := by
  cases hx : isNaNW k x
  · cases hy : isNaNW k y
    · rw [cF_of_not hx, cF_of_not hy]
    · rw [floatBits_nan_right op hy, floatBits_nan_right op (by rw [isNaNW_cF]; exact hy)]
  · rw [floatBits_nan_left op hx, floatBits_nan_left op (by rw [isNaNW_cF]; exact hx)]

theorem floatBits_notNaN {op : BinOp} {k : FloatKind} {x y r : Nat} (h : floatBits op k x y = some r) : isNaNW k r = false := by
  have key : ∀ {o : Option Datum}, (∀ d, o = some d → d.isNaN = false) → o.map k.format.write = some r → isNaNW k r = false := by
    intro o ho hm
    cases o with
    | none => cases hm
    | some d => cases hm; exact encode_notNaN k d (ho d rfl)
  cases op <;> simp only [floatBits] at h <;> first | cases h | skip
  · exact key (fun d e => sum_notNaN e) h
  · exact key (fun d e => sum_notNaN e) h
  · exact key (fun d e => product_notNaN e) h
  · exact key (fun d e => quotient_notNaN e) h

/-- '+', '-', '*', '/' on canonical words -/
def farith (op : BinOp) (k : FloatKind) (x y : Nat) : Nat := (floatBits op k x y).getD (nanW k)

theorem farith_cF (op : BinOp) (k : FloatKind) (x y : Nat) : farith op k (cF k x) (cF k y) = farith op k x y := by simp [farith, floatBits_cF]

/-- an answer of the tape that stands for a NaN is one -/
theorem nan_of_cut (k : FloatKind) (t : Nat) : isNaNW k (match k with
    | .f32 => (t % 2) * 2 ^ 31 + 0x7f800000 + 1 + (t / 2) % (2 ^ 23 - 1)
    | .f64 => (t % 2) * 2 ^ 63 + 0x7ff0000000000000 + 1 + (t / 2) % (2 ^ 52 - 1)) = true := by
  cases k
  · have h1 : (t / 2) % (2 ^ 23 - 1) < 2 ^ 23 - 1 := Nat.mod_lt _ (by decide)
    have h2 : t % 2 < 2 := Nat.mod_lt _ (by decide)
    generalize (t / 2) % (2 ^ 23 - 1) = u at *
    generalize t % 2 = v at *
    simp only [isNaNW, FloatKind.decode, FloatKind.format, Format.read, single, Format.signWeight, Format.binade, Format.infRung]
    have e : (v * 2 ^ 31 + 0x7f800000 + 1 + u) % 2 ^ (8 + 23) = 0x7f800000 + 1 + u := by omega
    simp only [e]
    rw [if_neg (by omega), if_neg (by omega), if_neg (by omega)]
    rfl
  · have h1 : (t / 2) % (2 ^ 52 - 1) < 2 ^ 52 - 1 := Nat.mod_lt _ (by decide)
    have h2 : t % 2 < 2 := Nat.mod_lt _ (by decide)
    generalize (t / 2) % (2 ^ 52 - 1) = u at *
    generalize t % 2 = v at *
    simp only [isNaNW, FloatKind.decode, FloatKind.format, Format.read, double, Format.signWeight, Format.binade, Format.infRung]
    have e : (v * 2 ^ 63 + 0x7ff0000000000000 + 1 + u) % 2 ^ (11 + 52) = 0x7ff0000000000000 + 1 + u := by omega
    simp only [e]
    rw [if_neg (by omega), if_neg (by omega), if_neg (by omega)]
    rfl

theorem nan_nanBits (k : FloatKind) (x y t : Nat) : isNaNW k ((Question.nanBits k x y).cut t) = true := by
  have := nan_of_cut k t
  cases k <;> exact this
theorem nan_nanConv (k : FloatKind) (b t : Nat) : isNaNW k ((Question.nanConv k b).cut t) = true := by
  have := nan_of_cut k t
  cases k <;> exact this
theorem nan_nanMinMax (k : FloatKind) (m : Bool) (x y t : Nat) : isNaNW k ((Question.nanMinMax k m x y).cut t) = true := by
  have := nan_of_cut k t
  cases k <;> exact this

section
variable {P : Program} (w : World)

theorem run_choose {q : Question} (hq : q.forced = false) : (choose q).run P w = .ok (q.cut (w.tape w.drawn q)) (w.drewN 1) := by
  simp [choose, Sem.run, hq, World.drewN]

theorem run_floatArith (op : BinOp) (hop : isArith op = true) (k : FloatKind) (a b : Nat) :
    ∃ r n, (Op.floatArith op k a b).run P w = .ok (.float k r) (w.drewN n) ∧ cF k r = farith op k (cF k a) (cF k b) := by
  rw [farith_cF]
  cases h : floatBits op k a b with
  | some r =>
    refine ⟨r, 0, ?_, by rw [cF_of_not (floatBits_notNaN h)]; simp [farith, h]⟩
    cases op <;> simp [isArith] at hop <;> simp only [floatBits] at h <;> simp [Op.floatArith, h, World.drewN]
  | none =>
    refine ⟨(Question.nanBits k a b).cut (w.tape w.drawn (Question.nanBits k a b)), 1, ?_, ?_⟩
    · cases op <;> simp [isArith] at hop <;> simp only [floatBits] at h <;>
        simp [Op.floatArith, h, run_choose (P := P) w (q := .nanBits k a b) rfl]
    · rw [cF_of_nan (nan_nanBits _ _ _ _)]; simp [farith, h]

end

/-! ### comparisons -/
def forder (k : FloatKind) (x y : Nat) : Option Ordering := k.format.order x y

theorem order_nan_left {s : Bool} {t : Nat} (d : Datum) : (Datum.nan s t).order d = none := by cases d <;> rfl
theorem order_nan_right {s : Bool} {t : Nat} (d : Datum) : d.order (Datum.nan s t) = none := by cases d <;> rfl

theorem forder_nan_left {k : FloatKind} {x y : Nat} (h : isNaNW k x = true) : forder k x y = none := by
  obtain ⟨s, t, e⟩ := decode_nan h
  have e' : k.format.read x = .nan s t := e
  simp [forder, Format.order, e', order_nan_left]
theorem forder_nan_right {k : FloatKind} {x y : Nat} (h : isNaNW k y = true) : forder k x y = none := by
  obtain ⟨s, t, e⟩ := decode_nan h
  have e' : k.format.read y = .nan s t := e
  simp [forder, Format.order, e', order_nan_right]
theorem forder_cF (k : FloatKind) (x y : Nat) : forder k (cF k x) (cF k y) = forder k x y := by
  cases hx : isNaNW k x
  · cases hy : isNaNW k y
    · rw [cF_of_not hx, cF_of_not hy]
    · rw [forder_nan_right hy, forder_nan_right (by rw [isNaNW_cF]; exact hy)]
  · rw [forder_nan_left hx, forder_nan_left (by rw [isNaNW_cF]; exact hx)]

def feq (k : FloatKind) (x y : Nat) : Bool := forder k x y == some .eq
def fne (k : FloatKind) (x y : Nat) : Bool := forder k x y != some .eq
def flt (k : FloatKind) (x y : Nat) : Bool := forder k x y == some .lt
def fle (k : FloatKind) (x y : Nat) : Bool := forder k x y == some .lt || forder k x y == some .eq
def fgt (k : FloatKind) (x y : Nat) : Bool := forder k x y == some .gt
def fge (k : FloatKind) (x y : Nat) : Bool := forder k x y == some .gt || forder k x y == some .eq

/-! ### conversions -/
/-- the nearest float of the other kind (a NaN of a NaN) -/
def fconv (s k : FloatKind) (x : Nat) : Nat :=
  if s = k then x else match s.decode x with
    | .nan _ _ => nanW k
    | d => k.encode d

/-- a finite number is not too great for the other kind -/
def fitsF (s k : FloatKind) (x : Nat) : Bool :=
  s == k || match s.decode x with
    | .number a m e => !(k.decode (k.encode (.number a m e))).isInfinity
    | _ => true

theorem decode_cF_of_not {k : FloatKind} {x : Nat} (h : isNaNW k x = false) : k.decode (cF k x) = k.decode x := by rw [cF_of_not h]

theorem fconv_cF (s k : FloatKind) (x : Nat) : cF k (fconv s k x) = fconv s k (cF s x) := by
  unfold fconv
  by_cases e : s = k
  · subst e; simp
  · simp only [e, if_false]
    cases h : isNaNW s x
    · rw [cF_of_not h]
      cases hd : s.decode x with
      | nan a b => simp [isNaNW, hd, Datum.isNaN] at h
      | number a m p => exact cF_of_not (encode_notNaN k _ rfl)
      | infinity a => exact cF_of_not (encode_notNaN k _ rfl)
    · rw [cF_of_nan h]
      obtain ⟨a, b, hd⟩ := decode_nan h
      obtain ⟨a', b', hd'⟩ := decode_nan (isNaNW_nan s)
      simp [hd, hd', cF_of_nan (isNaNW_nan k)]

theorem fitsF_cF (s k : FloatKind) (x : Nat) : fitsF s k (cF s x) = fitsF s k x := by
  cases h : isNaNW s x
  · rw [cF_of_not h]
  · rw [cF_of_nan h]
    obtain ⟨a, b, hd⟩ := decode_nan h
    obtain ⟨a', b', hd'⟩ := decode_nan (isNaNW_nan s)
    simp [fitsF, hd, hd']

theorem run_floatToFloat' {P : Program} (w : World) (s k : FloatKind) (x : Nat) (hf : fitsF s k (cF s x) = true) :
    ∃ r n, (Conv.floatToFloat s x k).run P w = .ok (.float k r) (w.drewN n) ∧ cF k r = fconv s k (cF s x) := by
  rw [← fconv_cF]
  rw [fitsF_cF] at hf
  unfold Conv.floatToFloat fconv
  by_cases e : s = k
  · subst e; exact ⟨x, 0, by simp [World.drewN], by simp⟩
  · simp only [e, if_false]
    cases hd : s.decode x with
    | nan a b =>
      refine ⟨(Question.nanConv k x).cut (w.tape w.drawn (Question.nanConv k x)), 1, ?_, ?_⟩
      · simp [run_choose (P := P) w (q := .nanConv k x) rfl]
      · rw [cF_of_nan (nan_nanConv _ _ _), cF_of_nan (isNaNW_nan k)]
    | infinity a => exact ⟨_, 0, by simp [World.drewN], rfl⟩
    | number a m p =>
      have hs : (s == k) = false := by simpa using e
      have : (k.decode (k.encode (.number a m p))).isInfinity = false := by simpa [fitsF, hd, hs] using hf
      refine ⟨_, 0, ?_, rfl⟩
      simp [this, World.drewN]

/-- an integer as a float -/
def fofint (k : FloatKind) (n : Int) : Nat := k.nearest n
theorem cF_fofint (k : FloatKind) (n : Int) : cF k (fofint k n) = fofint k n := cF_of_not (encode_notNaN k (.number (n < 0) n.natAbs 0) rfl)

/-- a float as an integer: its whole part; 'none' where Go leaves it open -/
def ftoint (s : FloatKind) (x : Nat) (k : IntKind) : Option Int := floatToIntVal s x k
theorem ftoint_cF (s : FloatKind) (x : Nat) (k : IntKind) : ftoint s (cF s x) k = ftoint s x k := by
  cases h : isNaNW s x
  · rw [cF_of_not h]
  · rw [cF_of_nan h]
    obtain ⟨a, b, hd⟩ := decode_nan h
    obtain ⟨a', b', hd'⟩ := decode_nan (isNaNW_nan s)
    simp [ftoint, floatToIntVal, hd, hd', Datum.toInt, Datum.integral]

/-- the opposite -/
def fneg (k : FloatKind) (x : Nat) : Nat := cF k (Op.negFloat k x)

theorem negFloat_mod (k : FloatKind) (b : Nat) : Op.negFloat k b % k.format.signWeight = b % k.format.signWeight := by
  unfold Op.negFloat Format.signWeight
  rw [Nat.xor_mod_two_pow, Nat.mod_self, Nat.xor_zero]

theorem isNaNW_iff (k : FloatKind) (b : Nat) : isNaNW k b = decide (k.format.infRung < b % k.format.signWeight) := by
  have hb : k.format.binade ≤ k.format.infRung := by cases k <;> decide
  unfold isNaNW FloatKind.decode Format.read
  dsimp only
  split
  · simp only [Datum.isNaN]; symm; simp; omega
  · split
    · simp only [Datum.isNaN]; symm; simp; omega
    · split
      · simp only [Datum.isNaN]; symm; simp; omega
      · simp only [Datum.isNaN]; symm; simp; omega

theorem isNaNW_neg (k : FloatKind) (b : Nat) : isNaNW k (Op.negFloat k b) = isNaNW k b := by
  rw [isNaNW_iff, isNaNW_iff, negFloat_mod]

theorem fneg_cF (k : FloatKind) (b : Nat) : cF k (Op.negFloat k b) = fneg k (cF k b) := by
  unfold fneg
  cases h : isNaNW k b
  · rw [cF_of_not h]
  · rw [cF_of_nan (by rw [isNaNW_neg]; exact h), cF_of_nan (by rw [isNaNW_neg, isNaNW_cF]; exact h)]

/-! the square root and the whole parts of 64-bit words -/
def fsqrt (x : Nat) : Nat := (FloatKind.f64.format.sqrt x).getD (nanW .f64)
theorem root_nan {n : Nat} {s : Bool} {t : Nat} : Datum.root n (Datum.nan s t) = none := rfl
theorem sqrt_nan {x : Nat} (h : isNaNW .f64 x = true) : FloatKind.f64.format.sqrt x = none := by
  obtain ⟨s, t, e⟩ := decode_nan h
  have e' : FloatKind.f64.format.read x = .nan s t := e
  simp [Format.sqrt, e', root_nan]
theorem sqrt_cF (x : Nat) : FloatKind.f64.format.sqrt (cF .f64 x) = FloatKind.f64.format.sqrt x := by
  cases h : isNaNW .f64 x
  · rw [cF_of_not h]
  · rw [sqrt_nan h, sqrt_nan (by rw [isNaNW_cF]; exact h)]
theorem sqrt_notNaN {x r : Nat} (h : FloatKind.f64.format.sqrt x = some r) : isNaNW .f64 r = false := by
  unfold Format.sqrt at h
  cases hd : Datum.root (FloatKind.f64.format.fractionBits + 2) (FloatKind.f64.format.read x) with
  | none => simp [hd] at h
  | some d => simp [hd] at h; subst h; exact encode_notNaN .f64 d (root_notNaN hd)
theorem run_sqrt {P : Program} (w : World) (x : Nat) :
    ∃ r n, (Extern.MathSqrt.sqrt #[.float .f64 x]).run P w = .ok (.float .f64 r) (w.drewN n) ∧ cF .f64 r = fsqrt (cF .f64 x) := by
  unfold fsqrt
  rw [sqrt_cF]
  have e : Extern.MathSqrt.sqrt #[.float .f64 x] = (match FloatKind.f64.format.sqrt x with
      | some r => pure (.float .f64 r)
      | none => do pure (.float .f64 (← choose (.nanBits .f64 x x)))) := rfl
  rw [e]
  cases h : FloatKind.f64.format.sqrt x with
  | some r => exact ⟨r, 0, by simp [World.drewN], by rw [cF_of_not (sqrt_notNaN h)]; rfl⟩
  | none =>
    refine ⟨(Question.nanBits .f64 x x).cut (w.tape w.drawn (Question.nanBits .f64 x x)), 1, ?_, ?_⟩
    · simp [run_choose (P := P) w (q := .nanBits .f64 x x) rfl]
    · rw [cF_of_nan (nan_nanBits _ _ _ _)]; rfl

def fwhole (way : Toward) (x : Nat) : Nat :=
  match FloatKind.f64.decode x with
  | .nan _ _ => nanW .f64
  | d => FloatKind.f64.encode (d.integral way)

theorem integral_notNaN (way : Toward) (d : Datum) (h : d.isNaN = false) : (d.integral way).isNaN = false := by
  cases d <;> simp_all [Datum.integral, Datum.isNaN]

theorem quiet_isNaN (s : Bool) (t : Nat) (r : Nat) (_ : FloatKind.f64.decode r = .nan s t) : isNaNW .f64 (FloatKind.f64.encode (.nan s (FloatKind.f64.format.quiet t))) = true := by
  have hq : FloatKind.f64.format.quiet t % 2 ^ 52 ≠ 0 := by
    show (t ||| 2 ^ 51) % 2 ^ 52 ≠ 0
    intro h
    have h1 : Nat.testBit ((t ||| 2 ^ 51) % 2 ^ 52) 51 = true := by
      rw [Nat.testBit_mod_two_pow, Nat.testBit_or, Nat.testBit_two_pow_self]; simp
    rw [h] at h1
    simp at h1
  rw [isNaNW_iff]
  have hb : FloatKind.f64.format.quiet t % 2 ^ 52 < 2 ^ 52 := Nat.mod_lt _ (by decide)
  have e : FloatKind.f64.encode (.nan s (FloatKind.f64.format.quiet t)) % FloatKind.f64.format.signWeight = FloatKind.f64.format.infRung + FloatKind.f64.format.quiet t % 2 ^ 52 := by
    show Format.word double s (double.infRung + FloatKind.f64.format.quiet t % 2 ^ 52) % double.signWeight = _
    have hs : double.signWeight = 9223372036854775808 := by decide
    have hi : double.infRung = 9218868437227405312 := by decide
    have hi' : FloatKind.f64.format.infRung = 9218868437227405312 := by decide
    unfold Format.word
    rw [hs, hi, hi']
    split <;> omega
  rw [e]
  simp
  omega

theorem run_whole {P : Program} (w : World) (name : String) (way : Toward) (x : Nat) :
    ∃ r n, (Extern.MathFloor.toIntegral name way #[.float .f64 x]).run P w = .ok (.float .f64 r) (w.drewN n) ∧ cF .f64 r = fwhole way (cF .f64 x) := by
  have e : Extern.MathFloor.toIntegral name way #[.float .f64 x] = (match FloatKind.f64.decode x with
    | .nan s t =>
      if FloatKind.f64.format.quiet t = t then pure (.float .f64 x) else do
      let kept ← choose (.extern "math.Floor,Ceil,Trunc,RoundToEven.signallingNaN kept" 2)
      pure (.float .f64 (if kept == 1 then x else FloatKind.f64.encode (.nan s (FloatKind.f64.format.quiet t))))
    | d => pure (.float .f64 (FloatKind.f64.encode (d.integral way)))) := rfl
  rw [e]
  cases h : isNaNW .f64 x
  · rw [cF_of_not h]
    unfold fwhole
    cases hd : FloatKind.f64.decode x with
    | nan a b => simp [isNaNW, hd, Datum.isNaN] at h
    | number a m p => exact ⟨_, 0, rfl, cF_of_not (encode_notNaN .f64 _ (integral_notNaN _ _ rfl))⟩
    | infinity a => exact ⟨_, 0, rfl, cF_of_not (encode_notNaN .f64 _ (integral_notNaN _ _ rfl))⟩
  · rw [cF_of_nan h]
    have e2 : fwhole way (nanW .f64) = nanW .f64 := by
      obtain ⟨a', b', hd'⟩ := decode_nan (isNaNW_nan .f64)
      simp [fwhole, hd']
    rw [e2]
    obtain ⟨a, b, hd⟩ := decode_nan h
    rw [hd]
    dsimp only
    split
    · exact ⟨x, 0, rfl, cF_of_nan h⟩
    · let q : Question := .extern "math.Floor,Ceil,Trunc,RoundToEven.signallingNaN kept" 2
      refine ⟨if (q.cut (w.tape w.drawn q)) == 1 then x else FloatKind.f64.encode (.nan a (FloatKind.f64.format.quiet b)), 1, ?_, ?_⟩
      · simp only [Sem.run_bind, run_choose (P := P) w (q := q) rfl, q]
        rfl
      · apply cF_of_nan
        split
        · exact h
        · exact quiet_isNaN a b x hd


section
open Ieee
theorem single_read_bounds {x : Nat} {a : Bool} {m : Nat} {e : Int} (h : single.read x = .number a m e) : m < 2 ^ 24 ∧ -149 ≤ e ∧ e ≤ 104 := by
  have hB : single.binade = 8388608 := rfl
  have hI : single.infRung = 2139095040 := rfl
  have hP : single.leastPlace = -149 := rfl
  unfold Format.read at h
  rw [hB, hI, hP] at h
  generalize x % single.signWeight = r at h
  dsimp only at h
  split at h
  · cases h; refine ⟨by omega, by decide, by decide⟩
  · split at h
    · cases h
      refine ⟨by omega, by omega, by omega⟩
    · split at h <;> cases h

theorem double_nearest_fin {a : Bool} {m : Nat} {e : Int} (h : m < 2 ^ 24 ∧ -149 ≤ e ∧ e ≤ 104) : ∃ r, double.nearest a m e = double.word a r ∧ r < double.infRung := by
  obtain ⟨h1, h2, h3⟩ := h
  unfold Format.nearest
  split
  · exact ⟨0, rfl, by decide⟩
  · rename_i hm
    have hl : m.log2 < 24 := (Nat.log2_lt hm).2 h1
    have hlm : m < 2 ^ (m.log2 + 1) := Nat.lt_log2_self
    have elast : max (e + (m.log2 : Int) - (double.fractionBits : Int)) double.leastPlace = e + m.log2 - 52 := by
      simp only [double, Format.leastPlace]
      omega
    refine ⟨_, rfl, ?_⟩
    simp only [elast]
    have e1 : (e + (m.log2 : Int) - 52 - e).toNat = 0 := by omega
    have e2 : (e - (e + (m.log2 : Int) - 52)).toNat = 52 - m.log2 := by omega
    rw [e1, e2]
    have ecut : ∀ n, Toward.even.cut a n 0 = n := by
      intro n
      simp [Toward.cut, Nat.mod_one]
    rw [ecut, Nat.shiftLeft_eq]
    have hb : m * 2 ^ (52 - m.log2) < 2 ^ 53 := by
      calc m * 2 ^ (52 - m.log2) < 2 ^ (m.log2 + 1) * 2 ^ (52 - m.log2) := Nat.mul_lt_mul_of_pos_right hlm (Nat.pow_pos (by decide))
        _ = 2 ^ 53 := by rw [← Nat.pow_add]; congr 1; omega
    have hbin : double.binade = 2 ^ 52 := rfl
    have hinf : double.infRung = 2047 * 2 ^ 52 := by decide
    have hlast : (e + (m.log2 : Int) - 52 - double.leastPlace).toNat ≤ 1149 := by
      simp only [double, Format.leastPlace]; omega
    rw [hbin, hinf]
    have h53 : (2 : Nat) ^ 53 = 2 * 2 ^ 52 := rfl
    rw [h53] at hb
    have := Nat.mul_le_mul_right (2 ^ 52) hlast
    generalize (2 : Nat) ^ 52 = B at *
    omega

theorem double_read_word_fin {a : Bool} {r : Nat} (h : r < double.infRung) : (double.read (double.word a r)).isInfinity = false := by
  have hinf : double.infRung = 2047 * 2 ^ 52 := by decide
  have e : double.word a r % double.signWeight = r := by
    unfold Format.word
    have : r < double.signWeight := by rw [hinf] at h; simp only [double, Format.signWeight]; omega
    split
    · rw [Nat.add_mod_left, Nat.mod_eq_of_lt this]
    · exact Nat.mod_eq_of_lt this
  unfold Format.read
  simp only [e]
  split
  · rfl
  · rfl

theorem up_fits (x : Nat) : fitsF .f32 .f64 x = true := by
  unfold fitsF
  simp only [Bool.or_eq_true]
  right
  split
  · rename_i a m e h
    obtain ⟨r, h1, h2⟩ := double_nearest_fin (a := a) (single_read_bounds h)
    show (!(double.read (double.nearest a m e)).isInfinity) = true
    rw [h1, double_read_word_fin h2]; rfl
  · rfl
end
end Go.K
