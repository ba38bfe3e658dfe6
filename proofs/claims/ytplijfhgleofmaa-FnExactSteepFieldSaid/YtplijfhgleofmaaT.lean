/- What the functions compute, written out. -/
import Derived.Test.YtplijfhgleofmaaD
import Derived.KernelRfl
set_option maxRecDepth 100000
set_option linter.unusedVariables false
namespace Go.K.melts
open Go.K Go

theorem laws_szFloat32S.tx  (a1 : List Nat) (a2 : Int) (K : Int → Prop) : laws_szFloat32S.bd  a1 a2 K =
  (Go.K.ifB (Decidable.decide (Go.IntKind.wrap Go.IntKind.i64 (a2 - (↑(List.length a1) : Int)) < (0 : Int))) (K (-1 : Int))
  (K (Go.IntKind.wrap Go.IntKind.i64 (a2 - (↑(List.length a1) : Int))))) := by kernel_rfl
theorem laws_szFloat32S.eq (a1 : List Nat) (a2 : Int) (K : Int → Prop) : laws_szFloat32S.wp a1 a2 K =
  (Go.K.ifB (Decidable.decide (Go.IntKind.wrap Go.IntKind.i64 (a2 - (↑(List.length a1) : Int)) < (0 : Int))) (K (-1 : Int))
  (K (Go.IntKind.wrap Go.IntKind.i64 (a2 - (↑(List.length a1) : Int))))) := laws_szFloat32S.tx  a1 a2 K

theorem laws_szField.tx (w_laws_szFloat32S : List Nat → Int → (Int → Prop) → Prop) (a1 : List Nat) (a2 : Int) (a3 : Int) (a4 : Bool) (a5 : Int) (K : Int → Prop) : laws_szField.bd w_laws_szFloat32S a1 a2 a3 a4 a5 K =
  (w_laws_szFloat32S a1 a5 fun y1 => Go.K.ifB (Decidable.decide (y1 < (0 : Int))) (K (-1 : Int)) (K y1)) := by kernel_rfl
theorem laws_szField.eq (a1 : List Nat) (a2 : Int) (a3 : Int) (a4 : Bool) (a5 : Int) (K : Int → Prop) : laws_szField.wp a1 a2 a3 a4 a5 K =
  (Go.K.melts.laws_szFloat32S.wp a1 a5 fun y1 => Go.K.ifB (Decidable.decide (y1 < (0 : Int))) (K (-1 : Int)) (K y1)) := laws_szField.tx laws_szFloat32S.wp a1 a2 a3 a4 a5 K

theorem laws_toFloat32S.tx  (a1 : List Nat) (K : List Nat → Prop) : laws_toFloat32S.bd  a1 K =
  (((0 : Int) ≤ (↑(List.length a1) : Int) ∧ (↑(List.length a1) : Int) ≤ (↑(List.length a1) : Int) ∧ (↑(List.length a1) : Int) ≤ (1099511627776 : Int)) ∧
  ∀ (J1 : List Nat → Int → Prop),
    (∀ (x2 : List Nat) (x3 : Int),
        Go.K.ifB (Decidable.decide (x3 < (↑(List.length a1) : Int)))
            (((0 : Int) ≤ x3 ∧ x3 < (↑(List.length a1) : Int)) ∧
              ((0 : Int) ≤ x3 ∧ x3 < (↑(List.length x2) : Int)) ∧
                J1 (List.set x2 (Int.toNat x3) (List.getD a1 (Int.toNat x3) (0 : Nat))) (Go.IntKind.wrap Go.IntKind.i64 (x3 + (1 : Int))))
            (K x2) →
          J1 x2 x3) →
      J1 (List.replicate (Int.toNat (↑(List.length a1) : Int)) (0 : Nat)) (0 : Int)) := by kernel_rfl
theorem laws_toFloat32S.eq (a1 : List Nat) (K : List Nat → Prop) : laws_toFloat32S.wp a1 K =
  (((0 : Int) ≤ (↑(List.length a1) : Int) ∧ (↑(List.length a1) : Int) ≤ (↑(List.length a1) : Int) ∧ (↑(List.length a1) : Int) ≤ (1099511627776 : Int)) ∧
  ∀ (J1 : List Nat → Int → Prop),
    (∀ (x2 : List Nat) (x3 : Int),
        Go.K.ifB (Decidable.decide (x3 < (↑(List.length a1) : Int)))
            (((0 : Int) ≤ x3 ∧ x3 < (↑(List.length a1) : Int)) ∧
              ((0 : Int) ≤ x3 ∧ x3 < (↑(List.length x2) : Int)) ∧
                J1 (List.set x2 (Int.toNat x3) (List.getD a1 (Int.toNat x3) (0 : Nat))) (Go.IntKind.wrap Go.IntKind.i64 (x3 + (1 : Int))))
            (K x2) →
          J1 x2 x3) →
      J1 (List.replicate (Int.toNat (↑(List.length a1) : Int)) (0 : Nat)) (0 : Int)) := laws_toFloat32S.tx  a1 K

theorem laws_toField.tx (w_laws_toFloat32S : List Nat → (List Nat → Prop) → Prop) (a1 : List Nat) (a2 : Int) (a3 : Int) (a4 : Bool) (K : List Nat → Int → Int → Bool → Prop) : laws_toField.bd w_laws_toFloat32S a1 a2 a3 a4 K =
  (w_laws_toFloat32S a1 fun y1 => K y1 a2 a3 a4) := by kernel_rfl
theorem laws_toField.eq (a1 : List Nat) (a2 : Int) (a3 : Int) (a4 : Bool) (K : List Nat → Int → Int → Bool → Prop) : laws_toField.wp a1 a2 a3 a4 K =
  (Go.K.melts.laws_toFloat32S.wp a1 fun y1 => K y1 a2 a3 a4) := laws_toField.tx laws_toFloat32S.wp a1 a2 a3 a4 K

theorem spec_l00In.tx  (a1 : Int) (a2 : Int) (a3 : Int) (K : Bool → Prop) : spec_l00In.bd  a1 a2 a3 K =
  (Go.K.ifB (Decidable.decide (a1 ≥ a2)) (K (Decidable.decide (a1 ≤ a3))) (K Bool.false)) := by kernel_rfl
theorem spec_l00In.eq (a1 : Int) (a2 : Int) (a3 : Int) (K : Bool → Prop) : spec_l00In.wp a1 a2 a3 K =
  (Go.K.ifB (Decidable.decide (a1 ≥ a2)) (K (Decidable.decide (a1 ≤ a3))) (K Bool.false)) := spec_l00In.tx  a1 a2 a3 K

theorem spec_l02Size.tx (w_spec_l00In : Int → Int → Int → (Bool → Prop) → Prop) (a1 : Int) (a2 : Int) (K : Bool → Prop) : spec_l02Size.bd w_spec_l00In a1 a2 K =
  (w_spec_l00In a1 (1 : Int) (16 : Int) fun y1 => Go.K.ifB y1 (w_spec_l00In a2 (1 : Int) (16 : Int) fun y2 => K y2) (K Bool.false)) := by kernel_rfl
theorem spec_l02Size.eq (a1 : Int) (a2 : Int) (K : Bool → Prop) : spec_l02Size.wp a1 a2 K =
  (Go.K.melts.spec_l00In.wp a1 (1 : Int) (16 : Int) fun y1 => Go.K.ifB y1 (Go.K.melts.spec_l00In.wp a2 (1 : Int) (16 : Int) fun y2 => K y2) (K Bool.false)) := spec_l02Size.tx spec_l00In.wp a1 a2 K

theorem spec_l02Is.tx (w_spec_l02Size : Int → Int → (Bool → Prop) → Prop) (a1 : Int) (a2 : Int) (a3 : Bool) (a4 : List Nat) (K : Bool → Prop) : spec_l02Is.bd w_spec_l02Size a1 a2 a3 a4 K =
  (w_spec_l02Size a1 a2 fun y1 => Go.K.ifB y1 (K ((↑(List.length a4) : Int) == Go.IntKind.wrap Go.IntKind.i64 (a1 * a2))) (K Bool.false)) := by kernel_rfl
theorem spec_l02Is.eq (a1 : Int) (a2 : Int) (a3 : Bool) (a4 : List Nat) (K : Bool → Prop) : spec_l02Is.wp a1 a2 a3 a4 K =
  (Go.K.melts.spec_l02Size.wp a1 a2 fun y1 => Go.K.ifB y1 (K ((↑(List.length a4) : Int) == Go.IntKind.wrap Go.IntKind.i64 (a1 * a2))) (K Bool.false)) := spec_l02Is.tx spec_l02Size.wp a1 a2 a3 a4 K

theorem spec_l02New.tx  (a1 : Int) (a2 : Int) (a3 : Bool) (K : List Nat → Int → Int → Bool → Prop) : spec_l02New.bd  a1 a2 a3 K =
  (K (List.replicate (0 : Nat) (0 : Nat)) a1 a2 a3) := by kernel_rfl
theorem spec_l02New.eq (a1 : Int) (a2 : Int) (a3 : Bool) (K : List Nat → Int → Int → Bool → Prop) : spec_l02New.wp a1 a2 a3 K =
  (K (List.replicate (0 : Nat) (0 : Nat)) a1 a2 a3) := spec_l02New.tx  a1 a2 a3 K

theorem spec_l00Min.tx  (a1 : Int) (a2 : Int) (K : Int → Prop) : spec_l00Min.bd  a1 a2 K =
  (Go.K.ifB (Decidable.decide (a1 < a2)) (K a1) (K a2)) := by kernel_rfl
theorem spec_l00Min.eq (a1 : Int) (a2 : Int) (K : Int → Prop) : spec_l00Min.wp a1 a2 K =
  (Go.K.ifB (Decidable.decide (a1 < a2)) (K a1) (K a2)) := spec_l00Min.tx  a1 a2 K

theorem spec_l00Max.tx  (a1 : Int) (a2 : Int) (K : Int → Prop) : spec_l00Max.bd  a1 a2 K =
  (Go.K.ifB (Decidable.decide (a1 > a2)) (K a1) (K a2)) := by kernel_rfl
theorem spec_l00Max.eq (a1 : Int) (a2 : Int) (K : Int → Prop) : spec_l00Max.wp a1 a2 K =
  (Go.K.ifB (Decidable.decide (a1 > a2)) (K a1) (K a2)) := spec_l00Max.tx  a1 a2 K

theorem spec_l02Place.tx (w_spec_l00Min : Int → Int → (Int → Prop) → Prop) (w_spec_l00Max : Int → Int → (Int → Prop) → Prop) (a1 : Int) (a2 : Int) (a3 : Bool) (K : Int → Prop) : spec_l02Place.bd w_spec_l00Min w_spec_l00Max a1 a2 a3 K =
  (Go.K.ifB a3 (a2 ≠ (0 : Int) ∧ a2 ≠ (0 : Int) ∧ K (Int.tmod (Go.IntKind.wrap Go.IntKind.i64 (Int.tmod a1 a2 + a2)) a2))
  (w_spec_l00Min (Go.IntKind.wrap Go.IntKind.i64 (a2 - (1 : Int))) a1 fun y1 => w_spec_l00Max (0 : Int) y1 fun y2 => K y2)) := by kernel_rfl
theorem spec_l02Place.eq (a1 : Int) (a2 : Int) (a3 : Bool) (K : Int → Prop) : spec_l02Place.wp a1 a2 a3 K =
  (Go.K.ifB a3 (a2 ≠ (0 : Int) ∧ a2 ≠ (0 : Int) ∧ K (Int.tmod (Go.IntKind.wrap Go.IntKind.i64 (Int.tmod a1 a2 + a2)) a2))
  (Go.K.melts.spec_l00Min.wp (Go.IntKind.wrap Go.IntKind.i64 (a2 - (1 : Int))) a1 fun y1 => Go.K.melts.spec_l00Max.wp (0 : Int) y1 fun y2 => K y2)) := spec_l02Place.tx spec_l00Min.wp spec_l00Max.wp a1 a2 a3 K

theorem spec_l02Index.tx (w_spec_l02Place : Int → Int → Bool → (Int → Prop) → Prop) (a1 : Int) (a2 : Int) (a3 : Bool) (a4 : List Nat) (a5 : Int) (a6 : Int) (K : Int → Prop) : spec_l02Index.bd w_spec_l02Place a1 a2 a3 a4 a5 a6 K =
  (w_spec_l02Place a5 a1 a3 fun y1 =>
  w_spec_l02Place a6 a2 a3 fun y2 => K (Go.IntKind.wrap Go.IntKind.i64 (y1 + Go.IntKind.wrap Go.IntKind.i64 (a1 * y2)))) := by kernel_rfl
theorem spec_l02Index.eq (a1 : Int) (a2 : Int) (a3 : Bool) (a4 : List Nat) (a5 : Int) (a6 : Int) (K : Int → Prop) : spec_l02Index.wp a1 a2 a3 a4 a5 a6 K =
  (Go.K.melts.spec_l02Place.wp a5 a1 a3 fun y1 =>
  Go.K.melts.spec_l02Place.wp a6 a2 a3 fun y2 => K (Go.IntKind.wrap Go.IntKind.i64 (y1 + Go.IntKind.wrap Go.IntKind.i64 (a1 * y2)))) := spec_l02Index.tx spec_l02Place.wp a1 a2 a3 a4 a5 a6 K

theorem spec_l02At.tx (w_spec_l02Index : Int → Int → Bool → List Nat → Int → Int → (Int → Prop) → Prop) (a1 : Int) (a2 : Int) (a3 : Bool) (a4 : List Nat) (a5 : Int) (a6 : Int) (K : Nat → Prop) : spec_l02At.bd w_spec_l02Index a1 a2 a3 a4 a5 a6 K =
  (w_spec_l02Index a1 a2 a3 a4 a5 a6 fun y1 => ((0 : Int) ≤ y1 ∧ y1 < (↑(List.length a4) : Int)) ∧ K (List.getD a4 (Int.toNat y1) (0 : Nat))) := by kernel_rfl
theorem spec_l02At.eq (a1 : Int) (a2 : Int) (a3 : Bool) (a4 : List Nat) (a5 : Int) (a6 : Int) (K : Nat → Prop) : spec_l02At.wp a1 a2 a3 a4 a5 a6 K =
  (Go.K.melts.spec_l02Index.wp a1 a2 a3 a4 a5 a6 fun y1 => ((0 : Int) ≤ y1 ∧ y1 < (↑(List.length a4) : Int)) ∧ K (List.getD a4 (Int.toNat y1) (0 : Nat))) := spec_l02At.tx spec_l02Index.wp a1 a2 a3 a4 a5 a6 K

theorem spec_l02SlopeX.tx (w_spec_l02At : Int → Int → Bool → List Nat → Int → Int → (Nat → Prop) → Prop) (a1 : Int) (a2 : Int) (a3 : Bool) (a4 : List Nat) (a5 : Int) (a6 : Int) (K : Nat → Prop) : spec_l02SlopeX.bd w_spec_l02At a1 a2 a3 a4 a5 a6 K =
  (w_spec_l02At a1 a2 a3 a4 (Go.IntKind.wrap Go.IntKind.i64 (a5 + (1 : Int))) a6 fun y1 =>
  w_spec_l02At a1 a2 a3 a4 (Go.IntKind.wrap Go.IntKind.i64 (a5 - (1 : Int))) a6 fun y2 =>
    K (Go.K.farith Go.BinOp.mul Go.FloatKind.f32 (1056964608 : Nat) (Go.K.farith Go.BinOp.sub Go.FloatKind.f32 y1 y2))) := by kernel_rfl
theorem spec_l02SlopeX.eq (a1 : Int) (a2 : Int) (a3 : Bool) (a4 : List Nat) (a5 : Int) (a6 : Int) (K : Nat → Prop) : spec_l02SlopeX.wp a1 a2 a3 a4 a5 a6 K =
  (Go.K.melts.spec_l02At.wp a1 a2 a3 a4 (Go.IntKind.wrap Go.IntKind.i64 (a5 + (1 : Int))) a6 fun y1 =>
  Go.K.melts.spec_l02At.wp a1 a2 a3 a4 (Go.IntKind.wrap Go.IntKind.i64 (a5 - (1 : Int))) a6 fun y2 =>
    K (Go.K.farith Go.BinOp.mul Go.FloatKind.f32 (1056964608 : Nat) (Go.K.farith Go.BinOp.sub Go.FloatKind.f32 y1 y2))) := spec_l02SlopeX.tx spec_l02At.wp a1 a2 a3 a4 a5 a6 K

theorem spec_l02SlopeY.tx (w_spec_l02At : Int → Int → Bool → List Nat → Int → Int → (Nat → Prop) → Prop) (a1 : Int) (a2 : Int) (a3 : Bool) (a4 : List Nat) (a5 : Int) (a6 : Int) (K : Nat → Prop) : spec_l02SlopeY.bd w_spec_l02At a1 a2 a3 a4 a5 a6 K =
  (w_spec_l02At a1 a2 a3 a4 a5 (Go.IntKind.wrap Go.IntKind.i64 (a6 + (1 : Int))) fun y1 =>
  w_spec_l02At a1 a2 a3 a4 a5 (Go.IntKind.wrap Go.IntKind.i64 (a6 - (1 : Int))) fun y2 =>
    K (Go.K.farith Go.BinOp.mul Go.FloatKind.f32 (1056964608 : Nat) (Go.K.farith Go.BinOp.sub Go.FloatKind.f32 y1 y2))) := by kernel_rfl
theorem spec_l02SlopeY.eq (a1 : Int) (a2 : Int) (a3 : Bool) (a4 : List Nat) (a5 : Int) (a6 : Int) (K : Nat → Prop) : spec_l02SlopeY.wp a1 a2 a3 a4 a5 a6 K =
  (Go.K.melts.spec_l02At.wp a1 a2 a3 a4 a5 (Go.IntKind.wrap Go.IntKind.i64 (a6 + (1 : Int))) fun y1 =>
  Go.K.melts.spec_l02At.wp a1 a2 a3 a4 a5 (Go.IntKind.wrap Go.IntKind.i64 (a6 - (1 : Int))) fun y2 =>
    K (Go.K.farith Go.BinOp.mul Go.FloatKind.f32 (1056964608 : Nat) (Go.K.farith Go.BinOp.sub Go.FloatKind.f32 y1 y2))) := spec_l02SlopeY.tx spec_l02At.wp a1 a2 a3 a4 a5 a6 K

theorem math_Sqrt.tx  (a1 : Nat) (K : Nat → Prop) : math_Sqrt.bd  a1 K =
  (K (Go.K.fsqrt a1)) := by kernel_rfl
theorem math_Sqrt.eq (a1 : Nat) (K : Nat → Prop) : math_Sqrt.wp a1 K =
  (K (Go.K.fsqrt a1)) := math_Sqrt.tx  a1 K

theorem spec_l01Narrow.tx  (a1 : Nat) (K : Nat → Prop) : spec_l01Narrow.bd  a1 K =
  (Go.K.fitsF Go.FloatKind.f64 Go.FloatKind.f32 a1 = Bool.true ∧ K (Go.K.fconv Go.FloatKind.f64 Go.FloatKind.f32 a1)) := by kernel_rfl
theorem spec_l01Narrow.eq (a1 : Nat) (K : Nat → Prop) : spec_l01Narrow.wp a1 K =
  (Go.K.fitsF Go.FloatKind.f64 Go.FloatKind.f32 a1 = Bool.true ∧ K (Go.K.fconv Go.FloatKind.f64 Go.FloatKind.f32 a1)) := spec_l01Narrow.tx  a1 K

theorem spec_l01Sqrt.tx (w_math_Sqrt : Nat → (Nat → Prop) → Prop) (w_spec_l01Narrow : Nat → (Nat → Prop) → Prop) (a1 : Nat) (K : Nat → Prop) : spec_l01Sqrt.bd w_math_Sqrt w_spec_l01Narrow a1 K =
  (w_math_Sqrt (Go.K.fconv Go.FloatKind.f32 Go.FloatKind.f64 a1) fun y1 => w_spec_l01Narrow y1 fun y2 => K y2) := by kernel_rfl
theorem spec_l01Sqrt.eq (a1 : Nat) (K : Nat → Prop) : spec_l01Sqrt.wp a1 K =
  (Go.K.melts.math_Sqrt.wp (Go.K.fconv Go.FloatKind.f32 Go.FloatKind.f64 a1) fun y1 => Go.K.melts.spec_l01Narrow.wp y1 fun y2 => K y2) := spec_l01Sqrt.tx math_Sqrt.wp spec_l01Narrow.wp a1 K

theorem spec_l02Steep.tx (w_spec_l02SlopeX : Int → Int → Bool → List Nat → Int → Int → (Nat → Prop) → Prop) (w_spec_l02SlopeY : Int → Int → Bool → List Nat → Int → Int → (Nat → Prop) → Prop) (w_spec_l01Sqrt : Nat → (Nat → Prop) → Prop) (a1 : Int) (a2 : Int) (a3 : Bool) (a4 : List Nat) (a5 : Int) (a6 : Int) (K : Nat → Prop) : spec_l02Steep.bd w_spec_l02SlopeX w_spec_l02SlopeY w_spec_l01Sqrt a1 a2 a3 a4 a5 a6 K =
  (w_spec_l02SlopeX a1 a2 a3 a4 a5 a6 fun y1 =>
  w_spec_l02SlopeY a1 a2 a3 a4 a5 a6 fun y2 =>
    w_spec_l01Sqrt (Go.K.farith Go.BinOp.add Go.FloatKind.f32 (Go.K.farith Go.BinOp.mul Go.FloatKind.f32 y1 y1) (Go.K.farith Go.BinOp.mul Go.FloatKind.f32 y2 y2))
      fun y3 => K y3) := by kernel_rfl
theorem spec_l02Steep.eq (a1 : Int) (a2 : Int) (a3 : Bool) (a4 : List Nat) (a5 : Int) (a6 : Int) (K : Nat → Prop) : spec_l02Steep.wp a1 a2 a3 a4 a5 a6 K =
  (Go.K.melts.spec_l02SlopeX.wp a1 a2 a3 a4 a5 a6 fun y1 =>
  Go.K.melts.spec_l02SlopeY.wp a1 a2 a3 a4 a5 a6 fun y2 =>
    Go.K.melts.spec_l01Sqrt.wp (Go.K.farith Go.BinOp.add Go.FloatKind.f32 (Go.K.farith Go.BinOp.mul Go.FloatKind.f32 y1 y1) (Go.K.farith Go.BinOp.mul Go.FloatKind.f32 y2 y2))
      fun y3 => K y3) := spec_l02Steep.tx spec_l02SlopeX.wp spec_l02SlopeY.wp spec_l01Sqrt.wp a1 a2 a3 a4 a5 a6 K

theorem spec_SteepField.tx (w_spec_l02Is : Int → Int → Bool → List Nat → (Bool → Prop) → Prop) (w_spec_l02New : Int → Int → Bool → (List Nat → Int → Int → Bool → Prop) → Prop) (w_spec_l02Steep : Int → Int → Bool → List Nat → Int → Int → (Nat → Prop) → Prop) (a1 : List Nat) (a2 : Int) (a3 : Int) (a4 : Bool) (K : List Nat → Int → Int → Bool → Bool → Prop) : spec_SteepField.bd w_spec_l02Is w_spec_l02New w_spec_l02Steep a1 a2 a3 a4 K =
  (w_spec_l02Is a2 a3 a4 a1 fun y1 =>
  Go.K.ifB (!y1) (K [] (0 : Int) (0 : Int) Bool.false Bool.false)
    (w_spec_l02New a2 a3 a4 fun y2 y3 y4 y5 =>
      ∀ (J6 : Int → Int → Bool → Int → Int → Bool → Int → Int → Bool → List Nat → List Nat → Int → Prop),
        (∀ (x7 x8 : Int) (x9 : Bool) (x10 x11 : Int) (x12 : Bool) (x13 x14 : Int) (x15 : Bool) (x16 x17 : List Nat) (x18 : Int),
            Go.K.ifB (Decidable.decide (x18 < Go.IntKind.wrap Go.IntKind.i64 (x7 * x8)))
                (x7 ≠ (0 : Int) ∧
                  x7 ≠ (0 : Int) ∧
                    w_spec_l02Steep x7 x8 x9 a1 (Int.tmod x18 x7) (Go.IntKind.wrap Go.IntKind.i64 (Int.tdiv x18 x7)) fun y19 =>
                      List.length (x17 ++ y19 :: List.replicate (0 : Nat) (0 : Nat)) ≤ (1099511627776 : Nat) ∧
                        J6 x7 x8 x9 x10 x11 x12 x13 x14 x15 x16 (x17 ++ y19 :: List.replicate (0 : Nat) (0 : Nat)) (Go.IntKind.wrap Go.IntKind.i64 (x18 + (1 : Int))))
                (K x17 x13 x14 x15 Bool.true) →
              J6 x7 x8 x9 x10 x11 x12 x13 x14 x15 x16 x17 x18) →
          J6 a2 a3 a4 (0 : Int) (0 : Int) Bool.false y3 y4 y5 [] y2 (0 : Int))) := by kernel_rfl
theorem spec_SteepField.eq (a1 : List Nat) (a2 : Int) (a3 : Int) (a4 : Bool) (K : List Nat → Int → Int → Bool → Bool → Prop) : spec_SteepField.wp a1 a2 a3 a4 K =
  (Go.K.melts.spec_l02Is.wp a2 a3 a4 a1 fun y1 =>
  Go.K.ifB (!y1) (K [] (0 : Int) (0 : Int) Bool.false Bool.false)
    (Go.K.melts.spec_l02New.wp a2 a3 a4 fun y2 y3 y4 y5 =>
      ∀ (J6 : Int → Int → Bool → Int → Int → Bool → Int → Int → Bool → List Nat → List Nat → Int → Prop),
        (∀ (x7 x8 : Int) (x9 : Bool) (x10 x11 : Int) (x12 : Bool) (x13 x14 : Int) (x15 : Bool) (x16 x17 : List Nat) (x18 : Int),
            Go.K.ifB (Decidable.decide (x18 < Go.IntKind.wrap Go.IntKind.i64 (x7 * x8)))
                (x7 ≠ (0 : Int) ∧
                  x7 ≠ (0 : Int) ∧
                    Go.K.melts.spec_l02Steep.wp x7 x8 x9 a1 (Int.tmod x18 x7) (Go.IntKind.wrap Go.IntKind.i64 (Int.tdiv x18 x7)) fun y19 =>
                      List.length (x17 ++ y19 :: List.replicate (0 : Nat) (0 : Nat)) ≤ (1099511627776 : Nat) ∧
                        J6 x7 x8 x9 x10 x11 x12 x13 x14 x15 x16 (x17 ++ y19 :: List.replicate (0 : Nat) (0 : Nat)) (Go.IntKind.wrap Go.IntKind.i64 (x18 + (1 : Int))))
                (K x17 x13 x14 x15 Bool.true) →
              J6 x7 x8 x9 x10 x11 x12 x13 x14 x15 x16 x17 x18) →
          J6 a2 a3 a4 (0 : Int) (0 : Int) Bool.false y3 y4 y5 [] y2 (0 : Int))) := spec_SteepField.tx spec_l02Is.wp spec_l02New.wp spec_l02Steep.wp a1 a2 a3 a4 K

theorem impl_within.tx  (a1 : Int) (a2 : Int) (a3 : Int) (K : Bool → Prop) : impl_within.bd  a1 a2 a3 K =
  (Go.K.ifB (Decidable.decide (a2 ≤ a1)) (K (Decidable.decide (a1 ≤ a3))) (K Bool.false)) := by kernel_rfl
theorem impl_within.eq (a1 : Int) (a2 : Int) (a3 : Int) (K : Bool → Prop) : impl_within.wp a1 a2 a3 K =
  (Go.K.ifB (Decidable.decide (a2 ≤ a1)) (K (Decidable.decide (a1 ≤ a3))) (K Bool.false)) := impl_within.tx  a1 a2 a3 K

theorem impl_areWithin_1.tx (w_impl_within : Int → Int → Int → (Bool → Prop) → Prop) (a1 : Int) (a2 : Int) (a3 : Int) (K : Bool → Prop) : impl_areWithin_1.bd w_impl_within a1 a2 a3 K =
  (w_impl_within a3 a1 a2 fun y1 => K !y1) := by kernel_rfl
theorem impl_areWithin_1.eq (a1 : Int) (a2 : Int) (a3 : Int) (K : Bool → Prop) : impl_areWithin_1.wp a1 a2 a3 K =
  (Go.K.melts.impl_within.wp a3 a1 a2 fun y1 => K !y1) := impl_areWithin_1.tx impl_within.wp a1 a2 a3 K

theorem slices_IndexFunc_int64_int64__areWithin_1.tx (w_impl_areWithin_1 : Int → Int → Int → (Bool → Prop) → Prop) (a1 : List Int) (a2 : Int) (a3 : Int) (K : Int → Prop) : slices_IndexFunc_int64_int64__areWithin_1.bd w_impl_areWithin_1 a1 a2 a3 K =
  (∀ (J1 : Int → Int → Prop),
  (∀ (x2 x3 : Int),
      Go.K.ifB (Decidable.decide (x3 < x2))
          (((0 : Int) ≤ x3 ∧ x3 < (↑(List.length a1) : Int)) ∧
            w_impl_areWithin_1 a2 a3 (List.getD a1 (Int.toNat x3) (0 : Int)) fun y4 => Go.K.ifB y4 (K x3) (J1 x2 (Go.IntKind.wrap Go.IntKind.i64 (x3 + (1 : Int)))))
          (K (-1 : Int)) →
        J1 x2 x3) →
    J1 (↑(List.length a1) : Int) (0 : Int)) := by kernel_rfl
theorem slices_IndexFunc_int64_int64__areWithin_1.eq (a1 : List Int) (a2 : Int) (a3 : Int) (K : Int → Prop) : slices_IndexFunc_int64_int64__areWithin_1.wp a1 a2 a3 K =
  (∀ (J1 : Int → Int → Prop),
  (∀ (x2 x3 : Int),
      Go.K.ifB (Decidable.decide (x3 < x2))
          (((0 : Int) ≤ x3 ∧ x3 < (↑(List.length a1) : Int)) ∧
            Go.K.melts.impl_areWithin_1.wp a2 a3 (List.getD a1 (Int.toNat x3) (0 : Int)) fun y4 => Go.K.ifB y4 (K x3) (J1 x2 (Go.IntKind.wrap Go.IntKind.i64 (x3 + (1 : Int)))))
          (K (-1 : Int)) →
        J1 x2 x3) →
    J1 (↑(List.length a1) : Int) (0 : Int)) := slices_IndexFunc_int64_int64__areWithin_1.tx impl_areWithin_1.wp a1 a2 a3 K

theorem slices_ContainsFunc_int64_int64__areWithin_1.tx (w_slices_IndexFunc_int64_int64__areWithin_1 : List Int → Int → Int → (Int → Prop) → Prop) (a1 : List Int) (a2 : Int) (a3 : Int) (K : Bool → Prop) : slices_ContainsFunc_int64_int64__areWithin_1.bd w_slices_IndexFunc_int64_int64__areWithin_1 a1 a2 a3 K =
  (w_slices_IndexFunc_int64_int64__areWithin_1 a1 a2 a3 fun y1 => K (Decidable.decide (y1 ≥ (0 : Int)))) := by kernel_rfl
theorem slices_ContainsFunc_int64_int64__areWithin_1.eq (a1 : List Int) (a2 : Int) (a3 : Int) (K : Bool → Prop) : slices_ContainsFunc_int64_int64__areWithin_1.wp a1 a2 a3 K =
  (Go.K.melts.slices_IndexFunc_int64_int64__areWithin_1.wp a1 a2 a3 fun y1 => K (Decidable.decide (y1 ≥ (0 : Int)))) := slices_ContainsFunc_int64_int64__areWithin_1.tx slices_IndexFunc_int64_int64__areWithin_1.wp a1 a2 a3 K

theorem impl_areWithin.tx (w_slices_ContainsFunc_int64_int64__areWithin_1 : List Int → Int → Int → (Bool → Prop) → Prop) (a1 : List Int) (a2 : Int) (a3 : Int) (K : Bool → Prop) : impl_areWithin.bd w_slices_ContainsFunc_int64_int64__areWithin_1 a1 a2 a3 K =
  (w_slices_ContainsFunc_int64_int64__areWithin_1 a1 a2 a3 fun y1 => K !y1) := by kernel_rfl
theorem impl_areWithin.eq (a1 : List Int) (a2 : Int) (a3 : Int) (K : Bool → Prop) : impl_areWithin.wp a1 a2 a3 K =
  (Go.K.melts.slices_ContainsFunc_int64_int64__areWithin_1.wp a1 a2 a3 fun y1 => K !y1) := impl_areWithin.tx slices_ContainsFunc_int64_int64__areWithin_1.wp a1 a2 a3 K

theorem impl_ValidField.tx (w_impl_areWithin : List Int → Int → Int → (Bool → Prop) → Prop) (a1 : List Nat) (a2 : Int) (a3 : Int) (a4 : Bool) (K : Bool → Prop) : impl_ValidField.bd w_impl_areWithin a1 a2 a3 a4 K =
  (w_impl_areWithin (a2 :: a3 :: List.replicate (0 : Nat) (0 : Int)) (1 : Int) (16 : Int) fun y1 =>
  Go.K.ifB y1 (K ((↑(List.length a1) : Int) == Go.IntKind.wrap Go.IntKind.i64 (a2 * a3))) (K Bool.false)) := by kernel_rfl
theorem impl_ValidField.eq (a1 : List Nat) (a2 : Int) (a3 : Int) (a4 : Bool) (K : Bool → Prop) : impl_ValidField.wp a1 a2 a3 a4 K =
  (Go.K.melts.impl_areWithin.wp (a2 :: a3 :: List.replicate (0 : Nat) (0 : Int)) (1 : Int) (16 : Int) fun y1 =>
  Go.K.ifB y1 (K ((↑(List.length a1) : Int) == Go.IntKind.wrap Go.IntKind.i64 (a2 * a3))) (K Bool.false)) := impl_ValidField.tx impl_areWithin.wp a1 a2 a3 a4 K

theorem impl_place.tx  (a1 : Int) (a2 : Int) (a3 : Bool) (K : Int → Prop) : impl_place.bd  a1 a2 a3 K =
  (Go.K.ifB a3 (a2 ≠ (0 : Int) ∧ a2 ≠ (0 : Int) ∧ K (Int.tmod (Go.IntKind.wrap Go.IntKind.i64 (Int.tmod a1 a2 + a2)) a2))
  (K (Go.K.mmI Bool.false (Go.K.mmI Bool.true a1 (0 : Int)) (Go.IntKind.wrap Go.IntKind.i64 (a2 - (1 : Int)))))) := by kernel_rfl
theorem impl_place.eq (a1 : Int) (a2 : Int) (a3 : Bool) (K : Int → Prop) : impl_place.wp a1 a2 a3 K =
  (Go.K.ifB a3 (a2 ≠ (0 : Int) ∧ a2 ≠ (0 : Int) ∧ K (Int.tmod (Go.IntKind.wrap Go.IntKind.i64 (Int.tmod a1 a2 + a2)) a2))
  (K (Go.K.mmI Bool.false (Go.K.mmI Bool.true a1 (0 : Int)) (Go.IntKind.wrap Go.IntKind.i64 (a2 - (1 : Int)))))) := impl_place.tx  a1 a2 a3 K

theorem impl_Field_cell.tx (w_impl_place : Int → Int → Bool → (Int → Prop) → Prop) (a1 : List Nat) (a2 : Int) (a3 : Int) (a4 : Bool) (a5 : Int) (a6 : Int) (K : Int → Prop) : impl_Field_cell.bd w_impl_place a1 a2 a3 a4 a5 a6 K =
  (w_impl_place a5 a2 a4 fun y1 =>
  w_impl_place a6 a3 a4 fun y2 => K (Go.IntKind.wrap Go.IntKind.i64 (y1 + Go.IntKind.wrap Go.IntKind.i64 (a2 * y2)))) := by kernel_rfl
theorem impl_Field_cell.eq (a1 : List Nat) (a2 : Int) (a3 : Int) (a4 : Bool) (a5 : Int) (a6 : Int) (K : Int → Prop) : impl_Field_cell.wp a1 a2 a3 a4 a5 a6 K =
  (Go.K.melts.impl_place.wp a5 a2 a4 fun y1 =>
  Go.K.melts.impl_place.wp a6 a3 a4 fun y2 => K (Go.IntKind.wrap Go.IntKind.i64 (y1 + Go.IntKind.wrap Go.IntKind.i64 (a2 * y2)))) := impl_Field_cell.tx impl_place.wp a1 a2 a3 a4 a5 a6 K

theorem impl_Field_about.tx (w_impl_Field_cell : List Nat → Int → Int → Bool → Int → Int → (Int → Prop) → Prop) (a1 : List Nat) (a2 : Int) (a3 : Int) (a4 : Bool) (a5 : Int) (a6 : Int) (K : Nat → Prop) : impl_Field_about.bd w_impl_Field_cell a1 a2 a3 a4 a5 a6 K =
  (w_impl_Field_cell a1 a2 a3 a4 a5 a6 fun y1 => ((0 : Int) ≤ y1 ∧ y1 < (↑(List.length a1) : Int)) ∧ K (List.getD a1 (Int.toNat y1) (0 : Nat))) := by kernel_rfl
theorem impl_Field_about.eq (a1 : List Nat) (a2 : Int) (a3 : Int) (a4 : Bool) (a5 : Int) (a6 : Int) (K : Nat → Prop) : impl_Field_about.wp a1 a2 a3 a4 a5 a6 K =
  (Go.K.melts.impl_Field_cell.wp a1 a2 a3 a4 a5 a6 fun y1 => ((0 : Int) ≤ y1 ∧ y1 < (↑(List.length a1) : Int)) ∧ K (List.getD a1 (Int.toNat y1) (0 : Nat))) := impl_Field_about.tx impl_Field_cell.wp a1 a2 a3 a4 a5 a6 K

theorem impl_Field_slopes.tx (w_impl_Field_about : List Nat → Int → Int → Bool → Int → Int → (Nat → Prop) → Prop) (a1 : List Nat) (a2 : Int) (a3 : Int) (a4 : Bool) (a5 : Int) (a6 : Int) (K : Nat → Nat → Prop) : impl_Field_slopes.bd w_impl_Field_about a1 a2 a3 a4 a5 a6 K =
  (w_impl_Field_about a1 a2 a3 a4 (Go.IntKind.wrap Go.IntKind.i64 (a5 + (1 : Int))) a6 fun y1 =>
  w_impl_Field_about a1 a2 a3 a4 (Go.IntKind.wrap Go.IntKind.i64 (a5 - (1 : Int))) a6 fun y2 =>
    w_impl_Field_about a1 a2 a3 a4 a5 (Go.IntKind.wrap Go.IntKind.i64 (a6 + (1 : Int))) fun y3 =>
      w_impl_Field_about a1 a2 a3 a4 a5 (Go.IntKind.wrap Go.IntKind.i64 (a6 - (1 : Int))) fun y4 =>
        K (Go.K.farith Go.BinOp.mul Go.FloatKind.f32 (1056964608 : Nat) (Go.K.farith Go.BinOp.sub Go.FloatKind.f32 y1 y2))
          (Go.K.farith Go.BinOp.mul Go.FloatKind.f32 (1056964608 : Nat) (Go.K.farith Go.BinOp.sub Go.FloatKind.f32 y3 y4))) := by kernel_rfl
theorem impl_Field_slopes.eq (a1 : List Nat) (a2 : Int) (a3 : Int) (a4 : Bool) (a5 : Int) (a6 : Int) (K : Nat → Nat → Prop) : impl_Field_slopes.wp a1 a2 a3 a4 a5 a6 K =
  (Go.K.melts.impl_Field_about.wp a1 a2 a3 a4 (Go.IntKind.wrap Go.IntKind.i64 (a5 + (1 : Int))) a6 fun y1 =>
  Go.K.melts.impl_Field_about.wp a1 a2 a3 a4 (Go.IntKind.wrap Go.IntKind.i64 (a5 - (1 : Int))) a6 fun y2 =>
    Go.K.melts.impl_Field_about.wp a1 a2 a3 a4 a5 (Go.IntKind.wrap Go.IntKind.i64 (a6 + (1 : Int))) fun y3 =>
      Go.K.melts.impl_Field_about.wp a1 a2 a3 a4 a5 (Go.IntKind.wrap Go.IntKind.i64 (a6 - (1 : Int))) fun y4 =>
        K (Go.K.farith Go.BinOp.mul Go.FloatKind.f32 (1056964608 : Nat) (Go.K.farith Go.BinOp.sub Go.FloatKind.f32 y1 y2))
          (Go.K.farith Go.BinOp.mul Go.FloatKind.f32 (1056964608 : Nat) (Go.K.farith Go.BinOp.sub Go.FloatKind.f32 y3 y4))) := impl_Field_slopes.tx impl_Field_about.wp a1 a2 a3 a4 a5 a6 K

theorem impl_RootNumber.tx (w_math_Sqrt : Nat → (Nat → Prop) → Prop) (a1 : Nat) (K : Nat → Prop) : impl_RootNumber.bd w_math_Sqrt a1 K =
  (w_math_Sqrt (Go.K.fconv Go.FloatKind.f32 Go.FloatKind.f64 a1) fun y1 =>
  Go.K.fitsF Go.FloatKind.f64 Go.FloatKind.f32 y1 = Bool.true ∧ K (Go.K.fconv Go.FloatKind.f64 Go.FloatKind.f32 y1)) := by kernel_rfl
theorem impl_RootNumber.eq (a1 : Nat) (K : Nat → Prop) : impl_RootNumber.wp a1 K =
  (Go.K.melts.math_Sqrt.wp (Go.K.fconv Go.FloatKind.f32 Go.FloatKind.f64 a1) fun y1 =>
  Go.K.fitsF Go.FloatKind.f64 Go.FloatKind.f32 y1 = Bool.true ∧ K (Go.K.fconv Go.FloatKind.f64 Go.FloatKind.f32 y1)) := impl_RootNumber.tx math_Sqrt.wp a1 K

theorem impl_Field_steep.tx (w_impl_Field_slopes : List Nat → Int → Int → Bool → Int → Int → (Nat → Nat → Prop) → Prop) (w_impl_RootNumber : Nat → (Nat → Prop) → Prop) (a1 : List Nat) (a2 : Int) (a3 : Int) (a4 : Bool) (a5 : Int) (a6 : Int) (K : Nat → Prop) : impl_Field_steep.bd w_impl_Field_slopes w_impl_RootNumber a1 a2 a3 a4 a5 a6 K =
  (w_impl_Field_slopes a1 a2 a3 a4 a5 a6 fun y1 y2 =>
  w_impl_RootNumber (Go.K.farith Go.BinOp.add Go.FloatKind.f32 (Go.K.farith Go.BinOp.mul Go.FloatKind.f32 y1 y1) (Go.K.farith Go.BinOp.mul Go.FloatKind.f32 y2 y2))
    fun y3 => K y3) := by kernel_rfl
theorem impl_Field_steep.eq (a1 : List Nat) (a2 : Int) (a3 : Int) (a4 : Bool) (a5 : Int) (a6 : Int) (K : Nat → Prop) : impl_Field_steep.wp a1 a2 a3 a4 a5 a6 K =
  (Go.K.melts.impl_Field_slopes.wp a1 a2 a3 a4 a5 a6 fun y1 y2 =>
  Go.K.melts.impl_RootNumber.wp (Go.K.farith Go.BinOp.add Go.FloatKind.f32 (Go.K.farith Go.BinOp.mul Go.FloatKind.f32 y1 y1) (Go.K.farith Go.BinOp.mul Go.FloatKind.f32 y2 y2))
    fun y3 => K y3) := impl_Field_steep.tx impl_Field_slopes.wp impl_RootNumber.wp a1 a2 a3 a4 a5 a6 K

theorem impl_made__Field_steep.tx (w_impl_Field_steep : List Nat → Int → Int → Bool → Int → Int → (Nat → Prop) → Prop) (a1 : List
  Nat) (a2 : Int) (a3 : Int) (a4 : Bool) (a5 : Int) (a6 : Int) (a7 : Bool) (K : List Nat → Int → Int → Bool → Prop) : impl_made__Field_steep.bd w_impl_Field_steep a1 a2 a3 a4 a5 a6 a7 K =
  (∀ (J1 : Int → Int → Bool → Int → Int → Bool → List Nat → List Nat → Int → Int → Prop),
  (∀ (x2 x3 : Int) (x4 : Bool) (x5 x6 : Int) (x7 : Bool) (x8 x9 : List Nat) (x10 x11 : Int),
      Go.K.ifB (Decidable.decide (x11 < x10))
          (∀ (J12 : Int → Int → Bool → Int → Int → Bool → List Nat → List Nat → Int → Int → Int → Int → Int → Prop),
            (∀ (x13 x14 : Int) (x15 : Bool) (x16 x17 : Int) (x18 : Bool) (x19 x20 : List Nat) (x21 x22 x23 x24 x25 : Int),
                Go.K.ifB (Decidable.decide (x25 < x24))
                    (w_impl_Field_steep a1 a5 a6 a7 x25 x21 fun y26 =>
                      List.length (x20 ++ y26 :: List.replicate (0 : Nat) (0 : Nat)) ≤ (1099511627776 : Nat) ∧
                        J12 x13 x14 x15 x16 x17 x18 x19 (x20 ++ y26 :: List.replicate (0 : Nat) (0 : Nat)) x21 x22 x23 x24 (Go.IntKind.wrap Go.IntKind.i64 (x25 + (1 : Int))))
                    (J1 x13 x14 x15 x16 x17 x18 x19 x20 x22 (Go.IntKind.wrap Go.IntKind.i64 (x23 + (1 : Int)))) →
                  J12 x13 x14 x15 x16 x17 x18 x19 x20 x21 x22 x23 x24 x25) →
              J12 x2 x3 x4 x5 x6 x7 x8 x9 x11 x10 x11 a2 (0 : Int))
          (K x9 x5 x6 x7) →
        J1 x2 x3 x4 x5 x6 x7 x8 x9 x10 x11) →
    J1 (0 : Int) (0 : Int) Bool.false a2 a3 a4 [] (List.replicate (0 : Nat) (0 : Nat)) a3 (0 : Int)) := by kernel_rfl
theorem impl_made__Field_steep.eq (a1 : List
  Nat) (a2 : Int) (a3 : Int) (a4 : Bool) (a5 : Int) (a6 : Int) (a7 : Bool) (K : List Nat → Int → Int → Bool → Prop) : impl_made__Field_steep.wp a1 a2 a3 a4 a5 a6 a7 K =
  (∀ (J1 : Int → Int → Bool → Int → Int → Bool → List Nat → List Nat → Int → Int → Prop),
  (∀ (x2 x3 : Int) (x4 : Bool) (x5 x6 : Int) (x7 : Bool) (x8 x9 : List Nat) (x10 x11 : Int),
      Go.K.ifB (Decidable.decide (x11 < x10))
          (∀ (J12 : Int → Int → Bool → Int → Int → Bool → List Nat → List Nat → Int → Int → Int → Int → Int → Prop),
            (∀ (x13 x14 : Int) (x15 : Bool) (x16 x17 : Int) (x18 : Bool) (x19 x20 : List Nat) (x21 x22 x23 x24 x25 : Int),
                Go.K.ifB (Decidable.decide (x25 < x24))
                    (Go.K.melts.impl_Field_steep.wp a1 a5 a6 a7 x25 x21 fun y26 =>
                      List.length (x20 ++ y26 :: List.replicate (0 : Nat) (0 : Nat)) ≤ (1099511627776 : Nat) ∧
                        J12 x13 x14 x15 x16 x17 x18 x19 (x20 ++ y26 :: List.replicate (0 : Nat) (0 : Nat)) x21 x22 x23 x24 (Go.IntKind.wrap Go.IntKind.i64 (x25 + (1 : Int))))
                    (J1 x13 x14 x15 x16 x17 x18 x19 x20 x22 (Go.IntKind.wrap Go.IntKind.i64 (x23 + (1 : Int)))) →
                  J12 x13 x14 x15 x16 x17 x18 x19 x20 x21 x22 x23 x24 x25) →
              J12 x2 x3 x4 x5 x6 x7 x8 x9 x11 x10 x11 a2 (0 : Int))
          (K x9 x5 x6 x7) →
        J1 x2 x3 x4 x5 x6 x7 x8 x9 x10 x11) →
    J1 (0 : Int) (0 : Int) Bool.false a2 a3 a4 [] (List.replicate (0 : Nat) (0 : Nat)) a3 (0 : Int)) := impl_made__Field_steep.tx impl_Field_steep.wp a1 a2 a3 a4 a5 a6 a7 K

theorem impl_Field_each__Field_steep.tx (w_impl_made__Field_steep : List Nat → Int → Int → Bool → Int → Int → Bool → (List Nat → Int → Int → Bool → Prop) → Prop) (a1 : List
  Nat) (a2 : List
  Nat) (a3 : Int) (a4 : Int) (a5 : Bool) (a6 : Int) (a7 : Int) (a8 : Bool) (K : List Nat → Int → Int → Bool → Prop) : impl_Field_each__Field_steep.bd w_impl_made__Field_steep a1 a2 a3 a4 a5 a6 a7 a8 K =
  (w_impl_made__Field_steep a2 a3 a4 a5 a6 a7 a8 fun y1 y2 y3 y4 => K y1 y2 y3 y4) := by kernel_rfl
theorem impl_Field_each__Field_steep.eq (a1 : List
  Nat) (a2 : List
  Nat) (a3 : Int) (a4 : Int) (a5 : Bool) (a6 : Int) (a7 : Int) (a8 : Bool) (K : List Nat → Int → Int → Bool → Prop) : impl_Field_each__Field_steep.wp a1 a2 a3 a4 a5 a6 a7 a8 K =
  (Go.K.melts.impl_made__Field_steep.wp a2 a3 a4 a5 a6 a7 a8 fun y1 y2 y3 y4 => K y1 y2 y3 y4) := impl_Field_each__Field_steep.tx impl_made__Field_steep.wp a1 a2 a3 a4 a5 a6 a7 a8 K

theorem impl_SteepField.tx (w_impl_ValidField : List Nat → Int → Int → Bool → (Bool → Prop) → Prop) (w_impl_Field_each__Field_steep : List Nat → List Nat → Int → Int → Bool → Int → Int → Bool → (List Nat → Int → Int → Bool → Prop) → Prop) (a1 : List Nat) (a2 : Int) (a3 : Int) (a4 : Bool) (K : List Nat → Int → Int → Bool → Bool → Prop) : impl_SteepField.bd w_impl_ValidField w_impl_Field_each__Field_steep a1 a2 a3 a4 K =
  (w_impl_ValidField a1 a2 a3 a4 fun y1 =>
  Go.K.ifB (!y1) (K [] (0 : Int) (0 : Int) Bool.false Bool.false)
    (w_impl_Field_each__Field_steep a1 a1 a2 a3 a4 a2 a3 a4 fun y2 y3 y4 y5 => K y2 y3 y4 y5 Bool.true)) := by kernel_rfl
theorem impl_SteepField.eq (a1 : List Nat) (a2 : Int) (a3 : Int) (a4 : Bool) (K : List Nat → Int → Int → Bool → Bool → Prop) : impl_SteepField.wp a1 a2 a3 a4 K =
  (Go.K.melts.impl_ValidField.wp a1 a2 a3 a4 fun y1 =>
  Go.K.ifB (!y1) (K [] (0 : Int) (0 : Int) Bool.false Bool.false)
    (Go.K.melts.impl_Field_each__Field_steep.wp a1 a1 a2 a3 a4 a2 a3 a4 fun y2 y3 y4 y5 => K y2 y3 y4 y5 Bool.true)) := impl_SteepField.tx impl_ValidField.wp impl_Field_each__Field_steep.wp a1 a2 a3 a4 K

theorem laws_sameFloat.tx  (a1 : Nat) (a2 : Nat) (K : Bool → Prop) : laws_sameFloat.bd  a1 a2 K =
  (Go.K.ifB (Go.K.fne Go.FloatKind.f64 a1 a1) (Go.K.ifB (Go.K.fne Go.FloatKind.f64 a1 a1) (K (Go.K.fne Go.FloatKind.f64 a2 a2)) (K Bool.false))
  (Go.K.ifB (Go.K.fne Go.FloatKind.f64 a2 a2) (Go.K.ifB (Go.K.fne Go.FloatKind.f64 a1 a1) (K (Go.K.fne Go.FloatKind.f64 a2 a2)) (K Bool.false))
    (Go.K.ifB (Go.K.feq Go.FloatKind.f64 a1 (0 : Nat))
      (Go.K.ifB (Go.K.feq Go.FloatKind.f64 a2 (0 : Nat))
        (K
          (Go.K.fgt Go.FloatKind.f64 (Go.K.farith Go.BinOp.quo Go.FloatKind.f64 (4607182418800017408 : Nat) a1) (0 : Nat) ==
            Go.K.fgt Go.FloatKind.f64 (Go.K.farith Go.BinOp.quo Go.FloatKind.f64 (4607182418800017408 : Nat) a2) (0 : Nat)))
        (K (Go.K.feq Go.FloatKind.f64 a1 a2)))
      (K (Go.K.feq Go.FloatKind.f64 a1 a2))))) := by kernel_rfl
theorem laws_sameFloat.eq (a1 : Nat) (a2 : Nat) (K : Bool → Prop) : laws_sameFloat.wp a1 a2 K =
  (Go.K.ifB (Go.K.fne Go.FloatKind.f64 a1 a1) (Go.K.ifB (Go.K.fne Go.FloatKind.f64 a1 a1) (K (Go.K.fne Go.FloatKind.f64 a2 a2)) (K Bool.false))
  (Go.K.ifB (Go.K.fne Go.FloatKind.f64 a2 a2) (Go.K.ifB (Go.K.fne Go.FloatKind.f64 a1 a1) (K (Go.K.fne Go.FloatKind.f64 a2 a2)) (K Bool.false))
    (Go.K.ifB (Go.K.feq Go.FloatKind.f64 a1 (0 : Nat))
      (Go.K.ifB (Go.K.feq Go.FloatKind.f64 a2 (0 : Nat))
        (K
          (Go.K.fgt Go.FloatKind.f64 (Go.K.farith Go.BinOp.quo Go.FloatKind.f64 (4607182418800017408 : Nat) a1) (0 : Nat) ==
            Go.K.fgt Go.FloatKind.f64 (Go.K.farith Go.BinOp.quo Go.FloatKind.f64 (4607182418800017408 : Nat) a2) (0 : Nat)))
        (K (Go.K.feq Go.FloatKind.f64 a1 a2)))
      (K (Go.K.feq Go.FloatKind.f64 a1 a2))))) := laws_sameFloat.tx  a1 a2 K

theorem laws_eqFloat32S.tx (w_laws_sameFloat : Nat → Nat → (Bool → Prop) → Prop) (a1 : List Nat) (a2 : List Nat) (K : Bool → Prop) : laws_eqFloat32S.bd w_laws_sameFloat a1 a2 K =
  (Go.K.ifB ((↑(List.length a1) : Int) != (↑(List.length a2) : Int)) (K Bool.false)
  (∀ (J1 : Int → Prop),
    (∀ (x2 : Int),
        Go.K.ifB (Decidable.decide (x2 < (↑(List.length a1) : Int)))
            (((0 : Int) ≤ x2 ∧ x2 < (↑(List.length a1) : Int)) ∧
              ((0 : Int) ≤ x2 ∧ x2 < (↑(List.length a2) : Int)) ∧
                w_laws_sameFloat (Go.K.fconv Go.FloatKind.f32 Go.FloatKind.f64 (List.getD a1 (Int.toNat x2) (0 : Nat)))
                  (Go.K.fconv Go.FloatKind.f32 Go.FloatKind.f64 (List.getD a2 (Int.toNat x2) (0 : Nat))) fun y3 =>
                  Go.K.ifB (!y3) (K Bool.false) (J1 (Go.IntKind.wrap Go.IntKind.i64 (x2 + (1 : Int)))))
            (K Bool.true) →
          J1 x2) →
      J1 (0 : Int))) := by kernel_rfl
theorem laws_eqFloat32S.eq (a1 : List Nat) (a2 : List Nat) (K : Bool → Prop) : laws_eqFloat32S.wp a1 a2 K =
  (Go.K.ifB ((↑(List.length a1) : Int) != (↑(List.length a2) : Int)) (K Bool.false)
  (∀ (J1 : Int → Prop),
    (∀ (x2 : Int),
        Go.K.ifB (Decidable.decide (x2 < (↑(List.length a1) : Int)))
            (((0 : Int) ≤ x2 ∧ x2 < (↑(List.length a1) : Int)) ∧
              ((0 : Int) ≤ x2 ∧ x2 < (↑(List.length a2) : Int)) ∧
                Go.K.melts.laws_sameFloat.wp (Go.K.fconv Go.FloatKind.f32 Go.FloatKind.f64 (List.getD a1 (Int.toNat x2) (0 : Nat)))
                  (Go.K.fconv Go.FloatKind.f32 Go.FloatKind.f64 (List.getD a2 (Int.toNat x2) (0 : Nat))) fun y3 =>
                  Go.K.ifB (!y3) (K Bool.false) (J1 (Go.IntKind.wrap Go.IntKind.i64 (x2 + (1 : Int)))))
            (K Bool.true) →
          J1 x2) →
      J1 (0 : Int))) := laws_eqFloat32S.tx laws_sameFloat.wp a1 a2 K

theorem laws_eqField.tx (w_laws_eqFloat32S : List Nat → List Nat → (Bool → Prop) → Prop) (a1 : List
  Nat) (a2 : List Nat) (a3 : Int) (a4 : Int) (a5 : Bool) (a6 : Int) (a7 : Int) (a8 : Bool) (K : Bool → Prop) : laws_eqField.bd w_laws_eqFloat32S a1 a2 a3 a4 a5 a6 a7 a8 K =
  (Go.K.ifB (a3 != a6) (K Bool.false)
  (Go.K.ifB (a4 != a7) (K Bool.false)
    (Go.K.ifB (a5 != a8) (K Bool.false) (w_laws_eqFloat32S a1 a2 fun y1 => Go.K.ifB (!y1) (K Bool.false) (K Bool.true))))) := by kernel_rfl
theorem laws_eqField.eq (a1 : List
  Nat) (a2 : List Nat) (a3 : Int) (a4 : Int) (a5 : Bool) (a6 : Int) (a7 : Int) (a8 : Bool) (K : Bool → Prop) : laws_eqField.wp a1 a2 a3 a4 a5 a6 a7 a8 K =
  (Go.K.ifB (a3 != a6) (K Bool.false)
  (Go.K.ifB (a4 != a7) (K Bool.false)
    (Go.K.ifB (a5 != a8) (K Bool.false) (Go.K.melts.laws_eqFloat32S.wp a1 a2 fun y1 => Go.K.ifB (!y1) (K Bool.false) (K Bool.true))))) := laws_eqField.tx laws_eqFloat32S.wp a1 a2 a3 a4 a5 a6 a7 a8 K

theorem laws_markFloat32S.tx  (a1 : List Nat) (a2 : Int) (K : List Nat → Int → Prop) : laws_markFloat32S.bd  a1 a2 K =
  (∀ (J1 : List Nat → Int → Int → Prop),
  (∀ (x2 : List Nat) (x3 x4 : Int),
      Go.K.ifB (Decidable.decide (x4 < (↑(List.length a1) : Int)))
          (((0 : Int) ≤ x4 ∧ x4 < (↑(List.length a1) : Int)) ∧
            J1 (List.set x2 (Int.toNat x4) (Go.K.fofint Go.FloatKind.f32 x3)) (Go.IntKind.wrap Go.IntKind.i64 (x3 + (1 : Int))) (Go.IntKind.wrap Go.IntKind.i64 (x4 + (1 : Int))))
          (K x2 x3) →
        J1 x2 x3 x4) →
    J1 a1 a2 (0 : Int)) := by kernel_rfl
theorem laws_markFloat32S.eq (a1 : List Nat) (a2 : Int) (K : List Nat → Int → Prop) : laws_markFloat32S.wp a1 a2 K =
  (∀ (J1 : List Nat → Int → Int → Prop),
  (∀ (x2 : List Nat) (x3 x4 : Int),
      Go.K.ifB (Decidable.decide (x4 < (↑(List.length a1) : Int)))
          (((0 : Int) ≤ x4 ∧ x4 < (↑(List.length a1) : Int)) ∧
            J1 (List.set x2 (Int.toNat x4) (Go.K.fofint Go.FloatKind.f32 x3)) (Go.IntKind.wrap Go.IntKind.i64 (x3 + (1 : Int))) (Go.IntKind.wrap Go.IntKind.i64 (x4 + (1 : Int))))
          (K x2 x3) →
        J1 x2 x3 x4) →
    J1 a1 a2 (0 : Int)) := laws_markFloat32S.tx  a1 a2 K

theorem laws_markField.tx (w_laws_markFloat32S : List Nat → Int → (List Nat → Int → Prop) → Prop) (a1 : List Nat) (a2 : Int) (a3 : Int) (a4 : Bool) (a5 : Int) (K : List Nat → Int → Prop) : laws_markField.bd w_laws_markFloat32S a1 a2 a3 a4 a5 K =
  (w_laws_markFloat32S a1 a5 fun y1 y2 => K y1 y2) := by kernel_rfl
theorem laws_markField.eq (a1 : List Nat) (a2 : Int) (a3 : Int) (a4 : Bool) (a5 : Int) (K : List Nat → Int → Prop) : laws_markField.wp a1 a2 a3 a4 a5 K =
  (Go.K.melts.laws_markFloat32S.wp a1 a5 fun y1 y2 => K y1 y2) := laws_markField.tx laws_markFloat32S.wp a1 a2 a3 a4 a5 K

theorem laws_heldFloat32S.tx  (a1 : List Nat) (a2 : Int) (K : Int → Prop) : laws_heldFloat32S.bd  a1 a2 K =
  (∀ (J1 : Int → Int → Prop),
  (∀ (x2 x3 : Int),
      Go.K.ifB (Decidable.decide (x3 < (↑(List.length a1) : Int)))
          (((0 : Int) ≤ x3 ∧ x3 < (↑(List.length a1) : Int)) ∧
            Go.K.ifB (Go.K.fne Go.FloatKind.f32 (List.getD a1 (Int.toNat x3) (0 : Nat)) (Go.K.fofint Go.FloatKind.f32 x2)) (K (-1 : Int))
              (J1 (Go.IntKind.wrap Go.IntKind.i64 (x2 + (1 : Int))) (Go.IntKind.wrap Go.IntKind.i64 (x3 + (1 : Int)))))
          (K x2) →
        J1 x2 x3) →
    J1 a2 (0 : Int)) := by kernel_rfl
theorem laws_heldFloat32S.eq (a1 : List Nat) (a2 : Int) (K : Int → Prop) : laws_heldFloat32S.wp a1 a2 K =
  (∀ (J1 : Int → Int → Prop),
  (∀ (x2 x3 : Int),
      Go.K.ifB (Decidable.decide (x3 < (↑(List.length a1) : Int)))
          (((0 : Int) ≤ x3 ∧ x3 < (↑(List.length a1) : Int)) ∧
            Go.K.ifB (Go.K.fne Go.FloatKind.f32 (List.getD a1 (Int.toNat x3) (0 : Nat)) (Go.K.fofint Go.FloatKind.f32 x2)) (K (-1 : Int))
              (J1 (Go.IntKind.wrap Go.IntKind.i64 (x2 + (1 : Int))) (Go.IntKind.wrap Go.IntKind.i64 (x3 + (1 : Int)))))
          (K x2) →
        J1 x2 x3) →
    J1 a2 (0 : Int)) := laws_heldFloat32S.tx  a1 a2 K

theorem laws_heldField.tx (w_laws_heldFloat32S : List Nat → Int → (Int → Prop) → Prop) (a1 : List Nat) (a2 : Int) (a3 : Int) (a4 : Bool) (a5 : Int) (K : Int → Prop) : laws_heldField.bd w_laws_heldFloat32S a1 a2 a3 a4 a5 K =
  (w_laws_heldFloat32S a1 a5 fun y1 => Go.K.ifB (Decidable.decide (y1 < (0 : Int))) (K (-1 : Int)) (K y1)) := by kernel_rfl
theorem laws_heldField.eq (a1 : List Nat) (a2 : Int) (a3 : Int) (a4 : Bool) (a5 : Int) (K : Int → Prop) : laws_heldField.wp a1 a2 a3 a4 a5 K =
  (Go.K.melts.laws_heldFloat32S.wp a1 a5 fun y1 => Go.K.ifB (Decidable.decide (y1 < (0 : Int))) (K (-1 : Int)) (K y1)) := laws_heldField.tx laws_heldFloat32S.wp a1 a2 a3 a4 a5 K

theorem laws_FnExactSteepField.tx (w_laws_szField : List Nat → Int → Int → Bool → Int → (Int → Prop) → Prop) (w_laws_toField : List Nat → Int → Int → Bool → (List Nat → Int → Int → Bool → Prop) → Prop) (w_spec_SteepField : List Nat → Int → Int → Bool → (List Nat → Int → Int → Bool → Bool → Prop) → Prop) (w_impl_SteepField : List Nat → Int → Int → Bool → (List Nat → Int → Int → Bool → Bool → Prop) → Prop) (w_laws_eqField : List Nat → List Nat → Int → Int → Bool → Int → Int → Bool → (Bool → Prop) → Prop) (w_laws_markField : List Nat → Int → Int → Bool → Int → (List Nat → Int → Prop) → Prop) (w_laws_heldField : List Nat → Int → Int → Bool → Int → (Int → Prop) → Prop) (a1 : List Nat) (a2 : Int) (a3 : Int) (a4 : Bool) (K : Bool → Prop) : laws_FnExactSteepField.bd w_laws_szField w_laws_toField w_spec_SteepField w_impl_SteepField w_laws_eqField w_laws_markField w_laws_heldField a1 a2 a3 a4 K =
  (w_laws_szField a1 a2 a3 a4 (1048576 : Int) fun y1 =>
  Go.K.ifB (Decidable.decide (y1 < (0 : Int))) (K Bool.true)
    (w_laws_toField a1 a2 a3 a4 fun y2 y3 y4 y5 =>
      w_spec_SteepField y2 y3 y4 y5 fun y6 y7 y8 y9 y10 =>
        w_laws_toField a1 a2 a3 a4 fun y11 y12 y13 y14 =>
          w_impl_SteepField y11 y12 y13 y14 fun y15 y16 y17 y18 y19 =>
            w_laws_eqField y15 y6 y16 y17 y18 y7 y8 y9 fun y20 =>
              Go.K.ifB (!y20) (K Bool.false)
                (Go.K.ifB (y19 != y10) (K Bool.false)
                  (w_laws_toField a1 a2 a3 a4 fun y21 y22 y23 y24 =>
                    w_laws_eqField y11 y21 y12 y13 y14 y22 y23 y24 fun y25 =>
                      Go.K.ifB (!y25) (K Bool.false)
                        (w_laws_markField y11 y12 y13 y14 (1 : Int) fun y26 y27 =>
                          Go.K.ifB (Decidable.decide (y27 < (0 : Int))) (K Bool.false)
                            (w_laws_eqField y15 y6 y16 y17 y18 y7 y8 y9 fun y28 =>
                              Go.K.ifB (!y28) (K Bool.false)
                                (Go.K.ifB (y19 != y10) (K Bool.false)
                                  (w_laws_markField y15 y16 y17 y18 (1 : Int) fun y29 y30 =>
                                    w_laws_heldField y29 y16 y17 y18 (1 : Int) fun y31 =>
                                      Go.K.ifB (Decidable.decide (y31 < (0 : Int))) (K Bool.false)
                                        (Go.K.ifB (y31 != y30) (K Bool.false)
                                          (w_laws_toField a1 a2 a3 a4 fun y32 y33 y34 y35 =>
                                            w_impl_SteepField y32 y33 y34 y35 fun y36 y37 y38 y39 y40 =>
                                              w_laws_eqField y36 y6 y37 y38 y39 y7 y8 y9 fun y41 =>
                                                Go.K.ifB (!y41) (K Bool.false)
                                                  (Go.K.ifB (y40 != y10) (K Bool.false)
                                                    (w_laws_heldField y29 y16 y17 y18 (1 : Int) fun y42 =>
                                                      Go.K.ifB (Decidable.decide (y42 < (0 : Int))) (K Bool.false)
                                                        (Go.K.ifB (y42 != y30) (K Bool.false) (K Bool.true)))))))))))))) := by kernel_rfl
theorem laws_FnExactSteepField.eq (a1 : List Nat) (a2 : Int) (a3 : Int) (a4 : Bool) (K : Bool → Prop) : laws_FnExactSteepField.wp a1 a2 a3 a4 K =
  (Go.K.melts.laws_szField.wp a1 a2 a3 a4 (1048576 : Int) fun y1 =>
  Go.K.ifB (Decidable.decide (y1 < (0 : Int))) (K Bool.true)
    (Go.K.melts.laws_toField.wp a1 a2 a3 a4 fun y2 y3 y4 y5 =>
      Go.K.melts.spec_SteepField.wp y2 y3 y4 y5 fun y6 y7 y8 y9 y10 =>
        Go.K.melts.laws_toField.wp a1 a2 a3 a4 fun y11 y12 y13 y14 =>
          Go.K.melts.impl_SteepField.wp y11 y12 y13 y14 fun y15 y16 y17 y18 y19 =>
            Go.K.melts.laws_eqField.wp y15 y6 y16 y17 y18 y7 y8 y9 fun y20 =>
              Go.K.ifB (!y20) (K Bool.false)
                (Go.K.ifB (y19 != y10) (K Bool.false)
                  (Go.K.melts.laws_toField.wp a1 a2 a3 a4 fun y21 y22 y23 y24 =>
                    Go.K.melts.laws_eqField.wp y11 y21 y12 y13 y14 y22 y23 y24 fun y25 =>
                      Go.K.ifB (!y25) (K Bool.false)
                        (Go.K.melts.laws_markField.wp y11 y12 y13 y14 (1 : Int) fun y26 y27 =>
                          Go.K.ifB (Decidable.decide (y27 < (0 : Int))) (K Bool.false)
                            (Go.K.melts.laws_eqField.wp y15 y6 y16 y17 y18 y7 y8 y9 fun y28 =>
                              Go.K.ifB (!y28) (K Bool.false)
                                (Go.K.ifB (y19 != y10) (K Bool.false)
                                  (Go.K.melts.laws_markField.wp y15 y16 y17 y18 (1 : Int) fun y29 y30 =>
                                    Go.K.melts.laws_heldField.wp y29 y16 y17 y18 (1 : Int) fun y31 =>
                                      Go.K.ifB (Decidable.decide (y31 < (0 : Int))) (K Bool.false)
                                        (Go.K.ifB (y31 != y30) (K Bool.false)
                                          (Go.K.melts.laws_toField.wp a1 a2 a3 a4 fun y32 y33 y34 y35 =>
                                            Go.K.melts.impl_SteepField.wp y32 y33 y34 y35 fun y36 y37 y38 y39 y40 =>
                                              Go.K.melts.laws_eqField.wp y36 y6 y37 y38 y39 y7 y8 y9 fun y41 =>
                                                Go.K.ifB (!y41) (K Bool.false)
                                                  (Go.K.ifB (y40 != y10) (K Bool.false)
                                                    (Go.K.melts.laws_heldField.wp y29 y16 y17 y18 (1 : Int) fun y42 =>
                                                      Go.K.ifB (Decidable.decide (y42 < (0 : Int))) (K Bool.false)
                                                        (Go.K.ifB (y42 != y30) (K Bool.false) (K Bool.true)))))))))))))) := laws_FnExactSteepField.tx laws_szField.wp laws_toField.wp spec_SteepField.wp impl_SteepField.wp laws_eqField.wp laws_markField.wp laws_heldField.wp a1 a2 a3 a4 K

theorem laws_szMelt.tx (w_laws_szField : List Nat → Int → Int → Bool → Int → (Int → Prop) → Prop) (a1 : List
  Nat) (a2 : List
  Nat) (a3 : Int) (a4 : Int) (a5 : Bool) (a6 : Int) (a7 : Int) (a8 : Bool) (a9 : Nat) (a10 : Nat) (a11 : Nat) (a12 : Nat) (a13 : Nat) (a14 : Int) (a15 : Int) (K : Int →
  Prop) : laws_szMelt.bd w_laws_szField a1 a2 a3 a4 a5 a6 a7 a8 a9 a10 a11 a12 a13 a14 a15 K =
  (w_laws_szField a1 a3 a4 a5 a15 fun y1 =>
  Go.K.ifB (Decidable.decide (y1 < (0 : Int))) (K (-1 : Int))
    (w_laws_szField a2 a6 a7 a8 y1 fun y2 => Go.K.ifB (Decidable.decide (y2 < (0 : Int))) (K (-1 : Int)) (K y2))) := by kernel_rfl
theorem laws_szMelt.eq (a1 : List
  Nat) (a2 : List
  Nat) (a3 : Int) (a4 : Int) (a5 : Bool) (a6 : Int) (a7 : Int) (a8 : Bool) (a9 : Nat) (a10 : Nat) (a11 : Nat) (a12 : Nat) (a13 : Nat) (a14 : Int) (a15 : Int) (K : Int →
  Prop) : laws_szMelt.wp a1 a2 a3 a4 a5 a6 a7 a8 a9 a10 a11 a12 a13 a14 a15 K =
  (Go.K.melts.laws_szField.wp a1 a3 a4 a5 a15 fun y1 =>
  Go.K.ifB (Decidable.decide (y1 < (0 : Int))) (K (-1 : Int))
    (Go.K.melts.laws_szField.wp a2 a6 a7 a8 y1 fun y2 => Go.K.ifB (Decidable.decide (y2 < (0 : Int))) (K (-1 : Int)) (K y2))) := laws_szMelt.tx laws_szField.wp a1 a2 a3 a4 a5 a6 a7 a8 a9 a10 a11 a12 a13 a14 a15 K

theorem laws_toMelt.tx (w_laws_toField : List Nat → Int → Int → Bool → (List Nat → Int → Int → Bool → Prop) → Prop) (a1 : List
  Nat) (a2 : List
  Nat) (a3 : Int) (a4 : Int) (a5 : Bool) (a6 : Int) (a7 : Int) (a8 : Bool) (a9 : Nat) (a10 : Nat) (a11 : Nat) (a12 : Nat) (a13 : Nat) (a14 : Int) (K : List Nat →
  List Nat → Int → Int → Bool → Int → Int → Bool → Nat → Nat → Nat → Nat → Nat → Int → Prop) : laws_toMelt.bd w_laws_toField a1 a2 a3 a4 a5 a6 a7 a8 a9 a10 a11 a12 a13 a14 K =
  (w_laws_toField a1 a3 a4 a5 fun y1 y2 y3 y4 =>
  w_laws_toField a2 a6 a7 a8 fun y5 y6 y7 y8 => K y1 y5 y2 y3 y4 y6 y7 y8 a9 a10 a11 a12 a13 a14) := by kernel_rfl
theorem laws_toMelt.eq (a1 : List
  Nat) (a2 : List
  Nat) (a3 : Int) (a4 : Int) (a5 : Bool) (a6 : Int) (a7 : Int) (a8 : Bool) (a9 : Nat) (a10 : Nat) (a11 : Nat) (a12 : Nat) (a13 : Nat) (a14 : Int) (K : List Nat →
  List Nat → Int → Int → Bool → Int → Int → Bool → Nat → Nat → Nat → Nat → Nat → Int → Prop) : laws_toMelt.wp a1 a2 a3 a4 a5 a6 a7 a8 a9 a10 a11 a12 a13 a14 K =
  (Go.K.melts.laws_toField.wp a1 a3 a4 a5 fun y1 y2 y3 y4 =>
  Go.K.melts.laws_toField.wp a2 a6 a7 a8 fun y5 y6 y7 y8 => K y1 y5 y2 y3 y4 y6 y7 y8 a9 a10 a11 a12 a13 a14) := laws_toMelt.tx laws_toField.wp a1 a2 a3 a4 a5 a6 a7 a8 a9 a10 a11 a12 a13 a14 K

theorem spec_l01Finite.tx  (a1 : Nat) (K : Bool → Prop) : spec_l01Finite.bd  a1 K =
  (K (Go.K.feq Go.FloatKind.f32 (Go.K.farith Go.BinOp.sub Go.FloatKind.f32 a1 a1) (0 : Nat))) := by kernel_rfl
theorem spec_l01Finite.eq (a1 : Nat) (K : Bool → Prop) : spec_l01Finite.wp a1 K =
  (K (Go.K.feq Go.FloatKind.f32 (Go.K.farith Go.BinOp.sub Go.FloatKind.f32 a1 a1) (0 : Nat))) := spec_l01Finite.tx  a1 K

theorem spec_l03Least.tx (w_spec_l01Finite : Nat → (Bool → Prop) → Prop) (a1 : Nat) (K : Bool → Prop) : spec_l03Least.bd w_spec_l01Finite a1 K =
  (w_spec_l01Finite a1 fun y1 => Go.K.ifB y1 (K (Go.K.fge Go.FloatKind.f32 a1 (0 : Nat))) (K Bool.false)) := by kernel_rfl
theorem spec_l03Least.eq (a1 : Nat) (K : Bool → Prop) : spec_l03Least.wp a1 K =
  (Go.K.melts.spec_l01Finite.wp a1 fun y1 => Go.K.ifB y1 (K (Go.K.fge Go.FloatKind.f32 a1 (0 : Nat))) (K Bool.false)) := spec_l03Least.tx spec_l01Finite.wp a1 K

theorem spec_l03Is.tx (w_spec_l02Is : Int → Int → Bool → List Nat → (Bool → Prop) → Prop) (w_spec_l01Finite : Nat → (Bool → Prop) → Prop) (w_spec_l03Least : Nat → (Bool → Prop) → Prop) (w_spec_l00In : Int → Int → Int → (Bool → Prop) → Prop) (a1 : Int) (a2 : Int) (a3 : Bool) (a4 : Int) (a5 : Int) (a6 : Bool) (a7 : Nat) (a8 : Nat) (a9 : Nat) (a10 : Nat) (a11 : Nat) (a12 : Int) (a13 : List
  Nat) (a14 : List Nat) (K : Bool → Prop) : spec_l03Is.bd w_spec_l02Is w_spec_l01Finite w_spec_l03Least w_spec_l00In a1 a2 a3 a4 a5 a6 a7 a8 a9 a10 a11 a12 a13 a14 K =
  (w_spec_l02Is a1 a2 a3 a13 fun y1 =>
  Go.K.ifB (!y1) (K Bool.false)
    (w_spec_l02Is a4 a5 a6 a14 fun y2 =>
      Go.K.ifB (!y2) (K Bool.false)
        (Go.K.ifB (a1 != a4) (K Bool.false)
          (Go.K.ifB (a2 != a5) (K Bool.false)
            (Go.K.ifB (a3 != a6) (K Bool.false)
              (∀ (J3 : Int → Int → Prop),
                (∀ (x4 x5 : Int),
                    Go.K.ifB (Decidable.decide (x5 < x4))
                        (((0 : Int) ≤ x5 ∧ x5 < (↑(List.length a13) : Int)) ∧
                          Go.K.ifB (!Go.K.fge Go.FloatKind.f32 (List.getD a13 (Int.toNat x5) (0 : Nat)) (0 : Nat)) (K Bool.false)
                            (((0 : Int) ≤ x5 ∧ x5 < (↑(List.length a13) : Int)) ∧
                              Go.K.ifB (Go.K.fgt Go.FloatKind.f32 (List.getD a13 (Int.toNat x5) (0 : Nat)) (1065353216 : Nat)) (K Bool.false)
                                (((0 : Int) ≤ x5 ∧ x5 < (↑(List.length a14) : Int)) ∧
                                  w_spec_l01Finite (List.getD a14 (Int.toNat x5) (0 : Nat)) fun y6 =>
                                    Go.K.ifB (!y6) (K Bool.false) (J3 x4 (Go.IntKind.wrap Go.IntKind.i64 (x5 + (1 : Int)))))))
                        (w_spec_l03Least a7 fun y7 =>
                          Go.K.ifB y7
                            (w_spec_l03Least a8 fun y8 =>
                              Go.K.ifB y8
                                (w_spec_l03Least a9 fun y9 =>
                                  Go.K.ifB y9
                                    (w_spec_l03Least a10 fun y10 =>
                                      Go.K.ifB y10
                                        (Go.K.ifB (Go.K.fge Go.FloatKind.f32 a11 (0 : Nat))
                                          (Go.K.ifB (Go.K.flt Go.FloatKind.f32 a11 (1065353216 : Nat)) (w_spec_l00In a12 (1 : Int) (8 : Int) fun y11 => K y11)
                                            (K Bool.false))
                                          (K Bool.false))
                                        (K Bool.false))
                                    (K Bool.false))
                                (K Bool.false))
                            (K Bool.false)) →
                      J3 x4 x5) →
                  J3 (↑(List.length a13) : Int) (0 : Int))))))) := by kernel_rfl
theorem spec_l03Is.eq (a1 : Int) (a2 : Int) (a3 : Bool) (a4 : Int) (a5 : Int) (a6 : Bool) (a7 : Nat) (a8 : Nat) (a9 : Nat) (a10 : Nat) (a11 : Nat) (a12 : Int) (a13 : List
  Nat) (a14 : List Nat) (K : Bool → Prop) : spec_l03Is.wp a1 a2 a3 a4 a5 a6 a7 a8 a9 a10 a11 a12 a13 a14 K =
  (Go.K.melts.spec_l02Is.wp a1 a2 a3 a13 fun y1 =>
  Go.K.ifB (!y1) (K Bool.false)
    (Go.K.melts.spec_l02Is.wp a4 a5 a6 a14 fun y2 =>
      Go.K.ifB (!y2) (K Bool.false)
        (Go.K.ifB (a1 != a4) (K Bool.false)
          (Go.K.ifB (a2 != a5) (K Bool.false)
            (Go.K.ifB (a3 != a6) (K Bool.false)
              (∀ (J3 : Int → Int → Prop),
                (∀ (x4 x5 : Int),
                    Go.K.ifB (Decidable.decide (x5 < x4))
                        (((0 : Int) ≤ x5 ∧ x5 < (↑(List.length a13) : Int)) ∧
                          Go.K.ifB (!Go.K.fge Go.FloatKind.f32 (List.getD a13 (Int.toNat x5) (0 : Nat)) (0 : Nat)) (K Bool.false)
                            (((0 : Int) ≤ x5 ∧ x5 < (↑(List.length a13) : Int)) ∧
                              Go.K.ifB (Go.K.fgt Go.FloatKind.f32 (List.getD a13 (Int.toNat x5) (0 : Nat)) (1065353216 : Nat)) (K Bool.false)
                                (((0 : Int) ≤ x5 ∧ x5 < (↑(List.length a14) : Int)) ∧
                                  Go.K.melts.spec_l01Finite.wp (List.getD a14 (Int.toNat x5) (0 : Nat)) fun y6 =>
                                    Go.K.ifB (!y6) (K Bool.false) (J3 x4 (Go.IntKind.wrap Go.IntKind.i64 (x5 + (1 : Int)))))))
                        (Go.K.melts.spec_l03Least.wp a7 fun y7 =>
                          Go.K.ifB y7
                            (Go.K.melts.spec_l03Least.wp a8 fun y8 =>
                              Go.K.ifB y8
                                (Go.K.melts.spec_l03Least.wp a9 fun y9 =>
                                  Go.K.ifB y9
                                    (Go.K.melts.spec_l03Least.wp a10 fun y10 =>
                                      Go.K.ifB y10
                                        (Go.K.ifB (Go.K.fge Go.FloatKind.f32 a11 (0 : Nat))
                                          (Go.K.ifB (Go.K.flt Go.FloatKind.f32 a11 (1065353216 : Nat)) (Go.K.melts.spec_l00In.wp a12 (1 : Int) (8 : Int) fun y11 => K y11)
                                            (K Bool.false))
                                          (K Bool.false))
                                        (K Bool.false))
                                    (K Bool.false))
                                (K Bool.false))
                            (K Bool.false)) →
                      J3 x4 x5) →
                  J3 (↑(List.length a13) : Int) (0 : Int))))))) := spec_l03Is.tx spec_l02Is.wp spec_l01Finite.wp spec_l03Least.wp spec_l00In.wp a1 a2 a3 a4 a5 a6 a7 a8 a9 a10 a11 a12 a13 a14 K

theorem spec_l03Cell.tx (w_spec_l03Is : Int → Int → Bool → Int → Int → Bool → Nat → Nat → Nat → Nat → Nat → Int → List Nat → List Nat → (Bool → Prop) → Prop) (w_spec_l00In : Int → Int → Int → (Bool → Prop) → Prop) (a1 : Int) (a2 : Int) (a3 : Bool) (a4 : Int) (a5 : Int) (a6 : Bool) (a7 : Nat) (a8 : Nat) (a9 : Nat) (a10 : Nat) (a11 : Nat) (a12 : Int) (a13 : List
  Nat) (a14 : List Nat) (a15 : Int) (a16 : Int) (K : Bool → Prop) : spec_l03Cell.bd w_spec_l03Is w_spec_l00In a1 a2 a3 a4 a5 a6 a7 a8 a9 a10 a11 a12 a13 a14 a15 a16 K =
  (w_spec_l03Is a1 a2 a3 a4 a5 a6 a7 a8 a9 a10 a11 a12 a13 a14 fun y1 =>
  Go.K.ifB y1
    (w_spec_l00In a15 (0 : Int) (Go.IntKind.wrap Go.IntKind.i64 (a1 - (1 : Int))) fun y2 =>
      Go.K.ifB y2 (w_spec_l00In a16 (0 : Int) (Go.IntKind.wrap Go.IntKind.i64 (a2 - (1 : Int))) fun y3 => K y3) (K Bool.false))
    (K Bool.false)) := by kernel_rfl
theorem spec_l03Cell.eq (a1 : Int) (a2 : Int) (a3 : Bool) (a4 : Int) (a5 : Int) (a6 : Bool) (a7 : Nat) (a8 : Nat) (a9 : Nat) (a10 : Nat) (a11 : Nat) (a12 : Int) (a13 : List
  Nat) (a14 : List Nat) (a15 : Int) (a16 : Int) (K : Bool → Prop) : spec_l03Cell.wp a1 a2 a3 a4 a5 a6 a7 a8 a9 a10 a11 a12 a13 a14 a15 a16 K =
  (Go.K.melts.spec_l03Is.wp a1 a2 a3 a4 a5 a6 a7 a8 a9 a10 a11 a12 a13 a14 fun y1 =>
  Go.K.ifB y1
    (Go.K.melts.spec_l00In.wp a15 (0 : Int) (Go.IntKind.wrap Go.IntKind.i64 (a1 - (1 : Int))) fun y2 =>
      Go.K.ifB y2 (Go.K.melts.spec_l00In.wp a16 (0 : Int) (Go.IntKind.wrap Go.IntKind.i64 (a2 - (1 : Int))) fun y3 => K y3) (K Bool.false))
    (K Bool.false)) := spec_l03Cell.tx spec_l03Is.wp spec_l00In.wp a1 a2 a3 a4 a5 a6 a7 a8 a9 a10 a11 a12 a13 a14 a15 a16 K

theorem spec_l03Drive.tx (w_spec_l02At : Int → Int → Bool → List Nat → Int → Int → (Nat → Prop) → Prop) (a1 : Int) (a2 : Int) (a3 : Bool) (a4 : Int) (a5 : Int) (a6 : Bool) (a7 : Nat) (a8 : Nat) (a9 : Nat) (a10 : Nat) (a11 : Nat) (a12 : Int) (a13 : List
  Nat) (a14 : List Nat) (a15 : Int) (a16 : Int) (K : Nat → Prop) : spec_l03Drive.bd w_spec_l02At a1 a2 a3 a4 a5 a6 a7 a8 a9 a10 a11 a12 a13 a14 a15 a16 K =
  (w_spec_l02At a4 a5 a6 a14 a15 a16 fun y1 =>
  Go.K.ifB (Go.K.flt Go.FloatKind.f32 (Go.K.farith Go.BinOp.mul Go.FloatKind.f32 a10 (Go.K.fneg Go.FloatKind.f32 y1)) (0 : Nat))
    (K
      (Go.K.farith Go.BinOp.mul Go.FloatKind.f32 (1055286886 : Nat)
        (Go.K.farith Go.BinOp.quo Go.FloatKind.f32 (Go.K.farith Go.BinOp.mul Go.FloatKind.f32 a10 (Go.K.fneg Go.FloatKind.f32 y1))
          (Go.K.farith Go.BinOp.add Go.FloatKind.f32 (1065353216 : Nat)
            (Go.K.fneg Go.FloatKind.f32 (Go.K.farith Go.BinOp.mul Go.FloatKind.f32 a10 (Go.K.fneg Go.FloatKind.f32 y1)))))))
    (K
      (Go.K.farith Go.BinOp.mul Go.FloatKind.f32 (1055286886 : Nat)
        (Go.K.farith Go.BinOp.quo Go.FloatKind.f32 (Go.K.farith Go.BinOp.mul Go.FloatKind.f32 a10 (Go.K.fneg Go.FloatKind.f32 y1))
          (Go.K.farith Go.BinOp.add Go.FloatKind.f32 (1065353216 : Nat) (Go.K.farith Go.BinOp.mul Go.FloatKind.f32 a10 (Go.K.fneg Go.FloatKind.f32 y1))))))) := by kernel_rfl
theorem spec_l03Drive.eq (a1 : Int) (a2 : Int) (a3 : Bool) (a4 : Int) (a5 : Int) (a6 : Bool) (a7 : Nat) (a8 : Nat) (a9 : Nat) (a10 : Nat) (a11 : Nat) (a12 : Int) (a13 : List
  Nat) (a14 : List Nat) (a15 : Int) (a16 : Int) (K : Nat → Prop) : spec_l03Drive.wp a1 a2 a3 a4 a5 a6 a7 a8 a9 a10 a11 a12 a13 a14 a15 a16 K =
  (Go.K.melts.spec_l02At.wp a4 a5 a6 a14 a15 a16 fun y1 =>
  Go.K.ifB (Go.K.flt Go.FloatKind.f32 (Go.K.farith Go.BinOp.mul Go.FloatKind.f32 a10 (Go.K.fneg Go.FloatKind.f32 y1)) (0 : Nat))
    (K
      (Go.K.farith Go.BinOp.mul Go.FloatKind.f32 (1055286886 : Nat)
        (Go.K.farith Go.BinOp.quo Go.FloatKind.f32 (Go.K.farith Go.BinOp.mul Go.FloatKind.f32 a10 (Go.K.fneg Go.FloatKind.f32 y1))
          (Go.K.farith Go.BinOp.add Go.FloatKind.f32 (1065353216 : Nat)
            (Go.K.fneg Go.FloatKind.f32 (Go.K.farith Go.BinOp.mul Go.FloatKind.f32 a10 (Go.K.fneg Go.FloatKind.f32 y1)))))))
    (K
      (Go.K.farith Go.BinOp.mul Go.FloatKind.f32 (1055286886 : Nat)
        (Go.K.farith Go.BinOp.quo Go.FloatKind.f32 (Go.K.farith Go.BinOp.mul Go.FloatKind.f32 a10 (Go.K.fneg Go.FloatKind.f32 y1))
          (Go.K.farith Go.BinOp.add Go.FloatKind.f32 (1065353216 : Nat) (Go.K.farith Go.BinOp.mul Go.FloatKind.f32 a10 (Go.K.fneg Go.FloatKind.f32 y1))))))) := spec_l03Drive.tx spec_l02At.wp a1 a2 a3 a4 a5 a6 a7 a8 a9 a10 a11 a12 a13 a14 a15 a16 K

theorem spec_l03Pull.tx (w_spec_l02At : Int → Int → Bool → List Nat → Int → Int → (Nat → Prop) → Prop) (w_spec_l03Drive : Int → Int → Bool → Int → Int → Bool → Nat → Nat → Nat → Nat → Nat → Int → List Nat → List Nat → Int → Int → (Nat → Prop) → Prop) (a1 : Int) (a2 : Int) (a3 : Bool) (a4 : Int) (a5 : Int) (a6 : Bool) (a7 : Nat) (a8 : Nat) (a9 : Nat) (a10 : Nat) (a11 : Nat) (a12 : Int) (a13 : List
  Nat) (a14 : List Nat) (a15 : Int) (a16 : Int) (K : Nat → Prop) : spec_l03Pull.bd w_spec_l02At w_spec_l03Drive a1 a2 a3 a4 a5 a6 a7 a8 a9 a10 a11 a12 a13 a14 a15 a16 K =
  (w_spec_l02At a1 a2 a3 a13 a15 a16 fun y1 =>
  w_spec_l03Drive a1 a2 a3 a4 a5 a6 a7 a8 a9 a10 a11 a12 a13 a14 a15 a16 fun y2 =>
    K
      (Go.K.farith Go.BinOp.mul Go.FloatKind.f32 (Go.K.farith Go.BinOp.mul Go.FloatKind.f32 y1 (Go.K.farith Go.BinOp.sub Go.FloatKind.f32 (1065353216 : Nat) y1))
        (Go.K.farith Go.BinOp.add Go.FloatKind.f32 (Go.K.farith Go.BinOp.sub Go.FloatKind.f32 y1 (1056964608 : Nat)) y2))) := by kernel_rfl
theorem spec_l03Pull.eq (a1 : Int) (a2 : Int) (a3 : Bool) (a4 : Int) (a5 : Int) (a6 : Bool) (a7 : Nat) (a8 : Nat) (a9 : Nat) (a10 : Nat) (a11 : Nat) (a12 : Int) (a13 : List
  Nat) (a14 : List Nat) (a15 : Int) (a16 : Int) (K : Nat → Prop) : spec_l03Pull.wp a1 a2 a3 a4 a5 a6 a7 a8 a9 a10 a11 a12 a13 a14 a15 a16 K =
  (Go.K.melts.spec_l02At.wp a1 a2 a3 a13 a15 a16 fun y1 =>
  Go.K.melts.spec_l03Drive.wp a1 a2 a3 a4 a5 a6 a7 a8 a9 a10 a11 a12 a13 a14 a15 a16 fun y2 =>
    K
      (Go.K.farith Go.BinOp.mul Go.FloatKind.f32 (Go.K.farith Go.BinOp.mul Go.FloatKind.f32 y1 (Go.K.farith Go.BinOp.sub Go.FloatKind.f32 (1065353216 : Nat) y1))
        (Go.K.farith Go.BinOp.add Go.FloatKind.f32 (Go.K.farith Go.BinOp.sub Go.FloatKind.f32 y1 (1056964608 : Nat)) y2))) := spec_l03Pull.tx spec_l02At.wp spec_l03Drive.wp a1 a2 a3 a4 a5 a6 a7 a8 a9 a10 a11 a12 a13 a14 a15 a16 K

theorem spec_l03Number.tx (w_spec_l01Finite : Nat → (Bool → Prop) → Prop) (a1 : Nat) (K : Nat → Bool → Prop) : spec_l03Number.bd w_spec_l01Finite a1 K =
  (w_spec_l01Finite a1 fun y1 => Go.K.ifB (!y1) (K (0 : Nat) Bool.false) (K a1 Bool.true)) := by kernel_rfl
theorem spec_l03Number.eq (a1 : Nat) (K : Nat → Bool → Prop) : spec_l03Number.wp a1 K =
  (Go.K.melts.spec_l01Finite.wp a1 fun y1 => Go.K.ifB (!y1) (K (0 : Nat) Bool.false) (K a1 Bool.true)) := spec_l03Number.tx spec_l01Finite.wp a1 K

theorem spec_PullAt.tx (w_spec_l03Cell : Int → Int → Bool → Int → Int → Bool → Nat → Nat → Nat → Nat → Nat → Int → List Nat → List Nat → Int → Int → (Bool → Prop) → Prop) (w_spec_l03Drive : Int → Int → Bool → Int → Int → Bool → Nat → Nat → Nat → Nat → Nat → Int → List Nat → List Nat → Int → Int → (Nat → Prop) → Prop) (w_spec_l01Finite : Nat → (Bool → Prop) → Prop) (w_spec_l03Pull : Int → Int → Bool → Int → Int → Bool → Nat → Nat → Nat → Nat → Nat → Int → List Nat → List Nat → Int → Int → (Nat → Prop) → Prop) (w_spec_l03Number : Nat → (Nat → Bool → Prop) → Prop) (a1 : List
  Nat) (a2 : List
  Nat) (a3 : Int) (a4 : Int) (a5 : Bool) (a6 : Int) (a7 : Int) (a8 : Bool) (a9 : Nat) (a10 : Nat) (a11 : Nat) (a12 : Nat) (a13 : Nat) (a14 : Int) (a15 : Int) (a16 : Int) (K : Nat →
  Bool → Prop) : spec_PullAt.bd w_spec_l03Cell w_spec_l03Drive w_spec_l01Finite w_spec_l03Pull w_spec_l03Number a1 a2 a3 a4 a5 a6 a7 a8 a9 a10 a11 a12 a13 a14 a15 a16 K =
  (w_spec_l03Cell a3 a4 a5 a6 a7 a8 a9 a10 a11 a12 a13 a14 a1 a2 a15 a16 fun y1 =>
  Go.K.ifB (!y1) (K (0 : Nat) Bool.false)
    (w_spec_l03Drive a3 a4 a5 a6 a7 a8 a9 a10 a11 a12 a13 a14 a1 a2 a15 a16 fun y2 =>
      w_spec_l01Finite y2 fun y3 =>
        Go.K.ifB (!y3) (K (0 : Nat) Bool.false)
          (w_spec_l03Pull a3 a4 a5 a6 a7 a8 a9 a10 a11 a12 a13 a14 a1 a2 a15 a16 fun y4 => w_spec_l03Number y4 fun y5 y6 => K y5 y6))) := by kernel_rfl
theorem spec_PullAt.eq (a1 : List
  Nat) (a2 : List
  Nat) (a3 : Int) (a4 : Int) (a5 : Bool) (a6 : Int) (a7 : Int) (a8 : Bool) (a9 : Nat) (a10 : Nat) (a11 : Nat) (a12 : Nat) (a13 : Nat) (a14 : Int) (a15 : Int) (a16 : Int) (K : Nat →
  Bool → Prop) : spec_PullAt.wp a1 a2 a3 a4 a5 a6 a7 a8 a9 a10 a11 a12 a13 a14 a15 a16 K =
  (Go.K.melts.spec_l03Cell.wp a3 a4 a5 a6 a7 a8 a9 a10 a11 a12 a13 a14 a1 a2 a15 a16 fun y1 =>
  Go.K.ifB (!y1) (K (0 : Nat) Bool.false)
    (Go.K.melts.spec_l03Drive.wp a3 a4 a5 a6 a7 a8 a9 a10 a11 a12 a13 a14 a1 a2 a15 a16 fun y2 =>
      Go.K.melts.spec_l01Finite.wp y2 fun y3 =>
        Go.K.ifB (!y3) (K (0 : Nat) Bool.false)
          (Go.K.melts.spec_l03Pull.wp a3 a4 a5 a6 a7 a8 a9 a10 a11 a12 a13 a14 a1 a2 a15 a16 fun y4 => Go.K.melts.spec_l03Number.wp y4 fun y5 y6 => K y5 y6))) := spec_PullAt.tx spec_l03Cell.wp spec_l03Drive.wp spec_l01Finite.wp spec_l03Pull.wp spec_l03Number.wp a1 a2 a3 a4 a5 a6 a7 a8 a9 a10 a11 a12 a13 a14 a15 a16 K

theorem impl_alike.tx  (a1 : List
  Nat) (a2 : List Nat) (a3 : Int) (a4 : Int) (a5 : Bool) (a6 : Int) (a7 : Int) (a8 : Bool) (K : Bool → Prop) : impl_alike.bd  a1 a2 a3 a4 a5 a6 a7 a8 K =
  (Go.K.ifB (a3 == a6) (Go.K.ifB (a4 == a7) (K (a5 == a8)) (K Bool.false)) (K Bool.false)) := by kernel_rfl
theorem impl_alike.eq (a1 : List
  Nat) (a2 : List Nat) (a3 : Int) (a4 : Int) (a5 : Bool) (a6 : Int) (a7 : Int) (a8 : Bool) (K : Bool → Prop) : impl_alike.wp a1 a2 a3 a4 a5 a6 a7 a8 K =
  (Go.K.ifB (a3 == a6) (Go.K.ifB (a4 == a7) (K (a5 == a8)) (K Bool.false)) (K Bool.false)) := impl_alike.tx  a1 a2 a3 a4 a5 a6 a7 a8 K

theorem math_IsNaN.tx  (a1 : Nat) (K : Bool → Prop) : math_IsNaN.bd  a1 K =
  (K (Go.K.fne Go.FloatKind.f64 a1 a1)) := by kernel_rfl
theorem math_IsNaN.eq (a1 : Nat) (K : Bool → Prop) : math_IsNaN.wp a1 K =
  (K (Go.K.fne Go.FloatKind.f64 a1 a1)) := math_IsNaN.tx  a1 K

theorem math_Abs.tx  (a1 : Nat) (K : Nat → Prop) : math_Abs.bd  a1 K =
  (Go.K.isNaNW Go.FloatKind.f64 a1 = Bool.false ∧
  K (Go.K.cF Go.FloatKind.f64 (Int.toNat (Go.K.ibits Go.BinOp.andNot Go.IntKind.u64 (↑a1 : Int) (9223372036854775808 : Int))))) := by kernel_rfl
theorem math_Abs.eq (a1 : Nat) (K : Nat → Prop) : math_Abs.wp a1 K =
  (Go.K.isNaNW Go.FloatKind.f64 a1 = Bool.false ∧
  K (Go.K.cF Go.FloatKind.f64 (Int.toNat (Go.K.ibits Go.BinOp.andNot Go.IntKind.u64 (↑a1 : Int) (9223372036854775808 : Int))))) := math_Abs.tx  a1 K

theorem math_IsInf.tx (w_math_Abs : Nat → (Nat → Prop) → Prop) (a1 : Nat) (a2 : Int) (K : Bool → Prop) : math_IsInf.bd w_math_Abs a1 a2 K =
  (Go.K.ifB (a2 == (0 : Int)) (w_math_Abs a1 fun y1 => K (Go.K.fgt Go.FloatKind.f64 y1 (9218868437227405311 : Nat)))
  (Go.K.ifB (Decidable.decide (a2 < (0 : Int))) (K (Go.K.fgt Go.FloatKind.f64 (Go.K.fneg Go.FloatKind.f64 a1) (9218868437227405311 : Nat)))
    (K (Go.K.fgt Go.FloatKind.f64 a1 (9218868437227405311 : Nat))))) := by kernel_rfl
theorem math_IsInf.eq (a1 : Nat) (a2 : Int) (K : Bool → Prop) : math_IsInf.wp a1 a2 K =
  (Go.K.ifB (a2 == (0 : Int)) (Go.K.melts.math_Abs.wp a1 fun y1 => K (Go.K.fgt Go.FloatKind.f64 y1 (9218868437227405311 : Nat)))
  (Go.K.ifB (Decidable.decide (a2 < (0 : Int))) (K (Go.K.fgt Go.FloatKind.f64 (Go.K.fneg Go.FloatKind.f64 a1) (9218868437227405311 : Nat)))
    (K (Go.K.fgt Go.FloatKind.f64 a1 (9218868437227405311 : Nat))))) := math_IsInf.tx math_Abs.wp a1 a2 K

theorem impl_finite.tx (w_math_IsNaN : Nat → (Bool → Prop) → Prop) (w_math_IsInf : Nat → Int → (Bool → Prop) → Prop) (a1 : Nat) (K : Bool → Prop) : impl_finite.bd w_math_IsNaN w_math_IsInf a1 K =
  (w_math_IsNaN a1 fun y1 => Go.K.ifB (!y1) (w_math_IsInf a1 (0 : Int) fun y2 => K !y2) (K Bool.false)) := by kernel_rfl
theorem impl_finite.eq (a1 : Nat) (K : Bool → Prop) : impl_finite.wp a1 K =
  (Go.K.melts.math_IsNaN.wp a1 fun y1 => Go.K.ifB (!y1) (Go.K.melts.math_IsInf.wp a1 (0 : Int) fun y2 => K !y2) (K Bool.false)) := impl_finite.tx math_IsNaN.wp math_IsInf.wp a1 K

theorem impl_IsFinite.tx (w_impl_finite : Nat → (Bool → Prop) → Prop) (a1 : Nat) (K : Bool → Prop) : impl_IsFinite.bd w_impl_finite a1 K =
  (w_impl_finite (Go.K.fconv Go.FloatKind.f32 Go.FloatKind.f64 a1) fun y1 => K y1) := by kernel_rfl
theorem impl_IsFinite.eq (a1 : Nat) (K : Bool → Prop) : impl_IsFinite.wp a1 K =
  (Go.K.melts.impl_finite.wp (Go.K.fconv Go.FloatKind.f32 Go.FloatKind.f64 a1) fun y1 => K y1) := impl_IsFinite.tx impl_finite.wp a1 K

theorem impl_areFinite_1.tx (w_impl_IsFinite : Nat → (Bool → Prop) → Prop) (a1 : Nat) (K : Bool → Prop) : impl_areFinite_1.bd w_impl_IsFinite a1 K =
  (w_impl_IsFinite a1 fun y1 => K !y1) := by kernel_rfl
theorem impl_areFinite_1.eq (a1 : Nat) (K : Bool → Prop) : impl_areFinite_1.wp a1 K =
  (Go.K.melts.impl_IsFinite.wp a1 fun y1 => K !y1) := impl_areFinite_1.tx impl_IsFinite.wp a1 K

theorem slices_IndexFunc_float32_float32__areFinite_1.tx (w_impl_areFinite_1 : Nat → (Bool → Prop) → Prop) (a1 : List Nat) (K : Int → Prop) : slices_IndexFunc_float32_float32__areFinite_1.bd w_impl_areFinite_1 a1 K =
  (∀ (J1 : Int → Int → Prop),
  (∀ (x2 x3 : Int),
      Go.K.ifB (Decidable.decide (x3 < x2))
          (((0 : Int) ≤ x3 ∧ x3 < (↑(List.length a1) : Int)) ∧
            w_impl_areFinite_1 (List.getD a1 (Int.toNat x3) (0 : Nat)) fun y4 => Go.K.ifB y4 (K x3) (J1 x2 (Go.IntKind.wrap Go.IntKind.i64 (x3 + (1 : Int)))))
          (K (-1 : Int)) →
        J1 x2 x3) →
    J1 (↑(List.length a1) : Int) (0 : Int)) := by kernel_rfl
theorem slices_IndexFunc_float32_float32__areFinite_1.eq (a1 : List Nat) (K : Int → Prop) : slices_IndexFunc_float32_float32__areFinite_1.wp a1 K =
  (∀ (J1 : Int → Int → Prop),
  (∀ (x2 x3 : Int),
      Go.K.ifB (Decidable.decide (x3 < x2))
          (((0 : Int) ≤ x3 ∧ x3 < (↑(List.length a1) : Int)) ∧
            Go.K.melts.impl_areFinite_1.wp (List.getD a1 (Int.toNat x3) (0 : Nat)) fun y4 => Go.K.ifB y4 (K x3) (J1 x2 (Go.IntKind.wrap Go.IntKind.i64 (x3 + (1 : Int)))))
          (K (-1 : Int)) →
        J1 x2 x3) →
    J1 (↑(List.length a1) : Int) (0 : Int)) := slices_IndexFunc_float32_float32__areFinite_1.tx impl_areFinite_1.wp a1 K

theorem slices_ContainsFunc_float32_float32__areFinite_1.tx (w_slices_IndexFunc_float32_float32__areFinite_1 : List Nat → (Int → Prop) → Prop) (a1 : List Nat) (K : Bool → Prop) : slices_ContainsFunc_float32_float32__areFinite_1.bd w_slices_IndexFunc_float32_float32__areFinite_1 a1 K =
  (w_slices_IndexFunc_float32_float32__areFinite_1 a1 fun y1 => K (Decidable.decide (y1 ≥ (0 : Int)))) := by kernel_rfl
theorem slices_ContainsFunc_float32_float32__areFinite_1.eq (a1 : List Nat) (K : Bool → Prop) : slices_ContainsFunc_float32_float32__areFinite_1.wp a1 K =
  (Go.K.melts.slices_IndexFunc_float32_float32__areFinite_1.wp a1 fun y1 => K (Decidable.decide (y1 ≥ (0 : Int)))) := slices_ContainsFunc_float32_float32__areFinite_1.tx slices_IndexFunc_float32_float32__areFinite_1.wp a1 K

theorem impl_areFinite.tx (w_slices_ContainsFunc_float32_float32__areFinite_1 : List Nat → (Bool → Prop) → Prop) (a1 : List Nat) (K : Bool → Prop) : impl_areFinite.bd w_slices_ContainsFunc_float32_float32__areFinite_1 a1 K =
  (w_slices_ContainsFunc_float32_float32__areFinite_1 a1 fun y1 => K !y1) := by kernel_rfl
theorem impl_areFinite.eq (a1 : List Nat) (K : Bool → Prop) : impl_areFinite.wp a1 K =
  (Go.K.melts.slices_ContainsFunc_float32_float32__areFinite_1.wp a1 fun y1 => K !y1) := impl_areFinite.tx slices_ContainsFunc_float32_float32__areFinite_1.wp a1 K

theorem impl_finiteField.tx (w_impl_areFinite : List Nat → (Bool → Prop) → Prop) (a1 : List Nat) (a2 : Int) (a3 : Int) (a4 : Bool) (K : Bool → Prop) : impl_finiteField.bd w_impl_areFinite a1 a2 a3 a4 K =
  (w_impl_areFinite a1 fun y1 => K y1) := by kernel_rfl
theorem impl_finiteField.eq (a1 : List Nat) (a2 : Int) (a3 : Int) (a4 : Bool) (K : Bool → Prop) : impl_finiteField.wp a1 a2 a3 a4 K =
  (Go.K.melts.impl_areFinite.wp a1 fun y1 => K y1) := impl_finiteField.tx impl_areFinite.wp a1 a2 a3 a4 K

theorem impl_ValidMelt_1.tx  (a1 : Nat) (K : Bool → Prop) : impl_ValidMelt_1.bd  a1 K =
  (Go.K.ifB (Go.K.fge Go.FloatKind.f32 a1 (0 : Nat)) (K !Go.K.fle Go.FloatKind.f32 a1 (1065353216 : Nat)) (K Bool.true)) := by kernel_rfl
theorem impl_ValidMelt_1.eq (a1 : Nat) (K : Bool → Prop) : impl_ValidMelt_1.wp a1 K =
  (Go.K.ifB (Go.K.fge Go.FloatKind.f32 a1 (0 : Nat)) (K !Go.K.fle Go.FloatKind.f32 a1 (1065353216 : Nat)) (K Bool.true)) := impl_ValidMelt_1.tx  a1 K

theorem slices_IndexFunc_float32_float32__ValidMelt_1.tx (w_impl_ValidMelt_1 : Nat → (Bool → Prop) → Prop) (a1 : List Nat) (K : Int → Prop) : slices_IndexFunc_float32_float32__ValidMelt_1.bd w_impl_ValidMelt_1 a1 K =
  (∀ (J1 : Int → Int → Prop),
  (∀ (x2 x3 : Int),
      Go.K.ifB (Decidable.decide (x3 < x2))
          (((0 : Int) ≤ x3 ∧ x3 < (↑(List.length a1) : Int)) ∧
            w_impl_ValidMelt_1 (List.getD a1 (Int.toNat x3) (0 : Nat)) fun y4 => Go.K.ifB y4 (K x3) (J1 x2 (Go.IntKind.wrap Go.IntKind.i64 (x3 + (1 : Int)))))
          (K (-1 : Int)) →
        J1 x2 x3) →
    J1 (↑(List.length a1) : Int) (0 : Int)) := by kernel_rfl
theorem slices_IndexFunc_float32_float32__ValidMelt_1.eq (a1 : List Nat) (K : Int → Prop) : slices_IndexFunc_float32_float32__ValidMelt_1.wp a1 K =
  (∀ (J1 : Int → Int → Prop),
  (∀ (x2 x3 : Int),
      Go.K.ifB (Decidable.decide (x3 < x2))
          (((0 : Int) ≤ x3 ∧ x3 < (↑(List.length a1) : Int)) ∧
            Go.K.melts.impl_ValidMelt_1.wp (List.getD a1 (Int.toNat x3) (0 : Nat)) fun y4 => Go.K.ifB y4 (K x3) (J1 x2 (Go.IntKind.wrap Go.IntKind.i64 (x3 + (1 : Int)))))
          (K (-1 : Int)) →
        J1 x2 x3) →
    J1 (↑(List.length a1) : Int) (0 : Int)) := slices_IndexFunc_float32_float32__ValidMelt_1.tx impl_ValidMelt_1.wp a1 K

theorem slices_ContainsFunc_float32_float32__ValidMelt_1.tx (w_slices_IndexFunc_float32_float32__ValidMelt_1 : List Nat → (Int → Prop) → Prop) (a1 : List Nat) (K : Bool → Prop) : slices_ContainsFunc_float32_float32__ValidMelt_1.bd w_slices_IndexFunc_float32_float32__ValidMelt_1 a1 K =
  (w_slices_IndexFunc_float32_float32__ValidMelt_1 a1 fun y1 => K (Decidable.decide (y1 ≥ (0 : Int)))) := by kernel_rfl
theorem slices_ContainsFunc_float32_float32__ValidMelt_1.eq (a1 : List Nat) (K : Bool → Prop) : slices_ContainsFunc_float32_float32__ValidMelt_1.wp a1 K =
  (Go.K.melts.slices_IndexFunc_float32_float32__ValidMelt_1.wp a1 fun y1 => K (Decidable.decide (y1 ≥ (0 : Int)))) := slices_ContainsFunc_float32_float32__ValidMelt_1.tx slices_IndexFunc_float32_float32__ValidMelt_1.wp a1 K

theorem impl_aMass.tx (w_impl_IsFinite : Nat → (Bool → Prop) → Prop) (a1 : Nat) (K : Bool → Prop) : impl_aMass.bd w_impl_IsFinite a1 K =
  (w_impl_IsFinite a1 fun y1 => Go.K.ifB y1 (K (Go.K.fge Go.FloatKind.f32 a1 (0 : Nat))) (K Bool.false)) := by kernel_rfl
theorem impl_aMass.eq (a1 : Nat) (K : Bool → Prop) : impl_aMass.wp a1 K =
  (Go.K.melts.impl_IsFinite.wp a1 fun y1 => Go.K.ifB y1 (K (Go.K.fge Go.FloatKind.f32 a1 (0 : Nat))) (K Bool.false)) := impl_aMass.tx impl_IsFinite.wp a1 K

theorem impl_ValidMelt.tx (w_impl_ValidField : List Nat → Int → Int → Bool → (Bool → Prop) → Prop) (w_impl_alike : List Nat → List Nat → Int → Int → Bool → Int → Int → Bool → (Bool → Prop) → Prop) (w_impl_finiteField : List Nat → Int → Int → Bool → (Bool → Prop) → Prop) (w_slices_ContainsFunc_float32_float32__ValidMelt_1 : List Nat → (Bool → Prop) → Prop) (w_impl_aMass : Nat → (Bool → Prop) → Prop) (w_impl_within : Int → Int → Int → (Bool → Prop) → Prop) (a1 : List
  Nat) (a2 : List
  Nat) (a3 : Int) (a4 : Int) (a5 : Bool) (a6 : Int) (a7 : Int) (a8 : Bool) (a9 : Nat) (a10 : Nat) (a11 : Nat) (a12 : Nat) (a13 : Nat) (a14 : Int) (K : Bool →
  Prop) : impl_ValidMelt.bd w_impl_ValidField w_impl_alike w_impl_finiteField w_slices_ContainsFunc_float32_float32__ValidMelt_1 w_impl_aMass w_impl_within a1 a2 a3 a4 a5 a6 a7 a8 a9 a10 a11 a12 a13 a14 K =
  (w_impl_ValidField a1 a3 a4 a5 fun y1 =>
  Go.K.ifB (!y1) (K Bool.false)
    (w_impl_ValidField a2 a6 a7 a8 fun y2 =>
      Go.K.ifB (!y2) (K Bool.false)
        (w_impl_alike a1 a2 a3 a4 a5 a6 a7 a8 fun y3 =>
          Go.K.ifB (!y3) (K Bool.false)
            (w_impl_finiteField a2 a6 a7 a8 fun y4 =>
              Go.K.ifB (!y4) (K Bool.false)
                (w_slices_ContainsFunc_float32_float32__ValidMelt_1 a1 fun y5 =>
                  Go.K.ifB y5 (K Bool.false)
                    (∀ (J6 : Int → Int → Bool → Int → Int → Bool → Nat → Nat → Nat → Nat → Nat → Int → List Nat → Int → Int → Prop),
                      (∀ (x7 x8 : Int) (x9 : Bool) (x10 x11 : Int) (x12 : Bool) (x13 x14 x15 x16 x17 : Nat) (x18 : Int) (x19 : List Nat) (x20 x21 : Int),
                          Go.K.ifB (Decidable.decide (x21 < x20))
                              (((0 : Int) ≤ x21 ∧ x21 < (↑(List.length x19) : Int)) ∧
                                w_impl_aMass (List.getD x19 (Int.toNat x21) (0 : Nat)) fun y22 =>
                                  Go.K.ifB (!y22) (K Bool.false) (J6 x7 x8 x9 x10 x11 x12 x13 x14 x15 x16 x17 x18 x19 x20 (Go.IntKind.wrap Go.IntKind.i64 (x21 + (1 : Int)))))
                              (Go.K.ifB (Go.K.fge Go.FloatKind.f32 x17 (0 : Nat))
                                (Go.K.ifB (Go.K.flt Go.FloatKind.f32 x17 (1065353216 : Nat)) (w_impl_within x18 (1 : Int) (8 : Int) fun y23 => K y23) (K Bool.false))
                                (K Bool.false)) →
                            J6 x7 x8 x9 x10 x11 x12 x13 x14 x15 x16 x17 x18 x19 x20 x21) →
                        J6 a3 a4 a5 a6 a7 a8 a9 a10 a11 a12 a13 a14 (a9 :: a10 :: a11 :: a12 :: List.replicate (0 : Nat) (0 : Nat)) (4 : Int) (0 : Int))))))) := by kernel_rfl
theorem impl_ValidMelt.eq (a1 : List
  Nat) (a2 : List
  Nat) (a3 : Int) (a4 : Int) (a5 : Bool) (a6 : Int) (a7 : Int) (a8 : Bool) (a9 : Nat) (a10 : Nat) (a11 : Nat) (a12 : Nat) (a13 : Nat) (a14 : Int) (K : Bool →
  Prop) : impl_ValidMelt.wp a1 a2 a3 a4 a5 a6 a7 a8 a9 a10 a11 a12 a13 a14 K =
  (Go.K.melts.impl_ValidField.wp a1 a3 a4 a5 fun y1 =>
  Go.K.ifB (!y1) (K Bool.false)
    (Go.K.melts.impl_ValidField.wp a2 a6 a7 a8 fun y2 =>
      Go.K.ifB (!y2) (K Bool.false)
        (Go.K.melts.impl_alike.wp a1 a2 a3 a4 a5 a6 a7 a8 fun y3 =>
          Go.K.ifB (!y3) (K Bool.false)
            (Go.K.melts.impl_finiteField.wp a2 a6 a7 a8 fun y4 =>
              Go.K.ifB (!y4) (K Bool.false)
                (Go.K.melts.slices_ContainsFunc_float32_float32__ValidMelt_1.wp a1 fun y5 =>
                  Go.K.ifB y5 (K Bool.false)
                    (∀ (J6 : Int → Int → Bool → Int → Int → Bool → Nat → Nat → Nat → Nat → Nat → Int → List Nat → Int → Int → Prop),
                      (∀ (x7 x8 : Int) (x9 : Bool) (x10 x11 : Int) (x12 : Bool) (x13 x14 x15 x16 x17 : Nat) (x18 : Int) (x19 : List Nat) (x20 x21 : Int),
                          Go.K.ifB (Decidable.decide (x21 < x20))
                              (((0 : Int) ≤ x21 ∧ x21 < (↑(List.length x19) : Int)) ∧
                                Go.K.melts.impl_aMass.wp (List.getD x19 (Int.toNat x21) (0 : Nat)) fun y22 =>
                                  Go.K.ifB (!y22) (K Bool.false) (J6 x7 x8 x9 x10 x11 x12 x13 x14 x15 x16 x17 x18 x19 x20 (Go.IntKind.wrap Go.IntKind.i64 (x21 + (1 : Int)))))
                              (Go.K.ifB (Go.K.fge Go.FloatKind.f32 x17 (0 : Nat))
                                (Go.K.ifB (Go.K.flt Go.FloatKind.f32 x17 (1065353216 : Nat)) (Go.K.melts.impl_within.wp x18 (1 : Int) (8 : Int) fun y23 => K y23) (K Bool.false))
                                (K Bool.false)) →
                            J6 x7 x8 x9 x10 x11 x12 x13 x14 x15 x16 x17 x18 x19 x20 x21) →
                        J6 a3 a4 a5 a6 a7 a8 a9 a10 a11 a12 a13 a14 (a9 :: a10 :: a11 :: a12 :: List.replicate (0 : Nat) (0 : Nat)) (4 : Int) (0 : Int))))))) := impl_ValidMelt.tx impl_ValidField.wp impl_alike.wp impl_finiteField.wp slices_ContainsFunc_float32_float32__ValidMelt_1.wp impl_aMass.wp impl_within.wp a1 a2 a3 a4 a5 a6 a7 a8 a9 a10 a11 a12 a13 a14 K

theorem impl_Melt_isCell.tx (w_impl_ValidMelt : List Nat → List Nat → Int → Int → Bool → Int → Int → Bool → Nat → Nat → Nat → Nat → Nat → Int → (Bool → Prop) → Prop) (w_impl_within : Int → Int → Int → (Bool → Prop) → Prop) (a1 : List
  Nat) (a2 : List
  Nat) (a3 : Int) (a4 : Int) (a5 : Bool) (a6 : Int) (a7 : Int) (a8 : Bool) (a9 : Nat) (a10 : Nat) (a11 : Nat) (a12 : Nat) (a13 : Nat) (a14 : Int) (a15 : Int) (a16 : Int) (K : Bool →
  Prop) : impl_Melt_isCell.bd w_impl_ValidMelt w_impl_within a1 a2 a3 a4 a5 a6 a7 a8 a9 a10 a11 a12 a13 a14 a15 a16 K =
  (w_impl_ValidMelt a1 a2 a3 a4 a5 a6 a7 a8 a9 a10 a11 a12 a13 a14 fun y1 =>
  Go.K.ifB y1
    (w_impl_within a15 (0 : Int) (Go.IntKind.wrap Go.IntKind.i64 (a3 - (1 : Int))) fun y2 =>
      Go.K.ifB y2 (w_impl_within a16 (0 : Int) (Go.IntKind.wrap Go.IntKind.i64 (a4 - (1 : Int))) fun y3 => K y3) (K Bool.false))
    (K Bool.false)) := by kernel_rfl
theorem impl_Melt_isCell.eq (a1 : List
  Nat) (a2 : List
  Nat) (a3 : Int) (a4 : Int) (a5 : Bool) (a6 : Int) (a7 : Int) (a8 : Bool) (a9 : Nat) (a10 : Nat) (a11 : Nat) (a12 : Nat) (a13 : Nat) (a14 : Int) (a15 : Int) (a16 : Int) (K : Bool →
  Prop) : impl_Melt_isCell.wp a1 a2 a3 a4 a5 a6 a7 a8 a9 a10 a11 a12 a13 a14 a15 a16 K =
  (Go.K.melts.impl_ValidMelt.wp a1 a2 a3 a4 a5 a6 a7 a8 a9 a10 a11 a12 a13 a14 fun y1 =>
  Go.K.ifB y1
    (Go.K.melts.impl_within.wp a15 (0 : Int) (Go.IntKind.wrap Go.IntKind.i64 (a3 - (1 : Int))) fun y2 =>
      Go.K.ifB y2 (Go.K.melts.impl_within.wp a16 (0 : Int) (Go.IntKind.wrap Go.IntKind.i64 (a4 - (1 : Int))) fun y3 => K y3) (K Bool.false))
    (K Bool.false)) := impl_Melt_isCell.tx impl_ValidMelt.wp impl_within.wp a1 a2 a3 a4 a5 a6 a7 a8 a9 a10 a11 a12 a13 a14 a15 a16 K

theorem impl_Field_at.tx  (a1 : List Nat) (a2 : Int) (a3 : Int) (a4 : Bool) (a5 : Int) (a6 : Int) (K : Nat → Prop) : impl_Field_at.bd  a1 a2 a3 a4 a5 a6 K =
  (((0 : Int) ≤ Go.IntKind.wrap Go.IntKind.i64 (a5 + Go.IntKind.wrap Go.IntKind.i64 (a2 * a6)) ∧
    Go.IntKind.wrap Go.IntKind.i64 (a5 + Go.IntKind.wrap Go.IntKind.i64 (a2 * a6)) < (↑(List.length a1) : Int)) ∧
  K (List.getD a1 (Int.toNat (Go.IntKind.wrap Go.IntKind.i64 (a5 + Go.IntKind.wrap Go.IntKind.i64 (a2 * a6)))) (0 : Nat))) := by kernel_rfl
theorem impl_Field_at.eq (a1 : List Nat) (a2 : Int) (a3 : Int) (a4 : Bool) (a5 : Int) (a6 : Int) (K : Nat → Prop) : impl_Field_at.wp a1 a2 a3 a4 a5 a6 K =
  (((0 : Int) ≤ Go.IntKind.wrap Go.IntKind.i64 (a5 + Go.IntKind.wrap Go.IntKind.i64 (a2 * a6)) ∧
    Go.IntKind.wrap Go.IntKind.i64 (a5 + Go.IntKind.wrap Go.IntKind.i64 (a2 * a6)) < (↑(List.length a1) : Int)) ∧
  K (List.getD a1 (Int.toNat (Go.IntKind.wrap Go.IntKind.i64 (a5 + Go.IntKind.wrap Go.IntKind.i64 (a2 * a6)))) (0 : Nat))) := impl_Field_at.tx  a1 a2 a3 a4 a5 a6 K

theorem impl_absolute.tx (w_math_Abs : Nat → (Nat → Prop) → Prop) (a1 : Nat) (K : Nat → Prop) : impl_absolute.bd w_math_Abs a1 K =
  (w_math_Abs (Go.K.fconv Go.FloatKind.f32 Go.FloatKind.f64 a1) fun y1 =>
  Go.K.fitsF Go.FloatKind.f64 Go.FloatKind.f32 y1 = Bool.true ∧ K (Go.K.fconv Go.FloatKind.f64 Go.FloatKind.f32 y1)) := by kernel_rfl
theorem impl_absolute.eq (a1 : Nat) (K : Nat → Prop) : impl_absolute.wp a1 K =
  (Go.K.melts.math_Abs.wp (Go.K.fconv Go.FloatKind.f32 Go.FloatKind.f64 a1) fun y1 =>
  Go.K.fitsF Go.FloatKind.f64 Go.FloatKind.f32 y1 = Bool.true ∧ K (Go.K.fconv Go.FloatKind.f64 Go.FloatKind.f32 y1)) := impl_absolute.tx math_Abs.wp a1 K

theorem impl_Melt_drive.tx (w_impl_Field_at : List Nat → Int → Int → Bool → Int → Int → (Nat → Prop) → Prop) (w_impl_absolute : Nat → (Nat → Prop) → Prop) (a1 : List
  Nat) (a2 : List
  Nat) (a3 : Int) (a4 : Int) (a5 : Bool) (a6 : Int) (a7 : Int) (a8 : Bool) (a9 : Nat) (a10 : Nat) (a11 : Nat) (a12 : Nat) (a13 : Nat) (a14 : Int) (a15 : Int) (a16 : Int) (K : Nat →
  Prop) : impl_Melt_drive.bd w_impl_Field_at w_impl_absolute a1 a2 a3 a4 a5 a6 a7 a8 a9 a10 a11 a12 a13 a14 a15 a16 K =
  (w_impl_Field_at a2 a6 a7 a8 a15 a16 fun y1 =>
  w_impl_absolute (Go.K.farith Go.BinOp.mul Go.FloatKind.f32 a12 (Go.K.fneg Go.FloatKind.f32 y1)) fun y2 =>
    K
      (Go.K.farith Go.BinOp.mul Go.FloatKind.f32 (1055286886 : Nat)
        (Go.K.farith Go.BinOp.quo Go.FloatKind.f32 (Go.K.farith Go.BinOp.mul Go.FloatKind.f32 a12 (Go.K.fneg Go.FloatKind.f32 y1))
          (Go.K.farith Go.BinOp.add Go.FloatKind.f32 (1065353216 : Nat) y2)))) := by kernel_rfl
theorem impl_Melt_drive.eq (a1 : List
  Nat) (a2 : List
  Nat) (a3 : Int) (a4 : Int) (a5 : Bool) (a6 : Int) (a7 : Int) (a8 : Bool) (a9 : Nat) (a10 : Nat) (a11 : Nat) (a12 : Nat) (a13 : Nat) (a14 : Int) (a15 : Int) (a16 : Int) (K : Nat →
  Prop) : impl_Melt_drive.wp a1 a2 a3 a4 a5 a6 a7 a8 a9 a10 a11 a12 a13 a14 a15 a16 K =
  (Go.K.melts.impl_Field_at.wp a2 a6 a7 a8 a15 a16 fun y1 =>
  Go.K.melts.impl_absolute.wp (Go.K.farith Go.BinOp.mul Go.FloatKind.f32 a12 (Go.K.fneg Go.FloatKind.f32 y1)) fun y2 =>
    K
      (Go.K.farith Go.BinOp.mul Go.FloatKind.f32 (1055286886 : Nat)
        (Go.K.farith Go.BinOp.quo Go.FloatKind.f32 (Go.K.farith Go.BinOp.mul Go.FloatKind.f32 a12 (Go.K.fneg Go.FloatKind.f32 y1))
          (Go.K.farith Go.BinOp.add Go.FloatKind.f32 (1065353216 : Nat) y2)))) := impl_Melt_drive.tx impl_Field_at.wp impl_absolute.wp a1 a2 a3 a4 a5 a6 a7 a8 a9 a10 a11 a12 a13 a14 a15 a16 K

theorem impl_Melt_pull.tx (w_impl_Field_at : List Nat → Int → Int → Bool → Int → Int → (Nat → Prop) → Prop) (w_impl_Melt_drive : List Nat → List Nat → Int → Int → Bool → Int → Int → Bool → Nat → Nat → Nat → Nat → Nat → Int → Int → Int → (Nat → Prop) → Prop) (a1 : List
  Nat) (a2 : List
  Nat) (a3 : Int) (a4 : Int) (a5 : Bool) (a6 : Int) (a7 : Int) (a8 : Bool) (a9 : Nat) (a10 : Nat) (a11 : Nat) (a12 : Nat) (a13 : Nat) (a14 : Int) (a15 : Int) (a16 : Int) (K : Nat →
  Prop) : impl_Melt_pull.bd w_impl_Field_at w_impl_Melt_drive a1 a2 a3 a4 a5 a6 a7 a8 a9 a10 a11 a12 a13 a14 a15 a16 K =
  (w_impl_Field_at a1 a3 a4 a5 a15 a16 fun y1 =>
  w_impl_Melt_drive a1 a2 a3 a4 a5 a6 a7 a8 a9 a10 a11 a12 a13 a14 a15 a16 fun y2 =>
    K
      (Go.K.farith Go.BinOp.mul Go.FloatKind.f32 (Go.K.farith Go.BinOp.mul Go.FloatKind.f32 y1 (Go.K.farith Go.BinOp.sub Go.FloatKind.f32 (1065353216 : Nat) y1))
        (Go.K.farith Go.BinOp.add Go.FloatKind.f32 (Go.K.farith Go.BinOp.sub Go.FloatKind.f32 y1 (1056964608 : Nat)) y2))) := by kernel_rfl
theorem impl_Melt_pull.eq (a1 : List
  Nat) (a2 : List
  Nat) (a3 : Int) (a4 : Int) (a5 : Bool) (a6 : Int) (a7 : Int) (a8 : Bool) (a9 : Nat) (a10 : Nat) (a11 : Nat) (a12 : Nat) (a13 : Nat) (a14 : Int) (a15 : Int) (a16 : Int) (K : Nat →
  Prop) : impl_Melt_pull.wp a1 a2 a3 a4 a5 a6 a7 a8 a9 a10 a11 a12 a13 a14 a15 a16 K =
  (Go.K.melts.impl_Field_at.wp a1 a3 a4 a5 a15 a16 fun y1 =>
  Go.K.melts.impl_Melt_drive.wp a1 a2 a3 a4 a5 a6 a7 a8 a9 a10 a11 a12 a13 a14 a15 a16 fun y2 =>
    K
      (Go.K.farith Go.BinOp.mul Go.FloatKind.f32 (Go.K.farith Go.BinOp.mul Go.FloatKind.f32 y1 (Go.K.farith Go.BinOp.sub Go.FloatKind.f32 (1065353216 : Nat) y1))
        (Go.K.farith Go.BinOp.add Go.FloatKind.f32 (Go.K.farith Go.BinOp.sub Go.FloatKind.f32 y1 (1056964608 : Nat)) y2))) := impl_Melt_pull.tx impl_Field_at.wp impl_Melt_drive.wp a1 a2 a3 a4 a5 a6 a7 a8 a9 a10 a11 a12 a13 a14 a15 a16 K

theorem impl_told.tx (w_impl_IsFinite : Nat → (Bool → Prop) → Prop) (a1 : Nat) (K : Nat → Bool → Prop) : impl_told.bd w_impl_IsFinite a1 K =
  (w_impl_IsFinite a1 fun y1 => Go.K.ifB (!y1) (K (0 : Nat) Bool.false) (K a1 Bool.true)) := by kernel_rfl
theorem impl_told.eq (a1 : Nat) (K : Nat → Bool → Prop) : impl_told.wp a1 K =
  (Go.K.melts.impl_IsFinite.wp a1 fun y1 => Go.K.ifB (!y1) (K (0 : Nat) Bool.false) (K a1 Bool.true)) := impl_told.tx impl_IsFinite.wp a1 K

theorem impl_Melt_toldAt__Melt_pull.tx (w_impl_Melt_isCell : List Nat → List Nat → Int → Int → Bool → Int → Int → Bool → Nat → Nat → Nat → Nat → Nat → Int → Int → Int → (Bool → Prop) → Prop) (w_impl_Melt_pull : List Nat → List Nat → Int → Int → Bool → Int → Int → Bool → Nat → Nat → Nat → Nat → Nat → Int → Int → Int → (Nat → Prop) → Prop) (w_impl_told : Nat → (Nat → Bool → Prop) → Prop) (a1 : List
  Nat) (a2 : List
  Nat) (a3 : List
  Nat) (a4 : List
  Nat) (a5 : Int) (a6 : Int) (a7 : Bool) (a8 : Int) (a9 : Int) (a10 : Bool) (a11 : Nat) (a12 : Nat) (a13 : Nat) (a14 : Nat) (a15 : Nat) (a16 : Int) (a17 : Int) (a18 : Int) (a19 : Int) (a20 : Int) (a21 : Bool) (a22 : Int) (a23 : Int) (a24 : Bool) (a25 : Nat) (a26 : Nat) (a27 : Nat) (a28 : Nat) (a29 : Nat) (a30 : Int) (K : Nat →
  Bool → Prop) : impl_Melt_toldAt__Melt_pull.bd w_impl_Melt_isCell w_impl_Melt_pull w_impl_told a1 a2 a3 a4 a5 a6 a7 a8 a9 a10 a11 a12 a13 a14 a15 a16 a17 a18 a19 a20 a21 a22 a23 a24 a25 a26 a27 a28 a29 a30 K =
  (w_impl_Melt_isCell a1 a2 a5 a6 a7 a8 a9 a10 a11 a12 a13 a14 a15 a16 a17 a18 fun y1 =>
  Go.K.ifB (!y1) (K (0 : Nat) Bool.false)
    (w_impl_Melt_pull a3 a4 a19 a20 a21 a22 a23 a24 a25 a26 a27 a28 a29 a30 a17 a18 fun y2 => w_impl_told y2 fun y3 y4 => K y3 y4)) := by kernel_rfl
theorem impl_Melt_toldAt__Melt_pull.eq (a1 : List
  Nat) (a2 : List
  Nat) (a3 : List
  Nat) (a4 : List
  Nat) (a5 : Int) (a6 : Int) (a7 : Bool) (a8 : Int) (a9 : Int) (a10 : Bool) (a11 : Nat) (a12 : Nat) (a13 : Nat) (a14 : Nat) (a15 : Nat) (a16 : Int) (a17 : Int) (a18 : Int) (a19 : Int) (a20 : Int) (a21 : Bool) (a22 : Int) (a23 : Int) (a24 : Bool) (a25 : Nat) (a26 : Nat) (a27 : Nat) (a28 : Nat) (a29 : Nat) (a30 : Int) (K : Nat →
  Bool → Prop) : impl_Melt_toldAt__Melt_pull.wp a1 a2 a3 a4 a5 a6 a7 a8 a9 a10 a11 a12 a13 a14 a15 a16 a17 a18 a19 a20 a21 a22 a23 a24 a25 a26 a27 a28 a29 a30 K =
  (Go.K.melts.impl_Melt_isCell.wp a1 a2 a5 a6 a7 a8 a9 a10 a11 a12 a13 a14 a15 a16 a17 a18 fun y1 =>
  Go.K.ifB (!y1) (K (0 : Nat) Bool.false)
    (Go.K.melts.impl_Melt_pull.wp a3 a4 a19 a20 a21 a22 a23 a24 a25 a26 a27 a28 a29 a30 a17 a18 fun y2 => Go.K.melts.impl_told.wp y2 fun y3 y4 => K y3 y4)) := impl_Melt_toldAt__Melt_pull.tx impl_Melt_isCell.wp impl_Melt_pull.wp impl_told.wp a1 a2 a3 a4 a5 a6 a7 a8 a9 a10 a11 a12 a13 a14 a15 a16 a17 a18 a19 a20 a21 a22 a23 a24 a25 a26 a27 a28 a29 a30 K

theorem impl_PullAt.tx (w_impl_Melt_toldAt__Melt_pull : List Nat → List Nat → List Nat → List Nat → Int → Int → Bool → Int → Int → Bool → Nat → Nat → Nat → Nat → Nat → Int → Int → Int → Int → Int → Bool → Int → Int → Bool → Nat → Nat → Nat → Nat → Nat → Int → (Nat → Bool → Prop) → Prop) (a1 : List
  Nat) (a2 : List
  Nat) (a3 : Int) (a4 : Int) (a5 : Bool) (a6 : Int) (a7 : Int) (a8 : Bool) (a9 : Nat) (a10 : Nat) (a11 : Nat) (a12 : Nat) (a13 : Nat) (a14 : Int) (a15 : Int) (a16 : Int) (K : Nat →
  Bool → Prop) : impl_PullAt.bd w_impl_Melt_toldAt__Melt_pull a1 a2 a3 a4 a5 a6 a7 a8 a9 a10 a11 a12 a13 a14 a15 a16 K =
  (w_impl_Melt_toldAt__Melt_pull a1 a2 a1 a2 a3 a4 a5 a6 a7 a8 a9 a10 a11 a12 a13 a14 a15 a16 a3 a4 a5 a6 a7 a8 a9 a10 a11 a12 a13 a14 fun y1 y2 =>
  K y1 y2) := by kernel_rfl
theorem impl_PullAt.eq (a1 : List
  Nat) (a2 : List
  Nat) (a3 : Int) (a4 : Int) (a5 : Bool) (a6 : Int) (a7 : Int) (a8 : Bool) (a9 : Nat) (a10 : Nat) (a11 : Nat) (a12 : Nat) (a13 : Nat) (a14 : Int) (a15 : Int) (a16 : Int) (K : Nat →
  Bool → Prop) : impl_PullAt.wp a1 a2 a3 a4 a5 a6 a7 a8 a9 a10 a11 a12 a13 a14 a15 a16 K =
  (Go.K.melts.impl_Melt_toldAt__Melt_pull.wp a1 a2 a1 a2 a3 a4 a5 a6 a7 a8 a9 a10 a11 a12 a13 a14 a15 a16 a3 a4 a5 a6 a7 a8 a9 a10 a11 a12 a13 a14 fun y1 y2 =>
  K y1 y2) := impl_PullAt.tx impl_Melt_toldAt__Melt_pull.wp a1 a2 a3 a4 a5 a6 a7 a8 a9 a10 a11 a12 a13 a14 a15 a16 K

theorem laws_eqMelt.tx (w_laws_eqField : List Nat → List Nat → Int → Int → Bool → Int → Int → Bool → (Bool → Prop) → Prop) (w_laws_sameFloat : Nat → Nat → (Bool → Prop) → Prop) (a1 : List
  Nat) (a2 : List
  Nat) (a3 : List
  Nat) (a4 : List
  Nat) (a5 : Int) (a6 : Int) (a7 : Bool) (a8 : Int) (a9 : Int) (a10 : Bool) (a11 : Nat) (a12 : Nat) (a13 : Nat) (a14 : Nat) (a15 : Nat) (a16 : Int) (a17 : Int) (a18 : Int) (a19 : Bool) (a20 : Int) (a21 : Int) (a22 : Bool) (a23 : Nat) (a24 : Nat) (a25 : Nat) (a26 : Nat) (a27 : Nat) (a28 : Int) (K : Bool →
  Prop) : laws_eqMelt.bd w_laws_eqField w_laws_sameFloat a1 a2 a3 a4 a5 a6 a7 a8 a9 a10 a11 a12 a13 a14 a15 a16 a17 a18 a19 a20 a21 a22 a23 a24 a25 a26 a27 a28 K =
  (w_laws_eqField a1 a3 a5 a6 a7 a17 a18 a19 fun y1 =>
  Go.K.ifB (!y1) (K Bool.false)
    (w_laws_eqField a2 a4 a8 a9 a10 a20 a21 a22 fun y2 =>
      Go.K.ifB (!y2) (K Bool.false)
        (w_laws_sameFloat (Go.K.fconv Go.FloatKind.f32 Go.FloatKind.f64 a11) (Go.K.fconv Go.FloatKind.f32 Go.FloatKind.f64 a23) fun y3 =>
          Go.K.ifB (!y3) (K Bool.false)
            (w_laws_sameFloat (Go.K.fconv Go.FloatKind.f32 Go.FloatKind.f64 a12) (Go.K.fconv Go.FloatKind.f32 Go.FloatKind.f64 a24) fun y4 =>
              Go.K.ifB (!y4) (K Bool.false)
                (w_laws_sameFloat (Go.K.fconv Go.FloatKind.f32 Go.FloatKind.f64 a13) (Go.K.fconv Go.FloatKind.f32 Go.FloatKind.f64 a25) fun y5 =>
                  Go.K.ifB (!y5) (K Bool.false)
                    (w_laws_sameFloat (Go.K.fconv Go.FloatKind.f32 Go.FloatKind.f64 a14) (Go.K.fconv Go.FloatKind.f32 Go.FloatKind.f64 a26) fun y6 =>
                      Go.K.ifB (!y6) (K Bool.false)
                        (w_laws_sameFloat (Go.K.fconv Go.FloatKind.f32 Go.FloatKind.f64 a15) (Go.K.fconv Go.FloatKind.f32 Go.FloatKind.f64 a27) fun y7 =>
                          Go.K.ifB (!y7) (K Bool.false) (Go.K.ifB (a16 != a28) (K Bool.false) (K Bool.true))))))))) := by kernel_rfl
theorem laws_eqMelt.eq (a1 : List
  Nat) (a2 : List
  Nat) (a3 : List
  Nat) (a4 : List
  Nat) (a5 : Int) (a6 : Int) (a7 : Bool) (a8 : Int) (a9 : Int) (a10 : Bool) (a11 : Nat) (a12 : Nat) (a13 : Nat) (a14 : Nat) (a15 : Nat) (a16 : Int) (a17 : Int) (a18 : Int) (a19 : Bool) (a20 : Int) (a21 : Int) (a22 : Bool) (a23 : Nat) (a24 : Nat) (a25 : Nat) (a26 : Nat) (a27 : Nat) (a28 : Int) (K : Bool →
  Prop) : laws_eqMelt.wp a1 a2 a3 a4 a5 a6 a7 a8 a9 a10 a11 a12 a13 a14 a15 a16 a17 a18 a19 a20 a21 a22 a23 a24 a25 a26 a27 a28 K =
  (Go.K.melts.laws_eqField.wp a1 a3 a5 a6 a7 a17 a18 a19 fun y1 =>
  Go.K.ifB (!y1) (K Bool.false)
    (Go.K.melts.laws_eqField.wp a2 a4 a8 a9 a10 a20 a21 a22 fun y2 =>
      Go.K.ifB (!y2) (K Bool.false)
        (Go.K.melts.laws_sameFloat.wp (Go.K.fconv Go.FloatKind.f32 Go.FloatKind.f64 a11) (Go.K.fconv Go.FloatKind.f32 Go.FloatKind.f64 a23) fun y3 =>
          Go.K.ifB (!y3) (K Bool.false)
            (Go.K.melts.laws_sameFloat.wp (Go.K.fconv Go.FloatKind.f32 Go.FloatKind.f64 a12) (Go.K.fconv Go.FloatKind.f32 Go.FloatKind.f64 a24) fun y4 =>
              Go.K.ifB (!y4) (K Bool.false)
                (Go.K.melts.laws_sameFloat.wp (Go.K.fconv Go.FloatKind.f32 Go.FloatKind.f64 a13) (Go.K.fconv Go.FloatKind.f32 Go.FloatKind.f64 a25) fun y5 =>
                  Go.K.ifB (!y5) (K Bool.false)
                    (Go.K.melts.laws_sameFloat.wp (Go.K.fconv Go.FloatKind.f32 Go.FloatKind.f64 a14) (Go.K.fconv Go.FloatKind.f32 Go.FloatKind.f64 a26) fun y6 =>
                      Go.K.ifB (!y6) (K Bool.false)
                        (Go.K.melts.laws_sameFloat.wp (Go.K.fconv Go.FloatKind.f32 Go.FloatKind.f64 a15) (Go.K.fconv Go.FloatKind.f32 Go.FloatKind.f64 a27) fun y7 =>
                          Go.K.ifB (!y7) (K Bool.false) (Go.K.ifB (a16 != a28) (K Bool.false) (K Bool.true))))))))) := laws_eqMelt.tx laws_eqField.wp laws_sameFloat.wp a1 a2 a3 a4 a5 a6 a7 a8 a9 a10 a11 a12 a13 a14 a15 a16 a17 a18 a19 a20 a21 a22 a23 a24 a25 a26 a27 a28 K

theorem laws_FnExactPullAt.tx (w_laws_szMelt : List Nat → List Nat → Int → Int → Bool → Int → Int → Bool → Nat → Nat → Nat → Nat → Nat → Int → Int → (Int → Prop) → Prop) (w_laws_toMelt : List Nat → List Nat → Int → Int → Bool → Int → Int → Bool → Nat → Nat → Nat → Nat → Nat → Int → (List Nat → List Nat → Int → Int → Bool → Int → Int → Bool → Nat → Nat → Nat → Nat → Nat → Int → Prop) → Prop) (w_spec_PullAt : List Nat → List Nat → Int → Int → Bool → Int → Int → Bool → Nat → Nat → Nat → Nat → Nat → Int → Int → Int → (Nat → Bool → Prop) → Prop) (w_impl_PullAt : List Nat → List Nat → Int → Int → Bool → Int → Int → Bool → Nat → Nat → Nat → Nat → Nat → Int → Int → Int → (Nat → Bool → Prop) → Prop) (w_laws_sameFloat : Nat → Nat → (Bool → Prop) → Prop) (w_laws_eqMelt : List Nat → List Nat → List Nat → List Nat → Int → Int → Bool → Int → Int → Bool → Nat → Nat → Nat → Nat → Nat → Int → Int → Int → Bool → Int → Int → Bool → Nat → Nat → Nat → Nat → Nat → Int → (Bool → Prop) → Prop) (a1 : List
  Nat) (a2 : List
  Nat) (a3 : Int) (a4 : Int) (a5 : Bool) (a6 : Int) (a7 : Int) (a8 : Bool) (a9 : Nat) (a10 : Nat) (a11 : Nat) (a12 : Nat) (a13 : Nat) (a14 : Int) (a15 : Int) (a16 : Int) (K : Bool →
  Prop) : laws_FnExactPullAt.bd w_laws_szMelt w_laws_toMelt w_spec_PullAt w_impl_PullAt w_laws_sameFloat w_laws_eqMelt a1 a2 a3 a4 a5 a6 a7 a8 a9 a10 a11 a12 a13 a14 a15 a16 K =
  (w_laws_szMelt a1 a2 a3 a4 a5 a6 a7 a8 a9 a10 a11 a12 a13 a14 (1048576 : Int) fun y1 =>
  Go.K.ifB (Decidable.decide (y1 < (0 : Int))) (K Bool.true)
    (w_laws_toMelt a1 a2 a3 a4 a5 a6 a7 a8 a9 a10 a11 a12 a13 a14 fun y2 y3 y4 y5 y6 y7 y8 y9 y10 y11 y12 y13 y14 y15 =>
      w_spec_PullAt y2 y3 y4 y5 y6 y7 y8 y9 y10 y11 y12 y13 y14 y15 a15 a16 fun y16 y17 =>
        w_laws_toMelt a1 a2 a3 a4 a5 a6 a7 a8 a9 a10 a11 a12 a13 a14 fun y18 y19 y20 y21 y22 y23 y24 y25 y26 y27 y28 y29 y30 y31 =>
          w_impl_PullAt y18 y19 y20 y21 y22 y23 y24 y25 y26 y27 y28 y29 y30 y31 a15 a16 fun y32 y33 =>
            w_laws_sameFloat (Go.K.fconv Go.FloatKind.f32 Go.FloatKind.f64 y32) (Go.K.fconv Go.FloatKind.f32 Go.FloatKind.f64 y16) fun y34 =>
              Go.K.ifB (!y34) (K Bool.false)
                (Go.K.ifB (y33 != y17) (K Bool.false)
                  (w_laws_toMelt a1 a2 a3 a4 a5 a6 a7 a8 a9 a10 a11 a12 a13 a14 fun y35 y36 y37 y38 y39 y40 y41 y42 y43 y44 y45 y46 y47 y48 =>
                    w_laws_eqMelt y18 y19 y35 y36 y20 y21 y22 y23 y24 y25 y26 y27 y28 y29 y30 y31 y37 y38 y39 y40 y41 y42 y43 y44 y45 y46 y47 y48 fun y49 =>
                      Go.K.ifB (!y49) (K Bool.false) (K Bool.true))))) := by kernel_rfl
theorem laws_FnExactPullAt.eq (a1 : List
  Nat) (a2 : List
  Nat) (a3 : Int) (a4 : Int) (a5 : Bool) (a6 : Int) (a7 : Int) (a8 : Bool) (a9 : Nat) (a10 : Nat) (a11 : Nat) (a12 : Nat) (a13 : Nat) (a14 : Int) (a15 : Int) (a16 : Int) (K : Bool →
  Prop) : laws_FnExactPullAt.wp a1 a2 a3 a4 a5 a6 a7 a8 a9 a10 a11 a12 a13 a14 a15 a16 K =
  (Go.K.melts.laws_szMelt.wp a1 a2 a3 a4 a5 a6 a7 a8 a9 a10 a11 a12 a13 a14 (1048576 : Int) fun y1 =>
  Go.K.ifB (Decidable.decide (y1 < (0 : Int))) (K Bool.true)
    (Go.K.melts.laws_toMelt.wp a1 a2 a3 a4 a5 a6 a7 a8 a9 a10 a11 a12 a13 a14 fun y2 y3 y4 y5 y6 y7 y8 y9 y10 y11 y12 y13 y14 y15 =>
      Go.K.melts.spec_PullAt.wp y2 y3 y4 y5 y6 y7 y8 y9 y10 y11 y12 y13 y14 y15 a15 a16 fun y16 y17 =>
        Go.K.melts.laws_toMelt.wp a1 a2 a3 a4 a5 a6 a7 a8 a9 a10 a11 a12 a13 a14 fun y18 y19 y20 y21 y22 y23 y24 y25 y26 y27 y28 y29 y30 y31 =>
          Go.K.melts.impl_PullAt.wp y18 y19 y20 y21 y22 y23 y24 y25 y26 y27 y28 y29 y30 y31 a15 a16 fun y32 y33 =>
            Go.K.melts.laws_sameFloat.wp (Go.K.fconv Go.FloatKind.f32 Go.FloatKind.f64 y32) (Go.K.fconv Go.FloatKind.f32 Go.FloatKind.f64 y16) fun y34 =>
              Go.K.ifB (!y34) (K Bool.false)
                (Go.K.ifB (y33 != y17) (K Bool.false)
                  (Go.K.melts.laws_toMelt.wp a1 a2 a3 a4 a5 a6 a7 a8 a9 a10 a11 a12 a13 a14 fun y35 y36 y37 y38 y39 y40 y41 y42 y43 y44 y45 y46 y47 y48 =>
                    Go.K.melts.laws_eqMelt.wp y18 y19 y35 y36 y20 y21 y22 y23 y24 y25 y26 y27 y28 y29 y30 y31 y37 y38 y39 y40 y41 y42 y43 y44 y45 y46 y47 y48 fun y49 =>
                      Go.K.ifB (!y49) (K Bool.false) (K Bool.true))))) := laws_FnExactPullAt.tx laws_szMelt.wp laws_toMelt.wp spec_PullAt.wp impl_PullAt.wp laws_sameFloat.wp laws_eqMelt.wp a1 a2 a3 a4 a5 a6 a7 a8 a9 a10 a11 a12 a13 a14 a15 a16 K

theorem spec_EnergyOfMelt.tx (w_spec_l03Is : Int → Int → Bool → Int → Int → Bool → Nat → Nat → Nat → Nat → Nat → Int → List Nat → List Nat → (Bool → Prop) → Prop) (w_spec_l02At : Int → Int → Bool → List Nat → Int → Int → (Nat → Prop) → Prop) (w_spec_l03Number : Nat → (Nat → Bool → Prop) → Prop) (a1 : List
  Nat) (a2 : List
  Nat) (a3 : Int) (a4 : Int) (a5 : Bool) (a6 : Int) (a7 : Int) (a8 : Bool) (a9 : Nat) (a10 : Nat) (a11 : Nat) (a12 : Nat) (a13 : Nat) (a14 : Int) (K : Nat →
  Bool → Prop) : spec_EnergyOfMelt.bd w_spec_l03Is w_spec_l02At w_spec_l03Number a1 a2 a3 a4 a5 a6 a7 a8 a9 a10 a11 a12 a13 a14 K =
  (w_spec_l03Is a3 a4 a5 a6 a7 a8 a9 a10 a11 a12 a13 a14 a1 a2 fun y1 =>
  Go.K.ifB (!y1) (K (0 : Nat) Bool.false)
    (∀ (J2 : Int → Int → Bool → Int → Int → Bool → Nat → Nat → Nat → Nat → Nat → Int → Nat → Int → Int → Prop),
      (∀ (x3 x4 : Int) (x5 : Bool) (x6 x7 : Int) (x8 : Bool) (x9 x10 x11 x12 x13 : Nat) (x14 : Int) (x15 : Nat) (x16 x17 : Int),
          Go.K.ifB (Decidable.decide (x17 < x16))
              (((0 : Int) ≤ x17 ∧ x17 < (↑(List.length a1) : Int)) ∧
                J2 x3 x4 x5 x6 x7 x8 x9 x10 x11 x12 x13 x14
                  (Go.K.farith Go.BinOp.add Go.FloatKind.f32 x15
                    (Go.K.farith Go.BinOp.mul Go.FloatKind.f32
                      (Go.K.farith Go.BinOp.mul Go.FloatKind.f32
                        (Go.K.farith Go.BinOp.mul Go.FloatKind.f32
                          (Go.K.farith Go.BinOp.mul Go.FloatKind.f32 (List.getD a1 (Int.toNat x17) (0 : Nat)) (List.getD a1 (Int.toNat x17) (0 : Nat)))
                          (Go.K.farith Go.BinOp.sub Go.FloatKind.f32 (1065353216 : Nat) (List.getD a1 (Int.toNat x17) (0 : Nat))))
                        (Go.K.farith Go.BinOp.sub Go.FloatKind.f32 (1065353216 : Nat) (List.getD a1 (Int.toNat x17) (0 : Nat))))
                      (1048576000 : Nat)))
                  x16 (Go.IntKind.wrap Go.IntKind.i64 (x17 + (1 : Int))))
              (∀ (J18 : Int → Int → Bool → Int → Int → Bool → Nat → Nat → Nat → Nat → Nat → Int → Nat → Int → Prop),
                (∀ (x19 x20 : Int) (x21 : Bool) (x22 x23 : Int) (x24 : Bool) (x25 x26 x27 x28 x29 : Nat) (x30 : Int) (x31 : Nat) (x32 : Int),
                    Go.K.ifB (Decidable.decide (x32 < x20))
                        (∀ (J33 : Int → Int → Bool → Int → Int → Bool → Nat → Nat → Nat → Nat → Nat → Int → Nat → Int → Int → Prop),
                          (∀ (x34 x35 : Int) (x36 : Bool) (x37 x38 : Int) (x39 : Bool) (x40 x41 x42 x43 x44 : Nat) (x45 : Int) (x46 : Nat) (x47 x48 : Int),
                              Go.K.ifB (Decidable.decide (x48 < x34))
                                  (w_spec_l02At x34 x35 x36 a1 x48 x47 fun y49 =>
                                    w_spec_l02At x34 x35 x36 a1 (Go.IntKind.wrap Go.IntKind.i64 (x48 + (1 : Int))) x47 fun y50 =>
                                      w_spec_l02At x34 x35 x36 a1 x48 (Go.IntKind.wrap Go.IntKind.i64 (x47 + (1 : Int))) fun y51 =>
                                        J33 x34 x35 x36 x37 x38 x39 x40 x41 x42 x43 x44 x45
                                          (Go.K.farith Go.BinOp.add Go.FloatKind.f32 x46
                                            (Go.K.farith Go.BinOp.mul Go.FloatKind.f32 (Go.K.farith Go.BinOp.mul Go.FloatKind.f32 (1056964608 : Nat) x40)
                                              (Go.K.farith Go.BinOp.add Go.FloatKind.f32
                                                (Go.K.farith Go.BinOp.mul Go.FloatKind.f32 (Go.K.farith Go.BinOp.sub Go.FloatKind.f32 y50 y49)
                                                  (Go.K.farith Go.BinOp.sub Go.FloatKind.f32 y50 y49))
                                                (Go.K.farith Go.BinOp.mul Go.FloatKind.f32 (Go.K.farith Go.BinOp.sub Go.FloatKind.f32 y51 y49)
                                                  (Go.K.farith Go.BinOp.sub Go.FloatKind.f32 y51 y49)))))
                                          x47 (Go.IntKind.wrap Go.IntKind.i64 (x48 + (1 : Int))))
                                  (J18 x34 x35 x36 x37 x38 x39 x40 x41 x42 x43 x44 x45 x46 (Go.IntKind.wrap Go.IntKind.i64 (x47 + (1 : Int)))) →
                                J33 x34 x35 x36 x37 x38 x39 x40 x41 x42 x43 x44 x45 x46 x47 x48) →
                            J33 x19 x20 x21 x22 x23 x24 x25 x26 x27 x28 x29 x30 x31 x32 (0 : Int))
                        (w_spec_l03Number x31 fun y54 y55 => K y54 y55) →
                      J18 x19 x20 x21 x22 x23 x24 x25 x26 x27 x28 x29 x30 x31 x32) →
                  J18 x3 x4 x5 x6 x7 x8 x9 x10 x11 x12 x13 x14 x15 (0 : Int)) →
            J2 x3 x4 x5 x6 x7 x8 x9 x10 x11 x12 x13 x14 x15 x16 x17) →
        J2 a3 a4 a5 a6 a7 a8 a9 a10 a11 a12 a13 a14 (0 : Nat) (↑(List.length a1) : Int) (0 : Int))) := by kernel_rfl
theorem spec_EnergyOfMelt.eq (a1 : List
  Nat) (a2 : List
  Nat) (a3 : Int) (a4 : Int) (a5 : Bool) (a6 : Int) (a7 : Int) (a8 : Bool) (a9 : Nat) (a10 : Nat) (a11 : Nat) (a12 : Nat) (a13 : Nat) (a14 : Int) (K : Nat →
  Bool → Prop) : spec_EnergyOfMelt.wp a1 a2 a3 a4 a5 a6 a7 a8 a9 a10 a11 a12 a13 a14 K =
  (Go.K.melts.spec_l03Is.wp a3 a4 a5 a6 a7 a8 a9 a10 a11 a12 a13 a14 a1 a2 fun y1 =>
  Go.K.ifB (!y1) (K (0 : Nat) Bool.false)
    (∀ (J2 : Int → Int → Bool → Int → Int → Bool → Nat → Nat → Nat → Nat → Nat → Int → Nat → Int → Int → Prop),
      (∀ (x3 x4 : Int) (x5 : Bool) (x6 x7 : Int) (x8 : Bool) (x9 x10 x11 x12 x13 : Nat) (x14 : Int) (x15 : Nat) (x16 x17 : Int),
          Go.K.ifB (Decidable.decide (x17 < x16))
              (((0 : Int) ≤ x17 ∧ x17 < (↑(List.length a1) : Int)) ∧
                J2 x3 x4 x5 x6 x7 x8 x9 x10 x11 x12 x13 x14
                  (Go.K.farith Go.BinOp.add Go.FloatKind.f32 x15
                    (Go.K.farith Go.BinOp.mul Go.FloatKind.f32
                      (Go.K.farith Go.BinOp.mul Go.FloatKind.f32
                        (Go.K.farith Go.BinOp.mul Go.FloatKind.f32
                          (Go.K.farith Go.BinOp.mul Go.FloatKind.f32 (List.getD a1 (Int.toNat x17) (0 : Nat)) (List.getD a1 (Int.toNat x17) (0 : Nat)))
                          (Go.K.farith Go.BinOp.sub Go.FloatKind.f32 (1065353216 : Nat) (List.getD a1 (Int.toNat x17) (0 : Nat))))
                        (Go.K.farith Go.BinOp.sub Go.FloatKind.f32 (1065353216 : Nat) (List.getD a1 (Int.toNat x17) (0 : Nat))))
                      (1048576000 : Nat)))
                  x16 (Go.IntKind.wrap Go.IntKind.i64 (x17 + (1 : Int))))
              (∀ (J18 : Int → Int → Bool → Int → Int → Bool → Nat → Nat → Nat → Nat → Nat → Int → Nat → Int → Prop),
                (∀ (x19 x20 : Int) (x21 : Bool) (x22 x23 : Int) (x24 : Bool) (x25 x26 x27 x28 x29 : Nat) (x30 : Int) (x31 : Nat) (x32 : Int),
                    Go.K.ifB (Decidable.decide (x32 < x20))
                        (∀ (J33 : Int → Int → Bool → Int → Int → Bool → Nat → Nat → Nat → Nat → Nat → Int → Nat → Int → Int → Prop),
                          (∀ (x34 x35 : Int) (x36 : Bool) (x37 x38 : Int) (x39 : Bool) (x40 x41 x42 x43 x44 : Nat) (x45 : Int) (x46 : Nat) (x47 x48 : Int),
                              Go.K.ifB (Decidable.decide (x48 < x34))
                                  (Go.K.melts.spec_l02At.wp x34 x35 x36 a1 x48 x47 fun y49 =>
                                    Go.K.melts.spec_l02At.wp x34 x35 x36 a1 (Go.IntKind.wrap Go.IntKind.i64 (x48 + (1 : Int))) x47 fun y50 =>
                                      Go.K.melts.spec_l02At.wp x34 x35 x36 a1 x48 (Go.IntKind.wrap Go.IntKind.i64 (x47 + (1 : Int))) fun y51 =>
                                        J33 x34 x35 x36 x37 x38 x39 x40 x41 x42 x43 x44 x45
                                          (Go.K.farith Go.BinOp.add Go.FloatKind.f32 x46
                                            (Go.K.farith Go.BinOp.mul Go.FloatKind.f32 (Go.K.farith Go.BinOp.mul Go.FloatKind.f32 (1056964608 : Nat) x40)
                                              (Go.K.farith Go.BinOp.add Go.FloatKind.f32
                                                (Go.K.farith Go.BinOp.mul Go.FloatKind.f32 (Go.K.farith Go.BinOp.sub Go.FloatKind.f32 y50 y49)
                                                  (Go.K.farith Go.BinOp.sub Go.FloatKind.f32 y50 y49))
                                                (Go.K.farith Go.BinOp.mul Go.FloatKind.f32 (Go.K.farith Go.BinOp.sub Go.FloatKind.f32 y51 y49)
                                                  (Go.K.farith Go.BinOp.sub Go.FloatKind.f32 y51 y49)))))
                                          x47 (Go.IntKind.wrap Go.IntKind.i64 (x48 + (1 : Int))))
                                  (J18 x34 x35 x36 x37 x38 x39 x40 x41 x42 x43 x44 x45 x46 (Go.IntKind.wrap Go.IntKind.i64 (x47 + (1 : Int)))) →
                                J33 x34 x35 x36 x37 x38 x39 x40 x41 x42 x43 x44 x45 x46 x47 x48) →
                            J33 x19 x20 x21 x22 x23 x24 x25 x26 x27 x28 x29 x30 x31 x32 (0 : Int))
                        (Go.K.melts.spec_l03Number.wp x31 fun y54 y55 => K y54 y55) →
                      J18 x19 x20 x21 x22 x23 x24 x25 x26 x27 x28 x29 x30 x31 x32) →
                  J18 x3 x4 x5 x6 x7 x8 x9 x10 x11 x12 x13 x14 x15 (0 : Int)) →
            J2 x3 x4 x5 x6 x7 x8 x9 x10 x11 x12 x13 x14 x15 x16 x17) →
        J2 a3 a4 a5 a6 a7 a8 a9 a10 a11 a12 a13 a14 (0 : Nat) (↑(List.length a1) : Int) (0 : Int))) := spec_EnergyOfMelt.tx spec_l03Is.wp spec_l02At.wp spec_l03Number.wp a1 a2 a3 a4 a5 a6 a7 a8 a9 a10 a11 a12 a13 a14 K

theorem impl_EnergyOfMelt.tx (w_impl_ValidMelt : List Nat → List Nat → Int → Int → Bool → Int → Int → Bool → Nat → Nat → Nat → Nat → Nat → Int → (Bool → Prop) → Prop) (w_impl_Field_about : List Nat → Int → Int → Bool → Int → Int → (Nat → Prop) → Prop) (w_impl_told : Nat → (Nat → Bool → Prop) → Prop) (a1 : List
  Nat) (a2 : List
  Nat) (a3 : Int) (a4 : Int) (a5 : Bool) (a6 : Int) (a7 : Int) (a8 : Bool) (a9 : Nat) (a10 : Nat) (a11 : Nat) (a12 : Nat) (a13 : Nat) (a14 : Int) (K : Nat →
  Bool → Prop) : impl_EnergyOfMelt.bd w_impl_ValidMelt w_impl_Field_about w_impl_told a1 a2 a3 a4 a5 a6 a7 a8 a9 a10 a11 a12 a13 a14 K =
  (w_impl_ValidMelt a1 a2 a3 a4 a5 a6 a7 a8 a9 a10 a11 a12 a13 a14 fun y1 =>
  Go.K.ifB (!y1) (K (0 : Nat) Bool.false)
    (∀ (J2 : Int → Int → Bool → Int → Int → Bool → Nat → Nat → Nat → Nat → Nat → Int → Nat → Int → Int → Prop),
      (∀ (x3 x4 : Int) (x5 : Bool) (x6 x7 : Int) (x8 : Bool) (x9 x10 x11 x12 x13 : Nat) (x14 : Int) (x15 : Nat) (x16 x17 : Int),
          Go.K.ifB (Decidable.decide (x17 < x16))
              (((0 : Int) ≤ x17 ∧ x17 < (↑(List.length a1) : Int)) ∧
                J2 x3 x4 x5 x6 x7 x8 x9 x10 x11 x12 x13 x14
                  (Go.K.farith Go.BinOp.add Go.FloatKind.f32 x15
                    (Go.K.farith Go.BinOp.mul Go.FloatKind.f32
                      (Go.K.farith Go.BinOp.mul Go.FloatKind.f32
                        (Go.K.farith Go.BinOp.mul Go.FloatKind.f32
                          (Go.K.farith Go.BinOp.mul Go.FloatKind.f32 (List.getD a1 (Int.toNat x17) (0 : Nat)) (List.getD a1 (Int.toNat x17) (0 : Nat)))
                          (Go.K.farith Go.BinOp.sub Go.FloatKind.f32 (1065353216 : Nat) (List.getD a1 (Int.toNat x17) (0 : Nat))))
                        (Go.K.farith Go.BinOp.sub Go.FloatKind.f32 (1065353216 : Nat) (List.getD a1 (Int.toNat x17) (0 : Nat))))
                      (1048576000 : Nat)))
                  x16 (Go.IntKind.wrap Go.IntKind.i64 (x17 + (1 : Int))))
              (∀ (J18 : Int → Int → Bool → Int → Int → Bool → Nat → Nat → Nat → Nat → Nat → Int → Nat → Int → Int → Prop),
                (∀ (x19 x20 : Int) (x21 : Bool) (x22 x23 : Int) (x24 : Bool) (x25 x26 x27 x28 x29 : Nat) (x30 : Int) (x31 : Nat) (x32 x33 : Int),
                    Go.K.ifB (Decidable.decide (x33 < x32))
                        (((0 : Int) ≤ x33 ∧ x33 < (↑(List.length a1) : Int)) ∧
                          x19 ≠ (0 : Int) ∧
                            x19 ≠ (0 : Int) ∧
                              w_impl_Field_about a1 x19 x20 x21 (Go.IntKind.wrap Go.IntKind.i64 (Int.tmod x33 x19 + (1 : Int)))
                                (Go.IntKind.wrap Go.IntKind.i64 (Int.tdiv x33 x19)) fun y34 =>
                                w_impl_Field_about a1 x19 x20 x21 (Int.tmod x33 x19)
                                  (Go.IntKind.wrap Go.IntKind.i64 (Go.IntKind.wrap Go.IntKind.i64 (Int.tdiv x33 x19) + (1 : Int))) fun y35 =>
                                  J18 x19 x20 x21 x22 x23 x24 x25 x26 x27 x28 x29 x30
                                    (Go.K.farith Go.BinOp.add Go.FloatKind.f32 x31
                                      (Go.K.farith Go.BinOp.mul Go.FloatKind.f32 (Go.K.farith Go.BinOp.mul Go.FloatKind.f32 (1056964608 : Nat) x25)
                                        (Go.K.farith Go.BinOp.add Go.FloatKind.f32
                                          (Go.K.farith Go.BinOp.mul Go.FloatKind.f32 (Go.K.farith Go.BinOp.sub Go.FloatKind.f32 y34 (List.getD a1 (Int.toNat x33) (0 : Nat)))
                                            (Go.K.farith Go.BinOp.sub Go.FloatKind.f32 y34 (List.getD a1 (Int.toNat x33) (0 : Nat))))
                                          (Go.K.farith Go.BinOp.mul Go.FloatKind.f32 (Go.K.farith Go.BinOp.sub Go.FloatKind.f32 y35 (List.getD a1 (Int.toNat x33) (0 : Nat)))
                                            (Go.K.farith Go.BinOp.sub Go.FloatKind.f32 y35 (List.getD a1 (Int.toNat x33) (0 : Nat)))))))
                                    x32 (Go.IntKind.wrap Go.IntKind.i64 (x33 + (1 : Int))))
                        (w_impl_told x31 fun y36 y37 => K y36 y37) →
                      J18 x19 x20 x21 x22 x23 x24 x25 x26 x27 x28 x29 x30 x31 x32 x33) →
                  J18 x3 x4 x5 x6 x7 x8 x9 x10 x11 x12 x13 x14 x15 (↑(List.length a1) : Int) (0 : Int)) →
            J2 x3 x4 x5 x6 x7 x8 x9 x10 x11 x12 x13 x14 x15 x16 x17) →
        J2 a3 a4 a5 a6 a7 a8 a9 a10 a11 a12 a13 a14 (0 : Nat) (↑(List.length a1) : Int) (0 : Int))) := by kernel_rfl
theorem impl_EnergyOfMelt.eq (a1 : List
  Nat) (a2 : List
  Nat) (a3 : Int) (a4 : Int) (a5 : Bool) (a6 : Int) (a7 : Int) (a8 : Bool) (a9 : Nat) (a10 : Nat) (a11 : Nat) (a12 : Nat) (a13 : Nat) (a14 : Int) (K : Nat →
  Bool → Prop) : impl_EnergyOfMelt.wp a1 a2 a3 a4 a5 a6 a7 a8 a9 a10 a11 a12 a13 a14 K =
  (Go.K.melts.impl_ValidMelt.wp a1 a2 a3 a4 a5 a6 a7 a8 a9 a10 a11 a12 a13 a14 fun y1 =>
  Go.K.ifB (!y1) (K (0 : Nat) Bool.false)
    (∀ (J2 : Int → Int → Bool → Int → Int → Bool → Nat → Nat → Nat → Nat → Nat → Int → Nat → Int → Int → Prop),
      (∀ (x3 x4 : Int) (x5 : Bool) (x6 x7 : Int) (x8 : Bool) (x9 x10 x11 x12 x13 : Nat) (x14 : Int) (x15 : Nat) (x16 x17 : Int),
          Go.K.ifB (Decidable.decide (x17 < x16))
              (((0 : Int) ≤ x17 ∧ x17 < (↑(List.length a1) : Int)) ∧
                J2 x3 x4 x5 x6 x7 x8 x9 x10 x11 x12 x13 x14
                  (Go.K.farith Go.BinOp.add Go.FloatKind.f32 x15
                    (Go.K.farith Go.BinOp.mul Go.FloatKind.f32
                      (Go.K.farith Go.BinOp.mul Go.FloatKind.f32
                        (Go.K.farith Go.BinOp.mul Go.FloatKind.f32
                          (Go.K.farith Go.BinOp.mul Go.FloatKind.f32 (List.getD a1 (Int.toNat x17) (0 : Nat)) (List.getD a1 (Int.toNat x17) (0 : Nat)))
                          (Go.K.farith Go.BinOp.sub Go.FloatKind.f32 (1065353216 : Nat) (List.getD a1 (Int.toNat x17) (0 : Nat))))
                        (Go.K.farith Go.BinOp.sub Go.FloatKind.f32 (1065353216 : Nat) (List.getD a1 (Int.toNat x17) (0 : Nat))))
                      (1048576000 : Nat)))
                  x16 (Go.IntKind.wrap Go.IntKind.i64 (x17 + (1 : Int))))
              (∀ (J18 : Int → Int → Bool → Int → Int → Bool → Nat → Nat → Nat → Nat → Nat → Int → Nat → Int → Int → Prop),
                (∀ (x19 x20 : Int) (x21 : Bool) (x22 x23 : Int) (x24 : Bool) (x25 x26 x27 x28 x29 : Nat) (x30 : Int) (x31 : Nat) (x32 x33 : Int),
                    Go.K.ifB (Decidable.decide (x33 < x32))
                        (((0 : Int) ≤ x33 ∧ x33 < (↑(List.length a1) : Int)) ∧
                          x19 ≠ (0 : Int) ∧
                            x19 ≠ (0 : Int) ∧
                              Go.K.melts.impl_Field_about.wp a1 x19 x20 x21 (Go.IntKind.wrap Go.IntKind.i64 (Int.tmod x33 x19 + (1 : Int)))
                                (Go.IntKind.wrap Go.IntKind.i64 (Int.tdiv x33 x19)) fun y34 =>
                                Go.K.melts.impl_Field_about.wp a1 x19 x20 x21 (Int.tmod x33 x19)
                                  (Go.IntKind.wrap Go.IntKind.i64 (Go.IntKind.wrap Go.IntKind.i64 (Int.tdiv x33 x19) + (1 : Int))) fun y35 =>
                                  J18 x19 x20 x21 x22 x23 x24 x25 x26 x27 x28 x29 x30
                                    (Go.K.farith Go.BinOp.add Go.FloatKind.f32 x31
                                      (Go.K.farith Go.BinOp.mul Go.FloatKind.f32 (Go.K.farith Go.BinOp.mul Go.FloatKind.f32 (1056964608 : Nat) x25)
                                        (Go.K.farith Go.BinOp.add Go.FloatKind.f32
                                          (Go.K.farith Go.BinOp.mul Go.FloatKind.f32 (Go.K.farith Go.BinOp.sub Go.FloatKind.f32 y34 (List.getD a1 (Int.toNat x33) (0 : Nat)))
                                            (Go.K.farith Go.BinOp.sub Go.FloatKind.f32 y34 (List.getD a1 (Int.toNat x33) (0 : Nat))))
                                          (Go.K.farith Go.BinOp.mul Go.FloatKind.f32 (Go.K.farith Go.BinOp.sub Go.FloatKind.f32 y35 (List.getD a1 (Int.toNat x33) (0 : Nat)))
                                            (Go.K.farith Go.BinOp.sub Go.FloatKind.f32 y35 (List.getD a1 (Int.toNat x33) (0 : Nat)))))))
                                    x32 (Go.IntKind.wrap Go.IntKind.i64 (x33 + (1 : Int))))
                        (Go.K.melts.impl_told.wp x31 fun y36 y37 => K y36 y37) →
                      J18 x19 x20 x21 x22 x23 x24 x25 x26 x27 x28 x29 x30 x31 x32 x33) →
                  J18 x3 x4 x5 x6 x7 x8 x9 x10 x11 x12 x13 x14 x15 (↑(List.length a1) : Int) (0 : Int)) →
            J2 x3 x4 x5 x6 x7 x8 x9 x10 x11 x12 x13 x14 x15 x16 x17) →
        J2 a3 a4 a5 a6 a7 a8 a9 a10 a11 a12 a13 a14 (0 : Nat) (↑(List.length a1) : Int) (0 : Int))) := impl_EnergyOfMelt.tx impl_ValidMelt.wp impl_Field_about.wp impl_told.wp a1 a2 a3 a4 a5 a6 a7 a8 a9 a10 a11 a12 a13 a14 K

theorem laws_FnExactEnergyOfMelt.tx (w_laws_szMelt : List Nat → List Nat → Int → Int → Bool → Int → Int → Bool → Nat → Nat → Nat → Nat → Nat → Int → Int → (Int → Prop) → Prop) (w_laws_toMelt : List Nat → List Nat → Int → Int → Bool → Int → Int → Bool → Nat → Nat → Nat → Nat → Nat → Int → (List Nat → List Nat → Int → Int → Bool → Int → Int → Bool → Nat → Nat → Nat → Nat → Nat → Int → Prop) → Prop) (w_spec_EnergyOfMelt : List Nat → List Nat → Int → Int → Bool → Int → Int → Bool → Nat → Nat → Nat → Nat → Nat → Int → (Nat → Bool → Prop) → Prop) (w_impl_EnergyOfMelt : List Nat → List Nat → Int → Int → Bool → Int → Int → Bool → Nat → Nat → Nat → Nat → Nat → Int → (Nat → Bool → Prop) → Prop) (w_laws_sameFloat : Nat → Nat → (Bool → Prop) → Prop) (w_laws_eqMelt : List Nat → List Nat → List Nat → List Nat → Int → Int → Bool → Int → Int → Bool → Nat → Nat → Nat → Nat → Nat → Int → Int → Int → Bool → Int → Int → Bool → Nat → Nat → Nat → Nat → Nat → Int → (Bool → Prop) → Prop) (a1 : List
  Nat) (a2 : List
  Nat) (a3 : Int) (a4 : Int) (a5 : Bool) (a6 : Int) (a7 : Int) (a8 : Bool) (a9 : Nat) (a10 : Nat) (a11 : Nat) (a12 : Nat) (a13 : Nat) (a14 : Int) (K : Bool →
  Prop) : laws_FnExactEnergyOfMelt.bd w_laws_szMelt w_laws_toMelt w_spec_EnergyOfMelt w_impl_EnergyOfMelt w_laws_sameFloat w_laws_eqMelt a1 a2 a3 a4 a5 a6 a7 a8 a9 a10 a11 a12 a13 a14 K =
  (w_laws_szMelt a1 a2 a3 a4 a5 a6 a7 a8 a9 a10 a11 a12 a13 a14 (1048576 : Int) fun y1 =>
  Go.K.ifB (Decidable.decide (y1 < (0 : Int))) (K Bool.true)
    (w_laws_toMelt a1 a2 a3 a4 a5 a6 a7 a8 a9 a10 a11 a12 a13 a14 fun y2 y3 y4 y5 y6 y7 y8 y9 y10 y11 y12 y13 y14 y15 =>
      w_spec_EnergyOfMelt y2 y3 y4 y5 y6 y7 y8 y9 y10 y11 y12 y13 y14 y15 fun y16 y17 =>
        w_laws_toMelt a1 a2 a3 a4 a5 a6 a7 a8 a9 a10 a11 a12 a13 a14 fun y18 y19 y20 y21 y22 y23 y24 y25 y26 y27 y28 y29 y30 y31 =>
          w_impl_EnergyOfMelt y18 y19 y20 y21 y22 y23 y24 y25 y26 y27 y28 y29 y30 y31 fun y32 y33 =>
            w_laws_sameFloat (Go.K.fconv Go.FloatKind.f32 Go.FloatKind.f64 y32) (Go.K.fconv Go.FloatKind.f32 Go.FloatKind.f64 y16) fun y34 =>
              Go.K.ifB (!y34) (K Bool.false)
                (Go.K.ifB (y33 != y17) (K Bool.false)
                  (w_laws_toMelt a1 a2 a3 a4 a5 a6 a7 a8 a9 a10 a11 a12 a13 a14 fun y35 y36 y37 y38 y39 y40 y41 y42 y43 y44 y45 y46 y47 y48 =>
                    w_laws_eqMelt y18 y19 y35 y36 y20 y21 y22 y23 y24 y25 y26 y27 y28 y29 y30 y31 y37 y38 y39 y40 y41 y42 y43 y44 y45 y46 y47 y48 fun y49 =>
                      Go.K.ifB (!y49) (K Bool.false) (K Bool.true))))) := by kernel_rfl
theorem laws_FnExactEnergyOfMelt.eq (a1 : List
  Nat) (a2 : List
  Nat) (a3 : Int) (a4 : Int) (a5 : Bool) (a6 : Int) (a7 : Int) (a8 : Bool) (a9 : Nat) (a10 : Nat) (a11 : Nat) (a12 : Nat) (a13 : Nat) (a14 : Int) (K : Bool →
  Prop) : laws_FnExactEnergyOfMelt.wp a1 a2 a3 a4 a5 a6 a7 a8 a9 a10 a11 a12 a13 a14 K =
  (Go.K.melts.laws_szMelt.wp a1 a2 a3 a4 a5 a6 a7 a8 a9 a10 a11 a12 a13 a14 (1048576 : Int) fun y1 =>
  Go.K.ifB (Decidable.decide (y1 < (0 : Int))) (K Bool.true)
    (Go.K.melts.laws_toMelt.wp a1 a2 a3 a4 a5 a6 a7 a8 a9 a10 a11 a12 a13 a14 fun y2 y3 y4 y5 y6 y7 y8 y9 y10 y11 y12 y13 y14 y15 =>
      Go.K.melts.spec_EnergyOfMelt.wp y2 y3 y4 y5 y6 y7 y8 y9 y10 y11 y12 y13 y14 y15 fun y16 y17 =>
        Go.K.melts.laws_toMelt.wp a1 a2 a3 a4 a5 a6 a7 a8 a9 a10 a11 a12 a13 a14 fun y18 y19 y20 y21 y22 y23 y24 y25 y26 y27 y28 y29 y30 y31 =>
          Go.K.melts.impl_EnergyOfMelt.wp y18 y19 y20 y21 y22 y23 y24 y25 y26 y27 y28 y29 y30 y31 fun y32 y33 =>
            Go.K.melts.laws_sameFloat.wp (Go.K.fconv Go.FloatKind.f32 Go.FloatKind.f64 y32) (Go.K.fconv Go.FloatKind.f32 Go.FloatKind.f64 y16) fun y34 =>
              Go.K.ifB (!y34) (K Bool.false)
                (Go.K.ifB (y33 != y17) (K Bool.false)
                  (Go.K.melts.laws_toMelt.wp a1 a2 a3 a4 a5 a6 a7 a8 a9 a10 a11 a12 a13 a14 fun y35 y36 y37 y38 y39 y40 y41 y42 y43 y44 y45 y46 y47 y48 =>
                    Go.K.melts.laws_eqMelt.wp y18 y19 y35 y36 y20 y21 y22 y23 y24 y25 y26 y27 y28 y29 y30 y31 y37 y38 y39 y40 y41 y42 y43 y44 y45 y46 y47 y48 fun y49 =>
                      Go.K.ifB (!y49) (K Bool.false) (K Bool.true))))) := laws_FnExactEnergyOfMelt.tx laws_szMelt.wp laws_toMelt.wp spec_EnergyOfMelt.wp impl_EnergyOfMelt.wp laws_sameFloat.wp laws_eqMelt.wp a1 a2 a3 a4 a5 a6 a7 a8 a9 a10 a11 a12 a13 a14 K

theorem spec_MirrorField.tx (w_spec_l02Is : Int → Int → Bool → List Nat → (Bool → Prop) → Prop) (w_spec_l02New : Int → Int → Bool → (List Nat → Int → Int → Bool → Prop) → Prop) (a1 : List Nat) (a2 : Int) (a3 : Int) (a4 : Bool) (K : List Nat → Int → Int → Bool → Bool → Prop) : spec_MirrorField.bd w_spec_l02Is w_spec_l02New a1 a2 a3 a4 K =
  (w_spec_l02Is a2 a3 a4 a1 fun y1 =>
  Go.K.ifB (!y1) (K [] (0 : Int) (0 : Int) Bool.false Bool.false)
    (w_spec_l02New a2 a3 a4 fun y2 y3 y4 y5 =>
      ∀ (J6 : Int → Int → Bool → Int → Int → Bool → Int → Int → Bool → List Nat → List Nat → Int → Prop),
        (∀ (x7 x8 : Int) (x9 : Bool) (x10 x11 : Int) (x12 : Bool) (x13 x14 : Int) (x15 : Bool) (x16 x17 : List Nat) (x18 : Int),
            Go.K.ifB (Decidable.decide (x18 < Go.IntKind.wrap Go.IntKind.i64 (x7 * x8)))
                (x7 ≠ (0 : Int) ∧
                  x7 ≠ (0 : Int) ∧
                    ((0 : Int) ≤
                          Go.IntKind.wrap Go.IntKind.i64
                            (Go.IntKind.wrap Go.IntKind.i64 (Go.IntKind.wrap Go.IntKind.i64 (x7 - (1 : Int)) - Int.tmod x18 x7) +
                              Go.IntKind.wrap Go.IntKind.i64 (x7 * Go.IntKind.wrap Go.IntKind.i64 (Int.tdiv x18 x7))) ∧
                        Go.IntKind.wrap Go.IntKind.i64
                            (Go.IntKind.wrap Go.IntKind.i64 (Go.IntKind.wrap Go.IntKind.i64 (x7 - (1 : Int)) - Int.tmod x18 x7) +
                              Go.IntKind.wrap Go.IntKind.i64 (x7 * Go.IntKind.wrap Go.IntKind.i64 (Int.tdiv x18 x7))) <
                          (↑(List.length a1) : Int)) ∧
                      List.length
                            (x17 ++
                              List.getD a1
                                  (Int.toNat
                                    (Go.IntKind.wrap Go.IntKind.i64
                                      (Go.IntKind.wrap Go.IntKind.i64 (Go.IntKind.wrap Go.IntKind.i64 (x7 - (1 : Int)) - Int.tmod x18 x7) +
                                        Go.IntKind.wrap Go.IntKind.i64 (x7 * Go.IntKind.wrap Go.IntKind.i64 (Int.tdiv x18 x7)))))
                                  (0 : Nat) ::
                                List.replicate (0 : Nat) (0 : Nat)) ≤
                          (1099511627776 : Nat) ∧
                        J6 x7 x8 x9 x10 x11 x12 x13 x14 x15 x16
                          (x17 ++
                            List.getD a1
                                (Int.toNat
                                  (Go.IntKind.wrap Go.IntKind.i64
                                    (Go.IntKind.wrap Go.IntKind.i64 (Go.IntKind.wrap Go.IntKind.i64 (x7 - (1 : Int)) - Int.tmod x18 x7) +
                                      Go.IntKind.wrap Go.IntKind.i64 (x7 * Go.IntKind.wrap Go.IntKind.i64 (Int.tdiv x18 x7)))))
                                (0 : Nat) ::
                              List.replicate (0 : Nat) (0 : Nat))
                          (Go.IntKind.wrap Go.IntKind.i64 (x18 + (1 : Int))))
                (K x17 x13 x14 x15 Bool.true) →
              J6 x7 x8 x9 x10 x11 x12 x13 x14 x15 x16 x17 x18) →
          J6 a2 a3 a4 (0 : Int) (0 : Int) Bool.false y3 y4 y5 [] y2 (0 : Int))) := by kernel_rfl
theorem spec_MirrorField.eq (a1 : List Nat) (a2 : Int) (a3 : Int) (a4 : Bool) (K : List Nat → Int → Int → Bool → Bool → Prop) : spec_MirrorField.wp a1 a2 a3 a4 K =
  (Go.K.melts.spec_l02Is.wp a2 a3 a4 a1 fun y1 =>
  Go.K.ifB (!y1) (K [] (0 : Int) (0 : Int) Bool.false Bool.false)
    (Go.K.melts.spec_l02New.wp a2 a3 a4 fun y2 y3 y4 y5 =>
      ∀ (J6 : Int → Int → Bool → Int → Int → Bool → Int → Int → Bool → List Nat → List Nat → Int → Prop),
        (∀ (x7 x8 : Int) (x9 : Bool) (x10 x11 : Int) (x12 : Bool) (x13 x14 : Int) (x15 : Bool) (x16 x17 : List Nat) (x18 : Int),
            Go.K.ifB (Decidable.decide (x18 < Go.IntKind.wrap Go.IntKind.i64 (x7 * x8)))
                (x7 ≠ (0 : Int) ∧
                  x7 ≠ (0 : Int) ∧
                    ((0 : Int) ≤
                          Go.IntKind.wrap Go.IntKind.i64
                            (Go.IntKind.wrap Go.IntKind.i64 (Go.IntKind.wrap Go.IntKind.i64 (x7 - (1 : Int)) - Int.tmod x18 x7) +
                              Go.IntKind.wrap Go.IntKind.i64 (x7 * Go.IntKind.wrap Go.IntKind.i64 (Int.tdiv x18 x7))) ∧
                        Go.IntKind.wrap Go.IntKind.i64
                            (Go.IntKind.wrap Go.IntKind.i64 (Go.IntKind.wrap Go.IntKind.i64 (x7 - (1 : Int)) - Int.tmod x18 x7) +
                              Go.IntKind.wrap Go.IntKind.i64 (x7 * Go.IntKind.wrap Go.IntKind.i64 (Int.tdiv x18 x7))) <
                          (↑(List.length a1) : Int)) ∧
                      List.length
                            (x17 ++
                              List.getD a1
                                  (Int.toNat
                                    (Go.IntKind.wrap Go.IntKind.i64
                                      (Go.IntKind.wrap Go.IntKind.i64 (Go.IntKind.wrap Go.IntKind.i64 (x7 - (1 : Int)) - Int.tmod x18 x7) +
                                        Go.IntKind.wrap Go.IntKind.i64 (x7 * Go.IntKind.wrap Go.IntKind.i64 (Int.tdiv x18 x7)))))
                                  (0 : Nat) ::
                                List.replicate (0 : Nat) (0 : Nat)) ≤
                          (1099511627776 : Nat) ∧
                        J6 x7 x8 x9 x10 x11 x12 x13 x14 x15 x16
                          (x17 ++
                            List.getD a1
                                (Int.toNat
                                  (Go.IntKind.wrap Go.IntKind.i64
                                    (Go.IntKind.wrap Go.IntKind.i64 (Go.IntKind.wrap Go.IntKind.i64 (x7 - (1 : Int)) - Int.tmod x18 x7) +
                                      Go.IntKind.wrap Go.IntKind.i64 (x7 * Go.IntKind.wrap Go.IntKind.i64 (Int.tdiv x18 x7)))))
                                (0 : Nat) ::
                              List.replicate (0 : Nat) (0 : Nat))
                          (Go.IntKind.wrap Go.IntKind.i64 (x18 + (1 : Int))))
                (K x17 x13 x14 x15 Bool.true) →
              J6 x7 x8 x9 x10 x11 x12 x13 x14 x15 x16 x17 x18) →
          J6 a2 a3 a4 (0 : Int) (0 : Int) Bool.false y3 y4 y5 [] y2 (0 : Int))) := spec_MirrorField.tx spec_l02Is.wp spec_l02New.wp a1 a2 a3 a4 K

theorem spec_MirrorMelt.tx (w_spec_l03Is : Int → Int → Bool → Int → Int → Bool → Nat → Nat → Nat → Nat → Nat → Int → List Nat → List Nat → (Bool → Prop) → Prop) (w_spec_MirrorField : List Nat → Int → Int → Bool → (List Nat → Int → Int → Bool → Bool → Prop) → Prop) (a1 : List
  Nat) (a2 : List
  Nat) (a3 : Int) (a4 : Int) (a5 : Bool) (a6 : Int) (a7 : Int) (a8 : Bool) (a9 : Nat) (a10 : Nat) (a11 : Nat) (a12 : Nat) (a13 : Nat) (a14 : Int) (K : List Nat →
  List Nat → Int → Int → Bool → Int → Int → Bool → Nat → Nat → Nat → Nat → Nat → Int → Bool → Prop) : spec_MirrorMelt.bd w_spec_l03Is w_spec_MirrorField a1 a2 a3 a4 a5 a6 a7 a8 a9 a10 a11 a12 a13 a14 K =
  (w_spec_l03Is a3 a4 a5 a6 a7 a8 a9 a10 a11 a12 a13 a14 a1 a2 fun y1 =>
  Go.K.ifB (!y1) (K [] [] (0 : Int) (0 : Int) Bool.false (0 : Int) (0 : Int) Bool.false (0 : Nat) (0 : Nat) (0 : Nat) (0 : Nat) (0 : Nat) (0 : Int) Bool.false)
    (w_spec_MirrorField a1 a3 a4 a5 fun y2 y3 y4 y5 y6 =>
      w_spec_MirrorField a2 a6 a7 a8 fun y7 y8 y9 y10 y11 =>
        Go.K.ifB (!y6) (K [] [] (0 : Int) (0 : Int) Bool.false (0 : Int) (0 : Int) Bool.false (0 : Nat) (0 : Nat) (0 : Nat) (0 : Nat) (0 : Nat) (0 : Int) Bool.false)
          (Go.K.ifB (!y11) (K [] [] (0 : Int) (0 : Int) Bool.false (0 : Int) (0 : Int) Bool.false (0 : Nat) (0 : Nat) (0 : Nat) (0 : Nat) (0 : Nat) (0 : Int) Bool.false)
            (K y2 y7 y3 y4 y5 y8 y9 y10 a9 a10 a11 a12 a13 a14 Bool.true)))) := by kernel_rfl
theorem spec_MirrorMelt.eq (a1 : List
  Nat) (a2 : List
  Nat) (a3 : Int) (a4 : Int) (a5 : Bool) (a6 : Int) (a7 : Int) (a8 : Bool) (a9 : Nat) (a10 : Nat) (a11 : Nat) (a12 : Nat) (a13 : Nat) (a14 : Int) (K : List Nat →
  List Nat → Int → Int → Bool → Int → Int → Bool → Nat → Nat → Nat → Nat → Nat → Int → Bool → Prop) : spec_MirrorMelt.wp a1 a2 a3 a4 a5 a6 a7 a8 a9 a10 a11 a12 a13 a14 K =
  (Go.K.melts.spec_l03Is.wp a3 a4 a5 a6 a7 a8 a9 a10 a11 a12 a13 a14 a1 a2 fun y1 =>
  Go.K.ifB (!y1) (K [] [] (0 : Int) (0 : Int) Bool.false (0 : Int) (0 : Int) Bool.false (0 : Nat) (0 : Nat) (0 : Nat) (0 : Nat) (0 : Nat) (0 : Int) Bool.false)
    (Go.K.melts.spec_MirrorField.wp a1 a3 a4 a5 fun y2 y3 y4 y5 y6 =>
      Go.K.melts.spec_MirrorField.wp a2 a6 a7 a8 fun y7 y8 y9 y10 y11 =>
        Go.K.ifB (!y6) (K [] [] (0 : Int) (0 : Int) Bool.false (0 : Int) (0 : Int) Bool.false (0 : Nat) (0 : Nat) (0 : Nat) (0 : Nat) (0 : Nat) (0 : Int) Bool.false)
          (Go.K.ifB (!y11) (K [] [] (0 : Int) (0 : Int) Bool.false (0 : Int) (0 : Int) Bool.false (0 : Nat) (0 : Nat) (0 : Nat) (0 : Nat) (0 : Nat) (0 : Int) Bool.false)
            (K y2 y7 y3 y4 y5 y8 y9 y10 a9 a10 a11 a12 a13 a14 Bool.true)))) := spec_MirrorMelt.tx spec_l03Is.wp spec_MirrorField.wp a1 a2 a3 a4 a5 a6 a7 a8 a9 a10 a11 a12 a13 a14 K

theorem impl_MirrorField_1.tx (w_impl_Field_at : List Nat → Int → Int → Bool → Int → Int → (Nat → Prop) → Prop) (a1 : Int) (a2 : Int) (a3 : Bool) (a4 : List Nat) (a5 : Int) (a6 : Int) (K : Nat → Prop) : impl_MirrorField_1.bd w_impl_Field_at a1 a2 a3 a4 a5 a6 K =
  (w_impl_Field_at a4 a1 a2 a3 (Go.IntKind.wrap Go.IntKind.i64 (Go.IntKind.wrap Go.IntKind.i64 (a1 - (1 : Int)) - a5)) a6 fun y1 => K y1) := by kernel_rfl
theorem impl_MirrorField_1.eq (a1 : Int) (a2 : Int) (a3 : Bool) (a4 : List Nat) (a5 : Int) (a6 : Int) (K : Nat → Prop) : impl_MirrorField_1.wp a1 a2 a3 a4 a5 a6 K =
  (Go.K.melts.impl_Field_at.wp a4 a1 a2 a3 (Go.IntKind.wrap Go.IntKind.i64 (Go.IntKind.wrap Go.IntKind.i64 (a1 - (1 : Int)) - a5)) a6 fun y1 => K y1) := impl_MirrorField_1.tx impl_Field_at.wp a1 a2 a3 a4 a5 a6 K

theorem impl_made__MirrorField_1.tx (w_impl_MirrorField_1 : Int → Int → Bool → List Nat → Int → Int → (Nat → Prop) → Prop) (a1 : Int) (a2 : Int) (a3 : Bool) (a4 : List
  Nat) (a5 : Int) (a6 : Int) (a7 : Bool) (K : List Nat → Int → Int → Bool → Prop) : impl_made__MirrorField_1.bd w_impl_MirrorField_1 a1 a2 a3 a4 a5 a6 a7 K =
  (∀ (J1 : Int → Int → Bool → Int → Int → Bool → List Nat → List Nat → Int → Int → Prop),
  (∀ (x2 x3 : Int) (x4 : Bool) (x5 x6 : Int) (x7 : Bool) (x8 x9 : List Nat) (x10 x11 : Int),
      Go.K.ifB (Decidable.decide (x11 < x10))
          (∀ (J12 : Int → Int → Bool → Int → Int → Bool → List Nat → List Nat → Int → Int → Int → Int → Int → Prop),
            (∀ (x13 x14 : Int) (x15 : Bool) (x16 x17 : Int) (x18 : Bool) (x19 x20 : List Nat) (x21 x22 x23 x24 x25 : Int),
                Go.K.ifB (Decidable.decide (x25 < x24))
                    (w_impl_MirrorField_1 a1 a2 a3 a4 x25 x21 fun y26 =>
                      List.length (x20 ++ y26 :: List.replicate (0 : Nat) (0 : Nat)) ≤ (1099511627776 : Nat) ∧
                        J12 x13 x14 x15 x16 x17 x18 x19 (x20 ++ y26 :: List.replicate (0 : Nat) (0 : Nat)) x21 x22 x23 x24 (Go.IntKind.wrap Go.IntKind.i64 (x25 + (1 : Int))))
                    (J1 x13 x14 x15 x16 x17 x18 x19 x20 x22 (Go.IntKind.wrap Go.IntKind.i64 (x23 + (1 : Int)))) →
                  J12 x13 x14 x15 x16 x17 x18 x19 x20 x21 x22 x23 x24 x25) →
              J12 x2 x3 x4 x5 x6 x7 x8 x9 x11 x10 x11 a5 (0 : Int))
          (K x9 x5 x6 x7) →
        J1 x2 x3 x4 x5 x6 x7 x8 x9 x10 x11) →
    J1 (0 : Int) (0 : Int) Bool.false a5 a6 a7 [] (List.replicate (0 : Nat) (0 : Nat)) a6 (0 : Int)) := by kernel_rfl
theorem impl_made__MirrorField_1.eq (a1 : Int) (a2 : Int) (a3 : Bool) (a4 : List
  Nat) (a5 : Int) (a6 : Int) (a7 : Bool) (K : List Nat → Int → Int → Bool → Prop) : impl_made__MirrorField_1.wp a1 a2 a3 a4 a5 a6 a7 K =
  (∀ (J1 : Int → Int → Bool → Int → Int → Bool → List Nat → List Nat → Int → Int → Prop),
  (∀ (x2 x3 : Int) (x4 : Bool) (x5 x6 : Int) (x7 : Bool) (x8 x9 : List Nat) (x10 x11 : Int),
      Go.K.ifB (Decidable.decide (x11 < x10))
          (∀ (J12 : Int → Int → Bool → Int → Int → Bool → List Nat → List Nat → Int → Int → Int → Int → Int → Prop),
            (∀ (x13 x14 : Int) (x15 : Bool) (x16 x17 : Int) (x18 : Bool) (x19 x20 : List Nat) (x21 x22 x23 x24 x25 : Int),
                Go.K.ifB (Decidable.decide (x25 < x24))
                    (Go.K.melts.impl_MirrorField_1.wp a1 a2 a3 a4 x25 x21 fun y26 =>
                      List.length (x20 ++ y26 :: List.replicate (0 : Nat) (0 : Nat)) ≤ (1099511627776 : Nat) ∧
                        J12 x13 x14 x15 x16 x17 x18 x19 (x20 ++ y26 :: List.replicate (0 : Nat) (0 : Nat)) x21 x22 x23 x24 (Go.IntKind.wrap Go.IntKind.i64 (x25 + (1 : Int))))
                    (J1 x13 x14 x15 x16 x17 x18 x19 x20 x22 (Go.IntKind.wrap Go.IntKind.i64 (x23 + (1 : Int)))) →
                  J12 x13 x14 x15 x16 x17 x18 x19 x20 x21 x22 x23 x24 x25) →
              J12 x2 x3 x4 x5 x6 x7 x8 x9 x11 x10 x11 a5 (0 : Int))
          (K x9 x5 x6 x7) →
        J1 x2 x3 x4 x5 x6 x7 x8 x9 x10 x11) →
    J1 (0 : Int) (0 : Int) Bool.false a5 a6 a7 [] (List.replicate (0 : Nat) (0 : Nat)) a6 (0 : Int)) := impl_made__MirrorField_1.tx impl_MirrorField_1.wp a1 a2 a3 a4 a5 a6 a7 K

theorem impl_Field_each__MirrorField_1.tx (w_impl_made__MirrorField_1 : Int → Int → Bool → List Nat → Int → Int → Bool → (List Nat → Int → Int → Bool → Prop) → Prop) (a1 : List
  Nat) (a2 : Int) (a3 : Int) (a4 : Bool) (a5 : List
  Nat) (a6 : Int) (a7 : Int) (a8 : Bool) (K : List Nat → Int → Int → Bool → Prop) : impl_Field_each__MirrorField_1.bd w_impl_made__MirrorField_1 a1 a2 a3 a4 a5 a6 a7 a8 K =
  (w_impl_made__MirrorField_1 a2 a3 a4 a5 a6 a7 a8 fun y1 y2 y3 y4 => K y1 y2 y3 y4) := by kernel_rfl
theorem impl_Field_each__MirrorField_1.eq (a1 : List
  Nat) (a2 : Int) (a3 : Int) (a4 : Bool) (a5 : List
  Nat) (a6 : Int) (a7 : Int) (a8 : Bool) (K : List Nat → Int → Int → Bool → Prop) : impl_Field_each__MirrorField_1.wp a1 a2 a3 a4 a5 a6 a7 a8 K =
  (Go.K.melts.impl_made__MirrorField_1.wp a2 a3 a4 a5 a6 a7 a8 fun y1 y2 y3 y4 => K y1 y2 y3 y4) := impl_Field_each__MirrorField_1.tx impl_made__MirrorField_1.wp a1 a2 a3 a4 a5 a6 a7 a8 K

theorem impl_MirrorField.tx (w_impl_ValidField : List Nat → Int → Int → Bool → (Bool → Prop) → Prop) (w_impl_Field_each__MirrorField_1 : List Nat → Int → Int → Bool → List Nat → Int → Int → Bool → (List Nat → Int → Int → Bool → Prop) → Prop) (a1 : List Nat) (a2 : Int) (a3 : Int) (a4 : Bool) (K : List Nat → Int → Int → Bool → Bool → Prop) : impl_MirrorField.bd w_impl_ValidField w_impl_Field_each__MirrorField_1 a1 a2 a3 a4 K =
  (w_impl_ValidField a1 a2 a3 a4 fun y1 =>
  Go.K.ifB (!y1) (K [] (0 : Int) (0 : Int) Bool.false Bool.false)
    (w_impl_Field_each__MirrorField_1 a1 a2 a3 a4 a1 a2 a3 a4 fun y2 y3 y4 y5 => K y2 y3 y4 y5 Bool.true)) := by kernel_rfl
theorem impl_MirrorField.eq (a1 : List Nat) (a2 : Int) (a3 : Int) (a4 : Bool) (K : List Nat → Int → Int → Bool → Bool → Prop) : impl_MirrorField.wp a1 a2 a3 a4 K =
  (Go.K.melts.impl_ValidField.wp a1 a2 a3 a4 fun y1 =>
  Go.K.ifB (!y1) (K [] (0 : Int) (0 : Int) Bool.false Bool.false)
    (Go.K.melts.impl_Field_each__MirrorField_1.wp a1 a2 a3 a4 a1 a2 a3 a4 fun y2 y3 y4 y5 => K y2 y3 y4 y5 Bool.true)) := impl_MirrorField.tx impl_ValidField.wp impl_Field_each__MirrorField_1.wp a1 a2 a3 a4 K

theorem impl_MirrorMelt.tx (w_impl_ValidMelt : List Nat → List Nat → Int → Int → Bool → Int → Int → Bool → Nat → Nat → Nat → Nat → Nat → Int → (Bool → Prop) → Prop) (w_impl_MirrorField : List Nat → Int → Int → Bool → (List Nat → Int → Int → Bool → Bool → Prop) → Prop) (a1 : List
  Nat) (a2 : List
  Nat) (a3 : Int) (a4 : Int) (a5 : Bool) (a6 : Int) (a7 : Int) (a8 : Bool) (a9 : Nat) (a10 : Nat) (a11 : Nat) (a12 : Nat) (a13 : Nat) (a14 : Int) (K : List Nat →
  List Nat → Int → Int → Bool → Int → Int → Bool → Nat → Nat → Nat → Nat → Nat → Int → Bool → Prop) : impl_MirrorMelt.bd w_impl_ValidMelt w_impl_MirrorField a1 a2 a3 a4 a5 a6 a7 a8 a9 a10 a11 a12 a13 a14 K =
  (w_impl_ValidMelt a1 a2 a3 a4 a5 a6 a7 a8 a9 a10 a11 a12 a13 a14 fun y1 =>
  Go.K.ifB (!y1) (K [] [] (0 : Int) (0 : Int) Bool.false (0 : Int) (0 : Int) Bool.false (0 : Nat) (0 : Nat) (0 : Nat) (0 : Nat) (0 : Nat) (0 : Int) Bool.false)
    (w_impl_MirrorField a1 a3 a4 a5 fun y2 y3 y4 y5 y6 =>
      w_impl_MirrorField a2 a6 a7 a8 fun y7 y8 y9 y10 y11 => K y2 y7 y3 y4 y5 y8 y9 y10 a9 a10 a11 a12 a13 a14 Bool.true)) := by kernel_rfl
theorem impl_MirrorMelt.eq (a1 : List
  Nat) (a2 : List
  Nat) (a3 : Int) (a4 : Int) (a5 : Bool) (a6 : Int) (a7 : Int) (a8 : Bool) (a9 : Nat) (a10 : Nat) (a11 : Nat) (a12 : Nat) (a13 : Nat) (a14 : Int) (K : List Nat →
  List Nat → Int → Int → Bool → Int → Int → Bool → Nat → Nat → Nat → Nat → Nat → Int → Bool → Prop) : impl_MirrorMelt.wp a1 a2 a3 a4 a5 a6 a7 a8 a9 a10 a11 a12 a13 a14 K =
  (Go.K.melts.impl_ValidMelt.wp a1 a2 a3 a4 a5 a6 a7 a8 a9 a10 a11 a12 a13 a14 fun y1 =>
  Go.K.ifB (!y1) (K [] [] (0 : Int) (0 : Int) Bool.false (0 : Int) (0 : Int) Bool.false (0 : Nat) (0 : Nat) (0 : Nat) (0 : Nat) (0 : Nat) (0 : Int) Bool.false)
    (Go.K.melts.impl_MirrorField.wp a1 a3 a4 a5 fun y2 y3 y4 y5 y6 =>
      Go.K.melts.impl_MirrorField.wp a2 a6 a7 a8 fun y7 y8 y9 y10 y11 => K y2 y7 y3 y4 y5 y8 y9 y10 a9 a10 a11 a12 a13 a14 Bool.true)) := impl_MirrorMelt.tx impl_ValidMelt.wp impl_MirrorField.wp a1 a2 a3 a4 a5 a6 a7 a8 a9 a10 a11 a12 a13 a14 K

theorem laws_markMelt.tx (w_laws_markField : List Nat → Int → Int → Bool → Int → (List Nat → Int → Prop) → Prop) (a1 : List
  Nat) (a2 : List
  Nat) (a3 : Int) (a4 : Int) (a5 : Bool) (a6 : Int) (a7 : Int) (a8 : Bool) (a9 : Nat) (a10 : Nat) (a11 : Nat) (a12 : Nat) (a13 : Nat) (a14 : Int) (a15 : Int) (K : List Nat →
  List Nat → Int → Prop) : laws_markMelt.bd w_laws_markField a1 a2 a3 a4 a5 a6 a7 a8 a9 a10 a11 a12 a13 a14 a15 K =
  (w_laws_markField a1 a3 a4 a5 a15 fun y1 y2 => w_laws_markField a2 a6 a7 a8 y2 fun y3 y4 => K y1 y3 y4) := by kernel_rfl
theorem laws_markMelt.eq (a1 : List
  Nat) (a2 : List
  Nat) (a3 : Int) (a4 : Int) (a5 : Bool) (a6 : Int) (a7 : Int) (a8 : Bool) (a9 : Nat) (a10 : Nat) (a11 : Nat) (a12 : Nat) (a13 : Nat) (a14 : Int) (a15 : Int) (K : List Nat →
  List Nat → Int → Prop) : laws_markMelt.wp a1 a2 a3 a4 a5 a6 a7 a8 a9 a10 a11 a12 a13 a14 a15 K =
  (Go.K.melts.laws_markField.wp a1 a3 a4 a5 a15 fun y1 y2 => Go.K.melts.laws_markField.wp a2 a6 a7 a8 y2 fun y3 y4 => K y1 y3 y4) := laws_markMelt.tx laws_markField.wp a1 a2 a3 a4 a5 a6 a7 a8 a9 a10 a11 a12 a13 a14 a15 K

theorem laws_heldMelt.tx (w_laws_heldField : List Nat → Int → Int → Bool → Int → (Int → Prop) → Prop) (a1 : List
  Nat) (a2 : List
  Nat) (a3 : Int) (a4 : Int) (a5 : Bool) (a6 : Int) (a7 : Int) (a8 : Bool) (a9 : Nat) (a10 : Nat) (a11 : Nat) (a12 : Nat) (a13 : Nat) (a14 : Int) (a15 : Int) (K : Int →
  Prop) : laws_heldMelt.bd w_laws_heldField a1 a2 a3 a4 a5 a6 a7 a8 a9 a10 a11 a12 a13 a14 a15 K =
  (w_laws_heldField a1 a3 a4 a5 a15 fun y1 =>
  Go.K.ifB (Decidable.decide (y1 < (0 : Int))) (K (-1 : Int))
    (w_laws_heldField a2 a6 a7 a8 y1 fun y2 => Go.K.ifB (Decidable.decide (y2 < (0 : Int))) (K (-1 : Int)) (K y2))) := by kernel_rfl
theorem laws_heldMelt.eq (a1 : List
  Nat) (a2 : List
  Nat) (a3 : Int) (a4 : Int) (a5 : Bool) (a6 : Int) (a7 : Int) (a8 : Bool) (a9 : Nat) (a10 : Nat) (a11 : Nat) (a12 : Nat) (a13 : Nat) (a14 : Int) (a15 : Int) (K : Int →
  Prop) : laws_heldMelt.wp a1 a2 a3 a4 a5 a6 a7 a8 a9 a10 a11 a12 a13 a14 a15 K =
  (Go.K.melts.laws_heldField.wp a1 a3 a4 a5 a15 fun y1 =>
  Go.K.ifB (Decidable.decide (y1 < (0 : Int))) (K (-1 : Int))
    (Go.K.melts.laws_heldField.wp a2 a6 a7 a8 y1 fun y2 => Go.K.ifB (Decidable.decide (y2 < (0 : Int))) (K (-1 : Int)) (K y2))) := laws_heldMelt.tx laws_heldField.wp a1 a2 a3 a4 a5 a6 a7 a8 a9 a10 a11 a12 a13 a14 a15 K

theorem laws_FnExactMirrorMelt.tx (w_laws_szMelt : List Nat → List Nat → Int → Int → Bool → Int → Int → Bool → Nat → Nat → Nat → Nat → Nat → Int → Int → (Int → Prop) → Prop) (w_laws_toMelt : List Nat → List Nat → Int → Int → Bool → Int → Int → Bool → Nat → Nat → Nat → Nat → Nat → Int → (List Nat → List Nat → Int → Int → Bool → Int → Int → Bool → Nat → Nat → Nat → Nat → Nat → Int → Prop) → Prop) (w_spec_MirrorMelt : List Nat → List Nat → Int → Int → Bool → Int → Int → Bool → Nat → Nat → Nat → Nat → Nat → Int → (List Nat → List Nat → Int → Int → Bool → Int → Int → Bool → Nat → Nat → Nat → Nat → Nat → Int → Bool → Prop) → Prop) (w_impl_MirrorMelt : List Nat → List Nat → Int → Int → Bool → Int → Int → Bool → Nat → Nat → Nat → Nat → Nat → Int → (List Nat → List Nat → Int → Int → Bool → Int → Int → Bool → Nat → Nat → Nat → Nat → Nat → Int → Bool → Prop) → Prop) (w_laws_eqMelt : List Nat → List Nat → List Nat → List Nat → Int → Int → Bool → Int → Int → Bool → Nat → Nat → Nat → Nat → Nat → Int → Int → Int → Bool → Int → Int → Bool → Nat → Nat → Nat → Nat → Nat → Int → (Bool → Prop) → Prop) (w_laws_markMelt : List Nat → List Nat → Int → Int → Bool → Int → Int → Bool → Nat → Nat → Nat → Nat → Nat → Int → Int → (List Nat → List Nat → Int → Prop) → Prop) (w_laws_heldMelt : List Nat → List Nat → Int → Int → Bool → Int → Int → Bool → Nat → Nat → Nat → Nat → Nat → Int → Int → (Int → Prop) → Prop) (a1 : List
  Nat) (a2 : List
  Nat) (a3 : Int) (a4 : Int) (a5 : Bool) (a6 : Int) (a7 : Int) (a8 : Bool) (a9 : Nat) (a10 : Nat) (a11 : Nat) (a12 : Nat) (a13 : Nat) (a14 : Int) (K : Bool →
  Prop) : laws_FnExactMirrorMelt.bd w_laws_szMelt w_laws_toMelt w_spec_MirrorMelt w_impl_MirrorMelt w_laws_eqMelt w_laws_markMelt w_laws_heldMelt a1 a2 a3 a4 a5 a6 a7 a8 a9 a10 a11 a12 a13 a14 K =
  (w_laws_szMelt a1 a2 a3 a4 a5 a6 a7 a8 a9 a10 a11 a12 a13 a14 (1048576 : Int) fun y1 =>
  Go.K.ifB (Decidable.decide (y1 < (0 : Int))) (K Bool.true)
    (w_laws_toMelt a1 a2 a3 a4 a5 a6 a7 a8 a9 a10 a11 a12 a13 a14 fun y2 y3 y4 y5 y6 y7 y8 y9 y10 y11 y12 y13 y14 y15 =>
      w_spec_MirrorMelt y2 y3 y4 y5 y6 y7 y8 y9 y10 y11 y12 y13 y14 y15 fun y16 y17 y18 y19 y20 y21 y22 y23 y24 y25 y26 y27 y28 y29 y30 =>
        w_laws_toMelt a1 a2 a3 a4 a5 a6 a7 a8 a9 a10 a11 a12 a13 a14 fun y31 y32 y33 y34 y35 y36 y37 y38 y39 y40 y41 y42 y43 y44 =>
          w_impl_MirrorMelt y31 y32 y33 y34 y35 y36 y37 y38 y39 y40 y41 y42 y43 y44 fun y45 y46 y47 y48 y49 y50 y51 y52 y53 y54 y55 y56 y57 y58 y59 =>
            w_laws_eqMelt y45 y46 y16 y17 y47 y48 y49 y50 y51 y52 y53 y54 y55 y56 y57 y58 y18 y19 y20 y21 y22 y23 y24 y25 y26 y27 y28 y29 fun y60 =>
              Go.K.ifB (!y60) (K Bool.false)
                (Go.K.ifB (y59 != y30) (K Bool.false)
                  (w_laws_toMelt a1 a2 a3 a4 a5 a6 a7 a8 a9 a10 a11 a12 a13 a14 fun y61 y62 y63 y64 y65 y66 y67 y68 y69 y70 y71 y72 y73 y74 =>
                    w_laws_eqMelt y31 y32 y61 y62 y33 y34 y35 y36 y37 y38 y39 y40 y41 y42 y43 y44 y63 y64 y65 y66 y67 y68 y69 y70 y71 y72 y73 y74 fun y75 =>
                      Go.K.ifB (!y75) (K Bool.false)
                        (w_laws_markMelt y31 y32 y33 y34 y35 y36 y37 y38 y39 y40 y41 y42 y43 y44 (1 : Int) fun y76 y77 y78 =>
                          Go.K.ifB (Decidable.decide (y78 < (0 : Int))) (K Bool.false)
                            (w_laws_eqMelt y45 y46 y16 y17 y47 y48 y49 y50 y51 y52 y53 y54 y55 y56 y57 y58 y18 y19 y20 y21 y22 y23 y24 y25 y26 y27 y28 y29 fun y79 =>
                              Go.K.ifB (!y79) (K Bool.false)
                                (Go.K.ifB (y59 != y30) (K Bool.false)
                                  (w_laws_markMelt y45 y46 y47 y48 y49 y50 y51 y52 y53 y54 y55 y56 y57 y58 (1 : Int) fun y80 y81 y82 =>
                                    w_laws_heldMelt y80 y81 y47 y48 y49 y50 y51 y52 y53 y54 y55 y56 y57 y58 (1 : Int) fun y83 =>
                                      Go.K.ifB (Decidable.decide (y83 < (0 : Int))) (K Bool.false)
                                        (Go.K.ifB (y83 != y82) (K Bool.false)
                                          (w_laws_toMelt a1 a2 a3 a4 a5 a6 a7 a8 a9 a10 a11 a12 a13 a14 fun y84 y85 y86 y87 y88 y89 y90 y91 y92 y93 y94 y95 y96 y97 =>
                                            w_impl_MirrorMelt y84 y85 y86 y87 y88 y89 y90 y91 y92 y93 y94 y95 y96 y97
                                              fun y98 y99 y100 y101 y102 y103 y104 y105 y106 y107 y108 y109 y110 y111 y112 =>
                                              w_laws_eqMelt y98 y99 y16 y17 y100 y101 y102 y103 y104 y105 y106 y107 y108 y109 y110 y111 y18 y19 y20 y21 y22 y23 y24 y25
                                                y26 y27 y28 y29 fun y113 =>
                                                Go.K.ifB (!y113) (K Bool.false)
                                                  (Go.K.ifB (y112 != y30) (K Bool.false)
                                                    (w_laws_heldMelt y80 y81 y47 y48 y49 y50 y51 y52 y53 y54 y55 y56 y57 y58 (1 : Int) fun y114 =>
                                                      Go.K.ifB (Decidable.decide (y114 < (0 : Int))) (K Bool.false)
                                                        (Go.K.ifB (y114 != y82) (K Bool.false) (K Bool.true)))))))))))))) := by kernel_rfl
theorem laws_FnExactMirrorMelt.eq (a1 : List
  Nat) (a2 : List
  Nat) (a3 : Int) (a4 : Int) (a5 : Bool) (a6 : Int) (a7 : Int) (a8 : Bool) (a9 : Nat) (a10 : Nat) (a11 : Nat) (a12 : Nat) (a13 : Nat) (a14 : Int) (K : Bool →
  Prop) : laws_FnExactMirrorMelt.wp a1 a2 a3 a4 a5 a6 a7 a8 a9 a10 a11 a12 a13 a14 K =
  (Go.K.melts.laws_szMelt.wp a1 a2 a3 a4 a5 a6 a7 a8 a9 a10 a11 a12 a13 a14 (1048576 : Int) fun y1 =>
  Go.K.ifB (Decidable.decide (y1 < (0 : Int))) (K Bool.true)
    (Go.K.melts.laws_toMelt.wp a1 a2 a3 a4 a5 a6 a7 a8 a9 a10 a11 a12 a13 a14 fun y2 y3 y4 y5 y6 y7 y8 y9 y10 y11 y12 y13 y14 y15 =>
      Go.K.melts.spec_MirrorMelt.wp y2 y3 y4 y5 y6 y7 y8 y9 y10 y11 y12 y13 y14 y15 fun y16 y17 y18 y19 y20 y21 y22 y23 y24 y25 y26 y27 y28 y29 y30 =>
        Go.K.melts.laws_toMelt.wp a1 a2 a3 a4 a5 a6 a7 a8 a9 a10 a11 a12 a13 a14 fun y31 y32 y33 y34 y35 y36 y37 y38 y39 y40 y41 y42 y43 y44 =>
          Go.K.melts.impl_MirrorMelt.wp y31 y32 y33 y34 y35 y36 y37 y38 y39 y40 y41 y42 y43 y44 fun y45 y46 y47 y48 y49 y50 y51 y52 y53 y54 y55 y56 y57 y58 y59 =>
            Go.K.melts.laws_eqMelt.wp y45 y46 y16 y17 y47 y48 y49 y50 y51 y52 y53 y54 y55 y56 y57 y58 y18 y19 y20 y21 y22 y23 y24 y25 y26 y27 y28 y29 fun y60 =>
              Go.K.ifB (!y60) (K Bool.false)
                (Go.K.ifB (y59 != y30) (K Bool.false)
                  (Go.K.melts.laws_toMelt.wp a1 a2 a3 a4 a5 a6 a7 a8 a9 a10 a11 a12 a13 a14 fun y61 y62 y63 y64 y65 y66 y67 y68 y69 y70 y71 y72 y73 y74 =>
                    Go.K.melts.laws_eqMelt.wp y31 y32 y61 y62 y33 y34 y35 y36 y37 y38 y39 y40 y41 y42 y43 y44 y63 y64 y65 y66 y67 y68 y69 y70 y71 y72 y73 y74 fun y75 =>
                      Go.K.ifB (!y75) (K Bool.false)
                        (Go.K.melts.laws_markMelt.wp y31 y32 y33 y34 y35 y36 y37 y38 y39 y40 y41 y42 y43 y44 (1 : Int) fun y76 y77 y78 =>
                          Go.K.ifB (Decidable.decide (y78 < (0 : Int))) (K Bool.false)
                            (Go.K.melts.laws_eqMelt.wp y45 y46 y16 y17 y47 y48 y49 y50 y51 y52 y53 y54 y55 y56 y57 y58 y18 y19 y20 y21 y22 y23 y24 y25 y26 y27 y28 y29 fun y79 =>
                              Go.K.ifB (!y79) (K Bool.false)
                                (Go.K.ifB (y59 != y30) (K Bool.false)
                                  (Go.K.melts.laws_markMelt.wp y45 y46 y47 y48 y49 y50 y51 y52 y53 y54 y55 y56 y57 y58 (1 : Int) fun y80 y81 y82 =>
                                    Go.K.melts.laws_heldMelt.wp y80 y81 y47 y48 y49 y50 y51 y52 y53 y54 y55 y56 y57 y58 (1 : Int) fun y83 =>
                                      Go.K.ifB (Decidable.decide (y83 < (0 : Int))) (K Bool.false)
                                        (Go.K.ifB (y83 != y82) (K Bool.false)
                                          (Go.K.melts.laws_toMelt.wp a1 a2 a3 a4 a5 a6 a7 a8 a9 a10 a11 a12 a13 a14 fun y84 y85 y86 y87 y88 y89 y90 y91 y92 y93 y94 y95 y96 y97 =>
                                            Go.K.melts.impl_MirrorMelt.wp y84 y85 y86 y87 y88 y89 y90 y91 y92 y93 y94 y95 y96 y97
                                              fun y98 y99 y100 y101 y102 y103 y104 y105 y106 y107 y108 y109 y110 y111 y112 =>
                                              Go.K.melts.laws_eqMelt.wp y98 y99 y16 y17 y100 y101 y102 y103 y104 y105 y106 y107 y108 y109 y110 y111 y18 y19 y20 y21 y22 y23 y24 y25
                                                y26 y27 y28 y29 fun y113 =>
                                                Go.K.ifB (!y113) (K Bool.false)
                                                  (Go.K.ifB (y112 != y30) (K Bool.false)
                                                    (Go.K.melts.laws_heldMelt.wp y80 y81 y47 y48 y49 y50 y51 y52 y53 y54 y55 y56 y57 y58 (1 : Int) fun y114 =>
                                                      Go.K.ifB (Decidable.decide (y114 < (0 : Int))) (K Bool.false)
                                                        (Go.K.ifB (y114 != y82) (K Bool.false) (K Bool.true)))))))))))))) := laws_FnExactMirrorMelt.tx laws_szMelt.wp laws_toMelt.wp spec_MirrorMelt.wp impl_MirrorMelt.wp laws_eqMelt.wp laws_markMelt.wp laws_heldMelt.wp a1 a2 a3 a4 a5 a6 a7 a8 a9 a10 a11 a12 a13 a14 K

theorem spec_l02Own.tx (w_spec_l02New : Int → Int → Bool → (List Nat → Int → Int → Bool → Prop) → Prop) (a1 : Int) (a2 : Int) (a3 : Bool) (a4 : List Nat) (K : List Nat → Int → Int → Bool → Prop) : spec_l02Own.bd w_spec_l02New a1 a2 a3 a4 K =
  (w_spec_l02New a1 a2 a3 fun y1 y2 y3 y4 => List.length (y1 ++ a4) ≤ (1099511627776 : Nat) ∧ K (y1 ++ a4) y2 y3 y4) := by kernel_rfl
theorem spec_l02Own.eq (a1 : Int) (a2 : Int) (a3 : Bool) (a4 : List Nat) (K : List Nat → Int → Int → Bool → Prop) : spec_l02Own.wp a1 a2 a3 a4 K =
  (Go.K.melts.spec_l02New.wp a1 a2 a3 fun y1 y2 y3 y4 => List.length (y1 ++ a4) ≤ (1099511627776 : Nat) ∧ K (y1 ++ a4) y2 y3 y4) := spec_l02Own.tx spec_l02New.wp a1 a2 a3 a4 K

theorem spec_l03Own.tx (w_spec_l02Own : Int → Int → Bool → List Nat → (List Nat → Int → Int → Bool → Prop) → Prop) (a1 : Int) (a2 : Int) (a3 : Bool) (a4 : Int) (a5 : Int) (a6 : Bool) (a7 : Nat) (a8 : Nat) (a9 : Nat) (a10 : Nat) (a11 : Nat) (a12 : Int) (a13 : List
  Nat) (a14 : List
  Nat) (K : List Nat →
  List Nat → Int → Int → Bool → Int → Int → Bool → Nat → Nat → Nat → Nat → Nat → Int → Prop) : spec_l03Own.bd w_spec_l02Own a1 a2 a3 a4 a5 a6 a7 a8 a9 a10 a11 a12 a13 a14 K =
  (w_spec_l02Own a1 a2 a3 a13 fun y1 y2 y3 y4 =>
  w_spec_l02Own a4 a5 a6 a14 fun y5 y6 y7 y8 => K y1 y5 y2 y3 y4 y6 y7 y8 a7 a8 a9 a10 a11 a12) := by kernel_rfl
theorem spec_l03Own.eq (a1 : Int) (a2 : Int) (a3 : Bool) (a4 : Int) (a5 : Int) (a6 : Bool) (a7 : Nat) (a8 : Nat) (a9 : Nat) (a10 : Nat) (a11 : Nat) (a12 : Int) (a13 : List
  Nat) (a14 : List
  Nat) (K : List Nat →
  List Nat → Int → Int → Bool → Int → Int → Bool → Nat → Nat → Nat → Nat → Nat → Int → Prop) : spec_l03Own.wp a1 a2 a3 a4 a5 a6 a7 a8 a9 a10 a11 a12 a13 a14 K =
  (Go.K.melts.spec_l02Own.wp a1 a2 a3 a13 fun y1 y2 y3 y4 =>
  Go.K.melts.spec_l02Own.wp a4 a5 a6 a14 fun y5 y6 y7 y8 => K y1 y5 y2 y3 y4 y6 y7 y8 a7 a8 a9 a10 a11 a12) := spec_l03Own.tx spec_l02Own.wp a1 a2 a3 a4 a5 a6 a7 a8 a9 a10 a11 a12 a13 a14 K

theorem spec_l03Give.tx (w_spec_l03Is : Int → Int → Bool → Int → Int → Bool → Nat → Nat → Nat → Nat → Nat → Int → List Nat → List Nat → (Bool → Prop) → Prop) (a1 : List
  Nat) (a2 : List
  Nat) (a3 : Int) (a4 : Int) (a5 : Bool) (a6 : Int) (a7 : Int) (a8 : Bool) (a9 : Nat) (a10 : Nat) (a11 : Nat) (a12 : Nat) (a13 : Nat) (a14 : Int) (K : List Nat →
  List Nat → Int → Int → Bool → Int → Int → Bool → Nat → Nat → Nat → Nat → Nat → Int → Bool → Prop) : spec_l03Give.bd w_spec_l03Is a1 a2 a3 a4 a5 a6 a7 a8 a9 a10 a11 a12 a13 a14 K =
  (w_spec_l03Is a3 a4 a5 a6 a7 a8 a9 a10 a11 a12 a13 a14 a1 a2 fun y1 =>
  Go.K.ifB (!y1) (K [] [] (0 : Int) (0 : Int) Bool.false (0 : Int) (0 : Int) Bool.false (0 : Nat) (0 : Nat) (0 : Nat) (0 : Nat) (0 : Nat) (0 : Int) Bool.false)
    (K a1 a2 a3 a4 a5 a6 a7 a8 a9 a10 a11 a12 a13 a14 Bool.true)) := by kernel_rfl
theorem spec_l03Give.eq (a1 : List
  Nat) (a2 : List
  Nat) (a3 : Int) (a4 : Int) (a5 : Bool) (a6 : Int) (a7 : Int) (a8 : Bool) (a9 : Nat) (a10 : Nat) (a11 : Nat) (a12 : Nat) (a13 : Nat) (a14 : Int) (K : List Nat →
  List Nat → Int → Int → Bool → Int → Int → Bool → Nat → Nat → Nat → Nat → Nat → Int → Bool → Prop) : spec_l03Give.wp a1 a2 a3 a4 a5 a6 a7 a8 a9 a10 a11 a12 a13 a14 K =
  (Go.K.melts.spec_l03Is.wp a3 a4 a5 a6 a7 a8 a9 a10 a11 a12 a13 a14 a1 a2 fun y1 =>
  Go.K.ifB (!y1) (K [] [] (0 : Int) (0 : Int) Bool.false (0 : Int) (0 : Int) Bool.false (0 : Nat) (0 : Nat) (0 : Nat) (0 : Nat) (0 : Nat) (0 : Int) Bool.false)
    (K a1 a2 a3 a4 a5 a6 a7 a8 a9 a10 a11 a12 a13 a14 Bool.true)) := spec_l03Give.tx spec_l03Is.wp a1 a2 a3 a4 a5 a6 a7 a8 a9 a10 a11 a12 a13 a14 K

theorem spec_SetMelt.tx (w_spec_l03Is : Int → Int → Bool → Int → Int → Bool → Nat → Nat → Nat → Nat → Nat → Int → List Nat → List Nat → (Bool → Prop) → Prop) (w_spec_l03Own : Int → Int → Bool → Int → Int → Bool → Nat → Nat → Nat → Nat → Nat → Int → List Nat → List Nat → (List Nat → List Nat → Int → Int → Bool → Int → Int → Bool → Nat → Nat → Nat → Nat → Nat → Int → Prop) → Prop) (w_spec_l03Give : List Nat → List Nat → Int → Int → Bool → Int → Int → Bool → Nat → Nat → Nat → Nat → Nat → Int → (List Nat → List Nat → Int → Int → Bool → Int → Int → Bool → Nat → Nat → Nat → Nat → Nat → Int → Bool → Prop) → Prop) (a1 : List
  Nat) (a2 : List
  Nat) (a3 : Int) (a4 : Int) (a5 : Bool) (a6 : Int) (a7 : Int) (a8 : Bool) (a9 : Nat) (a10 : Nat) (a11 : Nat) (a12 : Nat) (a13 : Nat) (a14 : Int) (a15 : Nat) (a16 : Nat) (a17 : Nat) (a18 : Nat) (a19 : Nat) (a20 : Int) (K : List
    Nat →
  List Nat →
    Int →
      Int → Bool → Int → Int → Bool → Nat → Nat → Nat → Nat → Nat → Int → Bool → Prop) : spec_SetMelt.bd w_spec_l03Is w_spec_l03Own w_spec_l03Give a1 a2 a3 a4 a5 a6 a7 a8 a9 a10 a11 a12 a13 a14 a15 a16 a17 a18 a19 a20 K =
  (w_spec_l03Is a3 a4 a5 a6 a7 a8 a9 a10 a11 a12 a13 a14 a1 a2 fun y1 =>
  Go.K.ifB (!y1) (K [] [] (0 : Int) (0 : Int) Bool.false (0 : Int) (0 : Int) Bool.false (0 : Nat) (0 : Nat) (0 : Nat) (0 : Nat) (0 : Nat) (0 : Int) Bool.false)
    (w_spec_l03Own a3 a4 a5 a6 a7 a8 a9 a10 a11 a12 a13 a14 a1 a2 fun y2 y3 y4 y5 y6 y7 y8 y9 y10 y11 y12 y13 y14 y15 =>
      w_spec_l03Give y2 y3 y4 y5 y6 y7 y8 y9 a15 a16 a17 a18 a19 a20 fun y16 y17 y18 y19 y20 y21 y22 y23 y24 y25 y26 y27 y28 y29 y30 =>
        K y16 y17 y18 y19 y20 y21 y22 y23 y24 y25 y26 y27 y28 y29 y30)) := by kernel_rfl
theorem spec_SetMelt.eq (a1 : List
  Nat) (a2 : List
  Nat) (a3 : Int) (a4 : Int) (a5 : Bool) (a6 : Int) (a7 : Int) (a8 : Bool) (a9 : Nat) (a10 : Nat) (a11 : Nat) (a12 : Nat) (a13 : Nat) (a14 : Int) (a15 : Nat) (a16 : Nat) (a17 : Nat) (a18 : Nat) (a19 : Nat) (a20 : Int) (K : List
    Nat →
  List Nat →
    Int →
      Int → Bool → Int → Int → Bool → Nat → Nat → Nat → Nat → Nat → Int → Bool → Prop) : spec_SetMelt.wp a1 a2 a3 a4 a5 a6 a7 a8 a9 a10 a11 a12 a13 a14 a15 a16 a17 a18 a19 a20 K =
  (Go.K.melts.spec_l03Is.wp a3 a4 a5 a6 a7 a8 a9 a10 a11 a12 a13 a14 a1 a2 fun y1 =>
  Go.K.ifB (!y1) (K [] [] (0 : Int) (0 : Int) Bool.false (0 : Int) (0 : Int) Bool.false (0 : Nat) (0 : Nat) (0 : Nat) (0 : Nat) (0 : Nat) (0 : Int) Bool.false)
    (Go.K.melts.spec_l03Own.wp a3 a4 a5 a6 a7 a8 a9 a10 a11 a12 a13 a14 a1 a2 fun y2 y3 y4 y5 y6 y7 y8 y9 y10 y11 y12 y13 y14 y15 =>
      Go.K.melts.spec_l03Give.wp y2 y3 y4 y5 y6 y7 y8 y9 a15 a16 a17 a18 a19 a20 fun y16 y17 y18 y19 y20 y21 y22 y23 y24 y25 y26 y27 y28 y29 y30 =>
        K y16 y17 y18 y19 y20 y21 y22 y23 y24 y25 y26 y27 y28 y29 y30)) := spec_SetMelt.tx spec_l03Is.wp spec_l03Own.wp spec_l03Give.wp a1 a2 a3 a4 a5 a6 a7 a8 a9 a10 a11 a12 a13 a14 a15 a16 a17 a18 a19 a20 K

theorem slices_Clone_float32_float32.tx  (a1 : List Nat) (K : List Nat → Prop) : slices_Clone_float32_float32.bd  a1 K =
  (List.length a1 ≠ (0 : Nat) ∧ List.length (List.replicate (0 : Nat) (0 : Nat) ++ a1) ≤ (1099511627776 : Nat) ∧ K (List.replicate (0 : Nat) (0 : Nat) ++ a1)) := by kernel_rfl
theorem slices_Clone_float32_float32.eq (a1 : List Nat) (K : List Nat → Prop) : slices_Clone_float32_float32.wp a1 K =
  (List.length a1 ≠ (0 : Nat) ∧ List.length (List.replicate (0 : Nat) (0 : Nat) ++ a1) ≤ (1099511627776 : Nat) ∧ K (List.replicate (0 : Nat) (0 : Nat) ++ a1)) := slices_Clone_float32_float32.tx  a1 K

theorem impl_Melt_cloned.tx (w_impl_ValidMelt : List Nat → List Nat → Int → Int → Bool → Int → Int → Bool → Nat → Nat → Nat → Nat → Nat → Int → (Bool → Prop) → Prop) (w_slices_Clone_float32_float32 : List Nat → (List Nat → Prop) → Prop) (a1 : List
  Nat) (a2 : List
  Nat) (a3 : Int) (a4 : Int) (a5 : Bool) (a6 : Int) (a7 : Int) (a8 : Bool) (a9 : Nat) (a10 : Nat) (a11 : Nat) (a12 : Nat) (a13 : Nat) (a14 : Int) (K : List Nat →
  List Nat → Int → Int → Bool → Int → Int → Bool → Nat → Nat → Nat → Nat → Nat → Int → Bool → Prop) : impl_Melt_cloned.bd w_impl_ValidMelt w_slices_Clone_float32_float32 a1 a2 a3 a4 a5 a6 a7 a8 a9 a10 a11 a12 a13 a14 K =
  (w_impl_ValidMelt a1 a2 a3 a4 a5 a6 a7 a8 a9 a10 a11 a12 a13 a14 fun y1 =>
  Go.K.ifB (!y1) (K [] [] (0 : Int) (0 : Int) Bool.false (0 : Int) (0 : Int) Bool.false (0 : Nat) (0 : Nat) (0 : Nat) (0 : Nat) (0 : Nat) (0 : Int) Bool.false)
    (w_slices_Clone_float32_float32 a1 fun y2 =>
      w_slices_Clone_float32_float32 a2 fun y3 => K y2 y3 a3 a4 a5 a6 a7 a8 a9 a10 a11 a12 a13 a14 Bool.true)) := by kernel_rfl
theorem impl_Melt_cloned.eq (a1 : List
  Nat) (a2 : List
  Nat) (a3 : Int) (a4 : Int) (a5 : Bool) (a6 : Int) (a7 : Int) (a8 : Bool) (a9 : Nat) (a10 : Nat) (a11 : Nat) (a12 : Nat) (a13 : Nat) (a14 : Int) (K : List Nat →
  List Nat → Int → Int → Bool → Int → Int → Bool → Nat → Nat → Nat → Nat → Nat → Int → Bool → Prop) : impl_Melt_cloned.wp a1 a2 a3 a4 a5 a6 a7 a8 a9 a10 a11 a12 a13 a14 K =
  (Go.K.melts.impl_ValidMelt.wp a1 a2 a3 a4 a5 a6 a7 a8 a9 a10 a11 a12 a13 a14 fun y1 =>
  Go.K.ifB (!y1) (K [] [] (0 : Int) (0 : Int) Bool.false (0 : Int) (0 : Int) Bool.false (0 : Nat) (0 : Nat) (0 : Nat) (0 : Nat) (0 : Nat) (0 : Int) Bool.false)
    (Go.K.melts.slices_Clone_float32_float32.wp a1 fun y2 =>
      Go.K.melts.slices_Clone_float32_float32.wp a2 fun y3 => K y2 y3 a3 a4 a5 a6 a7 a8 a9 a10 a11 a12 a13 a14 Bool.true)) := impl_Melt_cloned.tx impl_ValidMelt.wp slices_Clone_float32_float32.wp a1 a2 a3 a4 a5 a6 a7 a8 a9 a10 a11 a12 a13 a14 K

theorem impl_SetMelt.tx (w_impl_ValidMelt : List Nat → List Nat → Int → Int → Bool → Int → Int → Bool → Nat → Nat → Nat → Nat → Nat → Int → (Bool → Prop) → Prop) (w_impl_Melt_cloned : List Nat → List Nat → Int → Int → Bool → Int → Int → Bool → Nat → Nat → Nat → Nat → Nat → Int → (List Nat → List Nat → Int → Int → Bool → Int → Int → Bool → Nat → Nat → Nat → Nat → Nat → Int → Bool → Prop) → Prop) (a1 : List
  Nat) (a2 : List
  Nat) (a3 : Int) (a4 : Int) (a5 : Bool) (a6 : Int) (a7 : Int) (a8 : Bool) (a9 : Nat) (a10 : Nat) (a11 : Nat) (a12 : Nat) (a13 : Nat) (a14 : Int) (a15 : Nat) (a16 : Nat) (a17 : Nat) (a18 : Nat) (a19 : Nat) (a20 : Int) (K : List
    Nat →
  List Nat →
    Int →
      Int → Bool → Int → Int → Bool → Nat → Nat → Nat → Nat → Nat → Int → Bool → Prop) : impl_SetMelt.bd w_impl_ValidMelt w_impl_Melt_cloned a1 a2 a3 a4 a5 a6 a7 a8 a9 a10 a11 a12 a13 a14 a15 a16 a17 a18 a19 a20 K =
  (w_impl_ValidMelt a1 a2 a3 a4 a5 a6 a7 a8 a9 a10 a11 a12 a13 a14 fun y1 =>
  Go.K.ifB (!y1) (K [] [] (0 : Int) (0 : Int) Bool.false (0 : Int) (0 : Int) Bool.false (0 : Nat) (0 : Nat) (0 : Nat) (0 : Nat) (0 : Nat) (0 : Int) Bool.false)
    (w_impl_Melt_cloned a1 a2 a3 a4 a5 a6 a7 a8 a15 a16 a17 a18 a19 a20 fun y2 y3 y4 y5 y6 y7 y8 y9 y10 y11 y12 y13 y14 y15 y16 =>
      K y2 y3 y4 y5 y6 y7 y8 y9 y10 y11 y12 y13 y14 y15 y16)) := by kernel_rfl
theorem impl_SetMelt.eq (a1 : List
  Nat) (a2 : List
  Nat) (a3 : Int) (a4 : Int) (a5 : Bool) (a6 : Int) (a7 : Int) (a8 : Bool) (a9 : Nat) (a10 : Nat) (a11 : Nat) (a12 : Nat) (a13 : Nat) (a14 : Int) (a15 : Nat) (a16 : Nat) (a17 : Nat) (a18 : Nat) (a19 : Nat) (a20 : Int) (K : List
    Nat →
  List Nat →
    Int →
      Int → Bool → Int → Int → Bool → Nat → Nat → Nat → Nat → Nat → Int → Bool → Prop) : impl_SetMelt.wp a1 a2 a3 a4 a5 a6 a7 a8 a9 a10 a11 a12 a13 a14 a15 a16 a17 a18 a19 a20 K =
  (Go.K.melts.impl_ValidMelt.wp a1 a2 a3 a4 a5 a6 a7 a8 a9 a10 a11 a12 a13 a14 fun y1 =>
  Go.K.ifB (!y1) (K [] [] (0 : Int) (0 : Int) Bool.false (0 : Int) (0 : Int) Bool.false (0 : Nat) (0 : Nat) (0 : Nat) (0 : Nat) (0 : Nat) (0 : Int) Bool.false)
    (Go.K.melts.impl_Melt_cloned.wp a1 a2 a3 a4 a5 a6 a7 a8 a15 a16 a17 a18 a19 a20 fun y2 y3 y4 y5 y6 y7 y8 y9 y10 y11 y12 y13 y14 y15 y16 =>
      K y2 y3 y4 y5 y6 y7 y8 y9 y10 y11 y12 y13 y14 y15 y16)) := impl_SetMelt.tx impl_ValidMelt.wp impl_Melt_cloned.wp a1 a2 a3 a4 a5 a6 a7 a8 a9 a10 a11 a12 a13 a14 a15 a16 a17 a18 a19 a20 K

theorem laws_FnExactSetMelt.tx (w_laws_szMelt : List Nat → List Nat → Int → Int → Bool → Int → Int → Bool → Nat → Nat → Nat → Nat → Nat → Int → Int → (Int → Prop) → Prop) (w_laws_toMelt : List Nat → List Nat → Int → Int → Bool → Int → Int → Bool → Nat → Nat → Nat → Nat → Nat → Int → (List Nat → List Nat → Int → Int → Bool → Int → Int → Bool → Nat → Nat → Nat → Nat → Nat → Int → Prop) → Prop) (w_spec_SetMelt : List Nat → List Nat → Int → Int → Bool → Int → Int → Bool → Nat → Nat → Nat → Nat → Nat → Int → Nat → Nat → Nat → Nat → Nat → Int → (List Nat → List Nat → Int → Int → Bool → Int → Int → Bool → Nat → Nat → Nat → Nat → Nat → Int → Bool → Prop) → Prop) (w_impl_SetMelt : List Nat → List Nat → Int → Int → Bool → Int → Int → Bool → Nat → Nat → Nat → Nat → Nat → Int → Nat → Nat → Nat → Nat → Nat → Int → (List Nat → List Nat → Int → Int → Bool → Int → Int → Bool → Nat → Nat → Nat → Nat → Nat → Int → Bool → Prop) → Prop) (w_laws_eqMelt : List Nat → List Nat → List Nat → List Nat → Int → Int → Bool → Int → Int → Bool → Nat → Nat → Nat → Nat → Nat → Int → Int → Int → Bool → Int → Int → Bool → Nat → Nat → Nat → Nat → Nat → Int → (Bool → Prop) → Prop) (w_laws_markMelt : List Nat → List Nat → Int → Int → Bool → Int → Int → Bool → Nat → Nat → Nat → Nat → Nat → Int → Int → (List Nat → List Nat → Int → Prop) → Prop) (w_laws_heldMelt : List Nat → List Nat → Int → Int → Bool → Int → Int → Bool → Nat → Nat → Nat → Nat → Nat → Int → Int → (Int → Prop) → Prop) (a1 : List
  Nat) (a2 : List
  Nat) (a3 : Int) (a4 : Int) (a5 : Bool) (a6 : Int) (a7 : Int) (a8 : Bool) (a9 : Nat) (a10 : Nat) (a11 : Nat) (a12 : Nat) (a13 : Nat) (a14 : Int) (a15 : Nat) (a16 : Nat) (a17 : Nat) (a18 : Nat) (a19 : Nat) (a20 : Int) (K : Bool →
  Prop) : laws_FnExactSetMelt.bd w_laws_szMelt w_laws_toMelt w_spec_SetMelt w_impl_SetMelt w_laws_eqMelt w_laws_markMelt w_laws_heldMelt a1 a2 a3 a4 a5 a6 a7 a8 a9 a10 a11 a12 a13 a14 a15 a16 a17 a18 a19 a20 K =
  (w_laws_szMelt a1 a2 a3 a4 a5 a6 a7 a8 a9 a10 a11 a12 a13 a14 (1048576 : Int) fun y1 =>
  Go.K.ifB (Decidable.decide (y1 < (0 : Int))) (K Bool.true)
    (w_laws_toMelt a1 a2 a3 a4 a5 a6 a7 a8 a9 a10 a11 a12 a13 a14 fun y2 y3 y4 y5 y6 y7 y8 y9 y10 y11 y12 y13 y14 y15 =>
      w_spec_SetMelt y2 y3 y4 y5 y6 y7 y8 y9 y10 y11 y12 y13 y14 y15 a15 a16 a17 a18 a19 a20 fun y16 y17 y18 y19 y20 y21 y22 y23 y24 y25 y26 y27 y28 y29 y30 =>
        w_laws_toMelt a1 a2 a3 a4 a5 a6 a7 a8 a9 a10 a11 a12 a13 a14 fun y31 y32 y33 y34 y35 y36 y37 y38 y39 y40 y41 y42 y43 y44 =>
          w_impl_SetMelt y31 y32 y33 y34 y35 y36 y37 y38 y39 y40 y41 y42 y43 y44 a15 a16 a17 a18 a19 a20
            fun y45 y46 y47 y48 y49 y50 y51 y52 y53 y54 y55 y56 y57 y58 y59 =>
            w_laws_eqMelt y45 y46 y16 y17 y47 y48 y49 y50 y51 y52 y53 y54 y55 y56 y57 y58 y18 y19 y20 y21 y22 y23 y24 y25 y26 y27 y28 y29 fun y60 =>
              Go.K.ifB (!y60) (K Bool.false)
                (Go.K.ifB (y59 != y30) (K Bool.false)
                  (w_laws_toMelt a1 a2 a3 a4 a5 a6 a7 a8 a9 a10 a11 a12 a13 a14 fun y61 y62 y63 y64 y65 y66 y67 y68 y69 y70 y71 y72 y73 y74 =>
                    w_laws_eqMelt y31 y32 y61 y62 y33 y34 y35 y36 y37 y38 y39 y40 y41 y42 y43 y44 y63 y64 y65 y66 y67 y68 y69 y70 y71 y72 y73 y74 fun y75 =>
                      Go.K.ifB (!y75) (K Bool.false)
                        (w_laws_markMelt y31 y32 y33 y34 y35 y36 y37 y38 y39 y40 y41 y42 y43 y44 (1 : Int) fun y76 y77 y78 =>
                          Go.K.ifB (Decidable.decide (y78 < (0 : Int))) (K Bool.false)
                            (w_laws_eqMelt y45 y46 y16 y17 y47 y48 y49 y50 y51 y52 y53 y54 y55 y56 y57 y58 y18 y19 y20 y21 y22 y23 y24 y25 y26 y27 y28 y29 fun y79 =>
                              Go.K.ifB (!y79) (K Bool.false)
                                (Go.K.ifB (y59 != y30) (K Bool.false)
                                  (w_laws_markMelt y45 y46 y47 y48 y49 y50 y51 y52 y53 y54 y55 y56 y57 y58 (1 : Int) fun y80 y81 y82 =>
                                    w_laws_heldMelt y80 y81 y47 y48 y49 y50 y51 y52 y53 y54 y55 y56 y57 y58 (1 : Int) fun y83 =>
                                      Go.K.ifB (Decidable.decide (y83 < (0 : Int))) (K Bool.false)
                                        (Go.K.ifB (y83 != y82) (K Bool.false)
                                          (w_laws_toMelt a1 a2 a3 a4 a5 a6 a7 a8 a9 a10 a11 a12 a13 a14 fun y84 y85 y86 y87 y88 y89 y90 y91 y92 y93 y94 y95 y96 y97 =>
                                            w_impl_SetMelt y84 y85 y86 y87 y88 y89 y90 y91 y92 y93 y94 y95 y96 y97 a15 a16 a17 a18 a19 a20
                                              fun y98 y99 y100 y101 y102 y103 y104 y105 y106 y107 y108 y109 y110 y111 y112 =>
                                              w_laws_eqMelt y98 y99 y16 y17 y100 y101 y102 y103 y104 y105 y106 y107 y108 y109 y110 y111 y18 y19 y20 y21 y22 y23 y24 y25
                                                y26 y27 y28 y29 fun y113 =>
                                                Go.K.ifB (!y113) (K Bool.false)
                                                  (Go.K.ifB (y112 != y30) (K Bool.false)
                                                    (w_laws_heldMelt y80 y81 y47 y48 y49 y50 y51 y52 y53 y54 y55 y56 y57 y58 (1 : Int) fun y114 =>
                                                      Go.K.ifB (Decidable.decide (y114 < (0 : Int))) (K Bool.false)
                                                        (Go.K.ifB (y114 != y82) (K Bool.false) (K Bool.true)))))))))))))) := by kernel_rfl
theorem laws_FnExactSetMelt.eq (a1 : List
  Nat) (a2 : List
  Nat) (a3 : Int) (a4 : Int) (a5 : Bool) (a6 : Int) (a7 : Int) (a8 : Bool) (a9 : Nat) (a10 : Nat) (a11 : Nat) (a12 : Nat) (a13 : Nat) (a14 : Int) (a15 : Nat) (a16 : Nat) (a17 : Nat) (a18 : Nat) (a19 : Nat) (a20 : Int) (K : Bool →
  Prop) : laws_FnExactSetMelt.wp a1 a2 a3 a4 a5 a6 a7 a8 a9 a10 a11 a12 a13 a14 a15 a16 a17 a18 a19 a20 K =
  (Go.K.melts.laws_szMelt.wp a1 a2 a3 a4 a5 a6 a7 a8 a9 a10 a11 a12 a13 a14 (1048576 : Int) fun y1 =>
  Go.K.ifB (Decidable.decide (y1 < (0 : Int))) (K Bool.true)
    (Go.K.melts.laws_toMelt.wp a1 a2 a3 a4 a5 a6 a7 a8 a9 a10 a11 a12 a13 a14 fun y2 y3 y4 y5 y6 y7 y8 y9 y10 y11 y12 y13 y14 y15 =>
      Go.K.melts.spec_SetMelt.wp y2 y3 y4 y5 y6 y7 y8 y9 y10 y11 y12 y13 y14 y15 a15 a16 a17 a18 a19 a20 fun y16 y17 y18 y19 y20 y21 y22 y23 y24 y25 y26 y27 y28 y29 y30 =>
        Go.K.melts.laws_toMelt.wp a1 a2 a3 a4 a5 a6 a7 a8 a9 a10 a11 a12 a13 a14 fun y31 y32 y33 y34 y35 y36 y37 y38 y39 y40 y41 y42 y43 y44 =>
          Go.K.melts.impl_SetMelt.wp y31 y32 y33 y34 y35 y36 y37 y38 y39 y40 y41 y42 y43 y44 a15 a16 a17 a18 a19 a20
            fun y45 y46 y47 y48 y49 y50 y51 y52 y53 y54 y55 y56 y57 y58 y59 =>
            Go.K.melts.laws_eqMelt.wp y45 y46 y16 y17 y47 y48 y49 y50 y51 y52 y53 y54 y55 y56 y57 y58 y18 y19 y20 y21 y22 y23 y24 y25 y26 y27 y28 y29 fun y60 =>
              Go.K.ifB (!y60) (K Bool.false)
                (Go.K.ifB (y59 != y30) (K Bool.false)
                  (Go.K.melts.laws_toMelt.wp a1 a2 a3 a4 a5 a6 a7 a8 a9 a10 a11 a12 a13 a14 fun y61 y62 y63 y64 y65 y66 y67 y68 y69 y70 y71 y72 y73 y74 =>
                    Go.K.melts.laws_eqMelt.wp y31 y32 y61 y62 y33 y34 y35 y36 y37 y38 y39 y40 y41 y42 y43 y44 y63 y64 y65 y66 y67 y68 y69 y70 y71 y72 y73 y74 fun y75 =>
                      Go.K.ifB (!y75) (K Bool.false)
                        (Go.K.melts.laws_markMelt.wp y31 y32 y33 y34 y35 y36 y37 y38 y39 y40 y41 y42 y43 y44 (1 : Int) fun y76 y77 y78 =>
                          Go.K.ifB (Decidable.decide (y78 < (0 : Int))) (K Bool.false)
                            (Go.K.melts.laws_eqMelt.wp y45 y46 y16 y17 y47 y48 y49 y50 y51 y52 y53 y54 y55 y56 y57 y58 y18 y19 y20 y21 y22 y23 y24 y25 y26 y27 y28 y29 fun y79 =>
                              Go.K.ifB (!y79) (K Bool.false)
                                (Go.K.ifB (y59 != y30) (K Bool.false)
                                  (Go.K.melts.laws_markMelt.wp y45 y46 y47 y48 y49 y50 y51 y52 y53 y54 y55 y56 y57 y58 (1 : Int) fun y80 y81 y82 =>
                                    Go.K.melts.laws_heldMelt.wp y80 y81 y47 y48 y49 y50 y51 y52 y53 y54 y55 y56 y57 y58 (1 : Int) fun y83 =>
                                      Go.K.ifB (Decidable.decide (y83 < (0 : Int))) (K Bool.false)
                                        (Go.K.ifB (y83 != y82) (K Bool.false)
                                          (Go.K.melts.laws_toMelt.wp a1 a2 a3 a4 a5 a6 a7 a8 a9 a10 a11 a12 a13 a14 fun y84 y85 y86 y87 y88 y89 y90 y91 y92 y93 y94 y95 y96 y97 =>
                                            Go.K.melts.impl_SetMelt.wp y84 y85 y86 y87 y88 y89 y90 y91 y92 y93 y94 y95 y96 y97 a15 a16 a17 a18 a19 a20
                                              fun y98 y99 y100 y101 y102 y103 y104 y105 y106 y107 y108 y109 y110 y111 y112 =>
                                              Go.K.melts.laws_eqMelt.wp y98 y99 y16 y17 y100 y101 y102 y103 y104 y105 y106 y107 y108 y109 y110 y111 y18 y19 y20 y21 y22 y23 y24 y25
                                                y26 y27 y28 y29 fun y113 =>
                                                Go.K.ifB (!y113) (K Bool.false)
                                                  (Go.K.ifB (y112 != y30) (K Bool.false)
                                                    (Go.K.melts.laws_heldMelt.wp y80 y81 y47 y48 y49 y50 y51 y52 y53 y54 y55 y56 y57 y58 (1 : Int) fun y114 =>
                                                      Go.K.ifB (Decidable.decide (y114 < (0 : Int))) (K Bool.false)
                                                        (Go.K.ifB (y114 != y82) (K Bool.false) (K Bool.true)))))))))))))) := laws_FnExactSetMelt.tx laws_szMelt.wp laws_toMelt.wp spec_SetMelt.wp impl_SetMelt.wp laws_eqMelt.wp laws_markMelt.wp laws_heldMelt.wp a1 a2 a3 a4 a5 a6 a7 a8 a9 a10 a11 a12 a13 a14 a15 a16 a17 a18 a19 a20 K

theorem spec_CoolMelt.tx (w_spec_l03Is : Int → Int → Bool → Int → Int → Bool → Nat → Nat → Nat → Nat → Nat → Int → List Nat → List Nat → (Bool → Prop) → Prop) (w_spec_l03Own : Int → Int → Bool → Int → Int → Bool → Nat → Nat → Nat → Nat → Nat → Int → List Nat → List Nat → (List Nat → List Nat → Int → Int → Bool → Int → Int → Bool → Nat → Nat → Nat → Nat → Nat → Int → Prop) → Prop) (w_spec_l03Give : List Nat → List Nat → Int → Int → Bool → Int → Int → Bool → Nat → Nat → Nat → Nat → Nat → Int → (List Nat → List Nat → Int → Int → Bool → Int → Int → Bool → Nat → Nat → Nat → Nat → Nat → Int → Bool → Prop) → Prop) (a1 : List
  Nat) (a2 : List
  Nat) (a3 : Int) (a4 : Int) (a5 : Bool) (a6 : Int) (a7 : Int) (a8 : Bool) (a9 : Nat) (a10 : Nat) (a11 : Nat) (a12 : Nat) (a13 : Nat) (a14 : Int) (a15 : Nat) (K : List Nat →
  List Nat → Int → Int → Bool → Int → Int → Bool → Nat → Nat → Nat → Nat → Nat → Int → Bool → Prop) : spec_CoolMelt.bd w_spec_l03Is w_spec_l03Own w_spec_l03Give a1 a2 a3 a4 a5 a6 a7 a8 a9 a10 a11 a12 a13 a14 a15 K =
  (w_spec_l03Is a3 a4 a5 a6 a7 a8 a9 a10 a11 a12 a13 a14 a1 a2 fun y1 =>
  Go.K.ifB (!y1) (K [] [] (0 : Int) (0 : Int) Bool.false (0 : Int) (0 : Int) Bool.false (0 : Nat) (0 : Nat) (0 : Nat) (0 : Nat) (0 : Nat) (0 : Int) Bool.false)
    (w_spec_l03Own a3 a4 a5 a6 a7 a8 a9 a10 a11 a12 a13 a14 a1 a2 fun y2 y3 y4 y5 y6 y7 y8 y9 y10 y11 y12 y13 y14 y15 =>
      ∀
        (J16 :
          Int →
            Int →
              Bool →
                Int →
                  Int →
                    Bool →
                      Nat →
                        Nat →
                          Nat →
                            Nat →
                              Nat → Int → Int → Int → Bool → Int → Int → Bool → Nat → Nat → Nat → Nat → Nat → Int → List Nat → List Nat → List Nat → List Nat → Int → Int → Prop),
        (∀ (x17 x18 : Int) (x19 : Bool) (x20 x21 : Int) (x22 : Bool) (x23 x24 x25 x26 x27 : Nat) (x28 x29 x30 : Int) (x31 : Bool) (x32 x33 : Int) (x34 : Bool)
            (x35 x36 x37 x38 x39 : Nat) (x40 : Int) (x41 x42 x43 x44 : List Nat) (x45 x46 : Int),
            Go.K.ifB (Decidable.decide (x46 < x45))
                (((0 : Int) ≤ x46 ∧ x46 < (↑(List.length x44) : Int)) ∧
                  ((0 : Int) ≤ x46 ∧ x46 < (↑(List.length x44) : Int)) ∧
                    J16 x17 x18 x19 x20 x21 x22 x23 x24 x25 x26 x27 x28 x29 x30 x31 x32 x33 x34 x35 x36 x37 x38 x39 x40 x41 x42 x43
                      (List.set x44 (Int.toNat x46) (Go.K.farith Go.BinOp.sub Go.FloatKind.f32 (List.getD x44 (Int.toNat x46) (0 : Nat)) a15)) x45
                      (Go.IntKind.wrap Go.IntKind.i64 (x46 + (1 : Int))))
                (w_spec_l03Give x43 x44 x29 x30 x31 x32 x33 x34 x35 x36 x37 x38 x39 x40 fun y47 y48 y49 y50 y51 y52 y53 y54 y55 y56 y57 y58 y59 y60 y61 =>
                  K y47 y48 y49 y50 y51 y52 y53 y54 y55 y56 y57 y58 y59 y60 y61) →
              J16 x17 x18 x19 x20 x21 x22 x23 x24 x25 x26 x27 x28 x29 x30 x31 x32 x33 x34 x35 x36 x37 x38 x39 x40 x41 x42 x43 x44 x45 x46) →
          J16 (0 : Int) (0 : Int) Bool.false (0 : Int) (0 : Int) Bool.false (0 : Nat) (0 : Nat) (0 : Nat) (0 : Nat) (0 : Nat) (0 : Int) y4 y5 y6 y7 y8 y9 y10 y11 y12 y13 y14 y15 []
            [] y2 y3 (↑(List.length y3) : Int) (0 : Int))) := by kernel_rfl
theorem spec_CoolMelt.eq (a1 : List
  Nat) (a2 : List
  Nat) (a3 : Int) (a4 : Int) (a5 : Bool) (a6 : Int) (a7 : Int) (a8 : Bool) (a9 : Nat) (a10 : Nat) (a11 : Nat) (a12 : Nat) (a13 : Nat) (a14 : Int) (a15 : Nat) (K : List Nat →
  List Nat → Int → Int → Bool → Int → Int → Bool → Nat → Nat → Nat → Nat → Nat → Int → Bool → Prop) : spec_CoolMelt.wp a1 a2 a3 a4 a5 a6 a7 a8 a9 a10 a11 a12 a13 a14 a15 K =
  (Go.K.melts.spec_l03Is.wp a3 a4 a5 a6 a7 a8 a9 a10 a11 a12 a13 a14 a1 a2 fun y1 =>
  Go.K.ifB (!y1) (K [] [] (0 : Int) (0 : Int) Bool.false (0 : Int) (0 : Int) Bool.false (0 : Nat) (0 : Nat) (0 : Nat) (0 : Nat) (0 : Nat) (0 : Int) Bool.false)
    (Go.K.melts.spec_l03Own.wp a3 a4 a5 a6 a7 a8 a9 a10 a11 a12 a13 a14 a1 a2 fun y2 y3 y4 y5 y6 y7 y8 y9 y10 y11 y12 y13 y14 y15 =>
      ∀
        (J16 :
          Int →
            Int →
              Bool →
                Int →
                  Int →
                    Bool →
                      Nat →
                        Nat →
                          Nat →
                            Nat →
                              Nat → Int → Int → Int → Bool → Int → Int → Bool → Nat → Nat → Nat → Nat → Nat → Int → List Nat → List Nat → List Nat → List Nat → Int → Int → Prop),
        (∀ (x17 x18 : Int) (x19 : Bool) (x20 x21 : Int) (x22 : Bool) (x23 x24 x25 x26 x27 : Nat) (x28 x29 x30 : Int) (x31 : Bool) (x32 x33 : Int) (x34 : Bool)
            (x35 x36 x37 x38 x39 : Nat) (x40 : Int) (x41 x42 x43 x44 : List Nat) (x45 x46 : Int),
            Go.K.ifB (Decidable.decide (x46 < x45))
                (((0 : Int) ≤ x46 ∧ x46 < (↑(List.length x44) : Int)) ∧
                  ((0 : Int) ≤ x46 ∧ x46 < (↑(List.length x44) : Int)) ∧
                    J16 x17 x18 x19 x20 x21 x22 x23 x24 x25 x26 x27 x28 x29 x30 x31 x32 x33 x34 x35 x36 x37 x38 x39 x40 x41 x42 x43
                      (List.set x44 (Int.toNat x46) (Go.K.farith Go.BinOp.sub Go.FloatKind.f32 (List.getD x44 (Int.toNat x46) (0 : Nat)) a15)) x45
                      (Go.IntKind.wrap Go.IntKind.i64 (x46 + (1 : Int))))
                (Go.K.melts.spec_l03Give.wp x43 x44 x29 x30 x31 x32 x33 x34 x35 x36 x37 x38 x39 x40 fun y47 y48 y49 y50 y51 y52 y53 y54 y55 y56 y57 y58 y59 y60 y61 =>
                  K y47 y48 y49 y50 y51 y52 y53 y54 y55 y56 y57 y58 y59 y60 y61) →
              J16 x17 x18 x19 x20 x21 x22 x23 x24 x25 x26 x27 x28 x29 x30 x31 x32 x33 x34 x35 x36 x37 x38 x39 x40 x41 x42 x43 x44 x45 x46) →
          J16 (0 : Int) (0 : Int) Bool.false (0 : Int) (0 : Int) Bool.false (0 : Nat) (0 : Nat) (0 : Nat) (0 : Nat) (0 : Nat) (0 : Int) y4 y5 y6 y7 y8 y9 y10 y11 y12 y13 y14 y15 []
            [] y2 y3 (↑(List.length y3) : Int) (0 : Int))) := spec_CoolMelt.tx spec_l03Is.wp spec_l03Own.wp spec_l03Give.wp a1 a2 a3 a4 a5 a6 a7 a8 a9 a10 a11 a12 a13 a14 a15 K

theorem impl_CoolMelt.tx (w_impl_Melt_cloned : List Nat → List Nat → Int → Int → Bool → Int → Int → Bool → Nat → Nat → Nat → Nat → Nat → Int → (List Nat → List Nat → Int → Int → Bool → Int → Int → Bool → Nat → Nat → Nat → Nat → Nat → Int → Bool → Prop) → Prop) (w_impl_IsFinite : Nat → (Bool → Prop) → Prop) (a1 : List
  Nat) (a2 : List
  Nat) (a3 : Int) (a4 : Int) (a5 : Bool) (a6 : Int) (a7 : Int) (a8 : Bool) (a9 : Nat) (a10 : Nat) (a11 : Nat) (a12 : Nat) (a13 : Nat) (a14 : Int) (a15 : Nat) (K : List Nat →
  List Nat → Int → Int → Bool → Int → Int → Bool → Nat → Nat → Nat → Nat → Nat → Int → Bool → Prop) : impl_CoolMelt.bd w_impl_Melt_cloned w_impl_IsFinite a1 a2 a3 a4 a5 a6 a7 a8 a9 a10 a11 a12 a13 a14 a15 K =
  (w_impl_Melt_cloned a1 a2 a3 a4 a5 a6 a7 a8 a9 a10 a11 a12 a13 a14 fun y1 y2 y3 y4 y5 y6 y7 y8 y9 y10 y11 y12 y13 y14 y15 =>
  Go.K.ifB (!y15) (K [] [] (0 : Int) (0 : Int) Bool.false (0 : Int) (0 : Int) Bool.false (0 : Nat) (0 : Nat) (0 : Nat) (0 : Nat) (0 : Nat) (0 : Int) Bool.false)
    (w_impl_IsFinite a15 fun y16 =>
      Go.K.ifB (!y16) (K [] [] (0 : Int) (0 : Int) Bool.false (0 : Int) (0 : Int) Bool.false (0 : Nat) (0 : Nat) (0 : Nat) (0 : Nat) (0 : Nat) (0 : Int) Bool.false)
        (∀
          (J17 :
            Int →
              Int →
                Bool →
                  Int →
                    Int →
                      Bool →
                        Nat →
                          Nat →
                            Nat →
                              Nat →
                                Nat → Int → Int → Int → Bool → Int → Int → Bool → Nat → Nat → Nat → Nat → Nat → Int → List Nat → List Nat → List Nat → List Nat → Int → Int → Prop),
          (∀ (x18 x19 : Int) (x20 : Bool) (x21 x22 : Int) (x23 : Bool) (x24 x25 x26 x27 x28 : Nat) (x29 x30 x31 : Int) (x32 : Bool) (x33 x34 : Int) (x35 : Bool)
              (x36 x37 x38 x39 x40 : Nat) (x41 : Int) (x42 x43 x44 x45 : List Nat) (x46 x47 : Int),
              Go.K.ifB (Decidable.decide (x47 < x46))
                  (((0 : Int) ≤ x47 ∧ x47 < (↑(List.length x45) : Int)) ∧
                    ((0 : Int) ≤ x47 ∧ x47 < (↑(List.length x45) : Int)) ∧
                      J17 x18 x19 x20 x21 x22 x23 x24 x25 x26 x27 x28 x29 x30 x31 x32 x33 x34 x35 x36 x37 x38 x39 x40 x41 x42 x43 x44
                        (List.set x45 (Int.toNat x47) (Go.K.farith Go.BinOp.sub Go.FloatKind.f32 (List.getD x45 (Int.toNat x47) (0 : Nat)) a15)) x46
                        (Go.IntKind.wrap Go.IntKind.i64 (x47 + (1 : Int))))
                  (w_impl_Melt_cloned x44 x45 x30 x31 x32 x33 x34 x35 x36 x37 x38 x39 x40 x41 fun y48 y49 y50 y51 y52 y53 y54 y55 y56 y57 y58 y59 y60 y61 y62 =>
                    K y48 y49 y50 y51 y52 y53 y54 y55 y56 y57 y58 y59 y60 y61 y62) →
                J17 x18 x19 x20 x21 x22 x23 x24 x25 x26 x27 x28 x29 x30 x31 x32 x33 x34 x35 x36 x37 x38 x39 x40 x41 x42 x43 x44 x45 x46 x47) →
            J17 (0 : Int) (0 : Int) Bool.false (0 : Int) (0 : Int) Bool.false (0 : Nat) (0 : Nat) (0 : Nat) (0 : Nat) (0 : Nat) (0 : Int) y3 y4 y5 y6 y7 y8 y9 y10 y11 y12 y13 y14
              [] [] y1 y2 (↑(List.length y2) : Int) (0 : Int)))) := by kernel_rfl
theorem impl_CoolMelt.eq (a1 : List
  Nat) (a2 : List
  Nat) (a3 : Int) (a4 : Int) (a5 : Bool) (a6 : Int) (a7 : Int) (a8 : Bool) (a9 : Nat) (a10 : Nat) (a11 : Nat) (a12 : Nat) (a13 : Nat) (a14 : Int) (a15 : Nat) (K : List Nat →
  List Nat → Int → Int → Bool → Int → Int → Bool → Nat → Nat → Nat → Nat → Nat → Int → Bool → Prop) : impl_CoolMelt.wp a1 a2 a3 a4 a5 a6 a7 a8 a9 a10 a11 a12 a13 a14 a15 K =
  (Go.K.melts.impl_Melt_cloned.wp a1 a2 a3 a4 a5 a6 a7 a8 a9 a10 a11 a12 a13 a14 fun y1 y2 y3 y4 y5 y6 y7 y8 y9 y10 y11 y12 y13 y14 y15 =>
  Go.K.ifB (!y15) (K [] [] (0 : Int) (0 : Int) Bool.false (0 : Int) (0 : Int) Bool.false (0 : Nat) (0 : Nat) (0 : Nat) (0 : Nat) (0 : Nat) (0 : Int) Bool.false)
    (Go.K.melts.impl_IsFinite.wp a15 fun y16 =>
      Go.K.ifB (!y16) (K [] [] (0 : Int) (0 : Int) Bool.false (0 : Int) (0 : Int) Bool.false (0 : Nat) (0 : Nat) (0 : Nat) (0 : Nat) (0 : Nat) (0 : Int) Bool.false)
        (∀
          (J17 :
            Int →
              Int →
                Bool →
                  Int →
                    Int →
                      Bool →
                        Nat →
                          Nat →
                            Nat →
                              Nat →
                                Nat → Int → Int → Int → Bool → Int → Int → Bool → Nat → Nat → Nat → Nat → Nat → Int → List Nat → List Nat → List Nat → List Nat → Int → Int → Prop),
          (∀ (x18 x19 : Int) (x20 : Bool) (x21 x22 : Int) (x23 : Bool) (x24 x25 x26 x27 x28 : Nat) (x29 x30 x31 : Int) (x32 : Bool) (x33 x34 : Int) (x35 : Bool)
              (x36 x37 x38 x39 x40 : Nat) (x41 : Int) (x42 x43 x44 x45 : List Nat) (x46 x47 : Int),
              Go.K.ifB (Decidable.decide (x47 < x46))
                  (((0 : Int) ≤ x47 ∧ x47 < (↑(List.length x45) : Int)) ∧
                    ((0 : Int) ≤ x47 ∧ x47 < (↑(List.length x45) : Int)) ∧
                      J17 x18 x19 x20 x21 x22 x23 x24 x25 x26 x27 x28 x29 x30 x31 x32 x33 x34 x35 x36 x37 x38 x39 x40 x41 x42 x43 x44
                        (List.set x45 (Int.toNat x47) (Go.K.farith Go.BinOp.sub Go.FloatKind.f32 (List.getD x45 (Int.toNat x47) (0 : Nat)) a15)) x46
                        (Go.IntKind.wrap Go.IntKind.i64 (x47 + (1 : Int))))
                  (Go.K.melts.impl_Melt_cloned.wp x44 x45 x30 x31 x32 x33 x34 x35 x36 x37 x38 x39 x40 x41 fun y48 y49 y50 y51 y52 y53 y54 y55 y56 y57 y58 y59 y60 y61 y62 =>
                    K y48 y49 y50 y51 y52 y53 y54 y55 y56 y57 y58 y59 y60 y61 y62) →
                J17 x18 x19 x20 x21 x22 x23 x24 x25 x26 x27 x28 x29 x30 x31 x32 x33 x34 x35 x36 x37 x38 x39 x40 x41 x42 x43 x44 x45 x46 x47) →
            J17 (0 : Int) (0 : Int) Bool.false (0 : Int) (0 : Int) Bool.false (0 : Nat) (0 : Nat) (0 : Nat) (0 : Nat) (0 : Nat) (0 : Int) y3 y4 y5 y6 y7 y8 y9 y10 y11 y12 y13 y14
              [] [] y1 y2 (↑(List.length y2) : Int) (0 : Int)))) := impl_CoolMelt.tx impl_Melt_cloned.wp impl_IsFinite.wp a1 a2 a3 a4 a5 a6 a7 a8 a9 a10 a11 a12 a13 a14 a15 K

theorem laws_FnExactCoolMelt.tx (w_laws_szMelt : List Nat → List Nat → Int → Int → Bool → Int → Int → Bool → Nat → Nat → Nat → Nat → Nat → Int → Int → (Int → Prop) → Prop) (w_laws_toMelt : List Nat → List Nat → Int → Int → Bool → Int → Int → Bool → Nat → Nat → Nat → Nat → Nat → Int → (List Nat → List Nat → Int → Int → Bool → Int → Int → Bool → Nat → Nat → Nat → Nat → Nat → Int → Prop) → Prop) (w_spec_CoolMelt : List Nat → List Nat → Int → Int → Bool → Int → Int → Bool → Nat → Nat → Nat → Nat → Nat → Int → Nat → (List Nat → List Nat → Int → Int → Bool → Int → Int → Bool → Nat → Nat → Nat → Nat → Nat → Int → Bool → Prop) → Prop) (w_impl_CoolMelt : List Nat → List Nat → Int → Int → Bool → Int → Int → Bool → Nat → Nat → Nat → Nat → Nat → Int → Nat → (List Nat → List Nat → Int → Int → Bool → Int → Int → Bool → Nat → Nat → Nat → Nat → Nat → Int → Bool → Prop) → Prop) (w_laws_eqMelt : List Nat → List Nat → List Nat → List Nat → Int → Int → Bool → Int → Int → Bool → Nat → Nat → Nat → Nat → Nat → Int → Int → Int → Bool → Int → Int → Bool → Nat → Nat → Nat → Nat → Nat → Int → (Bool → Prop) → Prop) (w_laws_markMelt : List Nat → List Nat → Int → Int → Bool → Int → Int → Bool → Nat → Nat → Nat → Nat → Nat → Int → Int → (List Nat → List Nat → Int → Prop) → Prop) (w_laws_heldMelt : List Nat → List Nat → Int → Int → Bool → Int → Int → Bool → Nat → Nat → Nat → Nat → Nat → Int → Int → (Int → Prop) → Prop) (a1 : List
  Nat) (a2 : List
  Nat) (a3 : Int) (a4 : Int) (a5 : Bool) (a6 : Int) (a7 : Int) (a8 : Bool) (a9 : Nat) (a10 : Nat) (a11 : Nat) (a12 : Nat) (a13 : Nat) (a14 : Int) (a15 : Nat) (K : Bool →
  Prop) : laws_FnExactCoolMelt.bd w_laws_szMelt w_laws_toMelt w_spec_CoolMelt w_impl_CoolMelt w_laws_eqMelt w_laws_markMelt w_laws_heldMelt a1 a2 a3 a4 a5 a6 a7 a8 a9 a10 a11 a12 a13 a14 a15 K =
  (w_laws_szMelt a1 a2 a3 a4 a5 a6 a7 a8 a9 a10 a11 a12 a13 a14 (1048576 : Int) fun y1 =>
  Go.K.ifB (Decidable.decide (y1 < (0 : Int))) (K Bool.true)
    (w_laws_toMelt a1 a2 a3 a4 a5 a6 a7 a8 a9 a10 a11 a12 a13 a14 fun y2 y3 y4 y5 y6 y7 y8 y9 y10 y11 y12 y13 y14 y15 =>
      w_spec_CoolMelt y2 y3 y4 y5 y6 y7 y8 y9 y10 y11 y12 y13 y14 y15 a15 fun y16 y17 y18 y19 y20 y21 y22 y23 y24 y25 y26 y27 y28 y29 y30 =>
        w_laws_toMelt a1 a2 a3 a4 a5 a6 a7 a8 a9 a10 a11 a12 a13 a14 fun y31 y32 y33 y34 y35 y36 y37 y38 y39 y40 y41 y42 y43 y44 =>
          w_impl_CoolMelt y31 y32 y33 y34 y35 y36 y37 y38 y39 y40 y41 y42 y43 y44 a15 fun y45 y46 y47 y48 y49 y50 y51 y52 y53 y54 y55 y56 y57 y58 y59 =>
            w_laws_eqMelt y45 y46 y16 y17 y47 y48 y49 y50 y51 y52 y53 y54 y55 y56 y57 y58 y18 y19 y20 y21 y22 y23 y24 y25 y26 y27 y28 y29 fun y60 =>
              Go.K.ifB (!y60) (K Bool.false)
                (Go.K.ifB (y59 != y30) (K Bool.false)
                  (w_laws_toMelt a1 a2 a3 a4 a5 a6 a7 a8 a9 a10 a11 a12 a13 a14 fun y61 y62 y63 y64 y65 y66 y67 y68 y69 y70 y71 y72 y73 y74 =>
                    w_laws_eqMelt y31 y32 y61 y62 y33 y34 y35 y36 y37 y38 y39 y40 y41 y42 y43 y44 y63 y64 y65 y66 y67 y68 y69 y70 y71 y72 y73 y74 fun y75 =>
                      Go.K.ifB (!y75) (K Bool.false)
                        (w_laws_markMelt y31 y32 y33 y34 y35 y36 y37 y38 y39 y40 y41 y42 y43 y44 (1 : Int) fun y76 y77 y78 =>
                          Go.K.ifB (Decidable.decide (y78 < (0 : Int))) (K Bool.false)
                            (w_laws_eqMelt y45 y46 y16 y17 y47 y48 y49 y50 y51 y52 y53 y54 y55 y56 y57 y58 y18 y19 y20 y21 y22 y23 y24 y25 y26 y27 y28 y29 fun y79 =>
                              Go.K.ifB (!y79) (K Bool.false)
                                (Go.K.ifB (y59 != y30) (K Bool.false)
                                  (w_laws_markMelt y45 y46 y47 y48 y49 y50 y51 y52 y53 y54 y55 y56 y57 y58 (1 : Int) fun y80 y81 y82 =>
                                    w_laws_heldMelt y80 y81 y47 y48 y49 y50 y51 y52 y53 y54 y55 y56 y57 y58 (1 : Int) fun y83 =>
                                      Go.K.ifB (Decidable.decide (y83 < (0 : Int))) (K Bool.false)
                                        (Go.K.ifB (y83 != y82) (K Bool.false)
                                          (w_laws_toMelt a1 a2 a3 a4 a5 a6 a7 a8 a9 a10 a11 a12 a13 a14 fun y84 y85 y86 y87 y88 y89 y90 y91 y92 y93 y94 y95 y96 y97 =>
                                            w_impl_CoolMelt y84 y85 y86 y87 y88 y89 y90 y91 y92 y93 y94 y95 y96 y97 a15
                                              fun y98 y99 y100 y101 y102 y103 y104 y105 y106 y107 y108 y109 y110 y111 y112 =>
                                              w_laws_eqMelt y98 y99 y16 y17 y100 y101 y102 y103 y104 y105 y106 y107 y108 y109 y110 y111 y18 y19 y20 y21 y22 y23 y24 y25
                                                y26 y27 y28 y29 fun y113 =>
                                                Go.K.ifB (!y113) (K Bool.false)
                                                  (Go.K.ifB (y112 != y30) (K Bool.false)
                                                    (w_laws_heldMelt y80 y81 y47 y48 y49 y50 y51 y52 y53 y54 y55 y56 y57 y58 (1 : Int) fun y114 =>
                                                      Go.K.ifB (Decidable.decide (y114 < (0 : Int))) (K Bool.false)
                                                        (Go.K.ifB (y114 != y82) (K Bool.false) (K Bool.true)))))))))))))) := by kernel_rfl
theorem laws_FnExactCoolMelt.eq (a1 : List
  Nat) (a2 : List
  Nat) (a3 : Int) (a4 : Int) (a5 : Bool) (a6 : Int) (a7 : Int) (a8 : Bool) (a9 : Nat) (a10 : Nat) (a11 : Nat) (a12 : Nat) (a13 : Nat) (a14 : Int) (a15 : Nat) (K : Bool →
  Prop) : laws_FnExactCoolMelt.wp a1 a2 a3 a4 a5 a6 a7 a8 a9 a10 a11 a12 a13 a14 a15 K =
  (Go.K.melts.laws_szMelt.wp a1 a2 a3 a4 a5 a6 a7 a8 a9 a10 a11 a12 a13 a14 (1048576 : Int) fun y1 =>
  Go.K.ifB (Decidable.decide (y1 < (0 : Int))) (K Bool.true)
    (Go.K.melts.laws_toMelt.wp a1 a2 a3 a4 a5 a6 a7 a8 a9 a10 a11 a12 a13 a14 fun y2 y3 y4 y5 y6 y7 y8 y9 y10 y11 y12 y13 y14 y15 =>
      Go.K.melts.spec_CoolMelt.wp y2 y3 y4 y5 y6 y7 y8 y9 y10 y11 y12 y13 y14 y15 a15 fun y16 y17 y18 y19 y20 y21 y22 y23 y24 y25 y26 y27 y28 y29 y30 =>
        Go.K.melts.laws_toMelt.wp a1 a2 a3 a4 a5 a6 a7 a8 a9 a10 a11 a12 a13 a14 fun y31 y32 y33 y34 y35 y36 y37 y38 y39 y40 y41 y42 y43 y44 =>
          Go.K.melts.impl_CoolMelt.wp y31 y32 y33 y34 y35 y36 y37 y38 y39 y40 y41 y42 y43 y44 a15 fun y45 y46 y47 y48 y49 y50 y51 y52 y53 y54 y55 y56 y57 y58 y59 =>
            Go.K.melts.laws_eqMelt.wp y45 y46 y16 y17 y47 y48 y49 y50 y51 y52 y53 y54 y55 y56 y57 y58 y18 y19 y20 y21 y22 y23 y24 y25 y26 y27 y28 y29 fun y60 =>
              Go.K.ifB (!y60) (K Bool.false)
                (Go.K.ifB (y59 != y30) (K Bool.false)
                  (Go.K.melts.laws_toMelt.wp a1 a2 a3 a4 a5 a6 a7 a8 a9 a10 a11 a12 a13 a14 fun y61 y62 y63 y64 y65 y66 y67 y68 y69 y70 y71 y72 y73 y74 =>
                    Go.K.melts.laws_eqMelt.wp y31 y32 y61 y62 y33 y34 y35 y36 y37 y38 y39 y40 y41 y42 y43 y44 y63 y64 y65 y66 y67 y68 y69 y70 y71 y72 y73 y74 fun y75 =>
                      Go.K.ifB (!y75) (K Bool.false)
                        (Go.K.melts.laws_markMelt.wp y31 y32 y33 y34 y35 y36 y37 y38 y39 y40 y41 y42 y43 y44 (1 : Int) fun y76 y77 y78 =>
                          Go.K.ifB (Decidable.decide (y78 < (0 : Int))) (K Bool.false)
                            (Go.K.melts.laws_eqMelt.wp y45 y46 y16 y17 y47 y48 y49 y50 y51 y52 y53 y54 y55 y56 y57 y58 y18 y19 y20 y21 y22 y23 y24 y25 y26 y27 y28 y29 fun y79 =>
                              Go.K.ifB (!y79) (K Bool.false)
                                (Go.K.ifB (y59 != y30) (K Bool.false)
                                  (Go.K.melts.laws_markMelt.wp y45 y46 y47 y48 y49 y50 y51 y52 y53 y54 y55 y56 y57 y58 (1 : Int) fun y80 y81 y82 =>
                                    Go.K.melts.laws_heldMelt.wp y80 y81 y47 y48 y49 y50 y51 y52 y53 y54 y55 y56 y57 y58 (1 : Int) fun y83 =>
                                      Go.K.ifB (Decidable.decide (y83 < (0 : Int))) (K Bool.false)
                                        (Go.K.ifB (y83 != y82) (K Bool.false)
                                          (Go.K.melts.laws_toMelt.wp a1 a2 a3 a4 a5 a6 a7 a8 a9 a10 a11 a12 a13 a14 fun y84 y85 y86 y87 y88 y89 y90 y91 y92 y93 y94 y95 y96 y97 =>
                                            Go.K.melts.impl_CoolMelt.wp y84 y85 y86 y87 y88 y89 y90 y91 y92 y93 y94 y95 y96 y97 a15
                                              fun y98 y99 y100 y101 y102 y103 y104 y105 y106 y107 y108 y109 y110 y111 y112 =>
                                              Go.K.melts.laws_eqMelt.wp y98 y99 y16 y17 y100 y101 y102 y103 y104 y105 y106 y107 y108 y109 y110 y111 y18 y19 y20 y21 y22 y23 y24 y25
                                                y26 y27 y28 y29 fun y113 =>
                                                Go.K.ifB (!y113) (K Bool.false)
                                                  (Go.K.ifB (y112 != y30) (K Bool.false)
                                                    (Go.K.melts.laws_heldMelt.wp y80 y81 y47 y48 y49 y50 y51 y52 y53 y54 y55 y56 y57 y58 (1 : Int) fun y114 =>
                                                      Go.K.ifB (Decidable.decide (y114 < (0 : Int))) (K Bool.false)
                                                        (Go.K.ifB (y114 != y82) (K Bool.false) (K Bool.true)))))))))))))) := laws_FnExactCoolMelt.tx laws_szMelt.wp laws_toMelt.wp spec_CoolMelt.wp impl_CoolMelt.wp laws_eqMelt.wp laws_markMelt.wp laws_heldMelt.wp a1 a2 a3 a4 a5 a6 a7 a8 a9 a10 a11 a12 a13 a14 a15 K

theorem spec_l01Bits.tx  (a1 : Nat) (K : Int → Prop) : spec_l01Bits.bd  a1 K =
  (Go.K.ifB (Go.K.fne Go.FloatKind.f32 a1 a1) (K (2143289344 : Int))
  (Go.K.isNaNW Go.FloatKind.f32 a1 = Bool.false ∧ K (Go.IntKind.wrap Go.IntKind.i64 (↑a1 : Int)))) := by kernel_rfl
theorem spec_l01Bits.eq (a1 : Nat) (K : Int → Prop) : spec_l01Bits.wp a1 K =
  (Go.K.ifB (Go.K.fne Go.FloatKind.f32 a1 a1) (K (2143289344 : Int))
  (Go.K.isNaNW Go.FloatKind.f32 a1 = Bool.false ∧ K (Go.IntKind.wrap Go.IntKind.i64 (↑a1 : Int)))) := spec_l01Bits.tx  a1 K

theorem spec_l01From.tx  (a1 : Int) (K : Nat → Prop) : spec_l01From.bd  a1 K =
  (K (Go.K.cF Go.FloatKind.f32 (Int.toNat (Go.IntKind.wrap Go.IntKind.u32 a1)))) := by kernel_rfl
theorem spec_l01From.eq (a1 : Int) (K : Nat → Prop) : spec_l01From.wp a1 K =
  (K (Go.K.cF Go.FloatKind.f32 (Int.toNat (Go.IntKind.wrap Go.IntKind.u32 a1)))) := spec_l01From.tx  a1 K

theorem spec_l01Flush.tx (w_spec_l01Bits : Nat → (Int → Prop) → Prop) (w_spec_l01From : Int → (Nat → Prop) → Prop) (a1 : Nat) (K : Nat → Prop) : spec_l01Flush.bd w_spec_l01Bits w_spec_l01From a1 K =
  (w_spec_l01Bits a1 fun y1 =>
  Go.K.ifB (Go.K.ibits Go.BinOp.and Go.IntKind.i64 y1 (2139095040 : Int) == (0 : Int))
    (w_spec_l01From (Go.K.ibits Go.BinOp.and Go.IntKind.i64 y1 (2147483648 : Int)) fun y2 => K y2) (K a1)) := by kernel_rfl
theorem spec_l01Flush.eq (a1 : Nat) (K : Nat → Prop) : spec_l01Flush.wp a1 K =
  (Go.K.melts.spec_l01Bits.wp a1 fun y1 =>
  Go.K.ifB (Go.K.ibits Go.BinOp.and Go.IntKind.i64 y1 (2139095040 : Int) == (0 : Int))
    (Go.K.melts.spec_l01From.wp (Go.K.ibits Go.BinOp.and Go.IntKind.i64 y1 (2147483648 : Int)) fun y2 => K y2) (K a1)) := spec_l01Flush.tx spec_l01Bits.wp spec_l01From.wp a1 K

theorem spec_FlushMelt.tx (w_spec_l03Is : Int → Int → Bool → Int → Int → Bool → Nat → Nat → Nat → Nat → Nat → Int → List Nat → List Nat → (Bool → Prop) → Prop) (w_spec_l03Own : Int → Int → Bool → Int → Int → Bool → Nat → Nat → Nat → Nat → Nat → Int → List Nat → List Nat → (List Nat → List Nat → Int → Int → Bool → Int → Int → Bool → Nat → Nat → Nat → Nat → Nat → Int → Prop) → Prop) (w_spec_l01Flush : Nat → (Nat → Prop) → Prop) (a1 : List
  Nat) (a2 : List
  Nat) (a3 : Int) (a4 : Int) (a5 : Bool) (a6 : Int) (a7 : Int) (a8 : Bool) (a9 : Nat) (a10 : Nat) (a11 : Nat) (a12 : Nat) (a13 : Nat) (a14 : Int) (K : List Nat →
  List Nat → Int → Int → Bool → Int → Int → Bool → Nat → Nat → Nat → Nat → Nat → Int → Bool → Prop) : spec_FlushMelt.bd w_spec_l03Is w_spec_l03Own w_spec_l01Flush a1 a2 a3 a4 a5 a6 a7 a8 a9 a10 a11 a12 a13 a14 K =
  (w_spec_l03Is a3 a4 a5 a6 a7 a8 a9 a10 a11 a12 a13 a14 a1 a2 fun y1 =>
  Go.K.ifB (!y1) (K [] [] (0 : Int) (0 : Int) Bool.false (0 : Int) (0 : Int) Bool.false (0 : Nat) (0 : Nat) (0 : Nat) (0 : Nat) (0 : Nat) (0 : Int) Bool.false)
    (w_spec_l03Own a3 a4 a5 a6 a7 a8 a9 a10 a11 a12 a13 a14 a1 a2 fun y2 y3 y4 y5 y6 y7 y8 y9 y10 y11 y12 y13 y14 y15 =>
      ∀
        (J16 :
          Int →
            Int →
              Bool →
                Int →
                  Int →
                    Bool →
                      Nat →
                        Nat →
                          Nat →
                            Nat →
                              Nat →
                                Int →
                                  Int →
                                    Int →
                                      Bool →
                                        Int →
                                          Int →
                                            Bool →
                                              Nat →
                                                Nat →
                                                  Nat →
                                                    Nat →
                                                      Nat →
                                                        Int →
                                                          Int →
                                                            Int →
                                                              Bool →
                                                                Int →
                                                                  Int → Bool → Nat → Nat → Nat → Nat → Nat → Int → List Nat → List Nat → List Nat → List Nat → Int → Int → Prop),
        (∀ (x17 x18 : Int) (x19 : Bool) (x20 x21 : Int) (x22 : Bool) (x23 x24 x25 x26 x27 : Nat) (x28 x29 x30 : Int) (x31 : Bool) (x32 x33 : Int) (x34 : Bool)
            (x35 x36 x37 x38 x39 : Nat) (x40 x41 x42 : Int) (x43 : Bool) (x44 x45 : Int) (x46 : Bool) (x47 x48 x49 x50 x51 : Nat) (x52 : Int) (x53 x54 x55 x56 : List Nat)
            (x57 x58 : Int),
            Go.K.ifB (Decidable.decide (x58 < x57))
                (((0 : Int) ≤ x58 ∧ x58 < (↑(List.length a1) : Int)) ∧
                  w_spec_l01Flush (List.getD a1 (Int.toNat x58) (0 : Nat)) fun y59 =>
                    ((0 : Int) ≤ x58 ∧ x58 < (↑(List.length x55) : Int)) ∧
                      ((0 : Int) ≤ x58 ∧ x58 < (↑(List.length a2) : Int)) ∧
                        w_spec_l01Flush (List.getD a2 (Int.toNat x58) (0 : Nat)) fun y60 =>
                          ((0 : Int) ≤ x58 ∧ x58 < (↑(List.length x56) : Int)) ∧
                            J16 x17 x18 x19 x20 x21 x22 x23 x24 x25 x26 x27 x28 x29 x30 x31 x32 x33 x34 x35 x36 x37 x38 x39 x40 x41 x42 x43 x44 x45 x46 x47 x48 x49 x50 x51 x52 x53
                              x54 (List.set x55 (Int.toNat x58) y59) (List.set x56 (Int.toNat x58) y60) x57 (Go.IntKind.wrap Go.IntKind.i64 (x58 + (1 : Int))))
                (K x55 x56 x41 x42 x43 x44 x45 x46 x47 x48 x49 x50 x51 x52 Bool.true) →
              J16 x17 x18 x19 x20 x21 x22 x23 x24 x25 x26 x27 x28 x29 x30 x31 x32 x33 x34 x35 x36 x37 x38 x39 x40 x41 x42 x43 x44 x45 x46 x47 x48 x49 x50 x51 x52 x53 x54 x55 x56
                x57 x58) →
          J16 a3 a4 a5 a6 a7 a8 a9 a10 a11 a12 a13 a14 (0 : Int) (0 : Int) Bool.false (0 : Int) (0 : Int) Bool.false (0 : Nat) (0 : Nat) (0 : Nat) (0 : Nat) (0 : Nat) (0 : Int) y4
            y5 y6 y7 y8 y9 y10 y11 y12 y13 y14 y15 [] [] y2 y3 (↑(List.length y2) : Int) (0 : Int))) := by kernel_rfl
theorem spec_FlushMelt.eq (a1 : List
  Nat) (a2 : List
  Nat) (a3 : Int) (a4 : Int) (a5 : Bool) (a6 : Int) (a7 : Int) (a8 : Bool) (a9 : Nat) (a10 : Nat) (a11 : Nat) (a12 : Nat) (a13 : Nat) (a14 : Int) (K : List Nat →
  List Nat → Int → Int → Bool → Int → Int → Bool → Nat → Nat → Nat → Nat → Nat → Int → Bool → Prop) : spec_FlushMelt.wp a1 a2 a3 a4 a5 a6 a7 a8 a9 a10 a11 a12 a13 a14 K =
  (Go.K.melts.spec_l03Is.wp a3 a4 a5 a6 a7 a8 a9 a10 a11 a12 a13 a14 a1 a2 fun y1 =>
  Go.K.ifB (!y1) (K [] [] (0 : Int) (0 : Int) Bool.false (0 : Int) (0 : Int) Bool.false (0 : Nat) (0 : Nat) (0 : Nat) (0 : Nat) (0 : Nat) (0 : Int) Bool.false)
    (Go.K.melts.spec_l03Own.wp a3 a4 a5 a6 a7 a8 a9 a10 a11 a12 a13 a14 a1 a2 fun y2 y3 y4 y5 y6 y7 y8 y9 y10 y11 y12 y13 y14 y15 =>
      ∀
        (J16 :
          Int →
            Int →
              Bool →
                Int →
                  Int →
                    Bool →
                      Nat →
                        Nat →
                          Nat →
                            Nat →
                              Nat →
                                Int →
                                  Int →
                                    Int →
                                      Bool →
                                        Int →
                                          Int →
                                            Bool →
                                              Nat →
                                                Nat →
                                                  Nat →
                                                    Nat →
                                                      Nat →
                                                        Int →
                                                          Int →
                                                            Int →
                                                              Bool →
                                                                Int →
                                                                  Int → Bool → Nat → Nat → Nat → Nat → Nat → Int → List Nat → List Nat → List Nat → List Nat → Int → Int → Prop),
        (∀ (x17 x18 : Int) (x19 : Bool) (x20 x21 : Int) (x22 : Bool) (x23 x24 x25 x26 x27 : Nat) (x28 x29 x30 : Int) (x31 : Bool) (x32 x33 : Int) (x34 : Bool)
            (x35 x36 x37 x38 x39 : Nat) (x40 x41 x42 : Int) (x43 : Bool) (x44 x45 : Int) (x46 : Bool) (x47 x48 x49 x50 x51 : Nat) (x52 : Int) (x53 x54 x55 x56 : List Nat)
            (x57 x58 : Int),
            Go.K.ifB (Decidable.decide (x58 < x57))
                (((0 : Int) ≤ x58 ∧ x58 < (↑(List.length a1) : Int)) ∧
                  Go.K.melts.spec_l01Flush.wp (List.getD a1 (Int.toNat x58) (0 : Nat)) fun y59 =>
                    ((0 : Int) ≤ x58 ∧ x58 < (↑(List.length x55) : Int)) ∧
                      ((0 : Int) ≤ x58 ∧ x58 < (↑(List.length a2) : Int)) ∧
                        Go.K.melts.spec_l01Flush.wp (List.getD a2 (Int.toNat x58) (0 : Nat)) fun y60 =>
                          ((0 : Int) ≤ x58 ∧ x58 < (↑(List.length x56) : Int)) ∧
                            J16 x17 x18 x19 x20 x21 x22 x23 x24 x25 x26 x27 x28 x29 x30 x31 x32 x33 x34 x35 x36 x37 x38 x39 x40 x41 x42 x43 x44 x45 x46 x47 x48 x49 x50 x51 x52 x53
                              x54 (List.set x55 (Int.toNat x58) y59) (List.set x56 (Int.toNat x58) y60) x57 (Go.IntKind.wrap Go.IntKind.i64 (x58 + (1 : Int))))
                (K x55 x56 x41 x42 x43 x44 x45 x46 x47 x48 x49 x50 x51 x52 Bool.true) →
              J16 x17 x18 x19 x20 x21 x22 x23 x24 x25 x26 x27 x28 x29 x30 x31 x32 x33 x34 x35 x36 x37 x38 x39 x40 x41 x42 x43 x44 x45 x46 x47 x48 x49 x50 x51 x52 x53 x54 x55 x56
                x57 x58) →
          J16 a3 a4 a5 a6 a7 a8 a9 a10 a11 a12 a13 a14 (0 : Int) (0 : Int) Bool.false (0 : Int) (0 : Int) Bool.false (0 : Nat) (0 : Nat) (0 : Nat) (0 : Nat) (0 : Nat) (0 : Int) y4
            y5 y6 y7 y8 y9 y10 y11 y12 y13 y14 y15 [] [] y2 y3 (↑(List.length y2) : Int) (0 : Int))) := spec_FlushMelt.tx spec_l03Is.wp spec_l03Own.wp spec_l01Flush.wp a1 a2 a3 a4 a5 a6 a7 a8 a9 a10 a11 a12 a13 a14 K

theorem impl_IsSubnormal.tx (w_math_Abs : Nat → (Nat → Prop) → Prop) (a1 : Nat) (K : Bool → Prop) : impl_IsSubnormal.bd w_math_Abs a1 K =
  (Go.K.ifB (Go.K.fne Go.FloatKind.f32 a1 (0 : Nat))
  (w_math_Abs (Go.K.fconv Go.FloatKind.f32 Go.FloatKind.f64 a1) fun y1 => K (Go.K.flt Go.FloatKind.f64 y1 (4039728865751334912 : Nat))) (K Bool.false)) := by kernel_rfl
theorem impl_IsSubnormal.eq (a1 : Nat) (K : Bool → Prop) : impl_IsSubnormal.wp a1 K =
  (Go.K.ifB (Go.K.fne Go.FloatKind.f32 a1 (0 : Nat))
  (Go.K.melts.math_Abs.wp (Go.K.fconv Go.FloatKind.f32 Go.FloatKind.f64 a1) fun y1 => K (Go.K.flt Go.FloatKind.f64 y1 (4039728865751334912 : Nat))) (K Bool.false)) := impl_IsSubnormal.tx math_Abs.wp a1 K

theorem math_Copysign.tx  (a1 : Nat) (a2 : Nat) (K : Nat → Prop) : math_Copysign.bd  a1 a2 K =
  (Go.K.isNaNW Go.FloatKind.f64 a1 = Bool.false ∧
  Go.K.isNaNW Go.FloatKind.f64 a2 = Bool.false ∧
    K
      (Go.K.cF Go.FloatKind.f64
        (Int.toNat
          (Go.K.ibits Go.BinOp.or Go.IntKind.u64 (Go.K.ibits Go.BinOp.andNot Go.IntKind.u64 (↑a1 : Int) (9223372036854775808 : Int))
            (Go.K.ibits Go.BinOp.and Go.IntKind.u64 (↑a2 : Int) (9223372036854775808 : Int)))))) := by kernel_rfl
theorem math_Copysign.eq (a1 : Nat) (a2 : Nat) (K : Nat → Prop) : math_Copysign.wp a1 a2 K =
  (Go.K.isNaNW Go.FloatKind.f64 a1 = Bool.false ∧
  Go.K.isNaNW Go.FloatKind.f64 a2 = Bool.false ∧
    K
      (Go.K.cF Go.FloatKind.f64
        (Int.toNat
          (Go.K.ibits Go.BinOp.or Go.IntKind.u64 (Go.K.ibits Go.BinOp.andNot Go.IntKind.u64 (↑a1 : Int) (9223372036854775808 : Int))
            (Go.K.ibits Go.BinOp.and Go.IntKind.u64 (↑a2 : Int) (9223372036854775808 : Int)))))) := math_Copysign.tx  a1 a2 K

theorem impl_FlushNumber.tx (w_impl_IsSubnormal : Nat → (Bool → Prop) → Prop) (w_math_Copysign : Nat → Nat → (Nat → Prop) → Prop) (a1 : Nat) (K : Nat → Prop) : impl_FlushNumber.bd w_impl_IsSubnormal w_math_Copysign a1 K =
  (w_impl_IsSubnormal a1 fun y1 =>
  Go.K.ifB y1
    (w_math_Copysign (0 : Nat) (Go.K.fconv Go.FloatKind.f32 Go.FloatKind.f64 a1) fun y2 =>
      Go.K.fitsF Go.FloatKind.f64 Go.FloatKind.f32 y2 = Bool.true ∧ K (Go.K.fconv Go.FloatKind.f64 Go.FloatKind.f32 y2))
    (K a1)) := by kernel_rfl
theorem impl_FlushNumber.eq (a1 : Nat) (K : Nat → Prop) : impl_FlushNumber.wp a1 K =
  (Go.K.melts.impl_IsSubnormal.wp a1 fun y1 =>
  Go.K.ifB y1
    (Go.K.melts.math_Copysign.wp (0 : Nat) (Go.K.fconv Go.FloatKind.f32 Go.FloatKind.f64 a1) fun y2 =>
      Go.K.fitsF Go.FloatKind.f64 Go.FloatKind.f32 y2 = Bool.true ∧ K (Go.K.fconv Go.FloatKind.f64 Go.FloatKind.f32 y2))
    (K a1)) := impl_FlushNumber.tx impl_IsSubnormal.wp math_Copysign.wp a1 K

theorem impl_FlushMelt.tx (w_impl_Melt_cloned : List Nat → List Nat → Int → Int → Bool → Int → Int → Bool → Nat → Nat → Nat → Nat → Nat → Int → (List Nat → List Nat → Int → Int → Bool → Int → Int → Bool → Nat → Nat → Nat → Nat → Nat → Int → Bool → Prop) → Prop) (w_impl_FlushNumber : Nat → (Nat → Prop) → Prop) (a1 : List
  Nat) (a2 : List
  Nat) (a3 : Int) (a4 : Int) (a5 : Bool) (a6 : Int) (a7 : Int) (a8 : Bool) (a9 : Nat) (a10 : Nat) (a11 : Nat) (a12 : Nat) (a13 : Nat) (a14 : Int) (K : List Nat →
  List Nat → Int → Int → Bool → Int → Int → Bool → Nat → Nat → Nat → Nat → Nat → Int → Bool → Prop) : impl_FlushMelt.bd w_impl_Melt_cloned w_impl_FlushNumber a1 a2 a3 a4 a5 a6 a7 a8 a9 a10 a11 a12 a13 a14 K =
  (w_impl_Melt_cloned a1 a2 a3 a4 a5 a6 a7 a8 a9 a10 a11 a12 a13 a14 fun y1 y2 y3 y4 y5 y6 y7 y8 y9 y10 y11 y12 y13 y14 y15 =>
  Go.K.ifB (!y15) (K [] [] (0 : Int) (0 : Int) Bool.false (0 : Int) (0 : Int) Bool.false (0 : Nat) (0 : Nat) (0 : Nat) (0 : Nat) (0 : Nat) (0 : Int) Bool.false)
    (∀
      (J16 :
        Int →
          Int →
            Bool →
              Int →
                Int →
                  Bool →
                    Nat →
                      Nat →
                        Nat →
                          Nat → Nat → Int → Int → Int → Bool → Int → Int → Bool → Nat → Nat → Nat → Nat → Nat → Int → List Nat → List Nat → List Nat → List Nat → Int → Int → Prop),
      (∀ (x17 x18 : Int) (x19 : Bool) (x20 x21 : Int) (x22 : Bool) (x23 x24 x25 x26 x27 : Nat) (x28 x29 x30 : Int) (x31 : Bool) (x32 x33 : Int) (x34 : Bool)
          (x35 x36 x37 x38 x39 : Nat) (x40 : Int) (x41 x42 x43 x44 : List Nat) (x45 x46 : Int),
          Go.K.ifB (Decidable.decide (x46 < x45))
              (((0 : Int) ≤ x46 ∧ x46 < (↑(List.length x43) : Int)) ∧
                ((0 : Int) ≤ x46 ∧ x46 < (↑(List.length x44) : Int)) ∧
                  w_impl_FlushNumber (List.getD x43 (Int.toNat x46) (0 : Nat)) fun y47 =>
                    w_impl_FlushNumber (List.getD x44 (Int.toNat x46) (0 : Nat)) fun y48 =>
                      ((0 : Int) ≤ x46 ∧ x46 < (↑(List.length x43) : Int)) ∧
                        ((0 : Int) ≤ x46 ∧ x46 < (↑(List.length x44) : Int)) ∧
                          J16 x17 x18 x19 x20 x21 x22 x23 x24 x25 x26 x27 x28 x29 x30 x31 x32 x33 x34 x35 x36 x37 x38 x39 x40 x41 x42 (List.set x43 (Int.toNat x46) y47)
                            (List.set x44 (Int.toNat x46) y48) x45 (Go.IntKind.wrap Go.IntKind.i64 (x46 + (1 : Int))))
              (K x43 x44 x29 x30 x31 x32 x33 x34 x35 x36 x37 x38 x39 x40 Bool.true) →
            J16 x17 x18 x19 x20 x21 x22 x23 x24 x25 x26 x27 x28 x29 x30 x31 x32 x33 x34 x35 x36 x37 x38 x39 x40 x41 x42 x43 x44 x45 x46) →
        J16 (0 : Int) (0 : Int) Bool.false (0 : Int) (0 : Int) Bool.false (0 : Nat) (0 : Nat) (0 : Nat) (0 : Nat) (0 : Nat) (0 : Int) y3 y4 y5 y6 y7 y8 y9 y10 y11 y12 y13 y14 [] []
          y1 y2 (↑(List.length y1) : Int) (0 : Int))) := by kernel_rfl
theorem impl_FlushMelt.eq (a1 : List
  Nat) (a2 : List
  Nat) (a3 : Int) (a4 : Int) (a5 : Bool) (a6 : Int) (a7 : Int) (a8 : Bool) (a9 : Nat) (a10 : Nat) (a11 : Nat) (a12 : Nat) (a13 : Nat) (a14 : Int) (K : List Nat →
  List Nat → Int → Int → Bool → Int → Int → Bool → Nat → Nat → Nat → Nat → Nat → Int → Bool → Prop) : impl_FlushMelt.wp a1 a2 a3 a4 a5 a6 a7 a8 a9 a10 a11 a12 a13 a14 K =
  (Go.K.melts.impl_Melt_cloned.wp a1 a2 a3 a4 a5 a6 a7 a8 a9 a10 a11 a12 a13 a14 fun y1 y2 y3 y4 y5 y6 y7 y8 y9 y10 y11 y12 y13 y14 y15 =>
  Go.K.ifB (!y15) (K [] [] (0 : Int) (0 : Int) Bool.false (0 : Int) (0 : Int) Bool.false (0 : Nat) (0 : Nat) (0 : Nat) (0 : Nat) (0 : Nat) (0 : Int) Bool.false)
    (∀
      (J16 :
        Int →
          Int →
            Bool →
              Int →
                Int →
                  Bool →
                    Nat →
                      Nat →
                        Nat →
                          Nat → Nat → Int → Int → Int → Bool → Int → Int → Bool → Nat → Nat → Nat → Nat → Nat → Int → List Nat → List Nat → List Nat → List Nat → Int → Int → Prop),
      (∀ (x17 x18 : Int) (x19 : Bool) (x20 x21 : Int) (x22 : Bool) (x23 x24 x25 x26 x27 : Nat) (x28 x29 x30 : Int) (x31 : Bool) (x32 x33 : Int) (x34 : Bool)
          (x35 x36 x37 x38 x39 : Nat) (x40 : Int) (x41 x42 x43 x44 : List Nat) (x45 x46 : Int),
          Go.K.ifB (Decidable.decide (x46 < x45))
              (((0 : Int) ≤ x46 ∧ x46 < (↑(List.length x43) : Int)) ∧
                ((0 : Int) ≤ x46 ∧ x46 < (↑(List.length x44) : Int)) ∧
                  Go.K.melts.impl_FlushNumber.wp (List.getD x43 (Int.toNat x46) (0 : Nat)) fun y47 =>
                    Go.K.melts.impl_FlushNumber.wp (List.getD x44 (Int.toNat x46) (0 : Nat)) fun y48 =>
                      ((0 : Int) ≤ x46 ∧ x46 < (↑(List.length x43) : Int)) ∧
                        ((0 : Int) ≤ x46 ∧ x46 < (↑(List.length x44) : Int)) ∧
                          J16 x17 x18 x19 x20 x21 x22 x23 x24 x25 x26 x27 x28 x29 x30 x31 x32 x33 x34 x35 x36 x37 x38 x39 x40 x41 x42 (List.set x43 (Int.toNat x46) y47)
                            (List.set x44 (Int.toNat x46) y48) x45 (Go.IntKind.wrap Go.IntKind.i64 (x46 + (1 : Int))))
              (K x43 x44 x29 x30 x31 x32 x33 x34 x35 x36 x37 x38 x39 x40 Bool.true) →
            J16 x17 x18 x19 x20 x21 x22 x23 x24 x25 x26 x27 x28 x29 x30 x31 x32 x33 x34 x35 x36 x37 x38 x39 x40 x41 x42 x43 x44 x45 x46) →
        J16 (0 : Int) (0 : Int) Bool.false (0 : Int) (0 : Int) Bool.false (0 : Nat) (0 : Nat) (0 : Nat) (0 : Nat) (0 : Nat) (0 : Int) y3 y4 y5 y6 y7 y8 y9 y10 y11 y12 y13 y14 [] []
          y1 y2 (↑(List.length y1) : Int) (0 : Int))) := impl_FlushMelt.tx impl_Melt_cloned.wp impl_FlushNumber.wp a1 a2 a3 a4 a5 a6 a7 a8 a9 a10 a11 a12 a13 a14 K

theorem laws_FnExactFlushMelt.tx (w_laws_szMelt : List Nat → List Nat → Int → Int → Bool → Int → Int → Bool → Nat → Nat → Nat → Nat → Nat → Int → Int → (Int → Prop) → Prop) (w_laws_toMelt : List Nat → List Nat → Int → Int → Bool → Int → Int → Bool → Nat → Nat → Nat → Nat → Nat → Int → (List Nat → List Nat → Int → Int → Bool → Int → Int → Bool → Nat → Nat → Nat → Nat → Nat → Int → Prop) → Prop) (w_spec_FlushMelt : List Nat → List Nat → Int → Int → Bool → Int → Int → Bool → Nat → Nat → Nat → Nat → Nat → Int → (List Nat → List Nat → Int → Int → Bool → Int → Int → Bool → Nat → Nat → Nat → Nat → Nat → Int → Bool → Prop) → Prop) (w_impl_FlushMelt : List Nat → List Nat → Int → Int → Bool → Int → Int → Bool → Nat → Nat → Nat → Nat → Nat → Int → (List Nat → List Nat → Int → Int → Bool → Int → Int → Bool → Nat → Nat → Nat → Nat → Nat → Int → Bool → Prop) → Prop) (w_laws_eqMelt : List Nat → List Nat → List Nat → List Nat → Int → Int → Bool → Int → Int → Bool → Nat → Nat → Nat → Nat → Nat → Int → Int → Int → Bool → Int → Int → Bool → Nat → Nat → Nat → Nat → Nat → Int → (Bool → Prop) → Prop) (w_laws_markMelt : List Nat → List Nat → Int → Int → Bool → Int → Int → Bool → Nat → Nat → Nat → Nat → Nat → Int → Int → (List Nat → List Nat → Int → Prop) → Prop) (w_laws_heldMelt : List Nat → List Nat → Int → Int → Bool → Int → Int → Bool → Nat → Nat → Nat → Nat → Nat → Int → Int → (Int → Prop) → Prop) (a1 : List
  Nat) (a2 : List
  Nat) (a3 : Int) (a4 : Int) (a5 : Bool) (a6 : Int) (a7 : Int) (a8 : Bool) (a9 : Nat) (a10 : Nat) (a11 : Nat) (a12 : Nat) (a13 : Nat) (a14 : Int) (K : Bool →
  Prop) : laws_FnExactFlushMelt.bd w_laws_szMelt w_laws_toMelt w_spec_FlushMelt w_impl_FlushMelt w_laws_eqMelt w_laws_markMelt w_laws_heldMelt a1 a2 a3 a4 a5 a6 a7 a8 a9 a10 a11 a12 a13 a14 K =
  (w_laws_szMelt a1 a2 a3 a4 a5 a6 a7 a8 a9 a10 a11 a12 a13 a14 (1048576 : Int) fun y1 =>
  Go.K.ifB (Decidable.decide (y1 < (0 : Int))) (K Bool.true)
    (w_laws_toMelt a1 a2 a3 a4 a5 a6 a7 a8 a9 a10 a11 a12 a13 a14 fun y2 y3 y4 y5 y6 y7 y8 y9 y10 y11 y12 y13 y14 y15 =>
      w_spec_FlushMelt y2 y3 y4 y5 y6 y7 y8 y9 y10 y11 y12 y13 y14 y15 fun y16 y17 y18 y19 y20 y21 y22 y23 y24 y25 y26 y27 y28 y29 y30 =>
        w_laws_toMelt a1 a2 a3 a4 a5 a6 a7 a8 a9 a10 a11 a12 a13 a14 fun y31 y32 y33 y34 y35 y36 y37 y38 y39 y40 y41 y42 y43 y44 =>
          w_impl_FlushMelt y31 y32 y33 y34 y35 y36 y37 y38 y39 y40 y41 y42 y43 y44 fun y45 y46 y47 y48 y49 y50 y51 y52 y53 y54 y55 y56 y57 y58 y59 =>
            w_laws_eqMelt y45 y46 y16 y17 y47 y48 y49 y50 y51 y52 y53 y54 y55 y56 y57 y58 y18 y19 y20 y21 y22 y23 y24 y25 y26 y27 y28 y29 fun y60 =>
              Go.K.ifB (!y60) (K Bool.false)
                (Go.K.ifB (y59 != y30) (K Bool.false)
                  (w_laws_toMelt a1 a2 a3 a4 a5 a6 a7 a8 a9 a10 a11 a12 a13 a14 fun y61 y62 y63 y64 y65 y66 y67 y68 y69 y70 y71 y72 y73 y74 =>
                    w_laws_eqMelt y31 y32 y61 y62 y33 y34 y35 y36 y37 y38 y39 y40 y41 y42 y43 y44 y63 y64 y65 y66 y67 y68 y69 y70 y71 y72 y73 y74 fun y75 =>
                      Go.K.ifB (!y75) (K Bool.false)
                        (w_laws_markMelt y31 y32 y33 y34 y35 y36 y37 y38 y39 y40 y41 y42 y43 y44 (1 : Int) fun y76 y77 y78 =>
                          Go.K.ifB (Decidable.decide (y78 < (0 : Int))) (K Bool.false)
                            (w_laws_eqMelt y45 y46 y16 y17 y47 y48 y49 y50 y51 y52 y53 y54 y55 y56 y57 y58 y18 y19 y20 y21 y22 y23 y24 y25 y26 y27 y28 y29 fun y79 =>
                              Go.K.ifB (!y79) (K Bool.false)
                                (Go.K.ifB (y59 != y30) (K Bool.false)
                                  (w_laws_markMelt y45 y46 y47 y48 y49 y50 y51 y52 y53 y54 y55 y56 y57 y58 (1 : Int) fun y80 y81 y82 =>
                                    w_laws_heldMelt y80 y81 y47 y48 y49 y50 y51 y52 y53 y54 y55 y56 y57 y58 (1 : Int) fun y83 =>
                                      Go.K.ifB (Decidable.decide (y83 < (0 : Int))) (K Bool.false)
                                        (Go.K.ifB (y83 != y82) (K Bool.false)
                                          (w_laws_toMelt a1 a2 a3 a4 a5 a6 a7 a8 a9 a10 a11 a12 a13 a14 fun y84 y85 y86 y87 y88 y89 y90 y91 y92 y93 y94 y95 y96 y97 =>
                                            w_impl_FlushMelt y84 y85 y86 y87 y88 y89 y90 y91 y92 y93 y94 y95 y96 y97
                                              fun y98 y99 y100 y101 y102 y103 y104 y105 y106 y107 y108 y109 y110 y111 y112 =>
                                              w_laws_eqMelt y98 y99 y16 y17 y100 y101 y102 y103 y104 y105 y106 y107 y108 y109 y110 y111 y18 y19 y20 y21 y22 y23 y24 y25
                                                y26 y27 y28 y29 fun y113 =>
                                                Go.K.ifB (!y113) (K Bool.false)
                                                  (Go.K.ifB (y112 != y30) (K Bool.false)
                                                    (w_laws_heldMelt y80 y81 y47 y48 y49 y50 y51 y52 y53 y54 y55 y56 y57 y58 (1 : Int) fun y114 =>
                                                      Go.K.ifB (Decidable.decide (y114 < (0 : Int))) (K Bool.false)
                                                        (Go.K.ifB (y114 != y82) (K Bool.false) (K Bool.true)))))))))))))) := by kernel_rfl
theorem laws_FnExactFlushMelt.eq (a1 : List
  Nat) (a2 : List
  Nat) (a3 : Int) (a4 : Int) (a5 : Bool) (a6 : Int) (a7 : Int) (a8 : Bool) (a9 : Nat) (a10 : Nat) (a11 : Nat) (a12 : Nat) (a13 : Nat) (a14 : Int) (K : Bool →
  Prop) : laws_FnExactFlushMelt.wp a1 a2 a3 a4 a5 a6 a7 a8 a9 a10 a11 a12 a13 a14 K =
  (Go.K.melts.laws_szMelt.wp a1 a2 a3 a4 a5 a6 a7 a8 a9 a10 a11 a12 a13 a14 (1048576 : Int) fun y1 =>
  Go.K.ifB (Decidable.decide (y1 < (0 : Int))) (K Bool.true)
    (Go.K.melts.laws_toMelt.wp a1 a2 a3 a4 a5 a6 a7 a8 a9 a10 a11 a12 a13 a14 fun y2 y3 y4 y5 y6 y7 y8 y9 y10 y11 y12 y13 y14 y15 =>
      Go.K.melts.spec_FlushMelt.wp y2 y3 y4 y5 y6 y7 y8 y9 y10 y11 y12 y13 y14 y15 fun y16 y17 y18 y19 y20 y21 y22 y23 y24 y25 y26 y27 y28 y29 y30 =>
        Go.K.melts.laws_toMelt.wp a1 a2 a3 a4 a5 a6 a7 a8 a9 a10 a11 a12 a13 a14 fun y31 y32 y33 y34 y35 y36 y37 y38 y39 y40 y41 y42 y43 y44 =>
          Go.K.melts.impl_FlushMelt.wp y31 y32 y33 y34 y35 y36 y37 y38 y39 y40 y41 y42 y43 y44 fun y45 y46 y47 y48 y49 y50 y51 y52 y53 y54 y55 y56 y57 y58 y59 =>
            Go.K.melts.laws_eqMelt.wp y45 y46 y16 y17 y47 y48 y49 y50 y51 y52 y53 y54 y55 y56 y57 y58 y18 y19 y20 y21 y22 y23 y24 y25 y26 y27 y28 y29 fun y60 =>
              Go.K.ifB (!y60) (K Bool.false)
                (Go.K.ifB (y59 != y30) (K Bool.false)
                  (Go.K.melts.laws_toMelt.wp a1 a2 a3 a4 a5 a6 a7 a8 a9 a10 a11 a12 a13 a14 fun y61 y62 y63 y64 y65 y66 y67 y68 y69 y70 y71 y72 y73 y74 =>
                    Go.K.melts.laws_eqMelt.wp y31 y32 y61 y62 y33 y34 y35 y36 y37 y38 y39 y40 y41 y42 y43 y44 y63 y64 y65 y66 y67 y68 y69 y70 y71 y72 y73 y74 fun y75 =>
                      Go.K.ifB (!y75) (K Bool.false)
                        (Go.K.melts.laws_markMelt.wp y31 y32 y33 y34 y35 y36 y37 y38 y39 y40 y41 y42 y43 y44 (1 : Int) fun y76 y77 y78 =>
                          Go.K.ifB (Decidable.decide (y78 < (0 : Int))) (K Bool.false)
                            (Go.K.melts.laws_eqMelt.wp y45 y46 y16 y17 y47 y48 y49 y50 y51 y52 y53 y54 y55 y56 y57 y58 y18 y19 y20 y21 y22 y23 y24 y25 y26 y27 y28 y29 fun y79 =>
                              Go.K.ifB (!y79) (K Bool.false)
                                (Go.K.ifB (y59 != y30) (K Bool.false)
                                  (Go.K.melts.laws_markMelt.wp y45 y46 y47 y48 y49 y50 y51 y52 y53 y54 y55 y56 y57 y58 (1 : Int) fun y80 y81 y82 =>
                                    Go.K.melts.laws_heldMelt.wp y80 y81 y47 y48 y49 y50 y51 y52 y53 y54 y55 y56 y57 y58 (1 : Int) fun y83 =>
                                      Go.K.ifB (Decidable.decide (y83 < (0 : Int))) (K Bool.false)
                                        (Go.K.ifB (y83 != y82) (K Bool.false)
                                          (Go.K.melts.laws_toMelt.wp a1 a2 a3 a4 a5 a6 a7 a8 a9 a10 a11 a12 a13 a14 fun y84 y85 y86 y87 y88 y89 y90 y91 y92 y93 y94 y95 y96 y97 =>
                                            Go.K.melts.impl_FlushMelt.wp y84 y85 y86 y87 y88 y89 y90 y91 y92 y93 y94 y95 y96 y97
                                              fun y98 y99 y100 y101 y102 y103 y104 y105 y106 y107 y108 y109 y110 y111 y112 =>
                                              Go.K.melts.laws_eqMelt.wp y98 y99 y16 y17 y100 y101 y102 y103 y104 y105 y106 y107 y108 y109 y110 y111 y18 y19 y20 y21 y22 y23 y24 y25
                                                y26 y27 y28 y29 fun y113 =>
                                                Go.K.ifB (!y113) (K Bool.false)
                                                  (Go.K.ifB (y112 != y30) (K Bool.false)
                                                    (Go.K.melts.laws_heldMelt.wp y80 y81 y47 y48 y49 y50 y51 y52 y53 y54 y55 y56 y57 y58 (1 : Int) fun y114 =>
                                                      Go.K.ifB (Decidable.decide (y114 < (0 : Int))) (K Bool.false)
                                                        (Go.K.ifB (y114 != y82) (K Bool.false) (K Bool.true)))))))))))))) := laws_FnExactFlushMelt.tx laws_szMelt.wp laws_toMelt.wp spec_FlushMelt.wp impl_FlushMelt.wp laws_eqMelt.wp laws_markMelt.wp laws_heldMelt.wp a1 a2 a3 a4 a5 a6 a7 a8 a9 a10 a11 a12 a13 a14 K

end Go.K.melts
