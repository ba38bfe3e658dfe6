/- What the functions compute, written out. -/
import Derived.Test.YtnhijhkdbpknjaaD
import Derived.KernelRfl
set_option maxRecDepth 100000
set_option linter.unusedVariables false
namespace Go.K.flakes
open Go.K Go

theorem spec_l01Finite.tx  (a1 : Nat) (K : Bool → Prop) : spec_l01Finite.bd  a1 K =
  (K (Go.K.feq Go.FloatKind.f32 (Go.K.farith Go.BinOp.sub Go.FloatKind.f32 a1 a1) (0 : Nat))) := by kernel_rfl
theorem spec_l01Finite.eq (a1 : Nat) (K : Bool → Prop) : spec_l01Finite.wp a1 K =
  (K (Go.K.feq Go.FloatKind.f32 (Go.K.farith Go.BinOp.sub Go.FloatKind.f32 a1 a1) (0 : Nat))) := spec_l01Finite.tx  a1 K

theorem spec_l06Size.tx (w_spec_l01Finite : Nat → (Bool → Prop) → Prop) (a1 : Nat) (K : Bool → Prop) : spec_l06Size.bd w_spec_l01Finite a1 K =
  (w_spec_l01Finite a1 fun y1 => Go.K.ifB y1 (K (Go.K.fgt Go.FloatKind.f32 a1 (0 : Nat))) (K Bool.false)) := by kernel_rfl
theorem spec_l06Size.eq (a1 : Nat) (K : Bool → Prop) : spec_l06Size.wp a1 K =
  (Go.K.flakes.spec_l01Finite.wp a1 fun y1 => Go.K.ifB y1 (K (Go.K.fgt Go.FloatKind.f32 a1 (0 : Nat))) (K Bool.false)) := spec_l06Size.tx spec_l01Finite.wp a1 K

theorem spec_l06Square.tx  (a1 : Nat) (K : List (Nat × Nat) → Prop) : spec_l06Square.bd  a1 K =
  (K
  ((a1, a1) ::
    (Go.K.fneg Go.FloatKind.f32 a1, a1) ::
      (Go.K.fneg Go.FloatKind.f32 a1, Go.K.fneg Go.FloatKind.f32 a1) :: (a1, Go.K.fneg Go.FloatKind.f32 a1) :: List.replicate (0 : Nat) ((0 : Nat), (0 : Nat)))) := by kernel_rfl
theorem spec_l06Square.eq (a1 : Nat) (K : List (Nat × Nat) → Prop) : spec_l06Square.wp a1 K =
  (K
  ((a1, a1) ::
    (Go.K.fneg Go.FloatKind.f32 a1, a1) ::
      (Go.K.fneg Go.FloatKind.f32 a1, Go.K.fneg Go.FloatKind.f32 a1) :: (a1, Go.K.fneg Go.FloatKind.f32 a1) :: List.replicate (0 : Nat) ((0 : Nat), (0 : Nat)))) := spec_l06Square.tx  a1 K

theorem spec_SquareShape.tx (w_spec_l06Size : Nat → (Bool → Prop) → Prop) (w_spec_l06Square : Nat → (List (Nat × Nat) → Prop) → Prop) (a1 : Nat) (K : List (Nat × Nat) → Bool → Prop) : spec_SquareShape.bd w_spec_l06Size w_spec_l06Square a1 K =
  (w_spec_l06Size a1 fun y1 => Go.K.ifB (!y1) (K [] Bool.false) (w_spec_l06Square a1 fun y2 => K y2 Bool.true)) := by kernel_rfl
theorem spec_SquareShape.eq (a1 : Nat) (K : List (Nat × Nat) → Bool → Prop) : spec_SquareShape.wp a1 K =
  (Go.K.flakes.spec_l06Size.wp a1 fun y1 => Go.K.ifB (!y1) (K [] Bool.false) (Go.K.flakes.spec_l06Square.wp a1 fun y2 => K y2 Bool.true)) := spec_SquareShape.tx spec_l06Size.wp spec_l06Square.wp a1 K

theorem math_IsNaN.tx  (a1 : Nat) (K : Bool → Prop) : math_IsNaN.bd  a1 K =
  (K (Go.K.fne Go.FloatKind.f64 a1 a1)) := by kernel_rfl
theorem math_IsNaN.eq (a1 : Nat) (K : Bool → Prop) : math_IsNaN.wp a1 K =
  (K (Go.K.fne Go.FloatKind.f64 a1 a1)) := math_IsNaN.tx  a1 K

theorem math_Abs.tx  (a1 : Nat) (K : Nat → Prop) : math_Abs.bd  a1 K =
  (Go.K.isNaNW Go.FloatKind.f64 a1 = Bool.false ∧
  K (Go.K.cF Go.FloatKind.f64 (Int.toNat (Go.K.ibits Go.BinOp.andNot Go.IntKind.u64 (↑a1 : Int) (9223372036854775808 : Int))))) := by kernel_rfl
theorem math_Abs.eq (a1 : Nat) (K : Nat → Prop) : math_Abs.wp a1 K =
  (Go.K.isNaNW Go.FloatKind.f64 a1 = Bool.false ∧
  K (Go.K.cF Go.FloatKind.f64 (Int.toNat (Go.K.ibits Go.BinOp.andNot Go.IntKind.u64 (↑a1 : Int) (9223372036854775808 : Int))))) := math_Abs.tx  a1 K

theorem math_IsInf.tx (w_math_Abs : Nat → (Nat → Prop) → Prop) (a1 : Nat) (a2 : Int) (K : Bool → Prop) : math_IsInf.bd w_math_Abs a1 a2 K =
  (Go.K.ifB (a2 == (0 : Int)) (w_math_Abs a1 fun y1 => K (Go.K.fgt Go.FloatKind.f64 y1 (9218868437227405311 : Nat)))
  (Go.K.ifB (Decidable.decide (a2 < (0 : Int))) (K (Go.K.fgt Go.FloatKind.f64 (Go.K.fneg Go.FloatKind.f64 a1) (9218868437227405311 : Nat)))
    (K (Go.K.fgt Go.FloatKind.f64 a1 (9218868437227405311 : Nat))))) := by kernel_rfl
theorem math_IsInf.eq (a1 : Nat) (a2 : Int) (K : Bool → Prop) : math_IsInf.wp a1 a2 K =
  (Go.K.ifB (a2 == (0 : Int)) (Go.K.flakes.math_Abs.wp a1 fun y1 => K (Go.K.fgt Go.FloatKind.f64 y1 (9218868437227405311 : Nat)))
  (Go.K.ifB (Decidable.decide (a2 < (0 : Int))) (K (Go.K.fgt Go.FloatKind.f64 (Go.K.fneg Go.FloatKind.f64 a1) (9218868437227405311 : Nat)))
    (K (Go.K.fgt Go.FloatKind.f64 a1 (9218868437227405311 : Nat))))) := math_IsInf.tx math_Abs.wp a1 a2 K

theorem impl_finite.tx (w_math_IsNaN : Nat → (Bool → Prop) → Prop) (w_math_IsInf : Nat → Int → (Bool → Prop) → Prop) (a1 : Nat) (K : Bool → Prop) : impl_finite.bd w_math_IsNaN w_math_IsInf a1 K =
  (w_math_IsNaN a1 fun y1 => Go.K.ifB (!y1) (w_math_IsInf a1 (0 : Int) fun y2 => K !y2) (K Bool.false)) := by kernel_rfl
theorem impl_finite.eq (a1 : Nat) (K : Bool → Prop) : impl_finite.wp a1 K =
  (Go.K.flakes.math_IsNaN.wp a1 fun y1 => Go.K.ifB (!y1) (Go.K.flakes.math_IsInf.wp a1 (0 : Int) fun y2 => K !y2) (K Bool.false)) := impl_finite.tx math_IsNaN.wp math_IsInf.wp a1 K

theorem impl_IsFinite.tx (w_impl_finite : Nat → (Bool → Prop) → Prop) (a1 : Nat) (K : Bool → Prop) : impl_IsFinite.bd w_impl_finite a1 K =
  (w_impl_finite (Go.K.fconv Go.FloatKind.f32 Go.FloatKind.f64 a1) fun y1 => K y1) := by kernel_rfl
theorem impl_IsFinite.eq (a1 : Nat) (K : Bool → Prop) : impl_IsFinite.wp a1 K =
  (Go.K.flakes.impl_finite.wp (Go.K.fconv Go.FloatKind.f32 Go.FloatKind.f64 a1) fun y1 => K y1) := impl_IsFinite.tx impl_finite.wp a1 K

theorem impl_aLength.tx (w_impl_IsFinite : Nat → (Bool → Prop) → Prop) (a1 : Nat) (K : Bool → Prop) : impl_aLength.bd w_impl_IsFinite a1 K =
  (w_impl_IsFinite a1 fun y1 => Go.K.ifB y1 (K (Go.K.fgt Go.FloatKind.f32 a1 (0 : Nat))) (K Bool.false)) := by kernel_rfl
theorem impl_aLength.eq (a1 : Nat) (K : Bool → Prop) : impl_aLength.wp a1 K =
  (Go.K.flakes.impl_IsFinite.wp a1 fun y1 => Go.K.ifB y1 (K (Go.K.fgt Go.FloatKind.f32 a1 (0 : Nat))) (K Bool.false)) := impl_aLength.tx impl_IsFinite.wp a1 K

theorem impl_SquareShape.tx (w_impl_aLength : Nat → (Bool → Prop) → Prop) (a1 : Nat) (K : List (Nat × Nat) → Bool → Prop) : impl_SquareShape.bd w_impl_aLength a1 K =
  (w_impl_aLength a1 fun y1 =>
  Go.K.ifB (!y1) (K [] Bool.false)
    (K
      ((a1, a1) ::
        (Go.K.fneg Go.FloatKind.f32 a1, a1) ::
          (Go.K.fneg Go.FloatKind.f32 a1, Go.K.fneg Go.FloatKind.f32 a1) :: (a1, Go.K.fneg Go.FloatKind.f32 a1) :: List.replicate (0 : Nat) ((0 : Nat), (0 : Nat)))
      Bool.true)) := by kernel_rfl
theorem impl_SquareShape.eq (a1 : Nat) (K : List (Nat × Nat) → Bool → Prop) : impl_SquareShape.wp a1 K =
  (Go.K.flakes.impl_aLength.wp a1 fun y1 =>
  Go.K.ifB (!y1) (K [] Bool.false)
    (K
      ((a1, a1) ::
        (Go.K.fneg Go.FloatKind.f32 a1, a1) ::
          (Go.K.fneg Go.FloatKind.f32 a1, Go.K.fneg Go.FloatKind.f32 a1) :: (a1, Go.K.fneg Go.FloatKind.f32 a1) :: List.replicate (0 : Nat) ((0 : Nat), (0 : Nat)))
      Bool.true)) := impl_SquareShape.tx impl_aLength.wp a1 K

theorem laws_sameFloat.tx  (a1 : Nat) (a2 : Nat) (K : Bool → Prop) : laws_sameFloat.bd  a1 a2 K =
  (Go.K.ifB (Go.K.fne Go.FloatKind.f64 a1 a1) (Go.K.ifB (Go.K.fne Go.FloatKind.f64 a1 a1) (K (Go.K.fne Go.FloatKind.f64 a2 a2)) (K Bool.false))
  (Go.K.ifB (Go.K.fne Go.FloatKind.f64 a2 a2) (Go.K.ifB (Go.K.fne Go.FloatKind.f64 a1 a1) (K (Go.K.fne Go.FloatKind.f64 a2 a2)) (K Bool.false))
    (Go.K.ifB (Go.K.feq Go.FloatKind.f64 a1 (0 : Nat))
      (Go.K.ifB (Go.K.feq Go.FloatKind.f64 a2 (0 : Nat))
        (K
          (Go.K.fgt Go.FloatKind.f64 (Go.K.farith Go.BinOp.quo Go.FloatKind.f64 (4607182418800017408 : Nat) a1) (0 : Nat) ==
            Go.K.fgt Go.FloatKind.f64 (Go.K.farith Go.BinOp.quo Go.FloatKind.f64 (4607182418800017408 : Nat) a2) (0 : Nat)))
        (K (Go.K.feq Go.FloatKind.f64 a1 a2)))
      (K (Go.K.feq Go.FloatKind.f64 a1 a2))))) := by kernel_rfl
theorem laws_sameFloat.eq (a1 : Nat) (a2 : Nat) (K : Bool → Prop) : laws_sameFloat.wp a1 a2 K =
  (Go.K.ifB (Go.K.fne Go.FloatKind.f64 a1 a1) (Go.K.ifB (Go.K.fne Go.FloatKind.f64 a1 a1) (K (Go.K.fne Go.FloatKind.f64 a2 a2)) (K Bool.false))
  (Go.K.ifB (Go.K.fne Go.FloatKind.f64 a2 a2) (Go.K.ifB (Go.K.fne Go.FloatKind.f64 a1 a1) (K (Go.K.fne Go.FloatKind.f64 a2 a2)) (K Bool.false))
    (Go.K.ifB (Go.K.feq Go.FloatKind.f64 a1 (0 : Nat))
      (Go.K.ifB (Go.K.feq Go.FloatKind.f64 a2 (0 : Nat))
        (K
          (Go.K.fgt Go.FloatKind.f64 (Go.K.farith Go.BinOp.quo Go.FloatKind.f64 (4607182418800017408 : Nat) a1) (0 : Nat) ==
            Go.K.fgt Go.FloatKind.f64 (Go.K.farith Go.BinOp.quo Go.FloatKind.f64 (4607182418800017408 : Nat) a2) (0 : Nat)))
        (K (Go.K.feq Go.FloatKind.f64 a1 a2)))
      (K (Go.K.feq Go.FloatKind.f64 a1 a2))))) := laws_sameFloat.tx  a1 a2 K

theorem laws_sameComplex.tx (w_laws_sameFloat : Nat → Nat → (Bool → Prop) → Prop) (a1 : Nat) (a2 : Nat) (a3 : Nat) (a4 : Nat) (K : Bool → Prop) : laws_sameComplex.bd w_laws_sameFloat a1 a2 a3 a4 K =
  (w_laws_sameFloat a1 a3 fun y1 => Go.K.ifB y1 (w_laws_sameFloat a2 a4 fun y2 => K y2) (K Bool.false)) := by kernel_rfl
theorem laws_sameComplex.eq (a1 : Nat) (a2 : Nat) (a3 : Nat) (a4 : Nat) (K : Bool → Prop) : laws_sameComplex.wp a1 a2 a3 a4 K =
  (Go.K.flakes.laws_sameFloat.wp a1 a3 fun y1 => Go.K.ifB y1 (Go.K.flakes.laws_sameFloat.wp a2 a4 fun y2 => K y2) (K Bool.false)) := laws_sameComplex.tx laws_sameFloat.wp a1 a2 a3 a4 K

theorem laws_eqComplex64S.tx (w_laws_sameComplex : Nat → Nat → Nat → Nat → (Bool → Prop) → Prop) (a1 : List (Nat × Nat)) (a2 : List (Nat × Nat)) (K : Bool → Prop) : laws_eqComplex64S.bd w_laws_sameComplex a1 a2 K =
  (Go.K.ifB ((↑(List.length a1) : Int) != (↑(List.length a2) : Int)) (K Bool.false)
  (∀ (J1 : Int → Prop),
    (∀ (x2 : Int),
        Go.K.ifB (Decidable.decide (x2 < (↑(List.length a1) : Int)))
            (((0 : Int) ≤ x2 ∧ x2 < (↑(List.length a1) : Int)) ∧
              ((0 : Int) ≤ x2 ∧ x2 < (↑(List.length a2) : Int)) ∧
                w_laws_sameComplex (Go.K.fconv Go.FloatKind.f32 Go.FloatKind.f64 (Prod.fst (List.getD a1 (Int.toNat x2) ((0 : Nat), (0 : Nat)))))
                  (Go.K.fconv Go.FloatKind.f32 Go.FloatKind.f64 (Prod.snd (List.getD a1 (Int.toNat x2) ((0 : Nat), (0 : Nat)))))
                  (Go.K.fconv Go.FloatKind.f32 Go.FloatKind.f64 (Prod.fst (List.getD a2 (Int.toNat x2) ((0 : Nat), (0 : Nat)))))
                  (Go.K.fconv Go.FloatKind.f32 Go.FloatKind.f64 (Prod.snd (List.getD a2 (Int.toNat x2) ((0 : Nat), (0 : Nat))))) fun y3 =>
                  Go.K.ifB (!y3) (K Bool.false) (J1 (Go.IntKind.wrap Go.IntKind.i64 (x2 + (1 : Int)))))
            (K Bool.true) →
          J1 x2) →
      J1 (0 : Int))) := by kernel_rfl
theorem laws_eqComplex64S.eq (a1 : List (Nat × Nat)) (a2 : List (Nat × Nat)) (K : Bool → Prop) : laws_eqComplex64S.wp a1 a2 K =
  (Go.K.ifB ((↑(List.length a1) : Int) != (↑(List.length a2) : Int)) (K Bool.false)
  (∀ (J1 : Int → Prop),
    (∀ (x2 : Int),
        Go.K.ifB (Decidable.decide (x2 < (↑(List.length a1) : Int)))
            (((0 : Int) ≤ x2 ∧ x2 < (↑(List.length a1) : Int)) ∧
              ((0 : Int) ≤ x2 ∧ x2 < (↑(List.length a2) : Int)) ∧
                Go.K.flakes.laws_sameComplex.wp (Go.K.fconv Go.FloatKind.f32 Go.FloatKind.f64 (Prod.fst (List.getD a1 (Int.toNat x2) ((0 : Nat), (0 : Nat)))))
                  (Go.K.fconv Go.FloatKind.f32 Go.FloatKind.f64 (Prod.snd (List.getD a1 (Int.toNat x2) ((0 : Nat), (0 : Nat)))))
                  (Go.K.fconv Go.FloatKind.f32 Go.FloatKind.f64 (Prod.fst (List.getD a2 (Int.toNat x2) ((0 : Nat), (0 : Nat)))))
                  (Go.K.fconv Go.FloatKind.f32 Go.FloatKind.f64 (Prod.snd (List.getD a2 (Int.toNat x2) ((0 : Nat), (0 : Nat))))) fun y3 =>
                  Go.K.ifB (!y3) (K Bool.false) (J1 (Go.IntKind.wrap Go.IntKind.i64 (x2 + (1 : Int)))))
            (K Bool.true) →
          J1 x2) →
      J1 (0 : Int))) := laws_eqComplex64S.tx laws_sameComplex.wp a1 a2 K

theorem laws_markComplex64S.tx  (a1 : List (Nat × Nat)) (a2 : Int) (K : List (Nat × Nat) → Int → Prop) : laws_markComplex64S.bd  a1 a2 K =
  (∀ (J1 : List (Nat × Nat) → Int → Int → Prop),
  (∀ (x2 : List (Nat × Nat)) (x3 x4 : Int),
      Go.K.ifB (Decidable.decide (x4 < (↑(List.length a1) : Int)))
          ((Go.K.fitsF Go.FloatKind.f64 Go.FloatKind.f32 (Go.K.fofint Go.FloatKind.f64 x3) = Bool.true ∧ Bool.true = Bool.true) ∧
            ((0 : Int) ≤ x4 ∧ x4 < (↑(List.length a1) : Int)) ∧
              J1
                (List.set x2 (Int.toNat x4)
                  (Go.K.fconv Go.FloatKind.f64 Go.FloatKind.f32 (Go.K.fofint Go.FloatKind.f64 x3), Go.K.fconv Go.FloatKind.f64 Go.FloatKind.f32 (4607182418800017408 : Nat)))
                (Go.IntKind.wrap Go.IntKind.i64 (x3 + (1 : Int))) (Go.IntKind.wrap Go.IntKind.i64 (x4 + (1 : Int))))
          (K x2 x3) →
        J1 x2 x3 x4) →
    J1 a1 a2 (0 : Int)) := by kernel_rfl
theorem laws_markComplex64S.eq (a1 : List (Nat × Nat)) (a2 : Int) (K : List (Nat × Nat) → Int → Prop) : laws_markComplex64S.wp a1 a2 K =
  (∀ (J1 : List (Nat × Nat) → Int → Int → Prop),
  (∀ (x2 : List (Nat × Nat)) (x3 x4 : Int),
      Go.K.ifB (Decidable.decide (x4 < (↑(List.length a1) : Int)))
          ((Go.K.fitsF Go.FloatKind.f64 Go.FloatKind.f32 (Go.K.fofint Go.FloatKind.f64 x3) = Bool.true ∧ Bool.true = Bool.true) ∧
            ((0 : Int) ≤ x4 ∧ x4 < (↑(List.length a1) : Int)) ∧
              J1
                (List.set x2 (Int.toNat x4)
                  (Go.K.fconv Go.FloatKind.f64 Go.FloatKind.f32 (Go.K.fofint Go.FloatKind.f64 x3), Go.K.fconv Go.FloatKind.f64 Go.FloatKind.f32 (4607182418800017408 : Nat)))
                (Go.IntKind.wrap Go.IntKind.i64 (x3 + (1 : Int))) (Go.IntKind.wrap Go.IntKind.i64 (x4 + (1 : Int))))
          (K x2 x3) →
        J1 x2 x3 x4) →
    J1 a1 a2 (0 : Int)) := laws_markComplex64S.tx  a1 a2 K

theorem laws_heldComplex64S.tx  (a1 : List (Nat × Nat)) (a2 : Int) (K : Int → Prop) : laws_heldComplex64S.bd  a1 a2 K =
  (∀ (J1 : Int → Int → Prop),
  (∀ (x2 x3 : Int),
      Go.K.ifB (Decidable.decide (x3 < (↑(List.length a1) : Int)))
          (((0 : Int) ≤ x3 ∧ x3 < (↑(List.length a1) : Int)) ∧
            (Go.K.fitsF Go.FloatKind.f64 Go.FloatKind.f32 (Go.K.fofint Go.FloatKind.f64 x2) = Bool.true ∧ Bool.true = Bool.true) ∧
              Go.K.ifB
                (!(Go.K.feq Go.FloatKind.f32 (Prod.fst (List.getD a1 (Int.toNat x3) ((0 : Nat), (0 : Nat))))
                      (Go.K.fconv Go.FloatKind.f64 Go.FloatKind.f32 (Go.K.fofint Go.FloatKind.f64 x2)) &&
                    Go.K.feq Go.FloatKind.f32 (Prod.snd (List.getD a1 (Int.toNat x3) ((0 : Nat), (0 : Nat))))
                      (Go.K.fconv Go.FloatKind.f64 Go.FloatKind.f32 (4607182418800017408 : Nat))))
                (K (-1 : Int)) (J1 (Go.IntKind.wrap Go.IntKind.i64 (x2 + (1 : Int))) (Go.IntKind.wrap Go.IntKind.i64 (x3 + (1 : Int)))))
          (K x2) →
        J1 x2 x3) →
    J1 a2 (0 : Int)) := by kernel_rfl
theorem laws_heldComplex64S.eq (a1 : List (Nat × Nat)) (a2 : Int) (K : Int → Prop) : laws_heldComplex64S.wp a1 a2 K =
  (∀ (J1 : Int → Int → Prop),
  (∀ (x2 x3 : Int),
      Go.K.ifB (Decidable.decide (x3 < (↑(List.length a1) : Int)))
          (((0 : Int) ≤ x3 ∧ x3 < (↑(List.length a1) : Int)) ∧
            (Go.K.fitsF Go.FloatKind.f64 Go.FloatKind.f32 (Go.K.fofint Go.FloatKind.f64 x2) = Bool.true ∧ Bool.true = Bool.true) ∧
              Go.K.ifB
                (!(Go.K.feq Go.FloatKind.f32 (Prod.fst (List.getD a1 (Int.toNat x3) ((0 : Nat), (0 : Nat))))
                      (Go.K.fconv Go.FloatKind.f64 Go.FloatKind.f32 (Go.K.fofint Go.FloatKind.f64 x2)) &&
                    Go.K.feq Go.FloatKind.f32 (Prod.snd (List.getD a1 (Int.toNat x3) ((0 : Nat), (0 : Nat))))
                      (Go.K.fconv Go.FloatKind.f64 Go.FloatKind.f32 (4607182418800017408 : Nat))))
                (K (-1 : Int)) (J1 (Go.IntKind.wrap Go.IntKind.i64 (x2 + (1 : Int))) (Go.IntKind.wrap Go.IntKind.i64 (x3 + (1 : Int)))))
          (K x2) →
        J1 x2 x3) →
    J1 a2 (0 : Int)) := laws_heldComplex64S.tx  a1 a2 K

theorem laws_FnExactSquareShape.tx (w_spec_SquareShape : Nat → (List (Nat × Nat) → Bool → Prop) → Prop) (w_impl_SquareShape : Nat → (List (Nat × Nat) → Bool → Prop) → Prop) (w_laws_eqComplex64S : List (Nat × Nat) → List (Nat × Nat) → (Bool → Prop) → Prop) (w_laws_markComplex64S : List (Nat × Nat) → Int → (List (Nat × Nat) → Int → Prop) → Prop) (w_laws_heldComplex64S : List (Nat × Nat) → Int → (Int → Prop) → Prop) (a1 : Nat) (K : Bool → Prop) : laws_FnExactSquareShape.bd w_spec_SquareShape w_impl_SquareShape w_laws_eqComplex64S w_laws_markComplex64S w_laws_heldComplex64S a1 K =
  (w_spec_SquareShape a1 fun y1 y2 =>
  w_impl_SquareShape a1 fun y3 y4 =>
    w_laws_eqComplex64S y3 y1 fun y5 =>
      Go.K.ifB (!y5) (K Bool.false)
        (Go.K.ifB (y4 != y2) (K Bool.false)
          (w_laws_markComplex64S y3 (1 : Int) fun y6 y7 =>
            w_laws_heldComplex64S y6 (1 : Int) fun y8 =>
              Go.K.ifB (Decidable.decide (y8 < (0 : Int))) (K Bool.false)
                (Go.K.ifB (y8 != y7) (K Bool.false)
                  (w_impl_SquareShape a1 fun y9 y10 =>
                    w_laws_eqComplex64S y9 y1 fun y11 =>
                      Go.K.ifB (!y11) (K Bool.false)
                        (Go.K.ifB (y10 != y2) (K Bool.false)
                          (w_laws_heldComplex64S y6 (1 : Int) fun y12 =>
                            Go.K.ifB (Decidable.decide (y12 < (0 : Int))) (K Bool.false) (Go.K.ifB (y12 != y7) (K Bool.false) (K Bool.true))))))))) := by kernel_rfl
theorem laws_FnExactSquareShape.eq (a1 : Nat) (K : Bool → Prop) : laws_FnExactSquareShape.wp a1 K =
  (Go.K.flakes.spec_SquareShape.wp a1 fun y1 y2 =>
  Go.K.flakes.impl_SquareShape.wp a1 fun y3 y4 =>
    Go.K.flakes.laws_eqComplex64S.wp y3 y1 fun y5 =>
      Go.K.ifB (!y5) (K Bool.false)
        (Go.K.ifB (y4 != y2) (K Bool.false)
          (Go.K.flakes.laws_markComplex64S.wp y3 (1 : Int) fun y6 y7 =>
            Go.K.flakes.laws_heldComplex64S.wp y6 (1 : Int) fun y8 =>
              Go.K.ifB (Decidable.decide (y8 < (0 : Int))) (K Bool.false)
                (Go.K.ifB (y8 != y7) (K Bool.false)
                  (Go.K.flakes.impl_SquareShape.wp a1 fun y9 y10 =>
                    Go.K.flakes.laws_eqComplex64S.wp y9 y1 fun y11 =>
                      Go.K.ifB (!y11) (K Bool.false)
                        (Go.K.ifB (y10 != y2) (K Bool.false)
                          (Go.K.flakes.laws_heldComplex64S.wp y6 (1 : Int) fun y12 =>
                            Go.K.ifB (Decidable.decide (y12 < (0 : Int))) (K Bool.false) (Go.K.ifB (y12 != y7) (K Bool.false) (K Bool.true))))))))) := laws_FnExactSquareShape.tx spec_SquareShape.wp impl_SquareShape.wp laws_eqComplex64S.wp laws_markComplex64S.wp laws_heldComplex64S.wp a1 K

theorem laws_szFloat32S.tx  (a1 : List Nat) (a2 : Int) (K : Int → Prop) : laws_szFloat32S.bd  a1 a2 K =
  (Go.K.ifB (Decidable.decide (Go.IntKind.wrap Go.IntKind.i64 (a2 - (↑(List.length a1) : Int)) < (0 : Int))) (K (-1 : Int))
  (K (Go.IntKind.wrap Go.IntKind.i64 (a2 - (↑(List.length a1) : Int))))) := by kernel_rfl
theorem laws_szFloat32S.eq (a1 : List Nat) (a2 : Int) (K : Int → Prop) : laws_szFloat32S.wp a1 a2 K =
  (Go.K.ifB (Decidable.decide (Go.IntKind.wrap Go.IntKind.i64 (a2 - (↑(List.length a1) : Int)) < (0 : Int))) (K (-1 : Int))
  (K (Go.IntKind.wrap Go.IntKind.i64 (a2 - (↑(List.length a1) : Int))))) := laws_szFloat32S.tx  a1 a2 K

theorem laws_szFlake.tx (w_laws_szFloat32S : List Nat → Int → (Int → Prop) → Prop) (a1 : List Nat) (a2 : Int) (a3 : Int) (K : Int → Prop) : laws_szFlake.bd w_laws_szFloat32S a1 a2 a3 K =
  (w_laws_szFloat32S a1 a3 fun y1 => Go.K.ifB (Decidable.decide (y1 < (0 : Int))) (K (-1 : Int)) (K y1)) := by kernel_rfl
theorem laws_szFlake.eq (a1 : List Nat) (a2 : Int) (a3 : Int) (K : Int → Prop) : laws_szFlake.wp a1 a2 a3 K =
  (Go.K.flakes.laws_szFloat32S.wp a1 a3 fun y1 => Go.K.ifB (Decidable.decide (y1 < (0 : Int))) (K (-1 : Int)) (K y1)) := laws_szFlake.tx laws_szFloat32S.wp a1 a2 a3 K

theorem laws_toFloat32S.tx  (a1 : List Nat) (K : List Nat → Prop) : laws_toFloat32S.bd  a1 K =
  (((0 : Int) ≤ (↑(List.length a1) : Int) ∧ (↑(List.length a1) : Int) ≤ (↑(List.length a1) : Int) ∧ (↑(List.length a1) : Int) ≤ (1099511627776 : Int)) ∧
  ∀ (J1 : List Nat → Int → Prop),
    (∀ (x2 : List Nat) (x3 : Int),
        Go.K.ifB (Decidable.decide (x3 < (↑(List.length a1) : Int)))
            (((0 : Int) ≤ x3 ∧ x3 < (↑(List.length a1) : Int)) ∧
              ((0 : Int) ≤ x3 ∧ x3 < (↑(List.length x2) : Int)) ∧
                J1 (List.set x2 (Int.toNat x3) (List.getD a1 (Int.toNat x3) (0 : Nat))) (Go.IntKind.wrap Go.IntKind.i64 (x3 + (1 : Int))))
            (K x2) →
          J1 x2 x3) →
      J1 (List.replicate (Int.toNat (↑(List.length a1) : Int)) (0 : Nat)) (0 : Int)) := by kernel_rfl
theorem laws_toFloat32S.eq (a1 : List Nat) (K : List Nat → Prop) : laws_toFloat32S.wp a1 K =
  (((0 : Int) ≤ (↑(List.length a1) : Int) ∧ (↑(List.length a1) : Int) ≤ (↑(List.length a1) : Int) ∧ (↑(List.length a1) : Int) ≤ (1099511627776 : Int)) ∧
  ∀ (J1 : List Nat → Int → Prop),
    (∀ (x2 : List Nat) (x3 : Int),
        Go.K.ifB (Decidable.decide (x3 < (↑(List.length a1) : Int)))
            (((0 : Int) ≤ x3 ∧ x3 < (↑(List.length a1) : Int)) ∧
              ((0 : Int) ≤ x3 ∧ x3 < (↑(List.length x2) : Int)) ∧
                J1 (List.set x2 (Int.toNat x3) (List.getD a1 (Int.toNat x3) (0 : Nat))) (Go.IntKind.wrap Go.IntKind.i64 (x3 + (1 : Int))))
            (K x2) →
          J1 x2 x3) →
      J1 (List.replicate (Int.toNat (↑(List.length a1) : Int)) (0 : Nat)) (0 : Int)) := laws_toFloat32S.tx  a1 K

theorem laws_toFlake.tx (w_laws_toFloat32S : List Nat → (List Nat → Prop) → Prop) (a1 : List Nat) (a2 : Int) (K : List Nat → Int → Prop) : laws_toFlake.bd w_laws_toFloat32S a1 a2 K =
  (w_laws_toFloat32S a1 fun y1 => K y1 a2) := by kernel_rfl
theorem laws_toFlake.eq (a1 : List Nat) (a2 : Int) (K : List Nat → Int → Prop) : laws_toFlake.wp a1 a2 K =
  (Go.K.flakes.laws_toFloat32S.wp a1 fun y1 => K y1 a2) := laws_toFlake.tx laws_toFloat32S.wp a1 a2 K

theorem spec_l01Bits.tx  (a1 : Nat) (K : Int → Prop) : spec_l01Bits.bd  a1 K =
  (Go.K.ifB (Go.K.fne Go.FloatKind.f32 a1 a1) (K (2143289344 : Int))
  (Go.K.isNaNW Go.FloatKind.f32 a1 = Bool.false ∧ K (Go.IntKind.wrap Go.IntKind.i64 (↑a1 : Int)))) := by kernel_rfl
theorem spec_l01Bits.eq (a1 : Nat) (K : Int → Prop) : spec_l01Bits.wp a1 K =
  (Go.K.ifB (Go.K.fne Go.FloatKind.f32 a1 a1) (K (2143289344 : Int))
  (Go.K.isNaNW Go.FloatKind.f32 a1 = Bool.false ∧ K (Go.IntKind.wrap Go.IntKind.i64 (↑a1 : Int)))) := spec_l01Bits.tx  a1 K

theorem spec_l01Same.tx (w_spec_l01Bits : Nat → (Int → Prop) → Prop) (a1 : Nat) (a2 : Nat) (K : Bool → Prop) : spec_l01Same.bd w_spec_l01Bits a1 a2 K =
  (w_spec_l01Bits a1 fun y1 => w_spec_l01Bits a2 fun y2 => K (y1 == y2)) := by kernel_rfl
theorem spec_l01Same.eq (a1 : Nat) (a2 : Nat) (K : Bool → Prop) : spec_l01Same.wp a1 a2 K =
  (Go.K.flakes.spec_l01Bits.wp a1 fun y1 => Go.K.flakes.spec_l01Bits.wp a2 fun y2 => K (y1 == y2)) := spec_l01Same.tx spec_l01Bits.wp a1 a2 K

theorem spec_l01SameAll.tx (w_spec_l01Same : Nat → Nat → (Bool → Prop) → Prop) (a1 : List Nat) (a2 : List Nat) (K : Bool → Prop) : spec_l01SameAll.bd w_spec_l01Same a1 a2 K =
  (Go.K.ifB ((↑(List.length a1) : Int) != (↑(List.length a2) : Int)) (K Bool.false)
  (∀ (J1 : Int → Prop),
    (∀ (x2 : Int),
        Go.K.ifB (Decidable.decide (x2 < (↑(List.length a1) : Int)))
            (((0 : Int) ≤ x2 ∧ x2 < (↑(List.length a1) : Int)) ∧
              ((0 : Int) ≤ x2 ∧ x2 < (↑(List.length a2) : Int)) ∧
                w_spec_l01Same (List.getD a1 (Int.toNat x2) (0 : Nat)) (List.getD a2 (Int.toNat x2) (0 : Nat)) fun y3 =>
                  Go.K.ifB (!y3) (K Bool.false) (J1 (Go.IntKind.wrap Go.IntKind.i64 (x2 + (1 : Int)))))
            (K Bool.true) →
          J1 x2) →
      J1 (0 : Int))) := by kernel_rfl
theorem spec_l01SameAll.eq (a1 : List Nat) (a2 : List Nat) (K : Bool → Prop) : spec_l01SameAll.wp a1 a2 K =
  (Go.K.ifB ((↑(List.length a1) : Int) != (↑(List.length a2) : Int)) (K Bool.false)
  (∀ (J1 : Int → Prop),
    (∀ (x2 : Int),
        Go.K.ifB (Decidable.decide (x2 < (↑(List.length a1) : Int)))
            (((0 : Int) ≤ x2 ∧ x2 < (↑(List.length a1) : Int)) ∧
              ((0 : Int) ≤ x2 ∧ x2 < (↑(List.length a2) : Int)) ∧
                Go.K.flakes.spec_l01Same.wp (List.getD a1 (Int.toNat x2) (0 : Nat)) (List.getD a2 (Int.toNat x2) (0 : Nat)) fun y3 =>
                  Go.K.ifB (!y3) (K Bool.false) (J1 (Go.IntKind.wrap Go.IntKind.i64 (x2 + (1 : Int)))))
            (K Bool.true) →
          J1 x2) →
      J1 (0 : Int))) := spec_l01SameAll.tx spec_l01Same.wp a1 a2 K

theorem spec_SameFlake.tx (w_spec_l01SameAll : List Nat → List Nat → (Bool → Prop) → Prop) (a1 : List Nat) (a2 : List Nat) (a3 : Int) (a4 : Int) (K : Bool → Prop) : spec_SameFlake.bd w_spec_l01SameAll a1 a2 a3 a4 K =
  (Go.K.ifB (a3 == a4) (w_spec_l01SameAll a1 a2 fun y1 => K y1) (K Bool.false)) := by kernel_rfl
theorem spec_SameFlake.eq (a1 : List Nat) (a2 : List Nat) (a3 : Int) (a4 : Int) (K : Bool → Prop) : spec_SameFlake.wp a1 a2 a3 a4 K =
  (Go.K.ifB (a3 == a4) (Go.K.flakes.spec_l01SameAll.wp a1 a2 fun y1 => K y1) (K Bool.false)) := spec_SameFlake.tx spec_l01SameAll.wp a1 a2 a3 a4 K

theorem math_Signbit.tx  (a1 : Nat) (K : Bool → Prop) : math_Signbit.bd  a1 K =
  (Go.K.isNaNW Go.FloatKind.f64 a1 = Bool.false ∧ K (Decidable.decide (Go.IntKind.wrap Go.IntKind.i64 (↑a1 : Int) < (0 : Int)))) := by kernel_rfl
theorem math_Signbit.eq (a1 : Nat) (K : Bool → Prop) : math_Signbit.wp a1 K =
  (Go.K.isNaNW Go.FloatKind.f64 a1 = Bool.false ∧ K (Decidable.decide (Go.IntKind.wrap Go.IntKind.i64 (↑a1 : Int) < (0 : Int)))) := math_Signbit.tx  a1 K

theorem impl_SameNumber.tx (w_math_Signbit : Nat → (Bool → Prop) → Prop) (a1 : Nat) (a2 : Nat) (K : Bool → Prop) : impl_SameNumber.bd w_math_Signbit a1 a2 K =
  (Go.K.ifB (Go.K.fne Go.FloatKind.f32 a1 a1) (Go.K.ifB (Go.K.fne Go.FloatKind.f32 a1 a1) (K (Go.K.fne Go.FloatKind.f32 a2 a2)) (K Bool.false))
  (Go.K.ifB (Go.K.fne Go.FloatKind.f32 a2 a2) (Go.K.ifB (Go.K.fne Go.FloatKind.f32 a1 a1) (K (Go.K.fne Go.FloatKind.f32 a2 a2)) (K Bool.false))
    (Go.K.ifB (Go.K.feq Go.FloatKind.f32 a1 a2)
      (w_math_Signbit (Go.K.fconv Go.FloatKind.f32 Go.FloatKind.f64 a1) fun y1 =>
        w_math_Signbit (Go.K.fconv Go.FloatKind.f32 Go.FloatKind.f64 a2) fun y2 => K (y1 == y2))
      (K Bool.false)))) := by kernel_rfl
theorem impl_SameNumber.eq (a1 : Nat) (a2 : Nat) (K : Bool → Prop) : impl_SameNumber.wp a1 a2 K =
  (Go.K.ifB (Go.K.fne Go.FloatKind.f32 a1 a1) (Go.K.ifB (Go.K.fne Go.FloatKind.f32 a1 a1) (K (Go.K.fne Go.FloatKind.f32 a2 a2)) (K Bool.false))
  (Go.K.ifB (Go.K.fne Go.FloatKind.f32 a2 a2) (Go.K.ifB (Go.K.fne Go.FloatKind.f32 a1 a1) (K (Go.K.fne Go.FloatKind.f32 a2 a2)) (K Bool.false))
    (Go.K.ifB (Go.K.feq Go.FloatKind.f32 a1 a2)
      (Go.K.flakes.math_Signbit.wp (Go.K.fconv Go.FloatKind.f32 Go.FloatKind.f64 a1) fun y1 =>
        Go.K.flakes.math_Signbit.wp (Go.K.fconv Go.FloatKind.f32 Go.FloatKind.f64 a2) fun y2 => K (y1 == y2))
      (K Bool.false)))) := impl_SameNumber.tx math_Signbit.wp a1 a2 K

theorem slices_EqualFunc_float32_float32_float32_float32__SameNumber.tx (w_impl_SameNumber : Nat → Nat → (Bool → Prop) → Prop) (a1 : List
  Nat) (a2 : List Nat) (K : Bool → Prop) : slices_EqualFunc_float32_float32_float32_float32__SameNumber.bd w_impl_SameNumber a1 a2 K =
  (Go.K.ifB ((↑(List.length a1) : Int) != (↑(List.length a2) : Int)) (K Bool.false)
  (∀ (J1 : Int → Int → Prop),
    (∀ (x2 x3 : Int),
        Go.K.ifB (Decidable.decide (x3 < x2))
            (((0 : Int) ≤ x3 ∧ x3 < (↑(List.length a1) : Int)) ∧
              ((0 : Int) ≤ x3 ∧ x3 < (↑(List.length a2) : Int)) ∧
                w_impl_SameNumber (List.getD a1 (Int.toNat x3) (0 : Nat)) (List.getD a2 (Int.toNat x3) (0 : Nat)) fun y4 =>
                  Go.K.ifB (!y4) (K Bool.false) (J1 x2 (Go.IntKind.wrap Go.IntKind.i64 (x3 + (1 : Int)))))
            (K Bool.true) →
          J1 x2 x3) →
      J1 (↑(List.length a1) : Int) (0 : Int))) := by kernel_rfl
theorem slices_EqualFunc_float32_float32_float32_float32__SameNumber.eq (a1 : List
  Nat) (a2 : List Nat) (K : Bool → Prop) : slices_EqualFunc_float32_float32_float32_float32__SameNumber.wp a1 a2 K =
  (Go.K.ifB ((↑(List.length a1) : Int) != (↑(List.length a2) : Int)) (K Bool.false)
  (∀ (J1 : Int → Int → Prop),
    (∀ (x2 x3 : Int),
        Go.K.ifB (Decidable.decide (x3 < x2))
            (((0 : Int) ≤ x3 ∧ x3 < (↑(List.length a1) : Int)) ∧
              ((0 : Int) ≤ x3 ∧ x3 < (↑(List.length a2) : Int)) ∧
                Go.K.flakes.impl_SameNumber.wp (List.getD a1 (Int.toNat x3) (0 : Nat)) (List.getD a2 (Int.toNat x3) (0 : Nat)) fun y4 =>
                  Go.K.ifB (!y4) (K Bool.false) (J1 x2 (Go.IntKind.wrap Go.IntKind.i64 (x3 + (1 : Int)))))
            (K Bool.true) →
          J1 x2 x3) →
      J1 (↑(List.length a1) : Int) (0 : Int))) := slices_EqualFunc_float32_float32_float32_float32__SameNumber.tx impl_SameNumber.wp a1 a2 K

theorem impl_sameNumbers.tx (w_slices_EqualFunc_float32_float32_float32_float32__SameNumber : List Nat → List Nat → (Bool → Prop) → Prop) (a1 : List Nat) (a2 : List Nat) (K : Bool → Prop) : impl_sameNumbers.bd w_slices_EqualFunc_float32_float32_float32_float32__SameNumber a1 a2 K =
  (w_slices_EqualFunc_float32_float32_float32_float32__SameNumber a1 a2 fun y1 => K y1) := by kernel_rfl
theorem impl_sameNumbers.eq (a1 : List Nat) (a2 : List Nat) (K : Bool → Prop) : impl_sameNumbers.wp a1 a2 K =
  (Go.K.flakes.slices_EqualFunc_float32_float32_float32_float32__SameNumber.wp a1 a2 fun y1 => K y1) := impl_sameNumbers.tx slices_EqualFunc_float32_float32_float32_float32__SameNumber.wp a1 a2 K

theorem impl_SameFlake.tx (w_impl_sameNumbers : List Nat → List Nat → (Bool → Prop) → Prop) (a1 : List Nat) (a2 : List Nat) (a3 : Int) (a4 : Int) (K : Bool → Prop) : impl_SameFlake.bd w_impl_sameNumbers a1 a2 a3 a4 K =
  (Go.K.ifB (a3 == a4) (w_impl_sameNumbers a1 a2 fun y1 => K y1) (K Bool.false)) := by kernel_rfl
theorem impl_SameFlake.eq (a1 : List Nat) (a2 : List Nat) (a3 : Int) (a4 : Int) (K : Bool → Prop) : impl_SameFlake.wp a1 a2 a3 a4 K =
  (Go.K.ifB (a3 == a4) (Go.K.flakes.impl_sameNumbers.wp a1 a2 fun y1 => K y1) (K Bool.false)) := impl_SameFlake.tx impl_sameNumbers.wp a1 a2 a3 a4 K

theorem laws_eqFloat32S.tx (w_laws_sameFloat : Nat → Nat → (Bool → Prop) → Prop) (a1 : List Nat) (a2 : List Nat) (K : Bool → Prop) : laws_eqFloat32S.bd w_laws_sameFloat a1 a2 K =
  (Go.K.ifB ((↑(List.length a1) : Int) != (↑(List.length a2) : Int)) (K Bool.false)
  (∀ (J1 : Int → Prop),
    (∀ (x2 : Int),
        Go.K.ifB (Decidable.decide (x2 < (↑(List.length a1) : Int)))
            (((0 : Int) ≤ x2 ∧ x2 < (↑(List.length a1) : Int)) ∧
              ((0 : Int) ≤ x2 ∧ x2 < (↑(List.length a2) : Int)) ∧
                w_laws_sameFloat (Go.K.fconv Go.FloatKind.f32 Go.FloatKind.f64 (List.getD a1 (Int.toNat x2) (0 : Nat)))
                  (Go.K.fconv Go.FloatKind.f32 Go.FloatKind.f64 (List.getD a2 (Int.toNat x2) (0 : Nat))) fun y3 =>
                  Go.K.ifB (!y3) (K Bool.false) (J1 (Go.IntKind.wrap Go.IntKind.i64 (x2 + (1 : Int)))))
            (K Bool.true) →
          J1 x2) →
      J1 (0 : Int))) := by kernel_rfl
theorem laws_eqFloat32S.eq (a1 : List Nat) (a2 : List Nat) (K : Bool → Prop) : laws_eqFloat32S.wp a1 a2 K =
  (Go.K.ifB ((↑(List.length a1) : Int) != (↑(List.length a2) : Int)) (K Bool.false)
  (∀ (J1 : Int → Prop),
    (∀ (x2 : Int),
        Go.K.ifB (Decidable.decide (x2 < (↑(List.length a1) : Int)))
            (((0 : Int) ≤ x2 ∧ x2 < (↑(List.length a1) : Int)) ∧
              ((0 : Int) ≤ x2 ∧ x2 < (↑(List.length a2) : Int)) ∧
                Go.K.flakes.laws_sameFloat.wp (Go.K.fconv Go.FloatKind.f32 Go.FloatKind.f64 (List.getD a1 (Int.toNat x2) (0 : Nat)))
                  (Go.K.fconv Go.FloatKind.f32 Go.FloatKind.f64 (List.getD a2 (Int.toNat x2) (0 : Nat))) fun y3 =>
                  Go.K.ifB (!y3) (K Bool.false) (J1 (Go.IntKind.wrap Go.IntKind.i64 (x2 + (1 : Int)))))
            (K Bool.true) →
          J1 x2) →
      J1 (0 : Int))) := laws_eqFloat32S.tx laws_sameFloat.wp a1 a2 K

theorem laws_eqFlake.tx (w_laws_eqFloat32S : List Nat → List Nat → (Bool → Prop) → Prop) (a1 : List Nat) (a2 : List Nat) (a3 : Int) (a4 : Int) (K : Bool → Prop) : laws_eqFlake.bd w_laws_eqFloat32S a1 a2 a3 a4 K =
  (Go.K.ifB (a3 != a4) (K Bool.false) (w_laws_eqFloat32S a1 a2 fun y1 => Go.K.ifB (!y1) (K Bool.false) (K Bool.true))) := by kernel_rfl
theorem laws_eqFlake.eq (a1 : List Nat) (a2 : List Nat) (a3 : Int) (a4 : Int) (K : Bool → Prop) : laws_eqFlake.wp a1 a2 a3 a4 K =
  (Go.K.ifB (a3 != a4) (K Bool.false) (Go.K.flakes.laws_eqFloat32S.wp a1 a2 fun y1 => Go.K.ifB (!y1) (K Bool.false) (K Bool.true))) := laws_eqFlake.tx laws_eqFloat32S.wp a1 a2 a3 a4 K

theorem laws_FnExactSameFlake.tx (w_laws_szFlake : List Nat → Int → Int → (Int → Prop) → Prop) (w_laws_toFlake : List Nat → Int → (List Nat → Int → Prop) → Prop) (w_spec_SameFlake : List Nat → List Nat → Int → Int → (Bool → Prop) → Prop) (w_impl_SameFlake : List Nat → List Nat → Int → Int → (Bool → Prop) → Prop) (w_laws_eqFlake : List Nat → List Nat → Int → Int → (Bool → Prop) → Prop) (a1 : List Nat) (a2 : List Nat) (a3 : Int) (a4 : Int) (K : Bool → Prop) : laws_FnExactSameFlake.bd w_laws_szFlake w_laws_toFlake w_spec_SameFlake w_impl_SameFlake w_laws_eqFlake a1 a2 a3 a4 K =
  (w_laws_szFlake a1 a3 (1048576 : Int) fun y1 =>
  Go.K.ifB (Decidable.decide (y1 < (0 : Int))) (K Bool.true)
    (w_laws_szFlake a2 a4 y1 fun y2 =>
      Go.K.ifB (Decidable.decide (y2 < (0 : Int))) (K Bool.true)
        (w_laws_toFlake a1 a3 fun y3 y4 =>
          w_laws_toFlake a2 a4 fun y5 y6 =>
            w_spec_SameFlake y3 y5 y4 y6 fun y7 =>
              w_laws_toFlake a1 a3 fun y8 y9 =>
                w_laws_toFlake a2 a4 fun y10 y11 =>
                  w_impl_SameFlake y8 y10 y9 y11 fun y12 =>
                    Go.K.ifB (y12 != y7) (K Bool.false)
                      (w_laws_toFlake a1 a3 fun y13 y14 =>
                        w_laws_eqFlake y8 y13 y9 y14 fun y15 =>
                          Go.K.ifB (!y15) (K Bool.false)
                            (w_laws_toFlake a2 a4 fun y16 y17 =>
                              w_laws_eqFlake y10 y16 y11 y17 fun y18 => Go.K.ifB (!y18) (K Bool.false) (K Bool.true)))))) := by kernel_rfl
theorem laws_FnExactSameFlake.eq (a1 : List Nat) (a2 : List Nat) (a3 : Int) (a4 : Int) (K : Bool → Prop) : laws_FnExactSameFlake.wp a1 a2 a3 a4 K =
  (Go.K.flakes.laws_szFlake.wp a1 a3 (1048576 : Int) fun y1 =>
  Go.K.ifB (Decidable.decide (y1 < (0 : Int))) (K Bool.true)
    (Go.K.flakes.laws_szFlake.wp a2 a4 y1 fun y2 =>
      Go.K.ifB (Decidable.decide (y2 < (0 : Int))) (K Bool.true)
        (Go.K.flakes.laws_toFlake.wp a1 a3 fun y3 y4 =>
          Go.K.flakes.laws_toFlake.wp a2 a4 fun y5 y6 =>
            Go.K.flakes.spec_SameFlake.wp y3 y5 y4 y6 fun y7 =>
              Go.K.flakes.laws_toFlake.wp a1 a3 fun y8 y9 =>
                Go.K.flakes.laws_toFlake.wp a2 a4 fun y10 y11 =>
                  Go.K.flakes.impl_SameFlake.wp y8 y10 y9 y11 fun y12 =>
                    Go.K.ifB (y12 != y7) (K Bool.false)
                      (Go.K.flakes.laws_toFlake.wp a1 a3 fun y13 y14 =>
                        Go.K.flakes.laws_eqFlake.wp y8 y13 y9 y14 fun y15 =>
                          Go.K.ifB (!y15) (K Bool.false)
                            (Go.K.flakes.laws_toFlake.wp a2 a4 fun y16 y17 =>
                              Go.K.flakes.laws_eqFlake.wp y10 y16 y11 y17 fun y18 => Go.K.ifB (!y18) (K Bool.false) (K Bool.true)))))) := laws_FnExactSameFlake.tx laws_szFlake.wp laws_toFlake.wp spec_SameFlake.wp impl_SameFlake.wp laws_eqFlake.wp a1 a2 a3 a4 K

theorem spec_l00In.tx  (a1 : Int) (a2 : Int) (a3 : Int) (K : Bool → Prop) : spec_l00In.bd  a1 a2 a3 K =
  (Go.K.ifB (Decidable.decide (a1 ≥ a2)) (K (Decidable.decide (a1 ≤ a3))) (K Bool.false)) := by kernel_rfl
theorem spec_l00In.eq (a1 : Int) (a2 : Int) (a3 : Int) (K : Bool → Prop) : spec_l00In.wp a1 a2 a3 K =
  (Go.K.ifB (Decidable.decide (a1 ≥ a2)) (K (Decidable.decide (a1 ≤ a3))) (K Bool.false)) := spec_l00In.tx  a1 a2 a3 K

theorem spec_l06Is.tx (w_spec_l00In : Int → Int → Int → (Bool → Prop) → Prop) (w_spec_l01Finite : Nat → (Bool → Prop) → Prop) (a1 : Int) (a2 : List Nat) (K : Bool → Prop) : spec_l06Is.bd w_spec_l00In w_spec_l01Finite a1 a2 K =
  (w_spec_l00In a1 (3 : Int) (16 : Int) fun y1 =>
  Go.K.ifB (!y1) (K Bool.false)
    (Go.K.ifB ((↑(List.length a2) : Int) != Go.IntKind.wrap Go.IntKind.i64 (a1 * a1)) (K Bool.false)
      (∀ (J2 : Int → Prop),
        (∀ (x3 : Int),
            Go.K.ifB (Decidable.decide (x3 < (↑(List.length a2) : Int)))
                (((0 : Int) ≤ x3 ∧ x3 < (↑(List.length a2) : Int)) ∧
                  w_spec_l01Finite (List.getD a2 (Int.toNat x3) (0 : Nat)) fun y4 =>
                    Go.K.ifB (!y4) (K Bool.false) (J2 (Go.IntKind.wrap Go.IntKind.i64 (x3 + (1 : Int)))))
                (K Bool.true) →
              J2 x3) →
          J2 (0 : Int)))) := by kernel_rfl
theorem spec_l06Is.eq (a1 : Int) (a2 : List Nat) (K : Bool → Prop) : spec_l06Is.wp a1 a2 K =
  (Go.K.flakes.spec_l00In.wp a1 (3 : Int) (16 : Int) fun y1 =>
  Go.K.ifB (!y1) (K Bool.false)
    (Go.K.ifB ((↑(List.length a2) : Int) != Go.IntKind.wrap Go.IntKind.i64 (a1 * a1)) (K Bool.false)
      (∀ (J2 : Int → Prop),
        (∀ (x3 : Int),
            Go.K.ifB (Decidable.decide (x3 < (↑(List.length a2) : Int)))
                (((0 : Int) ≤ x3 ∧ x3 < (↑(List.length a2) : Int)) ∧
                  Go.K.flakes.spec_l01Finite.wp (List.getD a2 (Int.toNat x3) (0 : Nat)) fun y4 =>
                    Go.K.ifB (!y4) (K Bool.false) (J2 (Go.IntKind.wrap Go.IntKind.i64 (x3 + (1 : Int)))))
                (K Bool.true) →
              J2 x3) →
          J2 (0 : Int)))) := spec_l06Is.tx spec_l00In.wp spec_l01Finite.wp a1 a2 K

theorem spec_ValidFlake.tx (w_spec_l06Is : Int → List Nat → (Bool → Prop) → Prop) (a1 : List Nat) (a2 : Int) (K : Bool → Prop) : spec_ValidFlake.bd w_spec_l06Is a1 a2 K =
  (w_spec_l06Is a2 a1 fun y1 => K y1) := by kernel_rfl
theorem spec_ValidFlake.eq (a1 : List Nat) (a2 : Int) (K : Bool → Prop) : spec_ValidFlake.wp a1 a2 K =
  (Go.K.flakes.spec_l06Is.wp a2 a1 fun y1 => K y1) := spec_ValidFlake.tx spec_l06Is.wp a1 a2 K

theorem impl_within.tx  (a1 : Int) (a2 : Int) (a3 : Int) (K : Bool → Prop) : impl_within.bd  a1 a2 a3 K =
  (Go.K.ifB (Decidable.decide (a2 ≤ a1)) (K (Decidable.decide (a1 ≤ a3))) (K Bool.false)) := by kernel_rfl
theorem impl_within.eq (a1 : Int) (a2 : Int) (a3 : Int) (K : Bool → Prop) : impl_within.wp a1 a2 a3 K =
  (Go.K.ifB (Decidable.decide (a2 ≤ a1)) (K (Decidable.decide (a1 ≤ a3))) (K Bool.false)) := impl_within.tx  a1 a2 a3 K

theorem impl_areFinite_1.tx (w_impl_IsFinite : Nat → (Bool → Prop) → Prop) (a1 : Nat) (K : Bool → Prop) : impl_areFinite_1.bd w_impl_IsFinite a1 K =
  (w_impl_IsFinite a1 fun y1 => K !y1) := by kernel_rfl
theorem impl_areFinite_1.eq (a1 : Nat) (K : Bool → Prop) : impl_areFinite_1.wp a1 K =
  (Go.K.flakes.impl_IsFinite.wp a1 fun y1 => K !y1) := impl_areFinite_1.tx impl_IsFinite.wp a1 K

theorem slices_IndexFunc_float32_float32__areFinite_1.tx (w_impl_areFinite_1 : Nat → (Bool → Prop) → Prop) (a1 : List Nat) (K : Int → Prop) : slices_IndexFunc_float32_float32__areFinite_1.bd w_impl_areFinite_1 a1 K =
  (∀ (J1 : Int → Int → Prop),
  (∀ (x2 x3 : Int),
      Go.K.ifB (Decidable.decide (x3 < x2))
          (((0 : Int) ≤ x3 ∧ x3 < (↑(List.length a1) : Int)) ∧
            w_impl_areFinite_1 (List.getD a1 (Int.toNat x3) (0 : Nat)) fun y4 => Go.K.ifB y4 (K x3) (J1 x2 (Go.IntKind.wrap Go.IntKind.i64 (x3 + (1 : Int)))))
          (K (-1 : Int)) →
        J1 x2 x3) →
    J1 (↑(List.length a1) : Int) (0 : Int)) := by kernel_rfl
theorem slices_IndexFunc_float32_float32__areFinite_1.eq (a1 : List Nat) (K : Int → Prop) : slices_IndexFunc_float32_float32__areFinite_1.wp a1 K =
  (∀ (J1 : Int → Int → Prop),
  (∀ (x2 x3 : Int),
      Go.K.ifB (Decidable.decide (x3 < x2))
          (((0 : Int) ≤ x3 ∧ x3 < (↑(List.length a1) : Int)) ∧
            Go.K.flakes.impl_areFinite_1.wp (List.getD a1 (Int.toNat x3) (0 : Nat)) fun y4 => Go.K.ifB y4 (K x3) (J1 x2 (Go.IntKind.wrap Go.IntKind.i64 (x3 + (1 : Int)))))
          (K (-1 : Int)) →
        J1 x2 x3) →
    J1 (↑(List.length a1) : Int) (0 : Int)) := slices_IndexFunc_float32_float32__areFinite_1.tx impl_areFinite_1.wp a1 K

theorem slices_ContainsFunc_float32_float32__areFinite_1.tx (w_slices_IndexFunc_float32_float32__areFinite_1 : List Nat → (Int → Prop) → Prop) (a1 : List Nat) (K : Bool → Prop) : slices_ContainsFunc_float32_float32__areFinite_1.bd w_slices_IndexFunc_float32_float32__areFinite_1 a1 K =
  (w_slices_IndexFunc_float32_float32__areFinite_1 a1 fun y1 => K (Decidable.decide (y1 ≥ (0 : Int)))) := by kernel_rfl
theorem slices_ContainsFunc_float32_float32__areFinite_1.eq (a1 : List Nat) (K : Bool → Prop) : slices_ContainsFunc_float32_float32__areFinite_1.wp a1 K =
  (Go.K.flakes.slices_IndexFunc_float32_float32__areFinite_1.wp a1 fun y1 => K (Decidable.decide (y1 ≥ (0 : Int)))) := slices_ContainsFunc_float32_float32__areFinite_1.tx slices_IndexFunc_float32_float32__areFinite_1.wp a1 K

theorem impl_areFinite.tx (w_slices_ContainsFunc_float32_float32__areFinite_1 : List Nat → (Bool → Prop) → Prop) (a1 : List Nat) (K : Bool → Prop) : impl_areFinite.bd w_slices_ContainsFunc_float32_float32__areFinite_1 a1 K =
  (w_slices_ContainsFunc_float32_float32__areFinite_1 a1 fun y1 => K !y1) := by kernel_rfl
theorem impl_areFinite.eq (a1 : List Nat) (K : Bool → Prop) : impl_areFinite.wp a1 K =
  (Go.K.flakes.slices_ContainsFunc_float32_float32__areFinite_1.wp a1 fun y1 => K !y1) := impl_areFinite.tx slices_ContainsFunc_float32_float32__areFinite_1.wp a1 K

theorem impl_ValidFlake.tx (w_impl_within : Int → Int → Int → (Bool → Prop) → Prop) (w_impl_areFinite : List Nat → (Bool → Prop) → Prop) (a1 : List Nat) (a2 : Int) (K : Bool → Prop) : impl_ValidFlake.bd w_impl_within w_impl_areFinite a1 a2 K =
  (w_impl_within a2 (3 : Int) (16 : Int) fun y1 =>
  Go.K.ifB y1 (Go.K.ifB ((↑(List.length a1) : Int) == Go.IntKind.wrap Go.IntKind.i64 (a2 * a2)) (w_impl_areFinite a1 fun y2 => K y2) (K Bool.false))
    (K Bool.false)) := by kernel_rfl
theorem impl_ValidFlake.eq (a1 : List Nat) (a2 : Int) (K : Bool → Prop) : impl_ValidFlake.wp a1 a2 K =
  (Go.K.flakes.impl_within.wp a2 (3 : Int) (16 : Int) fun y1 =>
  Go.K.ifB y1 (Go.K.ifB ((↑(List.length a1) : Int) == Go.IntKind.wrap Go.IntKind.i64 (a2 * a2)) (Go.K.flakes.impl_areFinite.wp a1 fun y2 => K y2) (K Bool.false))
    (K Bool.false)) := impl_ValidFlake.tx impl_within.wp impl_areFinite.wp a1 a2 K

theorem laws_FnExactValidFlake.tx (w_laws_szFlake : List Nat → Int → Int → (Int → Prop) → Prop) (w_laws_toFlake : List Nat → Int → (List Nat → Int → Prop) → Prop) (w_spec_ValidFlake : List Nat → Int → (Bool → Prop) → Prop) (w_impl_ValidFlake : List Nat → Int → (Bool → Prop) → Prop) (w_laws_eqFlake : List Nat → List Nat → Int → Int → (Bool → Prop) → Prop) (a1 : List Nat) (a2 : Int) (K : Bool → Prop) : laws_FnExactValidFlake.bd w_laws_szFlake w_laws_toFlake w_spec_ValidFlake w_impl_ValidFlake w_laws_eqFlake a1 a2 K =
  (w_laws_szFlake a1 a2 (1048576 : Int) fun y1 =>
  Go.K.ifB (Decidable.decide (y1 < (0 : Int))) (K Bool.true)
    (w_laws_toFlake a1 a2 fun y2 y3 =>
      w_spec_ValidFlake y2 y3 fun y4 =>
        w_laws_toFlake a1 a2 fun y5 y6 =>
          w_impl_ValidFlake y5 y6 fun y7 =>
            Go.K.ifB (y7 != y4) (K Bool.false)
              (w_laws_toFlake a1 a2 fun y8 y9 => w_laws_eqFlake y5 y8 y6 y9 fun y10 => Go.K.ifB (!y10) (K Bool.false) (K Bool.true)))) := by kernel_rfl
theorem laws_FnExactValidFlake.eq (a1 : List Nat) (a2 : Int) (K : Bool → Prop) : laws_FnExactValidFlake.wp a1 a2 K =
  (Go.K.flakes.laws_szFlake.wp a1 a2 (1048576 : Int) fun y1 =>
  Go.K.ifB (Decidable.decide (y1 < (0 : Int))) (K Bool.true)
    (Go.K.flakes.laws_toFlake.wp a1 a2 fun y2 y3 =>
      Go.K.flakes.spec_ValidFlake.wp y2 y3 fun y4 =>
        Go.K.flakes.laws_toFlake.wp a1 a2 fun y5 y6 =>
          Go.K.flakes.impl_ValidFlake.wp y5 y6 fun y7 =>
            Go.K.ifB (y7 != y4) (K Bool.false)
              (Go.K.flakes.laws_toFlake.wp a1 a2 fun y8 y9 => Go.K.flakes.laws_eqFlake.wp y5 y8 y6 y9 fun y10 => Go.K.ifB (!y10) (K Bool.false) (K Bool.true)))) := laws_FnExactValidFlake.tx laws_szFlake.wp laws_toFlake.wp spec_ValidFlake.wp impl_ValidFlake.wp laws_eqFlake.wp a1 a2 K

theorem spec_l06Middle.tx  (a1 : Int) (K : Int → Prop) : spec_l06Middle.bd  a1 K =
  (K
  (Go.IntKind.wrap Go.IntKind.i64
    (Go.IntKind.wrap Go.IntKind.i64 (Int.tdiv a1 (2 : Int)) + Go.IntKind.wrap Go.IntKind.i64 (a1 * Go.IntKind.wrap Go.IntKind.i64 (Int.tdiv a1 (2 : Int)))))) := by kernel_rfl
theorem spec_l06Middle.eq (a1 : Int) (K : Int → Prop) : spec_l06Middle.wp a1 K =
  (K
  (Go.IntKind.wrap Go.IntKind.i64
    (Go.IntKind.wrap Go.IntKind.i64 (Int.tdiv a1 (2 : Int)) + Go.IntKind.wrap Go.IntKind.i64 (a1 * Go.IntKind.wrap Go.IntKind.i64 (Int.tdiv a1 (2 : Int)))))) := spec_l06Middle.tx  a1 K

theorem spec_l06New.tx (w_spec_l06Middle : Int → (Int → Prop) → Prop) (a1 : Int) (a2 : Nat) (K : List Nat → Int → Prop) : spec_l06New.bd w_spec_l06Middle a1 a2 K =
  (∀ (J1 : Int → Int → List Nat → List Nat → Int → Prop),
  (∀ (x2 x3 : Int) (x4 x5 : List Nat) (x6 : Int),
      Go.K.ifB (Decidable.decide (x6 < Go.IntKind.wrap Go.IntKind.i64 (a1 * a1)))
          (List.length (x5 ++ a2 :: List.replicate (0 : Nat) (0 : Nat)) ≤ (1099511627776 : Nat) ∧
            J1 x2 x3 x4 (x5 ++ a2 :: List.replicate (0 : Nat) (0 : Nat)) (Go.IntKind.wrap Go.IntKind.i64 (x6 + (1 : Int))))
          (w_spec_l06Middle a1 fun y7 => ((0 : Int) ≤ y7 ∧ y7 < (↑(List.length x5) : Int)) ∧ K (List.set x5 (Int.toNat y7) (1065353216 : Nat)) x3) →
        J1 x2 x3 x4 x5 x6) →
    J1 (0 : Int) a1 [] (List.replicate (0 : Nat) (0 : Nat)) (0 : Int)) := by kernel_rfl
theorem spec_l06New.eq (a1 : Int) (a2 : Nat) (K : List Nat → Int → Prop) : spec_l06New.wp a1 a2 K =
  (∀ (J1 : Int → Int → List Nat → List Nat → Int → Prop),
  (∀ (x2 x3 : Int) (x4 x5 : List Nat) (x6 : Int),
      Go.K.ifB (Decidable.decide (x6 < Go.IntKind.wrap Go.IntKind.i64 (a1 * a1)))
          (List.length (x5 ++ a2 :: List.replicate (0 : Nat) (0 : Nat)) ≤ (1099511627776 : Nat) ∧
            J1 x2 x3 x4 (x5 ++ a2 :: List.replicate (0 : Nat) (0 : Nat)) (Go.IntKind.wrap Go.IntKind.i64 (x6 + (1 : Int))))
          (Go.K.flakes.spec_l06Middle.wp a1 fun y7 => ((0 : Int) ≤ y7 ∧ y7 < (↑(List.length x5) : Int)) ∧ K (List.set x5 (Int.toNat y7) (1065353216 : Nat)) x3) →
        J1 x2 x3 x4 x5 x6) →
    J1 (0 : Int) a1 [] (List.replicate (0 : Nat) (0 : Nat)) (0 : Int)) := spec_l06New.tx spec_l06Middle.wp a1 a2 K

theorem spec_NewFlake.tx (w_spec_l00In : Int → Int → Int → (Bool → Prop) → Prop) (w_spec_l01Finite : Nat → (Bool → Prop) → Prop) (w_spec_l06New : Int → Nat → (List Nat → Int → Prop) → Prop) (a1 : Int) (a2 : Nat) (K : List Nat → Int → Bool → Prop) : spec_NewFlake.bd w_spec_l00In w_spec_l01Finite w_spec_l06New a1 a2 K =
  (w_spec_l00In a1 (3 : Int) (16 : Int) fun y1 =>
  Go.K.ifB (!y1) (K [] (0 : Int) Bool.false)
    (w_spec_l01Finite a2 fun y2 => Go.K.ifB (!y2) (K [] (0 : Int) Bool.false) (w_spec_l06New a1 a2 fun y3 y4 => K y3 y4 Bool.true))) := by kernel_rfl
theorem spec_NewFlake.eq (a1 : Int) (a2 : Nat) (K : List Nat → Int → Bool → Prop) : spec_NewFlake.wp a1 a2 K =
  (Go.K.flakes.spec_l00In.wp a1 (3 : Int) (16 : Int) fun y1 =>
  Go.K.ifB (!y1) (K [] (0 : Int) Bool.false)
    (Go.K.flakes.spec_l01Finite.wp a2 fun y2 => Go.K.ifB (!y2) (K [] (0 : Int) Bool.false) (Go.K.flakes.spec_l06New.wp a1 a2 fun y3 y4 => K y3 y4 Bool.true))) := spec_NewFlake.tx spec_l00In.wp spec_l01Finite.wp spec_l06New.wp a1 a2 K

theorem impl_NewFlake_1.tx  (a1 : Int) (a2 : Nat) (a3 : Int) (a4 : Int) (K : Nat → Prop) : impl_NewFlake_1.bd  a1 a2 a3 a4 K =
  (Go.K.ifB (a3 == Go.IntKind.wrap Go.IntKind.i64 (Int.tdiv a1 (2 : Int))) (Go.K.ifB (a4 == Go.IntKind.wrap Go.IntKind.i64 (Int.tdiv a1 (2 : Int))) (K (1065353216 : Nat)) (K a2))
  (K a2)) := by kernel_rfl
theorem impl_NewFlake_1.eq (a1 : Int) (a2 : Nat) (a3 : Int) (a4 : Int) (K : Nat → Prop) : impl_NewFlake_1.wp a1 a2 a3 a4 K =
  (Go.K.ifB (a3 == Go.IntKind.wrap Go.IntKind.i64 (Int.tdiv a1 (2 : Int))) (Go.K.ifB (a4 == Go.IntKind.wrap Go.IntKind.i64 (Int.tdiv a1 (2 : Int))) (K (1065353216 : Nat)) (K a2))
  (K a2)) := impl_NewFlake_1.tx  a1 a2 a3 a4 K

theorem impl_frozen__NewFlake_1.tx (w_impl_NewFlake_1 : Int → Nat → Int → Int → (Nat → Prop) → Prop) (w_impl_ValidFlake : List Nat → Int → (Bool → Prop) → Prop) (a1 : Int) (a2 : Nat) (a3 : Int) (K : List Nat → Int → Bool → Prop) : impl_frozen__NewFlake_1.bd w_impl_NewFlake_1 w_impl_ValidFlake a1 a2 a3 K =
  (∀ (J1 : Int → Int → List Nat → List Nat → Int → Int → Prop),
  (∀ (x2 x3 : Int) (x4 x5 : List Nat) (x6 x7 : Int),
      Go.K.ifB (Decidable.decide (x7 < x6))
          (∀ (J8 : Int → Int → List Nat → List Nat → Int → Int → Int → Int → Int → Prop),
            (∀ (x9 x10 : Int) (x11 x12 : List Nat) (x13 x14 x15 x16 x17 : Int),
                Go.K.ifB (Decidable.decide (x17 < x16))
                    (w_impl_NewFlake_1 a1 a2 x17 x13 fun y18 =>
                      List.length (x12 ++ y18 :: List.replicate (0 : Nat) (0 : Nat)) ≤ (1099511627776 : Nat) ∧
                        J8 x9 x10 x11 (x12 ++ y18 :: List.replicate (0 : Nat) (0 : Nat)) x13 x14 x15 x16 (Go.IntKind.wrap Go.IntKind.i64 (x17 + (1 : Int))))
                    (J1 x9 x10 x11 x12 x14 (Go.IntKind.wrap Go.IntKind.i64 (x15 + (1 : Int)))) →
                  J8 x9 x10 x11 x12 x13 x14 x15 x16 x17) →
              J8 x2 x3 x4 x5 x7 x6 x7 a3 (0 : Int))
          (w_impl_ValidFlake x5 x3 fun y21 => Go.K.ifB (!y21) (K [] (0 : Int) Bool.false) (K x5 x3 Bool.true)) →
        J1 x2 x3 x4 x5 x6 x7) →
    J1 (0 : Int) a3 [] [] a3 (0 : Int)) := by kernel_rfl
theorem impl_frozen__NewFlake_1.eq (a1 : Int) (a2 : Nat) (a3 : Int) (K : List Nat → Int → Bool → Prop) : impl_frozen__NewFlake_1.wp a1 a2 a3 K =
  (∀ (J1 : Int → Int → List Nat → List Nat → Int → Int → Prop),
  (∀ (x2 x3 : Int) (x4 x5 : List Nat) (x6 x7 : Int),
      Go.K.ifB (Decidable.decide (x7 < x6))
          (∀ (J8 : Int → Int → List Nat → List Nat → Int → Int → Int → Int → Int → Prop),
            (∀ (x9 x10 : Int) (x11 x12 : List Nat) (x13 x14 x15 x16 x17 : Int),
                Go.K.ifB (Decidable.decide (x17 < x16))
                    (Go.K.flakes.impl_NewFlake_1.wp a1 a2 x17 x13 fun y18 =>
                      List.length (x12 ++ y18 :: List.replicate (0 : Nat) (0 : Nat)) ≤ (1099511627776 : Nat) ∧
                        J8 x9 x10 x11 (x12 ++ y18 :: List.replicate (0 : Nat) (0 : Nat)) x13 x14 x15 x16 (Go.IntKind.wrap Go.IntKind.i64 (x17 + (1 : Int))))
                    (J1 x9 x10 x11 x12 x14 (Go.IntKind.wrap Go.IntKind.i64 (x15 + (1 : Int)))) →
                  J8 x9 x10 x11 x12 x13 x14 x15 x16 x17) →
              J8 x2 x3 x4 x5 x7 x6 x7 a3 (0 : Int))
          (Go.K.flakes.impl_ValidFlake.wp x5 x3 fun y21 => Go.K.ifB (!y21) (K [] (0 : Int) Bool.false) (K x5 x3 Bool.true)) →
        J1 x2 x3 x4 x5 x6 x7) →
    J1 (0 : Int) a3 [] [] a3 (0 : Int)) := impl_frozen__NewFlake_1.tx impl_NewFlake_1.wp impl_ValidFlake.wp a1 a2 a3 K

theorem impl_NewFlake.tx (w_impl_within : Int → Int → Int → (Bool → Prop) → Prop) (w_impl_IsFinite : Nat → (Bool → Prop) → Prop) (w_impl_frozen__NewFlake_1 : Int → Nat → Int → (List Nat → Int → Bool → Prop) → Prop) (a1 : Int) (a2 : Nat) (K : List Nat → Int → Bool → Prop) : impl_NewFlake.bd w_impl_within w_impl_IsFinite w_impl_frozen__NewFlake_1 a1 a2 K =
  (w_impl_within a1 (3 : Int) (16 : Int) fun y1 =>
  Go.K.ifB (!y1) (K [] (0 : Int) Bool.false)
    (w_impl_IsFinite a2 fun y2 =>
      Go.K.ifB (!y2) (K [] (0 : Int) Bool.false) (w_impl_frozen__NewFlake_1 a1 a2 a1 fun y3 y4 y5 => K y3 y4 y5))) := by kernel_rfl
theorem impl_NewFlake.eq (a1 : Int) (a2 : Nat) (K : List Nat → Int → Bool → Prop) : impl_NewFlake.wp a1 a2 K =
  (Go.K.flakes.impl_within.wp a1 (3 : Int) (16 : Int) fun y1 =>
  Go.K.ifB (!y1) (K [] (0 : Int) Bool.false)
    (Go.K.flakes.impl_IsFinite.wp a2 fun y2 =>
      Go.K.ifB (!y2) (K [] (0 : Int) Bool.false) (Go.K.flakes.impl_frozen__NewFlake_1.wp a1 a2 a1 fun y3 y4 y5 => K y3 y4 y5))) := impl_NewFlake.tx impl_within.wp impl_IsFinite.wp impl_frozen__NewFlake_1.wp a1 a2 K

theorem laws_markFloat32S.tx  (a1 : List Nat) (a2 : Int) (K : List Nat → Int → Prop) : laws_markFloat32S.bd  a1 a2 K =
  (∀ (J1 : List Nat → Int → Int → Prop),
  (∀ (x2 : List Nat) (x3 x4 : Int),
      Go.K.ifB (Decidable.decide (x4 < (↑(List.length a1) : Int)))
          (((0 : Int) ≤ x4 ∧ x4 < (↑(List.length a1) : Int)) ∧
            J1 (List.set x2 (Int.toNat x4) (Go.K.fofint Go.FloatKind.f32 x3)) (Go.IntKind.wrap Go.IntKind.i64 (x3 + (1 : Int))) (Go.IntKind.wrap Go.IntKind.i64 (x4 + (1 : Int))))
          (K x2 x3) →
        J1 x2 x3 x4) →
    J1 a1 a2 (0 : Int)) := by kernel_rfl
theorem laws_markFloat32S.eq (a1 : List Nat) (a2 : Int) (K : List Nat → Int → Prop) : laws_markFloat32S.wp a1 a2 K =
  (∀ (J1 : List Nat → Int → Int → Prop),
  (∀ (x2 : List Nat) (x3 x4 : Int),
      Go.K.ifB (Decidable.decide (x4 < (↑(List.length a1) : Int)))
          (((0 : Int) ≤ x4 ∧ x4 < (↑(List.length a1) : Int)) ∧
            J1 (List.set x2 (Int.toNat x4) (Go.K.fofint Go.FloatKind.f32 x3)) (Go.IntKind.wrap Go.IntKind.i64 (x3 + (1 : Int))) (Go.IntKind.wrap Go.IntKind.i64 (x4 + (1 : Int))))
          (K x2 x3) →
        J1 x2 x3 x4) →
    J1 a1 a2 (0 : Int)) := laws_markFloat32S.tx  a1 a2 K

theorem laws_markFlake.tx (w_laws_markFloat32S : List Nat → Int → (List Nat → Int → Prop) → Prop) (a1 : List Nat) (a2 : Int) (a3 : Int) (K : List Nat → Int → Prop) : laws_markFlake.bd w_laws_markFloat32S a1 a2 a3 K =
  (w_laws_markFloat32S a1 a3 fun y1 y2 => K y1 y2) := by kernel_rfl
theorem laws_markFlake.eq (a1 : List Nat) (a2 : Int) (a3 : Int) (K : List Nat → Int → Prop) : laws_markFlake.wp a1 a2 a3 K =
  (Go.K.flakes.laws_markFloat32S.wp a1 a3 fun y1 y2 => K y1 y2) := laws_markFlake.tx laws_markFloat32S.wp a1 a2 a3 K

theorem laws_heldFloat32S.tx  (a1 : List Nat) (a2 : Int) (K : Int → Prop) : laws_heldFloat32S.bd  a1 a2 K =
  (∀ (J1 : Int → Int → Prop),
  (∀ (x2 x3 : Int),
      Go.K.ifB (Decidable.decide (x3 < (↑(List.length a1) : Int)))
          (((0 : Int) ≤ x3 ∧ x3 < (↑(List.length a1) : Int)) ∧
            Go.K.ifB (Go.K.fne Go.FloatKind.f32 (List.getD a1 (Int.toNat x3) (0 : Nat)) (Go.K.fofint Go.FloatKind.f32 x2)) (K (-1 : Int))
              (J1 (Go.IntKind.wrap Go.IntKind.i64 (x2 + (1 : Int))) (Go.IntKind.wrap Go.IntKind.i64 (x3 + (1 : Int)))))
          (K x2) →
        J1 x2 x3) →
    J1 a2 (0 : Int)) := by kernel_rfl
theorem laws_heldFloat32S.eq (a1 : List Nat) (a2 : Int) (K : Int → Prop) : laws_heldFloat32S.wp a1 a2 K =
  (∀ (J1 : Int → Int → Prop),
  (∀ (x2 x3 : Int),
      Go.K.ifB (Decidable.decide (x3 < (↑(List.length a1) : Int)))
          (((0 : Int) ≤ x3 ∧ x3 < (↑(List.length a1) : Int)) ∧
            Go.K.ifB (Go.K.fne Go.FloatKind.f32 (List.getD a1 (Int.toNat x3) (0 : Nat)) (Go.K.fofint Go.FloatKind.f32 x2)) (K (-1 : Int))
              (J1 (Go.IntKind.wrap Go.IntKind.i64 (x2 + (1 : Int))) (Go.IntKind.wrap Go.IntKind.i64 (x3 + (1 : Int)))))
          (K x2) →
        J1 x2 x3) →
    J1 a2 (0 : Int)) := laws_heldFloat32S.tx  a1 a2 K

theorem laws_heldFlake.tx (w_laws_heldFloat32S : List Nat → Int → (Int → Prop) → Prop) (a1 : List Nat) (a2 : Int) (a3 : Int) (K : Int → Prop) : laws_heldFlake.bd w_laws_heldFloat32S a1 a2 a3 K =
  (w_laws_heldFloat32S a1 a3 fun y1 => Go.K.ifB (Decidable.decide (y1 < (0 : Int))) (K (-1 : Int)) (K y1)) := by kernel_rfl
theorem laws_heldFlake.eq (a1 : List Nat) (a2 : Int) (a3 : Int) (K : Int → Prop) : laws_heldFlake.wp a1 a2 a3 K =
  (Go.K.flakes.laws_heldFloat32S.wp a1 a3 fun y1 => Go.K.ifB (Decidable.decide (y1 < (0 : Int))) (K (-1 : Int)) (K y1)) := laws_heldFlake.tx laws_heldFloat32S.wp a1 a2 a3 K

theorem laws_FnExactNewFlake.tx (w_spec_NewFlake : Int → Nat → (List Nat → Int → Bool → Prop) → Prop) (w_impl_NewFlake : Int → Nat → (List Nat → Int → Bool → Prop) → Prop) (w_laws_eqFlake : List Nat → List Nat → Int → Int → (Bool → Prop) → Prop) (w_laws_markFlake : List Nat → Int → Int → (List Nat → Int → Prop) → Prop) (w_laws_heldFlake : List Nat → Int → Int → (Int → Prop) → Prop) (a1 : Int) (a2 : Nat) (K : Bool → Prop) : laws_FnExactNewFlake.bd w_spec_NewFlake w_impl_NewFlake w_laws_eqFlake w_laws_markFlake w_laws_heldFlake a1 a2 K =
  (w_spec_NewFlake a1 a2 fun y1 y2 y3 =>
  w_impl_NewFlake a1 a2 fun y4 y5 y6 =>
    w_laws_eqFlake y4 y1 y5 y2 fun y7 =>
      Go.K.ifB (!y7) (K Bool.false)
        (Go.K.ifB (y6 != y3) (K Bool.false)
          (w_laws_markFlake y4 y5 (1 : Int) fun y8 y9 =>
            w_laws_heldFlake y8 y5 (1 : Int) fun y10 =>
              Go.K.ifB (Decidable.decide (y10 < (0 : Int))) (K Bool.false)
                (Go.K.ifB (y10 != y9) (K Bool.false)
                  (w_impl_NewFlake a1 a2 fun y11 y12 y13 =>
                    w_laws_eqFlake y11 y1 y12 y2 fun y14 =>
                      Go.K.ifB (!y14) (K Bool.false)
                        (Go.K.ifB (y13 != y3) (K Bool.false)
                          (w_laws_heldFlake y8 y5 (1 : Int) fun y15 =>
                            Go.K.ifB (Decidable.decide (y15 < (0 : Int))) (K Bool.false) (Go.K.ifB (y15 != y9) (K Bool.false) (K Bool.true))))))))) := by kernel_rfl
theorem laws_FnExactNewFlake.eq (a1 : Int) (a2 : Nat) (K : Bool → Prop) : laws_FnExactNewFlake.wp a1 a2 K =
  (Go.K.flakes.spec_NewFlake.wp a1 a2 fun y1 y2 y3 =>
  Go.K.flakes.impl_NewFlake.wp a1 a2 fun y4 y5 y6 =>
    Go.K.flakes.laws_eqFlake.wp y4 y1 y5 y2 fun y7 =>
      Go.K.ifB (!y7) (K Bool.false)
        (Go.K.ifB (y6 != y3) (K Bool.false)
          (Go.K.flakes.laws_markFlake.wp y4 y5 (1 : Int) fun y8 y9 =>
            Go.K.flakes.laws_heldFlake.wp y8 y5 (1 : Int) fun y10 =>
              Go.K.ifB (Decidable.decide (y10 < (0 : Int))) (K Bool.false)
                (Go.K.ifB (y10 != y9) (K Bool.false)
                  (Go.K.flakes.impl_NewFlake.wp a1 a2 fun y11 y12 y13 =>
                    Go.K.flakes.laws_eqFlake.wp y11 y1 y12 y2 fun y14 =>
                      Go.K.ifB (!y14) (K Bool.false)
                        (Go.K.ifB (y13 != y3) (K Bool.false)
                          (Go.K.flakes.laws_heldFlake.wp y8 y5 (1 : Int) fun y15 =>
                            Go.K.ifB (Decidable.decide (y15 < (0 : Int))) (K Bool.false) (Go.K.ifB (y15 != y9) (K Bool.false) (K Bool.true))))))))) := laws_FnExactNewFlake.tx spec_NewFlake.wp impl_NewFlake.wp laws_eqFlake.wp laws_markFlake.wp laws_heldFlake.wp a1 a2 K

theorem spec_l06Ice.tx  (a1 : Int) (a2 : List Nat) (K : List Int → Prop) : spec_l06Ice.bd  a1 a2 K =
  (∀ (J1 : List Int → Int → Prop),
  (∀ (x2 : List Int) (x3 : Int),
      Go.K.ifB (Decidable.decide (x3 < (↑(List.length a2) : Int)))
          (((0 : Int) ≤ x3 ∧ x3 < (↑(List.length a2) : Int)) ∧
            Go.K.ifB (Go.K.fge Go.FloatKind.f32 (List.getD a2 (Int.toNat x3) (0 : Nat)) (1065353216 : Nat))
              (List.length (x2 ++ x3 :: List.replicate (0 : Nat) (0 : Int)) ≤ (1099511627776 : Nat) ∧
                J1 (x2 ++ x3 :: List.replicate (0 : Nat) (0 : Int)) (Go.IntKind.wrap Go.IntKind.i64 (x3 + (1 : Int))))
              (J1 x2 (Go.IntKind.wrap Go.IntKind.i64 (x3 + (1 : Int)))))
          (K x2) →
        J1 x2 x3) →
    J1 (List.replicate (0 : Nat) (0 : Int)) (0 : Int)) := by kernel_rfl
theorem spec_l06Ice.eq (a1 : Int) (a2 : List Nat) (K : List Int → Prop) : spec_l06Ice.wp a1 a2 K =
  (∀ (J1 : List Int → Int → Prop),
  (∀ (x2 : List Int) (x3 : Int),
      Go.K.ifB (Decidable.decide (x3 < (↑(List.length a2) : Int)))
          (((0 : Int) ≤ x3 ∧ x3 < (↑(List.length a2) : Int)) ∧
            Go.K.ifB (Go.K.fge Go.FloatKind.f32 (List.getD a2 (Int.toNat x3) (0 : Nat)) (1065353216 : Nat))
              (List.length (x2 ++ x3 :: List.replicate (0 : Nat) (0 : Int)) ≤ (1099511627776 : Nat) ∧
                J1 (x2 ++ x3 :: List.replicate (0 : Nat) (0 : Int)) (Go.IntKind.wrap Go.IntKind.i64 (x3 + (1 : Int))))
              (J1 x2 (Go.IntKind.wrap Go.IntKind.i64 (x3 + (1 : Int)))))
          (K x2) →
        J1 x2 x3) →
    J1 (List.replicate (0 : Nat) (0 : Int)) (0 : Int)) := spec_l06Ice.tx  a1 a2 K

theorem spec_l00Max.tx  (a1 : Int) (a2 : Int) (K : Int → Prop) : spec_l00Max.bd  a1 a2 K =
  (Go.K.ifB (Decidable.decide (a1 > a2)) (K a1) (K a2)) := by kernel_rfl
theorem spec_l00Max.eq (a1 : Int) (a2 : Int) (K : Int → Prop) : spec_l00Max.wp a1 a2 K =
  (Go.K.ifB (Decidable.decide (a1 > a2)) (K a1) (K a2)) := spec_l00Max.tx  a1 a2 K

theorem spec_ReachOfFlake.tx (w_spec_l06Is : Int → List Nat → (Bool → Prop) → Prop) (w_spec_l06Ice : Int → List Nat → (List Int → Prop) → Prop) (w_spec_l00Max : Int → Int → (Int → Prop) → Prop) (a1 : List Nat) (a2 : Int) (K : Int → Bool → Prop) : spec_ReachOfFlake.bd w_spec_l06Is w_spec_l06Ice w_spec_l00Max a1 a2 K =
  (w_spec_l06Is a2 a1 fun y1 =>
  Go.K.ifB (!y1) (K (0 : Int) Bool.false)
    (w_spec_l06Ice a2 a1 fun y2 =>
      ∀ (J3 : Int → List Int → Int → Int → Prop),
        (∀ (x4 : Int) (x5 : List Int) (x6 x7 : Int),
            Go.K.ifB (Decidable.decide (x7 < (↑(List.length x5) : Int)))
                (((0 : Int) ≤ x7 ∧ x7 < (↑(List.length x5) : Int)) ∧
                  x4 ≠ (0 : Int) ∧
                    ((0 : Int) ≤ x7 ∧ x7 < (↑(List.length x5) : Int)) ∧
                      x4 ≠ (0 : Int) ∧
                        w_spec_l00Max
                          (Go.IntKind.wrap Go.IntKind.i64 (Int.tmod (List.getD x5 (Int.toNat x7) (0 : Int)) x4 - Go.IntKind.wrap Go.IntKind.i64 (Int.tdiv x4 (2 : Int))))
                          (Go.IntKind.wrap Go.IntKind.i64
                            ((0 : Int) -
                              Go.IntKind.wrap Go.IntKind.i64 (Int.tmod (List.getD x5 (Int.toNat x7) (0 : Int)) x4 - Go.IntKind.wrap Go.IntKind.i64 (Int.tdiv x4 (2 : Int)))))
                          fun y8 =>
                          w_spec_l00Max
                            (Go.IntKind.wrap Go.IntKind.i64
                              (Go.IntKind.wrap Go.IntKind.i64 (Int.tdiv (List.getD x5 (Int.toNat x7) (0 : Int)) x4) - Go.IntKind.wrap Go.IntKind.i64 (Int.tdiv x4 (2 : Int))))
                            (Go.IntKind.wrap Go.IntKind.i64
                              ((0 : Int) -
                                Go.IntKind.wrap Go.IntKind.i64
                                  (Go.IntKind.wrap Go.IntKind.i64 (Int.tdiv (List.getD x5 (Int.toNat x7) (0 : Int)) x4) - Go.IntKind.wrap Go.IntKind.i64 (Int.tdiv x4 (2 : Int)))))
                            fun y9 =>
                            w_spec_l00Max
                              (Go.IntKind.wrap Go.IntKind.i64
                                (Go.IntKind.wrap Go.IntKind.i64 (Int.tmod (List.getD x5 (Int.toNat x7) (0 : Int)) x4 - Go.IntKind.wrap Go.IntKind.i64 (Int.tdiv x4 (2 : Int))) +
                                  Go.IntKind.wrap Go.IntKind.i64
                                    (Go.IntKind.wrap Go.IntKind.i64 (Int.tdiv (List.getD x5 (Int.toNat x7) (0 : Int)) x4) -
                                      Go.IntKind.wrap Go.IntKind.i64 (Int.tdiv x4 (2 : Int)))))
                              (Go.IntKind.wrap Go.IntKind.i64
                                (Go.IntKind.wrap Go.IntKind.i64
                                    ((0 : Int) -
                                      Go.IntKind.wrap Go.IntKind.i64
                                        (Int.tmod (List.getD x5 (Int.toNat x7) (0 : Int)) x4 - Go.IntKind.wrap Go.IntKind.i64 (Int.tdiv x4 (2 : Int)))) -
                                  Go.IntKind.wrap Go.IntKind.i64
                                    (Go.IntKind.wrap Go.IntKind.i64 (Int.tdiv (List.getD x5 (Int.toNat x7) (0 : Int)) x4) -
                                      Go.IntKind.wrap Go.IntKind.i64 (Int.tdiv x4 (2 : Int)))))
                              fun y10 =>
                              w_spec_l00Max y9 y10 fun y11 =>
                                w_spec_l00Max y8 y11 fun y12 =>
                                  w_spec_l00Max x6 y12 fun y13 => J3 x4 x5 y13 (Go.IntKind.wrap Go.IntKind.i64 (x7 + (1 : Int))))
                (Go.K.ifB (Decidable.decide (x6 < (0 : Int))) (K (0 : Int) Bool.false) (K x6 Bool.true)) →
              J3 x4 x5 x6 x7) →
          J3 a2 y2 (-1 : Int) (0 : Int))) := by kernel_rfl
theorem spec_ReachOfFlake.eq (a1 : List Nat) (a2 : Int) (K : Int → Bool → Prop) : spec_ReachOfFlake.wp a1 a2 K =
  (Go.K.flakes.spec_l06Is.wp a2 a1 fun y1 =>
  Go.K.ifB (!y1) (K (0 : Int) Bool.false)
    (Go.K.flakes.spec_l06Ice.wp a2 a1 fun y2 =>
      ∀ (J3 : Int → List Int → Int → Int → Prop),
        (∀ (x4 : Int) (x5 : List Int) (x6 x7 : Int),
            Go.K.ifB (Decidable.decide (x7 < (↑(List.length x5) : Int)))
                (((0 : Int) ≤ x7 ∧ x7 < (↑(List.length x5) : Int)) ∧
                  x4 ≠ (0 : Int) ∧
                    ((0 : Int) ≤ x7 ∧ x7 < (↑(List.length x5) : Int)) ∧
                      x4 ≠ (0 : Int) ∧
                        Go.K.flakes.spec_l00Max.wp
                          (Go.IntKind.wrap Go.IntKind.i64 (Int.tmod (List.getD x5 (Int.toNat x7) (0 : Int)) x4 - Go.IntKind.wrap Go.IntKind.i64 (Int.tdiv x4 (2 : Int))))
                          (Go.IntKind.wrap Go.IntKind.i64
                            ((0 : Int) -
                              Go.IntKind.wrap Go.IntKind.i64 (Int.tmod (List.getD x5 (Int.toNat x7) (0 : Int)) x4 - Go.IntKind.wrap Go.IntKind.i64 (Int.tdiv x4 (2 : Int)))))
                          fun y8 =>
                          Go.K.flakes.spec_l00Max.wp
                            (Go.IntKind.wrap Go.IntKind.i64
                              (Go.IntKind.wrap Go.IntKind.i64 (Int.tdiv (List.getD x5 (Int.toNat x7) (0 : Int)) x4) - Go.IntKind.wrap Go.IntKind.i64 (Int.tdiv x4 (2 : Int))))
                            (Go.IntKind.wrap Go.IntKind.i64
                              ((0 : Int) -
                                Go.IntKind.wrap Go.IntKind.i64
                                  (Go.IntKind.wrap Go.IntKind.i64 (Int.tdiv (List.getD x5 (Int.toNat x7) (0 : Int)) x4) - Go.IntKind.wrap Go.IntKind.i64 (Int.tdiv x4 (2 : Int)))))
                            fun y9 =>
                            Go.K.flakes.spec_l00Max.wp
                              (Go.IntKind.wrap Go.IntKind.i64
                                (Go.IntKind.wrap Go.IntKind.i64 (Int.tmod (List.getD x5 (Int.toNat x7) (0 : Int)) x4 - Go.IntKind.wrap Go.IntKind.i64 (Int.tdiv x4 (2 : Int))) +
                                  Go.IntKind.wrap Go.IntKind.i64
                                    (Go.IntKind.wrap Go.IntKind.i64 (Int.tdiv (List.getD x5 (Int.toNat x7) (0 : Int)) x4) -
                                      Go.IntKind.wrap Go.IntKind.i64 (Int.tdiv x4 (2 : Int)))))
                              (Go.IntKind.wrap Go.IntKind.i64
                                (Go.IntKind.wrap Go.IntKind.i64
                                    ((0 : Int) -
                                      Go.IntKind.wrap Go.IntKind.i64
                                        (Int.tmod (List.getD x5 (Int.toNat x7) (0 : Int)) x4 - Go.IntKind.wrap Go.IntKind.i64 (Int.tdiv x4 (2 : Int)))) -
                                  Go.IntKind.wrap Go.IntKind.i64
                                    (Go.IntKind.wrap Go.IntKind.i64 (Int.tdiv (List.getD x5 (Int.toNat x7) (0 : Int)) x4) -
                                      Go.IntKind.wrap Go.IntKind.i64 (Int.tdiv x4 (2 : Int)))))
                              fun y10 =>
                              Go.K.flakes.spec_l00Max.wp y9 y10 fun y11 =>
                                Go.K.flakes.spec_l00Max.wp y8 y11 fun y12 =>
                                  Go.K.flakes.spec_l00Max.wp x6 y12 fun y13 => J3 x4 x5 y13 (Go.IntKind.wrap Go.IntKind.i64 (x7 + (1 : Int))))
                (Go.K.ifB (Decidable.decide (x6 < (0 : Int))) (K (0 : Int) Bool.false) (K x6 Bool.true)) →
              J3 x4 x5 x6 x7) →
          J3 a2 y2 (-1 : Int) (0 : Int))) := spec_ReachOfFlake.tx spec_l06Is.wp spec_l06Ice.wp spec_l00Max.wp a1 a2 K

theorem impl_Flake_ice.tx  (a1 : List Nat) (a2 : Int) (K : List Int → Prop) : impl_Flake_ice.bd  a1 a2 K =
  (∀ (J1 : List Int → Int → Int → Prop),
  (∀ (x2 : List Int) (x3 x4 : Int),
      Go.K.ifB (Decidable.decide (x4 < x3))
          (((0 : Int) ≤ x4 ∧ x4 < (↑(List.length a1) : Int)) ∧
            Go.K.ifB (Go.K.fge Go.FloatKind.f32 (List.getD a1 (Int.toNat x4) (0 : Nat)) (1065353216 : Nat))
              (List.length (x2 ++ x4 :: List.replicate (0 : Nat) (0 : Int)) ≤ (1099511627776 : Nat) ∧
                J1 (x2 ++ x4 :: List.replicate (0 : Nat) (0 : Int)) x3 (Go.IntKind.wrap Go.IntKind.i64 (x4 + (1 : Int))))
              (J1 x2 x3 (Go.IntKind.wrap Go.IntKind.i64 (x4 + (1 : Int)))))
          (K x2) →
        J1 x2 x3 x4) →
    J1 (List.replicate (0 : Nat) (0 : Int)) (↑(List.length a1) : Int) (0 : Int)) := by kernel_rfl
theorem impl_Flake_ice.eq (a1 : List Nat) (a2 : Int) (K : List Int → Prop) : impl_Flake_ice.wp a1 a2 K =
  (∀ (J1 : List Int → Int → Int → Prop),
  (∀ (x2 : List Int) (x3 x4 : Int),
      Go.K.ifB (Decidable.decide (x4 < x3))
          (((0 : Int) ≤ x4 ∧ x4 < (↑(List.length a1) : Int)) ∧
            Go.K.ifB (Go.K.fge Go.FloatKind.f32 (List.getD a1 (Int.toNat x4) (0 : Nat)) (1065353216 : Nat))
              (List.length (x2 ++ x4 :: List.replicate (0 : Nat) (0 : Int)) ≤ (1099511627776 : Nat) ∧
                J1 (x2 ++ x4 :: List.replicate (0 : Nat) (0 : Int)) x3 (Go.IntKind.wrap Go.IntKind.i64 (x4 + (1 : Int))))
              (J1 x2 x3 (Go.IntKind.wrap Go.IntKind.i64 (x4 + (1 : Int)))))
          (K x2) →
        J1 x2 x3 x4) →
    J1 (List.replicate (0 : Nat) (0 : Int)) (↑(List.length a1) : Int) (0 : Int)) := impl_Flake_ice.tx  a1 a2 K

theorem impl_ReachOfFlake.tx (w_impl_ValidFlake : List Nat → Int → (Bool → Prop) → Prop) (w_impl_Flake_ice : List Nat → Int → (List Int → Prop) → Prop) (a1 : List Nat) (a2 : Int) (K : Int → Bool → Prop) : impl_ReachOfFlake.bd w_impl_ValidFlake w_impl_Flake_ice a1 a2 K =
  (w_impl_ValidFlake a1 a2 fun y1 =>
  Go.K.ifB (!y1) (K (0 : Int) Bool.false)
    (w_impl_Flake_ice a1 a2 fun y2 =>
      Go.K.ifB ((↑(List.length y2) : Int) == (0 : Int)) (K (0 : Int) Bool.false)
        (w_impl_Flake_ice a1 a2 fun y3 =>
          ∀ (J4 : Int → List Int → Int → Int → Int → Prop),
            (∀ (x5 : Int) (x6 : List Int) (x7 x8 x9 : Int),
                Go.K.ifB (Decidable.decide (x9 < x8))
                    (((0 : Int) ≤ x9 ∧ x9 < (↑(List.length x6) : Int)) ∧
                      x5 ≠ (0 : Int) ∧
                        x5 ≠ (0 : Int) ∧
                          J4 x5 x6
                            (Go.K.mmI Bool.true
                              (Go.K.mmI Bool.true
                                (Go.K.mmI Bool.true
                                  (Go.K.mmI Bool.true
                                    (Go.K.mmI Bool.true
                                      (Go.K.mmI Bool.true x7
                                        (Go.IntKind.wrap Go.IntKind.i64
                                          (Int.tmod (List.getD x6 (Int.toNat x9) (0 : Int)) x5 - Go.IntKind.wrap Go.IntKind.i64 (Int.tdiv x5 (2 : Int)))))
                                      (Go.IntKind.wrap Go.IntKind.i64
                                        ((0 : Int) -
                                          Go.IntKind.wrap Go.IntKind.i64
                                            (Int.tmod (List.getD x6 (Int.toNat x9) (0 : Int)) x5 - Go.IntKind.wrap Go.IntKind.i64 (Int.tdiv x5 (2 : Int))))))
                                    (Go.IntKind.wrap Go.IntKind.i64
                                      (Go.IntKind.wrap Go.IntKind.i64 (Int.tdiv (List.getD x6 (Int.toNat x9) (0 : Int)) x5) -
                                        Go.IntKind.wrap Go.IntKind.i64 (Int.tdiv x5 (2 : Int)))))
                                  (Go.IntKind.wrap Go.IntKind.i64
                                    ((0 : Int) -
                                      Go.IntKind.wrap Go.IntKind.i64
                                        (Go.IntKind.wrap Go.IntKind.i64 (Int.tdiv (List.getD x6 (Int.toNat x9) (0 : Int)) x5) -
                                          Go.IntKind.wrap Go.IntKind.i64 (Int.tdiv x5 (2 : Int))))))
                                (Go.IntKind.wrap Go.IntKind.i64
                                  (Go.IntKind.wrap Go.IntKind.i64 (Int.tmod (List.getD x6 (Int.toNat x9) (0 : Int)) x5 - Go.IntKind.wrap Go.IntKind.i64 (Int.tdiv x5 (2 : Int))) +
                                    Go.IntKind.wrap Go.IntKind.i64
                                      (Go.IntKind.wrap Go.IntKind.i64 (Int.tdiv (List.getD x6 (Int.toNat x9) (0 : Int)) x5) -
                                        Go.IntKind.wrap Go.IntKind.i64 (Int.tdiv x5 (2 : Int))))))
                              (Go.IntKind.wrap Go.IntKind.i64
                                (Go.IntKind.wrap Go.IntKind.i64
                                    ((0 : Int) -
                                      Go.IntKind.wrap Go.IntKind.i64
                                        (Int.tmod (List.getD x6 (Int.toNat x9) (0 : Int)) x5 - Go.IntKind.wrap Go.IntKind.i64 (Int.tdiv x5 (2 : Int)))) -
                                  Go.IntKind.wrap Go.IntKind.i64
                                    (Go.IntKind.wrap Go.IntKind.i64 (Int.tdiv (List.getD x6 (Int.toNat x9) (0 : Int)) x5) -
                                      Go.IntKind.wrap Go.IntKind.i64 (Int.tdiv x5 (2 : Int))))))
                            x8 (Go.IntKind.wrap Go.IntKind.i64 (x9 + (1 : Int))))
                    (K x7 Bool.true) →
                  J4 x5 x6 x7 x8 x9) →
              J4 a2 y3 (0 : Int) (↑(List.length y3) : Int) (0 : Int)))) := by kernel_rfl
theorem impl_ReachOfFlake.eq (a1 : List Nat) (a2 : Int) (K : Int → Bool → Prop) : impl_ReachOfFlake.wp a1 a2 K =
  (Go.K.flakes.impl_ValidFlake.wp a1 a2 fun y1 =>
  Go.K.ifB (!y1) (K (0 : Int) Bool.false)
    (Go.K.flakes.impl_Flake_ice.wp a1 a2 fun y2 =>
      Go.K.ifB ((↑(List.length y2) : Int) == (0 : Int)) (K (0 : Int) Bool.false)
        (Go.K.flakes.impl_Flake_ice.wp a1 a2 fun y3 =>
          ∀ (J4 : Int → List Int → Int → Int → Int → Prop),
            (∀ (x5 : Int) (x6 : List Int) (x7 x8 x9 : Int),
                Go.K.ifB (Decidable.decide (x9 < x8))
                    (((0 : Int) ≤ x9 ∧ x9 < (↑(List.length x6) : Int)) ∧
                      x5 ≠ (0 : Int) ∧
                        x5 ≠ (0 : Int) ∧
                          J4 x5 x6
                            (Go.K.mmI Bool.true
                              (Go.K.mmI Bool.true
                                (Go.K.mmI Bool.true
                                  (Go.K.mmI Bool.true
                                    (Go.K.mmI Bool.true
                                      (Go.K.mmI Bool.true x7
                                        (Go.IntKind.wrap Go.IntKind.i64
                                          (Int.tmod (List.getD x6 (Int.toNat x9) (0 : Int)) x5 - Go.IntKind.wrap Go.IntKind.i64 (Int.tdiv x5 (2 : Int)))))
                                      (Go.IntKind.wrap Go.IntKind.i64
                                        ((0 : Int) -
                                          Go.IntKind.wrap Go.IntKind.i64
                                            (Int.tmod (List.getD x6 (Int.toNat x9) (0 : Int)) x5 - Go.IntKind.wrap Go.IntKind.i64 (Int.tdiv x5 (2 : Int))))))
                                    (Go.IntKind.wrap Go.IntKind.i64
                                      (Go.IntKind.wrap Go.IntKind.i64 (Int.tdiv (List.getD x6 (Int.toNat x9) (0 : Int)) x5) -
                                        Go.IntKind.wrap Go.IntKind.i64 (Int.tdiv x5 (2 : Int)))))
                                  (Go.IntKind.wrap Go.IntKind.i64
                                    ((0 : Int) -
                                      Go.IntKind.wrap Go.IntKind.i64
                                        (Go.IntKind.wrap Go.IntKind.i64 (Int.tdiv (List.getD x6 (Int.toNat x9) (0 : Int)) x5) -
                                          Go.IntKind.wrap Go.IntKind.i64 (Int.tdiv x5 (2 : Int))))))
                                (Go.IntKind.wrap Go.IntKind.i64
                                  (Go.IntKind.wrap Go.IntKind.i64 (Int.tmod (List.getD x6 (Int.toNat x9) (0 : Int)) x5 - Go.IntKind.wrap Go.IntKind.i64 (Int.tdiv x5 (2 : Int))) +
                                    Go.IntKind.wrap Go.IntKind.i64
                                      (Go.IntKind.wrap Go.IntKind.i64 (Int.tdiv (List.getD x6 (Int.toNat x9) (0 : Int)) x5) -
                                        Go.IntKind.wrap Go.IntKind.i64 (Int.tdiv x5 (2 : Int))))))
                              (Go.IntKind.wrap Go.IntKind.i64
                                (Go.IntKind.wrap Go.IntKind.i64
                                    ((0 : Int) -
                                      Go.IntKind.wrap Go.IntKind.i64
                                        (Int.tmod (List.getD x6 (Int.toNat x9) (0 : Int)) x5 - Go.IntKind.wrap Go.IntKind.i64 (Int.tdiv x5 (2 : Int)))) -
                                  Go.IntKind.wrap Go.IntKind.i64
                                    (Go.IntKind.wrap Go.IntKind.i64 (Int.tdiv (List.getD x6 (Int.toNat x9) (0 : Int)) x5) -
                                      Go.IntKind.wrap Go.IntKind.i64 (Int.tdiv x5 (2 : Int))))))
                            x8 (Go.IntKind.wrap Go.IntKind.i64 (x9 + (1 : Int))))
                    (K x7 Bool.true) →
                  J4 x5 x6 x7 x8 x9) →
              J4 a2 y3 (0 : Int) (↑(List.length y3) : Int) (0 : Int)))) := impl_ReachOfFlake.tx impl_ValidFlake.wp impl_Flake_ice.wp a1 a2 K

theorem laws_FnExactReachOfFlake.tx (w_laws_szFlake : List Nat → Int → Int → (Int → Prop) → Prop) (w_laws_toFlake : List Nat → Int → (List Nat → Int → Prop) → Prop) (w_spec_ReachOfFlake : List Nat → Int → (Int → Bool → Prop) → Prop) (w_impl_ReachOfFlake : List Nat → Int → (Int → Bool → Prop) → Prop) (w_laws_eqFlake : List Nat → List Nat → Int → Int → (Bool → Prop) → Prop) (a1 : List Nat) (a2 : Int) (K : Bool → Prop) : laws_FnExactReachOfFlake.bd w_laws_szFlake w_laws_toFlake w_spec_ReachOfFlake w_impl_ReachOfFlake w_laws_eqFlake a1 a2 K =
  (w_laws_szFlake a1 a2 (1048576 : Int) fun y1 =>
  Go.K.ifB (Decidable.decide (y1 < (0 : Int))) (K Bool.true)
    (w_laws_toFlake a1 a2 fun y2 y3 =>
      w_spec_ReachOfFlake y2 y3 fun y4 y5 =>
        w_laws_toFlake a1 a2 fun y6 y7 =>
          w_impl_ReachOfFlake y6 y7 fun y8 y9 =>
            Go.K.ifB (y8 != y4) (K Bool.false)
              (Go.K.ifB (y9 != y5) (K Bool.false)
                (w_laws_toFlake a1 a2 fun y10 y11 =>
                  w_laws_eqFlake y6 y10 y7 y11 fun y12 => Go.K.ifB (!y12) (K Bool.false) (K Bool.true))))) := by kernel_rfl
theorem laws_FnExactReachOfFlake.eq (a1 : List Nat) (a2 : Int) (K : Bool → Prop) : laws_FnExactReachOfFlake.wp a1 a2 K =
  (Go.K.flakes.laws_szFlake.wp a1 a2 (1048576 : Int) fun y1 =>
  Go.K.ifB (Decidable.decide (y1 < (0 : Int))) (K Bool.true)
    (Go.K.flakes.laws_toFlake.wp a1 a2 fun y2 y3 =>
      Go.K.flakes.spec_ReachOfFlake.wp y2 y3 fun y4 y5 =>
        Go.K.flakes.laws_toFlake.wp a1 a2 fun y6 y7 =>
          Go.K.flakes.impl_ReachOfFlake.wp y6 y7 fun y8 y9 =>
            Go.K.ifB (y8 != y4) (K Bool.false)
              (Go.K.ifB (y9 != y5) (K Bool.false)
                (Go.K.flakes.laws_toFlake.wp a1 a2 fun y10 y11 =>
                  Go.K.flakes.laws_eqFlake.wp y6 y10 y7 y11 fun y12 => Go.K.ifB (!y12) (K Bool.false) (K Bool.true))))) := laws_FnExactReachOfFlake.tx laws_szFlake.wp laws_toFlake.wp spec_ReachOfFlake.wp impl_ReachOfFlake.wp laws_eqFlake.wp a1 a2 K

theorem spec_BackFlake.tx (w_spec_l06Is : Int → List Nat → (Bool → Prop) → Prop) (a1 : List Nat) (a2 : Int) (K : List Nat → Int → Bool → Prop) : spec_BackFlake.bd w_spec_l06Is a1 a2 K =
  (w_spec_l06Is a2 a1 fun y1 =>
  Go.K.ifB (!y1) (K [] (0 : Int) Bool.false)
    (∀ (J2 : Int → Int → Int → List Nat → List Nat → Int → Prop),
      (∀ (x3 x4 x5 : Int) (x6 x7 : List Nat) (x8 : Int),
          Go.K.ifB (Decidable.decide (x8 ≥ (0 : Int)))
              (((0 : Int) ≤ x8 ∧ x8 < (↑(List.length a1) : Int)) ∧
                List.length (x7 ++ List.getD a1 (Int.toNat x8) (0 : Nat) :: List.replicate (0 : Nat) (0 : Nat)) ≤ (1099511627776 : Nat) ∧
                  J2 x3 x4 x5 x6 (x7 ++ List.getD a1 (Int.toNat x8) (0 : Nat) :: List.replicate (0 : Nat) (0 : Nat)) (Go.IntKind.wrap Go.IntKind.i64 (x8 - (1 : Int))))
              (K x7 x5 Bool.true) →
            J2 x3 x4 x5 x6 x7 x8) →
        J2 a2 (0 : Int) a2 [] (List.replicate (0 : Nat) (0 : Nat)) (Go.IntKind.wrap Go.IntKind.i64 (Go.IntKind.wrap Go.IntKind.i64 (a2 * a2) - (1 : Int))))) := by kernel_rfl
theorem spec_BackFlake.eq (a1 : List Nat) (a2 : Int) (K : List Nat → Int → Bool → Prop) : spec_BackFlake.wp a1 a2 K =
  (Go.K.flakes.spec_l06Is.wp a2 a1 fun y1 =>
  Go.K.ifB (!y1) (K [] (0 : Int) Bool.false)
    (∀ (J2 : Int → Int → Int → List Nat → List Nat → Int → Prop),
      (∀ (x3 x4 x5 : Int) (x6 x7 : List Nat) (x8 : Int),
          Go.K.ifB (Decidable.decide (x8 ≥ (0 : Int)))
              (((0 : Int) ≤ x8 ∧ x8 < (↑(List.length a1) : Int)) ∧
                List.length (x7 ++ List.getD a1 (Int.toNat x8) (0 : Nat) :: List.replicate (0 : Nat) (0 : Nat)) ≤ (1099511627776 : Nat) ∧
                  J2 x3 x4 x5 x6 (x7 ++ List.getD a1 (Int.toNat x8) (0 : Nat) :: List.replicate (0 : Nat) (0 : Nat)) (Go.IntKind.wrap Go.IntKind.i64 (x8 - (1 : Int))))
              (K x7 x5 Bool.true) →
            J2 x3 x4 x5 x6 x7 x8) →
        J2 a2 (0 : Int) a2 [] (List.replicate (0 : Nat) (0 : Nat)) (Go.IntKind.wrap Go.IntKind.i64 (Go.IntKind.wrap Go.IntKind.i64 (a2 * a2) - (1 : Int))))) := spec_BackFlake.tx spec_l06Is.wp a1 a2 K

theorem impl_BackFlake_1.tx  (a1 : Int) (a2 : List Nat) (a3 : Int) (a4 : Int) (K : Nat → Prop) : impl_BackFlake_1.bd  a1 a2 a3 a4 K =
  (((0 : Int) ≤
      Go.IntKind.wrap Go.IntKind.i64
        (Go.IntKind.wrap Go.IntKind.i64 (Go.IntKind.wrap Go.IntKind.i64 (a1 - (1 : Int)) - a3) +
          Go.IntKind.wrap Go.IntKind.i64 (a1 * Go.IntKind.wrap Go.IntKind.i64 (Go.IntKind.wrap Go.IntKind.i64 (a1 - (1 : Int)) - a4))) ∧
    Go.IntKind.wrap Go.IntKind.i64
        (Go.IntKind.wrap Go.IntKind.i64 (Go.IntKind.wrap Go.IntKind.i64 (a1 - (1 : Int)) - a3) +
          Go.IntKind.wrap Go.IntKind.i64 (a1 * Go.IntKind.wrap Go.IntKind.i64 (Go.IntKind.wrap Go.IntKind.i64 (a1 - (1 : Int)) - a4))) <
      (↑(List.length a2) : Int)) ∧
  K
    (List.getD a2
      (Int.toNat
        (Go.IntKind.wrap Go.IntKind.i64
          (Go.IntKind.wrap Go.IntKind.i64 (Go.IntKind.wrap Go.IntKind.i64 (a1 - (1 : Int)) - a3) +
            Go.IntKind.wrap Go.IntKind.i64 (a1 * Go.IntKind.wrap Go.IntKind.i64 (Go.IntKind.wrap Go.IntKind.i64 (a1 - (1 : Int)) - a4)))))
      (0 : Nat))) := by kernel_rfl
theorem impl_BackFlake_1.eq (a1 : Int) (a2 : List Nat) (a3 : Int) (a4 : Int) (K : Nat → Prop) : impl_BackFlake_1.wp a1 a2 a3 a4 K =
  (((0 : Int) ≤
      Go.IntKind.wrap Go.IntKind.i64
        (Go.IntKind.wrap Go.IntKind.i64 (Go.IntKind.wrap Go.IntKind.i64 (a1 - (1 : Int)) - a3) +
          Go.IntKind.wrap Go.IntKind.i64 (a1 * Go.IntKind.wrap Go.IntKind.i64 (Go.IntKind.wrap Go.IntKind.i64 (a1 - (1 : Int)) - a4))) ∧
    Go.IntKind.wrap Go.IntKind.i64
        (Go.IntKind.wrap Go.IntKind.i64 (Go.IntKind.wrap Go.IntKind.i64 (a1 - (1 : Int)) - a3) +
          Go.IntKind.wrap Go.IntKind.i64 (a1 * Go.IntKind.wrap Go.IntKind.i64 (Go.IntKind.wrap Go.IntKind.i64 (a1 - (1 : Int)) - a4))) <
      (↑(List.length a2) : Int)) ∧
  K
    (List.getD a2
      (Int.toNat
        (Go.IntKind.wrap Go.IntKind.i64
          (Go.IntKind.wrap Go.IntKind.i64 (Go.IntKind.wrap Go.IntKind.i64 (a1 - (1 : Int)) - a3) +
            Go.IntKind.wrap Go.IntKind.i64 (a1 * Go.IntKind.wrap Go.IntKind.i64 (Go.IntKind.wrap Go.IntKind.i64 (a1 - (1 : Int)) - a4)))))
      (0 : Nat))) := impl_BackFlake_1.tx  a1 a2 a3 a4 K

theorem impl_frozen__BackFlake_1.tx (w_impl_BackFlake_1 : Int → List Nat → Int → Int → (Nat → Prop) → Prop) (w_impl_ValidFlake : List Nat → Int → (Bool → Prop) → Prop) (a1 : Int) (a2 : List Nat) (a3 : Int) (K : List Nat → Int → Bool → Prop) : impl_frozen__BackFlake_1.bd w_impl_BackFlake_1 w_impl_ValidFlake a1 a2 a3 K =
  (∀ (J1 : Int → Int → List Nat → List Nat → Int → Int → Prop),
  (∀ (x2 x3 : Int) (x4 x5 : List Nat) (x6 x7 : Int),
      Go.K.ifB (Decidable.decide (x7 < x6))
          (∀ (J8 : Int → Int → List Nat → List Nat → Int → Int → Int → Int → Int → Prop),
            (∀ (x9 x10 : Int) (x11 x12 : List Nat) (x13 x14 x15 x16 x17 : Int),
                Go.K.ifB (Decidable.decide (x17 < x16))
                    (w_impl_BackFlake_1 a1 a2 x17 x13 fun y18 =>
                      List.length (x12 ++ y18 :: List.replicate (0 : Nat) (0 : Nat)) ≤ (1099511627776 : Nat) ∧
                        J8 x9 x10 x11 (x12 ++ y18 :: List.replicate (0 : Nat) (0 : Nat)) x13 x14 x15 x16 (Go.IntKind.wrap Go.IntKind.i64 (x17 + (1 : Int))))
                    (J1 x9 x10 x11 x12 x14 (Go.IntKind.wrap Go.IntKind.i64 (x15 + (1 : Int)))) →
                  J8 x9 x10 x11 x12 x13 x14 x15 x16 x17) →
              J8 x2 x3 x4 x5 x7 x6 x7 a3 (0 : Int))
          (w_impl_ValidFlake x5 x3 fun y21 => Go.K.ifB (!y21) (K [] (0 : Int) Bool.false) (K x5 x3 Bool.true)) →
        J1 x2 x3 x4 x5 x6 x7) →
    J1 (0 : Int) a3 [] [] a3 (0 : Int)) := by kernel_rfl
theorem impl_frozen__BackFlake_1.eq (a1 : Int) (a2 : List Nat) (a3 : Int) (K : List Nat → Int → Bool → Prop) : impl_frozen__BackFlake_1.wp a1 a2 a3 K =
  (∀ (J1 : Int → Int → List Nat → List Nat → Int → Int → Prop),
  (∀ (x2 x3 : Int) (x4 x5 : List Nat) (x6 x7 : Int),
      Go.K.ifB (Decidable.decide (x7 < x6))
          (∀ (J8 : Int → Int → List Nat → List Nat → Int → Int → Int → Int → Int → Prop),
            (∀ (x9 x10 : Int) (x11 x12 : List Nat) (x13 x14 x15 x16 x17 : Int),
                Go.K.ifB (Decidable.decide (x17 < x16))
                    (Go.K.flakes.impl_BackFlake_1.wp a1 a2 x17 x13 fun y18 =>
                      List.length (x12 ++ y18 :: List.replicate (0 : Nat) (0 : Nat)) ≤ (1099511627776 : Nat) ∧
                        J8 x9 x10 x11 (x12 ++ y18 :: List.replicate (0 : Nat) (0 : Nat)) x13 x14 x15 x16 (Go.IntKind.wrap Go.IntKind.i64 (x17 + (1 : Int))))
                    (J1 x9 x10 x11 x12 x14 (Go.IntKind.wrap Go.IntKind.i64 (x15 + (1 : Int)))) →
                  J8 x9 x10 x11 x12 x13 x14 x15 x16 x17) →
              J8 x2 x3 x4 x5 x7 x6 x7 a3 (0 : Int))
          (Go.K.flakes.impl_ValidFlake.wp x5 x3 fun y21 => Go.K.ifB (!y21) (K [] (0 : Int) Bool.false) (K x5 x3 Bool.true)) →
        J1 x2 x3 x4 x5 x6 x7) →
    J1 (0 : Int) a3 [] [] a3 (0 : Int)) := impl_frozen__BackFlake_1.tx impl_BackFlake_1.wp impl_ValidFlake.wp a1 a2 a3 K

theorem impl_BackFlake.tx (w_impl_ValidFlake : List Nat → Int → (Bool → Prop) → Prop) (w_impl_frozen__BackFlake_1 : Int → List Nat → Int → (List Nat → Int → Bool → Prop) → Prop) (a1 : List Nat) (a2 : Int) (K : List Nat → Int → Bool → Prop) : impl_BackFlake.bd w_impl_ValidFlake w_impl_frozen__BackFlake_1 a1 a2 K =
  (w_impl_ValidFlake a1 a2 fun y1 =>
  Go.K.ifB (!y1) (K [] (0 : Int) Bool.false) (w_impl_frozen__BackFlake_1 a2 a1 a2 fun y2 y3 y4 => K y2 y3 y4)) := by kernel_rfl
theorem impl_BackFlake.eq (a1 : List Nat) (a2 : Int) (K : List Nat → Int → Bool → Prop) : impl_BackFlake.wp a1 a2 K =
  (Go.K.flakes.impl_ValidFlake.wp a1 a2 fun y1 =>
  Go.K.ifB (!y1) (K [] (0 : Int) Bool.false) (Go.K.flakes.impl_frozen__BackFlake_1.wp a2 a1 a2 fun y2 y3 y4 => K y2 y3 y4)) := impl_BackFlake.tx impl_ValidFlake.wp impl_frozen__BackFlake_1.wp a1 a2 K

theorem laws_FnExactBackFlake.tx (w_laws_szFlake : List Nat → Int → Int → (Int → Prop) → Prop) (w_laws_toFlake : List Nat → Int → (List Nat → Int → Prop) → Prop) (w_spec_BackFlake : List Nat → Int → (List Nat → Int → Bool → Prop) → Prop) (w_impl_BackFlake : List Nat → Int → (List Nat → Int → Bool → Prop) → Prop) (w_laws_eqFlake : List Nat → List Nat → Int → Int → (Bool → Prop) → Prop) (w_laws_markFlake : List Nat → Int → Int → (List Nat → Int → Prop) → Prop) (w_laws_heldFlake : List Nat → Int → Int → (Int → Prop) → Prop) (a1 : List Nat) (a2 : Int) (K : Bool → Prop) : laws_FnExactBackFlake.bd w_laws_szFlake w_laws_toFlake w_spec_BackFlake w_impl_BackFlake w_laws_eqFlake w_laws_markFlake w_laws_heldFlake a1 a2 K =
  (w_laws_szFlake a1 a2 (1048576 : Int) fun y1 =>
  Go.K.ifB (Decidable.decide (y1 < (0 : Int))) (K Bool.true)
    (w_laws_toFlake a1 a2 fun y2 y3 =>
      w_spec_BackFlake y2 y3 fun y4 y5 y6 =>
        w_laws_toFlake a1 a2 fun y7 y8 =>
          w_impl_BackFlake y7 y8 fun y9 y10 y11 =>
            w_laws_eqFlake y9 y4 y10 y5 fun y12 =>
              Go.K.ifB (!y12) (K Bool.false)
                (Go.K.ifB (y11 != y6) (K Bool.false)
                  (w_laws_toFlake a1 a2 fun y13 y14 =>
                    w_laws_eqFlake y7 y13 y8 y14 fun y15 =>
                      Go.K.ifB (!y15) (K Bool.false)
                        (w_laws_markFlake y7 y8 (1 : Int) fun y16 y17 =>
                          Go.K.ifB (Decidable.decide (y17 < (0 : Int))) (K Bool.false)
                            (w_laws_eqFlake y9 y4 y10 y5 fun y18 =>
                              Go.K.ifB (!y18) (K Bool.false)
                                (Go.K.ifB (y11 != y6) (K Bool.false)
                                  (w_laws_markFlake y9 y10 (1 : Int) fun y19 y20 =>
                                    w_laws_heldFlake y19 y10 (1 : Int) fun y21 =>
                                      Go.K.ifB (Decidable.decide (y21 < (0 : Int))) (K Bool.false)
                                        (Go.K.ifB (y21 != y20) (K Bool.false)
                                          (w_laws_toFlake a1 a2 fun y22 y23 =>
                                            w_impl_BackFlake y22 y23 fun y24 y25 y26 =>
                                              w_laws_eqFlake y24 y4 y25 y5 fun y27 =>
                                                Go.K.ifB (!y27) (K Bool.false)
                                                  (Go.K.ifB (y26 != y6) (K Bool.false)
                                                    (w_laws_heldFlake y19 y10 (1 : Int) fun y28 =>
                                                      Go.K.ifB (Decidable.decide (y28 < (0 : Int))) (K Bool.false)
                                                        (Go.K.ifB (y28 != y20) (K Bool.false) (K Bool.true)))))))))))))) := by kernel_rfl
theorem laws_FnExactBackFlake.eq (a1 : List Nat) (a2 : Int) (K : Bool → Prop) : laws_FnExactBackFlake.wp a1 a2 K =
  (Go.K.flakes.laws_szFlake.wp a1 a2 (1048576 : Int) fun y1 =>
  Go.K.ifB (Decidable.decide (y1 < (0 : Int))) (K Bool.true)
    (Go.K.flakes.laws_toFlake.wp a1 a2 fun y2 y3 =>
      Go.K.flakes.spec_BackFlake.wp y2 y3 fun y4 y5 y6 =>
        Go.K.flakes.laws_toFlake.wp a1 a2 fun y7 y8 =>
          Go.K.flakes.impl_BackFlake.wp y7 y8 fun y9 y10 y11 =>
            Go.K.flakes.laws_eqFlake.wp y9 y4 y10 y5 fun y12 =>
              Go.K.ifB (!y12) (K Bool.false)
                (Go.K.ifB (y11 != y6) (K Bool.false)
                  (Go.K.flakes.laws_toFlake.wp a1 a2 fun y13 y14 =>
                    Go.K.flakes.laws_eqFlake.wp y7 y13 y8 y14 fun y15 =>
                      Go.K.ifB (!y15) (K Bool.false)
                        (Go.K.flakes.laws_markFlake.wp y7 y8 (1 : Int) fun y16 y17 =>
                          Go.K.ifB (Decidable.decide (y17 < (0 : Int))) (K Bool.false)
                            (Go.K.flakes.laws_eqFlake.wp y9 y4 y10 y5 fun y18 =>
                              Go.K.ifB (!y18) (K Bool.false)
                                (Go.K.ifB (y11 != y6) (K Bool.false)
                                  (Go.K.flakes.laws_markFlake.wp y9 y10 (1 : Int) fun y19 y20 =>
                                    Go.K.flakes.laws_heldFlake.wp y19 y10 (1 : Int) fun y21 =>
                                      Go.K.ifB (Decidable.decide (y21 < (0 : Int))) (K Bool.false)
                                        (Go.K.ifB (y21 != y20) (K Bool.false)
                                          (Go.K.flakes.laws_toFlake.wp a1 a2 fun y22 y23 =>
                                            Go.K.flakes.impl_BackFlake.wp y22 y23 fun y24 y25 y26 =>
                                              Go.K.flakes.laws_eqFlake.wp y24 y4 y25 y5 fun y27 =>
                                                Go.K.ifB (!y27) (K Bool.false)
                                                  (Go.K.ifB (y26 != y6) (K Bool.false)
                                                    (Go.K.flakes.laws_heldFlake.wp y19 y10 (1 : Int) fun y28 =>
                                                      Go.K.ifB (Decidable.decide (y28 < (0 : Int))) (K Bool.false)
                                                        (Go.K.ifB (y28 != y20) (K Bool.false) (K Bool.true)))))))))))))) := laws_FnExactBackFlake.tx laws_szFlake.wp laws_toFlake.wp spec_BackFlake.wp impl_BackFlake.wp laws_eqFlake.wp laws_markFlake.wp laws_heldFlake.wp a1 a2 K

theorem spec_SwapFlake.tx (w_spec_l06Is : Int → List Nat → (Bool → Prop) → Prop) (a1 : List Nat) (a2 : Int) (K : List Nat → Int → Bool → Prop) : spec_SwapFlake.bd w_spec_l06Is a1 a2 K =
  (w_spec_l06Is a2 a1 fun y1 =>
  Go.K.ifB (!y1) (K [] (0 : Int) Bool.false)
    (∀ (J2 : Int → Int → Int → List Nat → List Nat → Int → Prop),
      (∀ (x3 x4 x5 : Int) (x6 x7 : List Nat) (x8 : Int),
          Go.K.ifB (Decidable.decide (x8 < Go.IntKind.wrap Go.IntKind.i64 (x3 * x3)))
              (x3 ≠ (0 : Int) ∧
                x3 ≠ (0 : Int) ∧
                  ((0 : Int) ≤ Go.IntKind.wrap Go.IntKind.i64 (Go.IntKind.wrap Go.IntKind.i64 (Int.tdiv x8 x3) + Go.IntKind.wrap Go.IntKind.i64 (x3 * Int.tmod x8 x3)) ∧
                      Go.IntKind.wrap Go.IntKind.i64 (Go.IntKind.wrap Go.IntKind.i64 (Int.tdiv x8 x3) + Go.IntKind.wrap Go.IntKind.i64 (x3 * Int.tmod x8 x3)) <
                        (↑(List.length a1) : Int)) ∧
                    List.length
                          (x7 ++
                            List.getD a1
                                (Int.toNat
                                  (Go.IntKind.wrap Go.IntKind.i64 (Go.IntKind.wrap Go.IntKind.i64 (Int.tdiv x8 x3) + Go.IntKind.wrap Go.IntKind.i64 (x3 * Int.tmod x8 x3))))
                                (0 : Nat) ::
                              List.replicate (0 : Nat) (0 : Nat)) ≤
                        (1099511627776 : Nat) ∧
                      J2 x3 x4 x5 x6
                        (x7 ++
                          List.getD a1
                              (Int.toNat (Go.IntKind.wrap Go.IntKind.i64 (Go.IntKind.wrap Go.IntKind.i64 (Int.tdiv x8 x3) + Go.IntKind.wrap Go.IntKind.i64 (x3 * Int.tmod x8 x3))))
                              (0 : Nat) ::
                            List.replicate (0 : Nat) (0 : Nat))
                        (Go.IntKind.wrap Go.IntKind.i64 (x8 + (1 : Int))))
              (K x7 x5 Bool.true) →
            J2 x3 x4 x5 x6 x7 x8) →
        J2 a2 (0 : Int) a2 [] (List.replicate (0 : Nat) (0 : Nat)) (0 : Int))) := by kernel_rfl
theorem spec_SwapFlake.eq (a1 : List Nat) (a2 : Int) (K : List Nat → Int → Bool → Prop) : spec_SwapFlake.wp a1 a2 K =
  (Go.K.flakes.spec_l06Is.wp a2 a1 fun y1 =>
  Go.K.ifB (!y1) (K [] (0 : Int) Bool.false)
    (∀ (J2 : Int → Int → Int → List Nat → List Nat → Int → Prop),
      (∀ (x3 x4 x5 : Int) (x6 x7 : List Nat) (x8 : Int),
          Go.K.ifB (Decidable.decide (x8 < Go.IntKind.wrap Go.IntKind.i64 (x3 * x3)))
              (x3 ≠ (0 : Int) ∧
                x3 ≠ (0 : Int) ∧
                  ((0 : Int) ≤ Go.IntKind.wrap Go.IntKind.i64 (Go.IntKind.wrap Go.IntKind.i64 (Int.tdiv x8 x3) + Go.IntKind.wrap Go.IntKind.i64 (x3 * Int.tmod x8 x3)) ∧
                      Go.IntKind.wrap Go.IntKind.i64 (Go.IntKind.wrap Go.IntKind.i64 (Int.tdiv x8 x3) + Go.IntKind.wrap Go.IntKind.i64 (x3 * Int.tmod x8 x3)) <
                        (↑(List.length a1) : Int)) ∧
                    List.length
                          (x7 ++
                            List.getD a1
                                (Int.toNat
                                  (Go.IntKind.wrap Go.IntKind.i64 (Go.IntKind.wrap Go.IntKind.i64 (Int.tdiv x8 x3) + Go.IntKind.wrap Go.IntKind.i64 (x3 * Int.tmod x8 x3))))
                                (0 : Nat) ::
                              List.replicate (0 : Nat) (0 : Nat)) ≤
                        (1099511627776 : Nat) ∧
                      J2 x3 x4 x5 x6
                        (x7 ++
                          List.getD a1
                              (Int.toNat (Go.IntKind.wrap Go.IntKind.i64 (Go.IntKind.wrap Go.IntKind.i64 (Int.tdiv x8 x3) + Go.IntKind.wrap Go.IntKind.i64 (x3 * Int.tmod x8 x3))))
                              (0 : Nat) ::
                            List.replicate (0 : Nat) (0 : Nat))
                        (Go.IntKind.wrap Go.IntKind.i64 (x8 + (1 : Int))))
              (K x7 x5 Bool.true) →
            J2 x3 x4 x5 x6 x7 x8) →
        J2 a2 (0 : Int) a2 [] (List.replicate (0 : Nat) (0 : Nat)) (0 : Int))) := spec_SwapFlake.tx spec_l06Is.wp a1 a2 K

theorem impl_SwapFlake_1.tx  (a1 : Int) (a2 : List Nat) (a3 : Int) (a4 : Int) (K : Nat → Prop) : impl_SwapFlake_1.bd  a1 a2 a3 a4 K =
  (((0 : Int) ≤ Go.IntKind.wrap Go.IntKind.i64 (a4 + Go.IntKind.wrap Go.IntKind.i64 (a1 * a3)) ∧
    Go.IntKind.wrap Go.IntKind.i64 (a4 + Go.IntKind.wrap Go.IntKind.i64 (a1 * a3)) < (↑(List.length a2) : Int)) ∧
  K (List.getD a2 (Int.toNat (Go.IntKind.wrap Go.IntKind.i64 (a4 + Go.IntKind.wrap Go.IntKind.i64 (a1 * a3)))) (0 : Nat))) := by kernel_rfl
theorem impl_SwapFlake_1.eq (a1 : Int) (a2 : List Nat) (a3 : Int) (a4 : Int) (K : Nat → Prop) : impl_SwapFlake_1.wp a1 a2 a3 a4 K =
  (((0 : Int) ≤ Go.IntKind.wrap Go.IntKind.i64 (a4 + Go.IntKind.wrap Go.IntKind.i64 (a1 * a3)) ∧
    Go.IntKind.wrap Go.IntKind.i64 (a4 + Go.IntKind.wrap Go.IntKind.i64 (a1 * a3)) < (↑(List.length a2) : Int)) ∧
  K (List.getD a2 (Int.toNat (Go.IntKind.wrap Go.IntKind.i64 (a4 + Go.IntKind.wrap Go.IntKind.i64 (a1 * a3)))) (0 : Nat))) := impl_SwapFlake_1.tx  a1 a2 a3 a4 K

theorem impl_frozen__SwapFlake_1.tx (w_impl_SwapFlake_1 : Int → List Nat → Int → Int → (Nat → Prop) → Prop) (w_impl_ValidFlake : List Nat → Int → (Bool → Prop) → Prop) (a1 : Int) (a2 : List Nat) (a3 : Int) (K : List Nat → Int → Bool → Prop) : impl_frozen__SwapFlake_1.bd w_impl_SwapFlake_1 w_impl_ValidFlake a1 a2 a3 K =
  (∀ (J1 : Int → Int → List Nat → List Nat → Int → Int → Prop),
  (∀ (x2 x3 : Int) (x4 x5 : List Nat) (x6 x7 : Int),
      Go.K.ifB (Decidable.decide (x7 < x6))
          (∀ (J8 : Int → Int → List Nat → List Nat → Int → Int → Int → Int → Int → Prop),
            (∀ (x9 x10 : Int) (x11 x12 : List Nat) (x13 x14 x15 x16 x17 : Int),
                Go.K.ifB (Decidable.decide (x17 < x16))
                    (w_impl_SwapFlake_1 a1 a2 x17 x13 fun y18 =>
                      List.length (x12 ++ y18 :: List.replicate (0 : Nat) (0 : Nat)) ≤ (1099511627776 : Nat) ∧
                        J8 x9 x10 x11 (x12 ++ y18 :: List.replicate (0 : Nat) (0 : Nat)) x13 x14 x15 x16 (Go.IntKind.wrap Go.IntKind.i64 (x17 + (1 : Int))))
                    (J1 x9 x10 x11 x12 x14 (Go.IntKind.wrap Go.IntKind.i64 (x15 + (1 : Int)))) →
                  J8 x9 x10 x11 x12 x13 x14 x15 x16 x17) →
              J8 x2 x3 x4 x5 x7 x6 x7 a3 (0 : Int))
          (w_impl_ValidFlake x5 x3 fun y21 => Go.K.ifB (!y21) (K [] (0 : Int) Bool.false) (K x5 x3 Bool.true)) →
        J1 x2 x3 x4 x5 x6 x7) →
    J1 (0 : Int) a3 [] [] a3 (0 : Int)) := by kernel_rfl
theorem impl_frozen__SwapFlake_1.eq (a1 : Int) (a2 : List Nat) (a3 : Int) (K : List Nat → Int → Bool → Prop) : impl_frozen__SwapFlake_1.wp a1 a2 a3 K =
  (∀ (J1 : Int → Int → List Nat → List Nat → Int → Int → Prop),
  (∀ (x2 x3 : Int) (x4 x5 : List Nat) (x6 x7 : Int),
      Go.K.ifB (Decidable.decide (x7 < x6))
          (∀ (J8 : Int → Int → List Nat → List Nat → Int → Int → Int → Int → Int → Prop),
            (∀ (x9 x10 : Int) (x11 x12 : List Nat) (x13 x14 x15 x16 x17 : Int),
                Go.K.ifB (Decidable.decide (x17 < x16))
                    (Go.K.flakes.impl_SwapFlake_1.wp a1 a2 x17 x13 fun y18 =>
                      List.length (x12 ++ y18 :: List.replicate (0 : Nat) (0 : Nat)) ≤ (1099511627776 : Nat) ∧
                        J8 x9 x10 x11 (x12 ++ y18 :: List.replicate (0 : Nat) (0 : Nat)) x13 x14 x15 x16 (Go.IntKind.wrap Go.IntKind.i64 (x17 + (1 : Int))))
                    (J1 x9 x10 x11 x12 x14 (Go.IntKind.wrap Go.IntKind.i64 (x15 + (1 : Int)))) →
                  J8 x9 x10 x11 x12 x13 x14 x15 x16 x17) →
              J8 x2 x3 x4 x5 x7 x6 x7 a3 (0 : Int))
          (Go.K.flakes.impl_ValidFlake.wp x5 x3 fun y21 => Go.K.ifB (!y21) (K [] (0 : Int) Bool.false) (K x5 x3 Bool.true)) →
        J1 x2 x3 x4 x5 x6 x7) →
    J1 (0 : Int) a3 [] [] a3 (0 : Int)) := impl_frozen__SwapFlake_1.tx impl_SwapFlake_1.wp impl_ValidFlake.wp a1 a2 a3 K

theorem impl_SwapFlake.tx (w_impl_ValidFlake : List Nat → Int → (Bool → Prop) → Prop) (w_impl_frozen__SwapFlake_1 : Int → List Nat → Int → (List Nat → Int → Bool → Prop) → Prop) (a1 : List Nat) (a2 : Int) (K : List Nat → Int → Bool → Prop) : impl_SwapFlake.bd w_impl_ValidFlake w_impl_frozen__SwapFlake_1 a1 a2 K =
  (w_impl_ValidFlake a1 a2 fun y1 =>
  Go.K.ifB (!y1) (K [] (0 : Int) Bool.false) (w_impl_frozen__SwapFlake_1 a2 a1 a2 fun y2 y3 y4 => K y2 y3 y4)) := by kernel_rfl
theorem impl_SwapFlake.eq (a1 : List Nat) (a2 : Int) (K : List Nat → Int → Bool → Prop) : impl_SwapFlake.wp a1 a2 K =
  (Go.K.flakes.impl_ValidFlake.wp a1 a2 fun y1 =>
  Go.K.ifB (!y1) (K [] (0 : Int) Bool.false) (Go.K.flakes.impl_frozen__SwapFlake_1.wp a2 a1 a2 fun y2 y3 y4 => K y2 y3 y4)) := impl_SwapFlake.tx impl_ValidFlake.wp impl_frozen__SwapFlake_1.wp a1 a2 K

theorem laws_FnExactSwapFlake.tx (w_laws_szFlake : List Nat → Int → Int → (Int → Prop) → Prop) (w_laws_toFlake : List Nat → Int → (List Nat → Int → Prop) → Prop) (w_spec_SwapFlake : List Nat → Int → (List Nat → Int → Bool → Prop) → Prop) (w_impl_SwapFlake : List Nat → Int → (List Nat → Int → Bool → Prop) → Prop) (w_laws_eqFlake : List Nat → List Nat → Int → Int → (Bool → Prop) → Prop) (w_laws_markFlake : List Nat → Int → Int → (List Nat → Int → Prop) → Prop) (w_laws_heldFlake : List Nat → Int → Int → (Int → Prop) → Prop) (a1 : List Nat) (a2 : Int) (K : Bool → Prop) : laws_FnExactSwapFlake.bd w_laws_szFlake w_laws_toFlake w_spec_SwapFlake w_impl_SwapFlake w_laws_eqFlake w_laws_markFlake w_laws_heldFlake a1 a2 K =
  (w_laws_szFlake a1 a2 (1048576 : Int) fun y1 =>
  Go.K.ifB (Decidable.decide (y1 < (0 : Int))) (K Bool.true)
    (w_laws_toFlake a1 a2 fun y2 y3 =>
      w_spec_SwapFlake y2 y3 fun y4 y5 y6 =>
        w_laws_toFlake a1 a2 fun y7 y8 =>
          w_impl_SwapFlake y7 y8 fun y9 y10 y11 =>
            w_laws_eqFlake y9 y4 y10 y5 fun y12 =>
              Go.K.ifB (!y12) (K Bool.false)
                (Go.K.ifB (y11 != y6) (K Bool.false)
                  (w_laws_toFlake a1 a2 fun y13 y14 =>
                    w_laws_eqFlake y7 y13 y8 y14 fun y15 =>
                      Go.K.ifB (!y15) (K Bool.false)
                        (w_laws_markFlake y7 y8 (1 : Int) fun y16 y17 =>
                          Go.K.ifB (Decidable.decide (y17 < (0 : Int))) (K Bool.false)
                            (w_laws_eqFlake y9 y4 y10 y5 fun y18 =>
                              Go.K.ifB (!y18) (K Bool.false)
                                (Go.K.ifB (y11 != y6) (K Bool.false)
                                  (w_laws_markFlake y9 y10 (1 : Int) fun y19 y20 =>
                                    w_laws_heldFlake y19 y10 (1 : Int) fun y21 =>
                                      Go.K.ifB (Decidable.decide (y21 < (0 : Int))) (K Bool.false)
                                        (Go.K.ifB (y21 != y20) (K Bool.false)
                                          (w_laws_toFlake a1 a2 fun y22 y23 =>
                                            w_impl_SwapFlake y22 y23 fun y24 y25 y26 =>
                                              w_laws_eqFlake y24 y4 y25 y5 fun y27 =>
                                                Go.K.ifB (!y27) (K Bool.false)
                                                  (Go.K.ifB (y26 != y6) (K Bool.false)
                                                    (w_laws_heldFlake y19 y10 (1 : Int) fun y28 =>
                                                      Go.K.ifB (Decidable.decide (y28 < (0 : Int))) (K Bool.false)
                                                        (Go.K.ifB (y28 != y20) (K Bool.false) (K Bool.true)))))))))))))) := by kernel_rfl
theorem laws_FnExactSwapFlake.eq (a1 : List Nat) (a2 : Int) (K : Bool → Prop) : laws_FnExactSwapFlake.wp a1 a2 K =
  (Go.K.flakes.laws_szFlake.wp a1 a2 (1048576 : Int) fun y1 =>
  Go.K.ifB (Decidable.decide (y1 < (0 : Int))) (K Bool.true)
    (Go.K.flakes.laws_toFlake.wp a1 a2 fun y2 y3 =>
      Go.K.flakes.spec_SwapFlake.wp y2 y3 fun y4 y5 y6 =>
        Go.K.flakes.laws_toFlake.wp a1 a2 fun y7 y8 =>
          Go.K.flakes.impl_SwapFlake.wp y7 y8 fun y9 y10 y11 =>
            Go.K.flakes.laws_eqFlake.wp y9 y4 y10 y5 fun y12 =>
              Go.K.ifB (!y12) (K Bool.false)
                (Go.K.ifB (y11 != y6) (K Bool.false)
                  (Go.K.flakes.laws_toFlake.wp a1 a2 fun y13 y14 =>
                    Go.K.flakes.laws_eqFlake.wp y7 y13 y8 y14 fun y15 =>
                      Go.K.ifB (!y15) (K Bool.false)
                        (Go.K.flakes.laws_markFlake.wp y7 y8 (1 : Int) fun y16 y17 =>
                          Go.K.ifB (Decidable.decide (y17 < (0 : Int))) (K Bool.false)
                            (Go.K.flakes.laws_eqFlake.wp y9 y4 y10 y5 fun y18 =>
                              Go.K.ifB (!y18) (K Bool.false)
                                (Go.K.ifB (y11 != y6) (K Bool.false)
                                  (Go.K.flakes.laws_markFlake.wp y9 y10 (1 : Int) fun y19 y20 =>
                                    Go.K.flakes.laws_heldFlake.wp y19 y10 (1 : Int) fun y21 =>
                                      Go.K.ifB (Decidable.decide (y21 < (0 : Int))) (K Bool.false)
                                        (Go.K.ifB (y21 != y20) (K Bool.false)
                                          (Go.K.flakes.laws_toFlake.wp a1 a2 fun y22 y23 =>
                                            Go.K.flakes.impl_SwapFlake.wp y22 y23 fun y24 y25 y26 =>
                                              Go.K.flakes.laws_eqFlake.wp y24 y4 y25 y5 fun y27 =>
                                                Go.K.ifB (!y27) (K Bool.false)
                                                  (Go.K.ifB (y26 != y6) (K Bool.false)
                                                    (Go.K.flakes.laws_heldFlake.wp y19 y10 (1 : Int) fun y28 =>
                                                      Go.K.ifB (Decidable.decide (y28 < (0 : Int))) (K Bool.false)
                                                        (Go.K.ifB (y28 != y20) (K Bool.false) (K Bool.true)))))))))))))) := laws_FnExactSwapFlake.tx laws_szFlake.wp laws_toFlake.wp spec_SwapFlake.wp impl_SwapFlake.wp laws_eqFlake.wp laws_markFlake.wp laws_heldFlake.wp a1 a2 K

theorem spec_IceOf.tx (w_spec_l06Is : Int → List Nat → (Bool → Prop) → Prop) (w_spec_l06Ice : Int → List Nat → (List Int → Prop) → Prop) (a1 : List Nat) (a2 : Int) (K : List Int → Bool → Prop) : spec_IceOf.bd w_spec_l06Is w_spec_l06Ice a1 a2 K =
  (w_spec_l06Is a2 a1 fun y1 => Go.K.ifB (!y1) (K [] Bool.false) (w_spec_l06Ice a2 a1 fun y2 => K y2 Bool.true)) := by kernel_rfl
theorem spec_IceOf.eq (a1 : List Nat) (a2 : Int) (K : List Int → Bool → Prop) : spec_IceOf.wp a1 a2 K =
  (Go.K.flakes.spec_l06Is.wp a2 a1 fun y1 => Go.K.ifB (!y1) (K [] Bool.false) (Go.K.flakes.spec_l06Ice.wp a2 a1 fun y2 => K y2 Bool.true)) := spec_IceOf.tx spec_l06Is.wp spec_l06Ice.wp a1 a2 K

theorem impl_IceOf.tx (w_impl_ValidFlake : List Nat → Int → (Bool → Prop) → Prop) (w_impl_Flake_ice : List Nat → Int → (List Int → Prop) → Prop) (a1 : List Nat) (a2 : Int) (K : List Int → Bool → Prop) : impl_IceOf.bd w_impl_ValidFlake w_impl_Flake_ice a1 a2 K =
  (w_impl_ValidFlake a1 a2 fun y1 => Go.K.ifB (!y1) (K [] Bool.false) (w_impl_Flake_ice a1 a2 fun y2 => K y2 Bool.true)) := by kernel_rfl
theorem impl_IceOf.eq (a1 : List Nat) (a2 : Int) (K : List Int → Bool → Prop) : impl_IceOf.wp a1 a2 K =
  (Go.K.flakes.impl_ValidFlake.wp a1 a2 fun y1 => Go.K.ifB (!y1) (K [] Bool.false) (Go.K.flakes.impl_Flake_ice.wp a1 a2 fun y2 => K y2 Bool.true)) := impl_IceOf.tx impl_ValidFlake.wp impl_Flake_ice.wp a1 a2 K

theorem laws_eqInt64S.tx  (a1 : List Int) (a2 : List Int) (K : Bool → Prop) : laws_eqInt64S.bd  a1 a2 K =
  (Go.K.ifB ((↑(List.length a1) : Int) != (↑(List.length a2) : Int)) (K Bool.false)
  (∀ (J1 : Int → Prop),
    (∀ (x2 : Int),
        Go.K.ifB (Decidable.decide (x2 < (↑(List.length a1) : Int)))
            (((0 : Int) ≤ x2 ∧ x2 < (↑(List.length a1) : Int)) ∧
              ((0 : Int) ≤ x2 ∧ x2 < (↑(List.length a2) : Int)) ∧
                Go.K.ifB (List.getD a1 (Int.toNat x2) (0 : Int) != List.getD a2 (Int.toNat x2) (0 : Int)) (K Bool.false) (J1 (Go.IntKind.wrap Go.IntKind.i64 (x2 + (1 : Int)))))
            (K Bool.true) →
          J1 x2) →
      J1 (0 : Int))) := by kernel_rfl
theorem laws_eqInt64S.eq (a1 : List Int) (a2 : List Int) (K : Bool → Prop) : laws_eqInt64S.wp a1 a2 K =
  (Go.K.ifB ((↑(List.length a1) : Int) != (↑(List.length a2) : Int)) (K Bool.false)
  (∀ (J1 : Int → Prop),
    (∀ (x2 : Int),
        Go.K.ifB (Decidable.decide (x2 < (↑(List.length a1) : Int)))
            (((0 : Int) ≤ x2 ∧ x2 < (↑(List.length a1) : Int)) ∧
              ((0 : Int) ≤ x2 ∧ x2 < (↑(List.length a2) : Int)) ∧
                Go.K.ifB (List.getD a1 (Int.toNat x2) (0 : Int) != List.getD a2 (Int.toNat x2) (0 : Int)) (K Bool.false) (J1 (Go.IntKind.wrap Go.IntKind.i64 (x2 + (1 : Int)))))
            (K Bool.true) →
          J1 x2) →
      J1 (0 : Int))) := laws_eqInt64S.tx  a1 a2 K

theorem laws_markInt64S.tx  (a1 : List Int) (a2 : Int) (K : List Int → Int → Prop) : laws_markInt64S.bd  a1 a2 K =
  (∀ (J1 : List Int → Int → Int → Prop),
  (∀ (x2 : List Int) (x3 x4 : Int),
      Go.K.ifB (Decidable.decide (x4 < (↑(List.length a1) : Int)))
          (((0 : Int) ≤ x4 ∧ x4 < (↑(List.length a1) : Int)) ∧
            J1 (List.set x2 (Int.toNat x4) x3) (Go.IntKind.wrap Go.IntKind.i64 (x3 + (1 : Int))) (Go.IntKind.wrap Go.IntKind.i64 (x4 + (1 : Int))))
          (K x2 x3) →
        J1 x2 x3 x4) →
    J1 a1 a2 (0 : Int)) := by kernel_rfl
theorem laws_markInt64S.eq (a1 : List Int) (a2 : Int) (K : List Int → Int → Prop) : laws_markInt64S.wp a1 a2 K =
  (∀ (J1 : List Int → Int → Int → Prop),
  (∀ (x2 : List Int) (x3 x4 : Int),
      Go.K.ifB (Decidable.decide (x4 < (↑(List.length a1) : Int)))
          (((0 : Int) ≤ x4 ∧ x4 < (↑(List.length a1) : Int)) ∧
            J1 (List.set x2 (Int.toNat x4) x3) (Go.IntKind.wrap Go.IntKind.i64 (x3 + (1 : Int))) (Go.IntKind.wrap Go.IntKind.i64 (x4 + (1 : Int))))
          (K x2 x3) →
        J1 x2 x3 x4) →
    J1 a1 a2 (0 : Int)) := laws_markInt64S.tx  a1 a2 K

theorem laws_heldInt64S.tx  (a1 : List Int) (a2 : Int) (K : Int → Prop) : laws_heldInt64S.bd  a1 a2 K =
  (∀ (J1 : Int → Int → Prop),
  (∀ (x2 x3 : Int),
      Go.K.ifB (Decidable.decide (x3 < (↑(List.length a1) : Int)))
          (((0 : Int) ≤ x3 ∧ x3 < (↑(List.length a1) : Int)) ∧
            Go.K.ifB (List.getD a1 (Int.toNat x3) (0 : Int) != x2) (K (-1 : Int))
              (J1 (Go.IntKind.wrap Go.IntKind.i64 (x2 + (1 : Int))) (Go.IntKind.wrap Go.IntKind.i64 (x3 + (1 : Int)))))
          (K x2) →
        J1 x2 x3) →
    J1 a2 (0 : Int)) := by kernel_rfl
theorem laws_heldInt64S.eq (a1 : List Int) (a2 : Int) (K : Int → Prop) : laws_heldInt64S.wp a1 a2 K =
  (∀ (J1 : Int → Int → Prop),
  (∀ (x2 x3 : Int),
      Go.K.ifB (Decidable.decide (x3 < (↑(List.length a1) : Int)))
          (((0 : Int) ≤ x3 ∧ x3 < (↑(List.length a1) : Int)) ∧
            Go.K.ifB (List.getD a1 (Int.toNat x3) (0 : Int) != x2) (K (-1 : Int))
              (J1 (Go.IntKind.wrap Go.IntKind.i64 (x2 + (1 : Int))) (Go.IntKind.wrap Go.IntKind.i64 (x3 + (1 : Int)))))
          (K x2) →
        J1 x2 x3) →
    J1 a2 (0 : Int)) := laws_heldInt64S.tx  a1 a2 K

theorem laws_FnExactIceOf.tx (w_laws_szFlake : List Nat → Int → Int → (Int → Prop) → Prop) (w_laws_toFlake : List Nat → Int → (List Nat → Int → Prop) → Prop) (w_spec_IceOf : List Nat → Int → (List Int → Bool → Prop) → Prop) (w_impl_IceOf : List Nat → Int → (List Int → Bool → Prop) → Prop) (w_laws_eqInt64S : List Int → List Int → (Bool → Prop) → Prop) (w_laws_eqFlake : List Nat → List Nat → Int → Int → (Bool → Prop) → Prop) (w_laws_markFlake : List Nat → Int → Int → (List Nat → Int → Prop) → Prop) (w_laws_markInt64S : List Int → Int → (List Int → Int → Prop) → Prop) (w_laws_heldInt64S : List Int → Int → (Int → Prop) → Prop) (a1 : List Nat) (a2 : Int) (K : Bool → Prop) : laws_FnExactIceOf.bd w_laws_szFlake w_laws_toFlake w_spec_IceOf w_impl_IceOf w_laws_eqInt64S w_laws_eqFlake w_laws_markFlake w_laws_markInt64S w_laws_heldInt64S a1 a2 K =
  (w_laws_szFlake a1 a2 (1048576 : Int) fun y1 =>
  Go.K.ifB (Decidable.decide (y1 < (0 : Int))) (K Bool.true)
    (w_laws_toFlake a1 a2 fun y2 y3 =>
      w_spec_IceOf y2 y3 fun y4 y5 =>
        w_laws_toFlake a1 a2 fun y6 y7 =>
          w_impl_IceOf y6 y7 fun y8 y9 =>
            w_laws_eqInt64S y8 y4 fun y10 =>
              Go.K.ifB (!y10) (K Bool.false)
                (Go.K.ifB (y9 != y5) (K Bool.false)
                  (w_laws_toFlake a1 a2 fun y11 y12 =>
                    w_laws_eqFlake y6 y11 y7 y12 fun y13 =>
                      Go.K.ifB (!y13) (K Bool.false)
                        (w_laws_markFlake y6 y7 (1 : Int) fun y14 y15 =>
                          Go.K.ifB (Decidable.decide (y15 < (0 : Int))) (K Bool.false)
                            (w_laws_eqInt64S y8 y4 fun y16 =>
                              Go.K.ifB (!y16) (K Bool.false)
                                (Go.K.ifB (y9 != y5) (K Bool.false)
                                  (w_laws_markInt64S y8 (1 : Int) fun y17 y18 =>
                                    w_laws_heldInt64S y17 (1 : Int) fun y19 =>
                                      Go.K.ifB (Decidable.decide (y19 < (0 : Int))) (K Bool.false)
                                        (Go.K.ifB (y19 != y18) (K Bool.false)
                                          (w_laws_toFlake a1 a2 fun y20 y21 =>
                                            w_impl_IceOf y20 y21 fun y22 y23 =>
                                              w_laws_eqInt64S y22 y4 fun y24 =>
                                                Go.K.ifB (!y24) (K Bool.false)
                                                  (Go.K.ifB (y23 != y5) (K Bool.false)
                                                    (w_laws_heldInt64S y17 (1 : Int) fun y25 =>
                                                      Go.K.ifB (Decidable.decide (y25 < (0 : Int))) (K Bool.false)
                                                        (Go.K.ifB (y25 != y18) (K Bool.false) (K Bool.true)))))))))))))) := by kernel_rfl
theorem laws_FnExactIceOf.eq (a1 : List Nat) (a2 : Int) (K : Bool → Prop) : laws_FnExactIceOf.wp a1 a2 K =
  (Go.K.flakes.laws_szFlake.wp a1 a2 (1048576 : Int) fun y1 =>
  Go.K.ifB (Decidable.decide (y1 < (0 : Int))) (K Bool.true)
    (Go.K.flakes.laws_toFlake.wp a1 a2 fun y2 y3 =>
      Go.K.flakes.spec_IceOf.wp y2 y3 fun y4 y5 =>
        Go.K.flakes.laws_toFlake.wp a1 a2 fun y6 y7 =>
          Go.K.flakes.impl_IceOf.wp y6 y7 fun y8 y9 =>
            Go.K.flakes.laws_eqInt64S.wp y8 y4 fun y10 =>
              Go.K.ifB (!y10) (K Bool.false)
                (Go.K.ifB (y9 != y5) (K Bool.false)
                  (Go.K.flakes.laws_toFlake.wp a1 a2 fun y11 y12 =>
                    Go.K.flakes.laws_eqFlake.wp y6 y11 y7 y12 fun y13 =>
                      Go.K.ifB (!y13) (K Bool.false)
                        (Go.K.flakes.laws_markFlake.wp y6 y7 (1 : Int) fun y14 y15 =>
                          Go.K.ifB (Decidable.decide (y15 < (0 : Int))) (K Bool.false)
                            (Go.K.flakes.laws_eqInt64S.wp y8 y4 fun y16 =>
                              Go.K.ifB (!y16) (K Bool.false)
                                (Go.K.ifB (y9 != y5) (K Bool.false)
                                  (Go.K.flakes.laws_markInt64S.wp y8 (1 : Int) fun y17 y18 =>
                                    Go.K.flakes.laws_heldInt64S.wp y17 (1 : Int) fun y19 =>
                                      Go.K.ifB (Decidable.decide (y19 < (0 : Int))) (K Bool.false)
                                        (Go.K.ifB (y19 != y18) (K Bool.false)
                                          (Go.K.flakes.laws_toFlake.wp a1 a2 fun y20 y21 =>
                                            Go.K.flakes.impl_IceOf.wp y20 y21 fun y22 y23 =>
                                              Go.K.flakes.laws_eqInt64S.wp y22 y4 fun y24 =>
                                                Go.K.ifB (!y24) (K Bool.false)
                                                  (Go.K.ifB (y23 != y5) (K Bool.false)
                                                    (Go.K.flakes.laws_heldInt64S.wp y17 (1 : Int) fun y25 =>
                                                      Go.K.ifB (Decidable.decide (y25 < (0 : Int))) (K Bool.false)
                                                        (Go.K.ifB (y25 != y18) (K Bool.false) (K Bool.true)))))))))))))) := laws_FnExactIceOf.tx laws_szFlake.wp laws_toFlake.wp spec_IceOf.wp impl_IceOf.wp laws_eqInt64S.wp laws_eqFlake.wp laws_markFlake.wp laws_markInt64S.wp laws_heldInt64S.wp a1 a2 K

theorem laws_r8Long.tx  (a1 : List Int) (a2 : List Int) (K : Bool → Prop) : laws_r8Long.bd  a1 a2 K =
  (Go.K.ifB (Decidable.decide ((↑(List.length a1) : Int) > (48 : Int))) (K Bool.true) (K (Decidable.decide ((↑(List.length a2) : Int) > (48 : Int))))) := by kernel_rfl
theorem laws_r8Long.eq (a1 : List Int) (a2 : List Int) (K : Bool → Prop) : laws_r8Long.wp a1 a2 K =
  (Go.K.ifB (Decidable.decide ((↑(List.length a1) : Int) > (48 : Int))) (K Bool.true) (K (Decidable.decide ((↑(List.length a2) : Int) > (48 : Int))))) := laws_r8Long.tx  a1 a2 K

theorem spec_l00From.tx  (a1 : List Int) (K : Int → Int → Prop) : spec_l00From.bd  a1 K =
  (K (0 : Int) (0 : Int)) := by kernel_rfl
theorem spec_l00From.eq (a1 : List Int) (K : Int → Int → Prop) : spec_l00From.wp a1 K =
  (K (0 : Int) (0 : Int)) := spec_l00From.tx  a1 K

theorem spec_l00Src_next.tx  (a1 : Int) (a2 : Int) (a3 : List Int) (K : Int → Int → Int → Prop) : spec_l00Src_next.bd  a1 a2 a3 K =
  (∀ (J1 : Int → Int → Int → Prop),
  (∀ (x2 x3 x4 : Int),
      Go.K.ifB (Decidable.decide (Go.IntKind.wrap Go.IntKind.i64 (x2 + (1 : Int)) ≤ (↑(List.length a3) : Int)))
          (K (Go.IntKind.wrap Go.IntKind.i64 (x2 + (1 : Int)))
            (Go.IntKind.wrap Go.IntKind.u64
              (Go.IntKind.wrap Go.IntKind.u64 (Go.IntKind.wrap Go.IntKind.u64 (x3 * (6364136223846793005 : Int)) + Go.IntKind.wrap Go.IntKind.u64 x4) +
                (1442695040888963407 : Int)))
            x4)
          (K (Go.IntKind.wrap Go.IntKind.i64 (x2 + (1 : Int)))
            (Go.IntKind.wrap Go.IntKind.u64
              (Go.IntKind.wrap Go.IntKind.u64 (Go.IntKind.wrap Go.IntKind.u64 (x3 * (6364136223846793005 : Int)) + Go.IntKind.wrap Go.IntKind.u64 x4) +
                (1442695040888963407 : Int)))
            (Go.IntKind.wrap Go.IntKind.i64
              (Go.K.ibits Go.BinOp.and Go.IntKind.u64
                (Go.K.ishr Go.IntKind.u64
                  (Go.IntKind.wrap Go.IntKind.u64
                    (Go.IntKind.wrap Go.IntKind.u64 (Go.IntKind.wrap Go.IntKind.u64 (x3 * (6364136223846793005 : Int)) + Go.IntKind.wrap Go.IntKind.u64 x4) +
                      (1442695040888963407 : Int)))
                  (40 : Int))
                (255 : Int)))) →
        J1 x2 x3 x4) →
    Go.K.ifB (Decidable.decide (a1 < (↑(List.length a3) : Int)))
      (((0 : Int) ≤ a1 ∧ a1 < (↑(List.length a3) : Int)) ∧ J1 a1 a2 (Go.IntKind.wrap Go.IntKind.i64 (List.getD a3 (Int.toNat a1) (0 : Int)))) (J1 a1 a2 (0 : Int))) := by kernel_rfl
theorem spec_l00Src_next.eq (a1 : Int) (a2 : Int) (a3 : List Int) (K : Int → Int → Int → Prop) : spec_l00Src_next.wp a1 a2 a3 K =
  (∀ (J1 : Int → Int → Int → Prop),
  (∀ (x2 x3 x4 : Int),
      Go.K.ifB (Decidable.decide (Go.IntKind.wrap Go.IntKind.i64 (x2 + (1 : Int)) ≤ (↑(List.length a3) : Int)))
          (K (Go.IntKind.wrap Go.IntKind.i64 (x2 + (1 : Int)))
            (Go.IntKind.wrap Go.IntKind.u64
              (Go.IntKind.wrap Go.IntKind.u64 (Go.IntKind.wrap Go.IntKind.u64 (x3 * (6364136223846793005 : Int)) + Go.IntKind.wrap Go.IntKind.u64 x4) +
                (1442695040888963407 : Int)))
            x4)
          (K (Go.IntKind.wrap Go.IntKind.i64 (x2 + (1 : Int)))
            (Go.IntKind.wrap Go.IntKind.u64
              (Go.IntKind.wrap Go.IntKind.u64 (Go.IntKind.wrap Go.IntKind.u64 (x3 * (6364136223846793005 : Int)) + Go.IntKind.wrap Go.IntKind.u64 x4) +
                (1442695040888963407 : Int)))
            (Go.IntKind.wrap Go.IntKind.i64
              (Go.K.ibits Go.BinOp.and Go.IntKind.u64
                (Go.K.ishr Go.IntKind.u64
                  (Go.IntKind.wrap Go.IntKind.u64
                    (Go.IntKind.wrap Go.IntKind.u64 (Go.IntKind.wrap Go.IntKind.u64 (x3 * (6364136223846793005 : Int)) + Go.IntKind.wrap Go.IntKind.u64 x4) +
                      (1442695040888963407 : Int)))
                  (40 : Int))
                (255 : Int)))) →
        J1 x2 x3 x4) →
    Go.K.ifB (Decidable.decide (a1 < (↑(List.length a3) : Int)))
      (((0 : Int) ≤ a1 ∧ a1 < (↑(List.length a3) : Int)) ∧ J1 a1 a2 (Go.IntKind.wrap Go.IntKind.i64 (List.getD a3 (Int.toNat a1) (0 : Int)))) (J1 a1 a2 (0 : Int))) := spec_l00Src_next.tx  a1 a2 a3 K

theorem spec_l00Src_pick.tx (w_spec_l00Src_next : Int → Int → List Int → (Int → Int → Int → Prop) → Prop) (a1 : Int) (a2 : Int) (a3 : List Int) (a4 : Int) (K : Int → Int → Int → Prop) : spec_l00Src_pick.bd w_spec_l00Src_next a1 a2 a3 a4 K =
  (Go.K.ifB (Decidable.decide (a4 ≤ (1 : Int))) (K a1 a2 (0 : Int))
  (w_spec_l00Src_next a1 a2 a3 fun y1 y2 y3 =>
    Go.K.ifB (Decidable.decide (a4 > (200 : Int)))
      (w_spec_l00Src_next y1 y2 a3 fun y4 y5 y6 =>
        a4 ≠ (0 : Int) ∧ K y4 y5 (Int.tmod (Go.IntKind.wrap Go.IntKind.i64 (Go.IntKind.wrap Go.IntKind.i64 (y3 * (256 : Int)) + y6)) a4))
      (a4 ≠ (0 : Int) ∧ K y1 y2 (Int.tmod y3 a4)))) := by kernel_rfl
theorem spec_l00Src_pick.eq (a1 : Int) (a2 : Int) (a3 : List Int) (a4 : Int) (K : Int → Int → Int → Prop) : spec_l00Src_pick.wp a1 a2 a3 a4 K =
  (Go.K.ifB (Decidable.decide (a4 ≤ (1 : Int))) (K a1 a2 (0 : Int))
  (Go.K.flakes.spec_l00Src_next.wp a1 a2 a3 fun y1 y2 y3 =>
    Go.K.ifB (Decidable.decide (a4 > (200 : Int)))
      (Go.K.flakes.spec_l00Src_next.wp y1 y2 a3 fun y4 y5 y6 =>
        a4 ≠ (0 : Int) ∧ K y4 y5 (Int.tmod (Go.IntKind.wrap Go.IntKind.i64 (Go.IntKind.wrap Go.IntKind.i64 (y3 * (256 : Int)) + y6)) a4))
      (a4 ≠ (0 : Int) ∧ K y1 y2 (Int.tmod y3 a4)))) := spec_l00Src_pick.tx spec_l00Src_next.wp a1 a2 a3 a4 K

theorem spec_l06DrawOk.tx (w_spec_l00Src_pick : Int → Int → List Int → Int → (Int → Int → Int → Prop) → Prop) (w_spec_l06New : Int → Nat → (List Nat → Int → Prop) → Prop) (a1 : Int) (a2 : Int) (a3 : List Int) (K : Int → Int → List Nat → Int → Prop) : spec_l06DrawOk.bd w_spec_l00Src_pick w_spec_l06New a1 a2 a3 K =
  (w_spec_l00Src_pick a1 a2 a3 (5 : Int) fun y1 y2 y3 =>
  w_spec_l00Src_pick y1 y2 a3 (9 : Int) fun y4 y5 y6 =>
    w_spec_l06New (Go.IntKind.wrap Go.IntKind.i64 ((3 : Int) + y3)) (Go.K.farith Go.BinOp.quo Go.FloatKind.f32 (Go.K.fofint Go.FloatKind.f32 y6) (1098907648 : Nat))
      fun y7 y8 =>
      w_spec_l00Src_pick y4 y5 a3 (5 : Int) fun y9 y10 y11 =>
        ∀ (J12 : Int → Int → Int → Int → List Nat → List Nat → Int → Int → Prop),
          (∀ (x13 x14 x15 x16 : Int) (x17 x18 : List Nat) (x19 x20 : Int),
              Go.K.ifB (Decidable.decide (x20 > (0 : Int)))
                  (w_spec_l00Src_pick x13 x14 a3 (Go.IntKind.wrap Go.IntKind.i64 (x19 * x19)) fun y21 y22 y23 =>
                    w_spec_l00Src_pick y21 y22 a3 (33 : Int) fun y24 y25 y26 =>
                      ((0 : Int) ≤ y23 ∧ y23 < (↑(List.length x18) : Int)) ∧
                        J12 y24 y25 x15 x16 x17 (List.set x18 (Int.toNat y23) (Go.K.farith Go.BinOp.quo Go.FloatKind.f32 (Go.K.fofint Go.FloatKind.f32 y26) (1098907648 : Nat))) x19
                          (Go.IntKind.wrap Go.IntKind.i64 (x20 - (1 : Int))))
                  (K x13 x14 x18 x16) →
                J12 x13 x14 x15 x16 x17 x18 x19 x20) →
            J12 y9 y10 (0 : Int) y8 [] y7 (Go.IntKind.wrap Go.IntKind.i64 ((3 : Int) + y3)) y11) := by kernel_rfl
theorem spec_l06DrawOk.eq (a1 : Int) (a2 : Int) (a3 : List Int) (K : Int → Int → List Nat → Int → Prop) : spec_l06DrawOk.wp a1 a2 a3 K =
  (Go.K.flakes.spec_l00Src_pick.wp a1 a2 a3 (5 : Int) fun y1 y2 y3 =>
  Go.K.flakes.spec_l00Src_pick.wp y1 y2 a3 (9 : Int) fun y4 y5 y6 =>
    Go.K.flakes.spec_l06New.wp (Go.IntKind.wrap Go.IntKind.i64 ((3 : Int) + y3)) (Go.K.farith Go.BinOp.quo Go.FloatKind.f32 (Go.K.fofint Go.FloatKind.f32 y6) (1098907648 : Nat))
      fun y7 y8 =>
      Go.K.flakes.spec_l00Src_pick.wp y4 y5 a3 (5 : Int) fun y9 y10 y11 =>
        ∀ (J12 : Int → Int → Int → Int → List Nat → List Nat → Int → Int → Prop),
          (∀ (x13 x14 x15 x16 : Int) (x17 x18 : List Nat) (x19 x20 : Int),
              Go.K.ifB (Decidable.decide (x20 > (0 : Int)))
                  (Go.K.flakes.spec_l00Src_pick.wp x13 x14 a3 (Go.IntKind.wrap Go.IntKind.i64 (x19 * x19)) fun y21 y22 y23 =>
                    Go.K.flakes.spec_l00Src_pick.wp y21 y22 a3 (33 : Int) fun y24 y25 y26 =>
                      ((0 : Int) ≤ y23 ∧ y23 < (↑(List.length x18) : Int)) ∧
                        J12 y24 y25 x15 x16 x17 (List.set x18 (Int.toNat y23) (Go.K.farith Go.BinOp.quo Go.FloatKind.f32 (Go.K.fofint Go.FloatKind.f32 y26) (1098907648 : Nat))) x19
                          (Go.IntKind.wrap Go.IntKind.i64 (x20 - (1 : Int))))
                  (K x13 x14 x18 x16) →
                J12 x13 x14 x15 x16 x17 x18 x19 x20) →
            J12 y9 y10 (0 : Int) y8 [] y7 (Go.IntKind.wrap Go.IntKind.i64 ((3 : Int) + y3)) y11) := spec_l06DrawOk.tx spec_l00Src_pick.wp spec_l06New.wp a1 a2 a3 K

theorem spec_R8Flake.tx (w_spec_l00From : List Int → (Int → Int → Prop) → Prop) (w_spec_l06DrawOk : Int → Int → List Int → (Int → Int → List Nat → Int → Prop) → Prop) (a1 : List Int) (K : List Nat → Int → Prop) : spec_R8Flake.bd w_spec_l00From w_spec_l06DrawOk a1 K =
  (w_spec_l00From a1 fun y1 y2 => w_spec_l06DrawOk y1 y2 a1 fun y3 y4 y5 y6 => K y5 y6) := by kernel_rfl
theorem spec_R8Flake.eq (a1 : List Int) (K : List Nat → Int → Prop) : spec_R8Flake.wp a1 K =
  (Go.K.flakes.spec_l00From.wp a1 fun y1 y2 => Go.K.flakes.spec_l06DrawOk.wp y1 y2 a1 fun y3 y4 y5 y6 => K y5 y6) := spec_R8Flake.tx spec_l00From.wp spec_l06DrawOk.wp a1 K

theorem laws_r8At.tx  (a1 : List Int) (a2 : Int) (a3 : Int) (K : Int → Prop) : laws_r8At.bd  a1 a2 a3 K =
  (Go.K.ifB (Decidable.decide (a3 ≤ (1 : Int))) (K (0 : Int))
  (Go.K.ifB (Decidable.decide (a2 ≥ (↑(List.length a1) : Int))) (K (0 : Int))
    (((0 : Int) ≤ a2 ∧ a2 < (↑(List.length a1) : Int)) ∧
      a3 ≠ (0 : Int) ∧ K (Int.tmod (Go.IntKind.wrap Go.IntKind.i64 (List.getD a1 (Int.toNat a2) (0 : Int))) a3)))) := by kernel_rfl
theorem laws_r8At.eq (a1 : List Int) (a2 : Int) (a3 : Int) (K : Int → Prop) : laws_r8At.wp a1 a2 a3 K =
  (Go.K.ifB (Decidable.decide (a3 ≤ (1 : Int))) (K (0 : Int))
  (Go.K.ifB (Decidable.decide (a2 ≥ (↑(List.length a1) : Int))) (K (0 : Int))
    (((0 : Int) ≤ a2 ∧ a2 < (↑(List.length a1) : Int)) ∧
      a3 ≠ (0 : Int) ∧ K (Int.tmod (Go.IntKind.wrap Go.IntKind.i64 (List.getD a1 (Int.toNat a2) (0 : Int))) a3)))) := laws_r8At.tx  a1 a2 a3 K

theorem slices_Clone_float32_float32.tx  (a1 : List Nat) (K : List Nat → Prop) : slices_Clone_float32_float32.bd  a1 K =
  (False) := by kernel_rfl
theorem slices_Clone_float32_float32.eq (a1 : List Nat) (K : List Nat → Prop) : slices_Clone_float32_float32.wp a1 K =
  (False) := slices_Clone_float32_float32.tx  a1 K

theorem impl_Flake_beside.tx (w_impl_within : Int → Int → Int → (Bool → Prop) → Prop) (a1 : List Nat) (a2 : Int) (a3 : Int) (a4 : Int) (K : List Int → Prop) : impl_Flake_beside.bd w_impl_within a1 a2 a3 a4 K =
  (∀ (J1 : Int → List Int → Int → Int → Int → Int → Int → Int → Int → Int → Int → Int → Int → Int → Int → Prop),
  (∀ (x2 : Int) (x3 : List Int) (x4 x5 x6 x7 x8 x9 x10 x11 x12 x13 x14 x15 x16 : Int),
      Go.K.ifB (Decidable.decide (x16 < (6 : Int)))
          (((0 : Int) ≤ x16 ∧ x16 < (6 : Int)) ∧
            (2 : Nat) = (2 : Nat) ∧
              ((0 : Int) ≤ (0 : Int) ∧ (0 : Int) < (2 : Int) ∧ Int.toNat (0 : Int) < (2 : Nat)) ∧
                w_impl_within
                  (Go.IntKind.wrap Go.IntKind.i64
                    (a3 +
                      List.getD
                        (List.getD [x4, x5, x6, x7, x8, x9, x10, x11, x12, x13, x14, x15] (Int.toNat x16 * (2 : Nat)) (0 : Int) ::
                          List.getD [x4, x5, x6, x7, x8, x9, x10, x11, x12, x13, x14, x15] (Int.toNat x16 * (2 : Nat) + (1 : Nat)) (0 : Int) :: List.replicate (0 : Nat) (0 : Int))
                        (Int.toNat (0 : Int)) (0 : Int)))
                  (0 : Int) (Go.IntKind.wrap Go.IntKind.i64 (x2 - (1 : Int))) fun y17 =>
                  Go.K.ifB y17
                    (((0 : Int) ≤ (1 : Int) ∧ (1 : Int) < (2 : Int) ∧ Int.toNat (1 : Int) < (2 : Nat)) ∧
                      w_impl_within
                        (Go.IntKind.wrap Go.IntKind.i64
                          (a4 +
                            List.getD
                              (List.getD [x4, x5, x6, x7, x8, x9, x10, x11, x12, x13, x14, x15] (Int.toNat x16 * (2 : Nat)) (0 : Int) ::
                                List.getD [x4, x5, x6, x7, x8, x9, x10, x11, x12, x13, x14, x15] (Int.toNat x16 * (2 : Nat) + (1 : Nat)) (0 : Int) ::
                                  List.replicate (0 : Nat) (0 : Int))
                              (Int.toNat (1 : Int)) (0 : Int)))
                        (0 : Int) (Go.IntKind.wrap Go.IntKind.i64 (x2 - (1 : Int))) fun y18 =>
                        Go.K.ifB y18
                          (((0 : Int) ≤ (0 : Int) ∧ (0 : Int) < (2 : Int) ∧ Int.toNat (0 : Int) < (2 : Nat)) ∧
                            ((0 : Int) ≤ (1 : Int) ∧ (1 : Int) < (2 : Int) ∧ Int.toNat (1 : Int) < (2 : Nat)) ∧
                              List.length
                                    (x3 ++
                                      Go.IntKind.wrap Go.IntKind.i64
                                          (Go.IntKind.wrap Go.IntKind.i64
                                              (a3 +
                                                List.getD
                                                  (List.getD [x4, x5, x6, x7, x8, x9, x10, x11, x12, x13, x14, x15] (Int.toNat x16 * (2 : Nat)) (0 : Int) ::
                                                    List.getD [x4, x5, x6, x7, x8, x9, x10, x11, x12, x13, x14, x15] (Int.toNat x16 * (2 : Nat) + (1 : Nat)) (0 : Int) ::
                                                      List.replicate (0 : Nat) (0 : Int))
                                                  (Int.toNat (0 : Int)) (0 : Int)) +
                                            Go.IntKind.wrap Go.IntKind.i64
                                              (x2 *
                                                Go.IntKind.wrap Go.IntKind.i64
                                                  (a4 +
                                                    List.getD
                                                      (List.getD [x4, x5, x6, x7, x8, x9, x10, x11, x12, x13, x14, x15] (Int.toNat x16 * (2 : Nat)) (0 : Int) ::
                                                        List.getD [x4, x5, x6, x7, x8, x9, x10, x11, x12, x13, x14, x15] (Int.toNat x16 * (2 : Nat) + (1 : Nat)) (0 : Int) ::
                                                          List.replicate (0 : Nat) (0 : Int))
                                                      (Int.toNat (1 : Int)) (0 : Int)))) ::
                                        List.replicate (0 : Nat) (0 : Int)) ≤
                                  (1099511627776 : Nat) ∧
                                J1 x2
                                  (x3 ++
                                    Go.IntKind.wrap Go.IntKind.i64
                                        (Go.IntKind.wrap Go.IntKind.i64
                                            (a3 +
                                              List.getD
                                                (List.getD [x4, x5, x6, x7, x8, x9, x10, x11, x12, x13, x14, x15] (Int.toNat x16 * (2 : Nat)) (0 : Int) ::
                                                  List.getD [x4, x5, x6, x7, x8, x9, x10, x11, x12, x13, x14, x15] (Int.toNat x16 * (2 : Nat) + (1 : Nat)) (0 : Int) ::
                                                    List.replicate (0 : Nat) (0 : Int))
                                                (Int.toNat (0 : Int)) (0 : Int)) +
                                          Go.IntKind.wrap Go.IntKind.i64
                                            (x2 *
                                              Go.IntKind.wrap Go.IntKind.i64
                                                (a4 +
                                                  List.getD
                                                    (List.getD [x4, x5, x6, x7, x8, x9, x10, x11, x12, x13, x14, x15] (Int.toNat x16 * (2 : Nat)) (0 : Int) ::
                                                      List.getD [x4, x5, x6, x7, x8, x9, x10, x11, x12, x13, x14, x15] (Int.toNat x16 * (2 : Nat) + (1 : Nat)) (0 : Int) ::
                                                        List.replicate (0 : Nat) (0 : Int))
                                                    (Int.toNat (1 : Int)) (0 : Int)))) ::
                                      List.replicate (0 : Nat) (0 : Int))
                                  x4 x5 x6 x7 x8 x9 x10 x11 x12 x13 x14 x15 (Go.IntKind.wrap Go.IntKind.i64 (x16 + (1 : Int))))
                          (J1 x2 x3 x4 x5 x6 x7 x8 x9 x10 x11 x12 x13 x14 x15 (Go.IntKind.wrap Go.IntKind.i64 (x16 + (1 : Int)))))
                    (J1 x2 x3 x4 x5 x6 x7 x8 x9 x10 x11 x12 x13 x14 x15 (Go.IntKind.wrap Go.IntKind.i64 (x16 + (1 : Int)))))
          (K x3) →
        J1 x2 x3 x4 x5 x6 x7 x8 x9 x10 x11 x12 x13 x14 x15 x16) →
    J1 a2 (List.replicate (0 : Nat) (0 : Int)) (1 : Int) (0 : Int) (-1 : Int) (0 : Int) (0 : Int) (1 : Int) (0 : Int) (-1 : Int) (1 : Int) (-1 : Int) (-1 : Int) (1 : Int)
      (0 : Int)) := by kernel_rfl
theorem impl_Flake_beside.eq (a1 : List Nat) (a2 : Int) (a3 : Int) (a4 : Int) (K : List Int → Prop) : impl_Flake_beside.wp a1 a2 a3 a4 K =
  (∀ (J1 : Int → List Int → Int → Int → Int → Int → Int → Int → Int → Int → Int → Int → Int → Int → Int → Prop),
  (∀ (x2 : Int) (x3 : List Int) (x4 x5 x6 x7 x8 x9 x10 x11 x12 x13 x14 x15 x16 : Int),
      Go.K.ifB (Decidable.decide (x16 < (6 : Int)))
          (((0 : Int) ≤ x16 ∧ x16 < (6 : Int)) ∧
            (2 : Nat) = (2 : Nat) ∧
              ((0 : Int) ≤ (0 : Int) ∧ (0 : Int) < (2 : Int) ∧ Int.toNat (0 : Int) < (2 : Nat)) ∧
                Go.K.flakes.impl_within.wp
                  (Go.IntKind.wrap Go.IntKind.i64
                    (a3 +
                      List.getD
                        (List.getD [x4, x5, x6, x7, x8, x9, x10, x11, x12, x13, x14, x15] (Int.toNat x16 * (2 : Nat)) (0 : Int) ::
                          List.getD [x4, x5, x6, x7, x8, x9, x10, x11, x12, x13, x14, x15] (Int.toNat x16 * (2 : Nat) + (1 : Nat)) (0 : Int) :: List.replicate (0 : Nat) (0 : Int))
                        (Int.toNat (0 : Int)) (0 : Int)))
                  (0 : Int) (Go.IntKind.wrap Go.IntKind.i64 (x2 - (1 : Int))) fun y17 =>
                  Go.K.ifB y17
                    (((0 : Int) ≤ (1 : Int) ∧ (1 : Int) < (2 : Int) ∧ Int.toNat (1 : Int) < (2 : Nat)) ∧
                      Go.K.flakes.impl_within.wp
                        (Go.IntKind.wrap Go.IntKind.i64
                          (a4 +
                            List.getD
                              (List.getD [x4, x5, x6, x7, x8, x9, x10, x11, x12, x13, x14, x15] (Int.toNat x16 * (2 : Nat)) (0 : Int) ::
                                List.getD [x4, x5, x6, x7, x8, x9, x10, x11, x12, x13, x14, x15] (Int.toNat x16 * (2 : Nat) + (1 : Nat)) (0 : Int) ::
                                  List.replicate (0 : Nat) (0 : Int))
                              (Int.toNat (1 : Int)) (0 : Int)))
                        (0 : Int) (Go.IntKind.wrap Go.IntKind.i64 (x2 - (1 : Int))) fun y18 =>
                        Go.K.ifB y18
                          (((0 : Int) ≤ (0 : Int) ∧ (0 : Int) < (2 : Int) ∧ Int.toNat (0 : Int) < (2 : Nat)) ∧
                            ((0 : Int) ≤ (1 : Int) ∧ (1 : Int) < (2 : Int) ∧ Int.toNat (1 : Int) < (2 : Nat)) ∧
                              List.length
                                    (x3 ++
                                      Go.IntKind.wrap Go.IntKind.i64
                                          (Go.IntKind.wrap Go.IntKind.i64
                                              (a3 +
                                                List.getD
                                                  (List.getD [x4, x5, x6, x7, x8, x9, x10, x11, x12, x13, x14, x15] (Int.toNat x16 * (2 : Nat)) (0 : Int) ::
                                                    List.getD [x4, x5, x6, x7, x8, x9, x10, x11, x12, x13, x14, x15] (Int.toNat x16 * (2 : Nat) + (1 : Nat)) (0 : Int) ::
                                                      List.replicate (0 : Nat) (0 : Int))
                                                  (Int.toNat (0 : Int)) (0 : Int)) +
                                            Go.IntKind.wrap Go.IntKind.i64
                                              (x2 *
                                                Go.IntKind.wrap Go.IntKind.i64
                                                  (a4 +
                                                    List.getD
                                                      (List.getD [x4, x5, x6, x7, x8, x9, x10, x11, x12, x13, x14, x15] (Int.toNat x16 * (2 : Nat)) (0 : Int) ::
                                                        List.getD [x4, x5, x6, x7, x8, x9, x10, x11, x12, x13, x14, x15] (Int.toNat x16 * (2 : Nat) + (1 : Nat)) (0 : Int) ::
                                                          List.replicate (0 : Nat) (0 : Int))
                                                      (Int.toNat (1 : Int)) (0 : Int)))) ::
                                        List.replicate (0 : Nat) (0 : Int)) ≤
                                  (1099511627776 : Nat) ∧
                                J1 x2
                                  (x3 ++
                                    Go.IntKind.wrap Go.IntKind.i64
                                        (Go.IntKind.wrap Go.IntKind.i64
                                            (a3 +
                                              List.getD
                                                (List.getD [x4, x5, x6, x7, x8, x9, x10, x11, x12, x13, x14, x15] (Int.toNat x16 * (2 : Nat)) (0 : Int) ::
                                                  List.getD [x4, x5, x6, x7, x8, x9, x10, x11, x12, x13, x14, x15] (Int.toNat x16 * (2 : Nat) + (1 : Nat)) (0 : Int) ::
                                                    List.replicate (0 : Nat) (0 : Int))
                                                (Int.toNat (0 : Int)) (0 : Int)) +
                                          Go.IntKind.wrap Go.IntKind.i64
                                            (x2 *
                                              Go.IntKind.wrap Go.IntKind.i64
                                                (a4 +
                                                  List.getD
                                                    (List.getD [x4, x5, x6, x7, x8, x9, x10, x11, x12, x13, x14, x15] (Int.toNat x16 * (2 : Nat)) (0 : Int) ::
                                                      List.getD [x4, x5, x6, x7, x8, x9, x10, x11, x12, x13, x14, x15] (Int.toNat x16 * (2 : Nat) + (1 : Nat)) (0 : Int) ::
                                                        List.replicate (0 : Nat) (0 : Int))
                                                    (Int.toNat (1 : Int)) (0 : Int)))) ::
                                      List.replicate (0 : Nat) (0 : Int))
                                  x4 x5 x6 x7 x8 x9 x10 x11 x12 x13 x14 x15 (Go.IntKind.wrap Go.IntKind.i64 (x16 + (1 : Int))))
                          (J1 x2 x3 x4 x5 x6 x7 x8 x9 x10 x11 x12 x13 x14 x15 (Go.IntKind.wrap Go.IntKind.i64 (x16 + (1 : Int)))))
                    (J1 x2 x3 x4 x5 x6 x7 x8 x9 x10 x11 x12 x13 x14 x15 (Go.IntKind.wrap Go.IntKind.i64 (x16 + (1 : Int)))))
          (K x3) →
        J1 x2 x3 x4 x5 x6 x7 x8 x9 x10 x11 x12 x13 x14 x15 x16) →
    J1 a2 (List.replicate (0 : Nat) (0 : Int)) (1 : Int) (0 : Int) (-1 : Int) (0 : Int) (0 : Int) (1 : Int) (0 : Int) (-1 : Int) (1 : Int) (-1 : Int) (-1 : Int) (1 : Int)
      (0 : Int)) := impl_Flake_beside.tx impl_within.wp a1 a2 a3 a4 K

theorem impl_Flake_isReady_1.tx  (a1 : Int) (a2 : List Nat) (a3 : Int) (K : Bool → Prop) : impl_Flake_isReady_1.bd  a1 a2 a3 K =
  (((0 : Int) ≤ a3 ∧ a3 < (↑(List.length a2) : Int)) ∧ K (Go.K.fge Go.FloatKind.f32 (List.getD a2 (Int.toNat a3) (0 : Nat)) (1065353216 : Nat))) := by kernel_rfl
theorem impl_Flake_isReady_1.eq (a1 : Int) (a2 : List Nat) (a3 : Int) (K : Bool → Prop) : impl_Flake_isReady_1.wp a1 a2 a3 K =
  (((0 : Int) ≤ a3 ∧ a3 < (↑(List.length a2) : Int)) ∧ K (Go.K.fge Go.FloatKind.f32 (List.getD a2 (Int.toNat a3) (0 : Nat)) (1065353216 : Nat))) := impl_Flake_isReady_1.tx  a1 a2 a3 K

theorem slices_IndexFunc_int64_int64__Flake_isReady_1.tx (w_impl_Flake_isReady_1 : Int → List Nat → Int → (Bool → Prop) → Prop) (a1 : List Int) (a2 : Int) (a3 : List Nat) (K : Int → Prop) : slices_IndexFunc_int64_int64__Flake_isReady_1.bd w_impl_Flake_isReady_1 a1 a2 a3 K =
  (∀ (J1 : Int → Int → Prop),
  (∀ (x2 x3 : Int),
      Go.K.ifB (Decidable.decide (x3 < x2))
          (((0 : Int) ≤ x3 ∧ x3 < (↑(List.length a1) : Int)) ∧
            w_impl_Flake_isReady_1 a2 a3 (List.getD a1 (Int.toNat x3) (0 : Int)) fun y4 =>
              Go.K.ifB y4 (K x3) (J1 x2 (Go.IntKind.wrap Go.IntKind.i64 (x3 + (1 : Int)))))
          (K (-1 : Int)) →
        J1 x2 x3) →
    J1 (↑(List.length a1) : Int) (0 : Int)) := by kernel_rfl
theorem slices_IndexFunc_int64_int64__Flake_isReady_1.eq (a1 : List Int) (a2 : Int) (a3 : List Nat) (K : Int → Prop) : slices_IndexFunc_int64_int64__Flake_isReady_1.wp a1 a2 a3 K =
  (∀ (J1 : Int → Int → Prop),
  (∀ (x2 x3 : Int),
      Go.K.ifB (Decidable.decide (x3 < x2))
          (((0 : Int) ≤ x3 ∧ x3 < (↑(List.length a1) : Int)) ∧
            Go.K.flakes.impl_Flake_isReady_1.wp a2 a3 (List.getD a1 (Int.toNat x3) (0 : Int)) fun y4 =>
              Go.K.ifB y4 (K x3) (J1 x2 (Go.IntKind.wrap Go.IntKind.i64 (x3 + (1 : Int)))))
          (K (-1 : Int)) →
        J1 x2 x3) →
    J1 (↑(List.length a1) : Int) (0 : Int)) := slices_IndexFunc_int64_int64__Flake_isReady_1.tx impl_Flake_isReady_1.wp a1 a2 a3 K

theorem slices_ContainsFunc_int64_int64__Flake_isReady_1.tx (w_slices_IndexFunc_int64_int64__Flake_isReady_1 : List Int → Int → List Nat → (Int → Prop) → Prop) (a1 : List
  Int) (a2 : Int) (a3 : List Nat) (K : Bool → Prop) : slices_ContainsFunc_int64_int64__Flake_isReady_1.bd w_slices_IndexFunc_int64_int64__Flake_isReady_1 a1 a2 a3 K =
  (w_slices_IndexFunc_int64_int64__Flake_isReady_1 a1 a2 a3 fun y1 => K (Decidable.decide (y1 ≥ (0 : Int)))) := by kernel_rfl
theorem slices_ContainsFunc_int64_int64__Flake_isReady_1.eq (a1 : List
  Int) (a2 : Int) (a3 : List Nat) (K : Bool → Prop) : slices_ContainsFunc_int64_int64__Flake_isReady_1.wp a1 a2 a3 K =
  (Go.K.flakes.slices_IndexFunc_int64_int64__Flake_isReady_1.wp a1 a2 a3 fun y1 => K (Decidable.decide (y1 ≥ (0 : Int)))) := slices_ContainsFunc_int64_int64__Flake_isReady_1.tx slices_IndexFunc_int64_int64__Flake_isReady_1.wp a1 a2 a3 K

theorem impl_Flake_isReady.tx (w_impl_Flake_beside : List Nat → Int → Int → Int → (List Int → Prop) → Prop) (w_slices_ContainsFunc_int64_int64__Flake_isReady_1 : List Int → Int → List Nat → (Bool → Prop) → Prop) (a1 : List Nat) (a2 : Int) (a3 : Int) (K : Bool → Prop) : impl_Flake_isReady.bd w_impl_Flake_beside w_slices_ContainsFunc_int64_int64__Flake_isReady_1 a1 a2 a3 K =
  (((0 : Int) ≤ a3 ∧ a3 < (↑(List.length a1) : Int)) ∧
  Go.K.ifB (Go.K.fge Go.FloatKind.f32 (List.getD a1 (Int.toNat a3) (0 : Nat)) (1065353216 : Nat)) (K Bool.true)
    (a2 ≠ (0 : Int) ∧
      a2 ≠ (0 : Int) ∧
        w_impl_Flake_beside a1 a2 (Int.tmod a3 a2) (Go.IntKind.wrap Go.IntKind.i64 (Int.tdiv a3 a2)) fun y1 =>
          w_slices_ContainsFunc_int64_int64__Flake_isReady_1 y1 a2 a1 fun y2 => K y2)) := by kernel_rfl
theorem impl_Flake_isReady.eq (a1 : List Nat) (a2 : Int) (a3 : Int) (K : Bool → Prop) : impl_Flake_isReady.wp a1 a2 a3 K =
  (((0 : Int) ≤ a3 ∧ a3 < (↑(List.length a1) : Int)) ∧
  Go.K.ifB (Go.K.fge Go.FloatKind.f32 (List.getD a1 (Int.toNat a3) (0 : Nat)) (1065353216 : Nat)) (K Bool.true)
    (a2 ≠ (0 : Int) ∧
      a2 ≠ (0 : Int) ∧
        Go.K.flakes.impl_Flake_beside.wp a1 a2 (Int.tmod a3 a2) (Go.IntKind.wrap Go.IntKind.i64 (Int.tdiv a3 a2)) fun y1 =>
          Go.K.flakes.slices_ContainsFunc_int64_int64__Flake_isReady_1.wp y1 a2 a1 fun y2 => K y2)) := impl_Flake_isReady.tx impl_Flake_beside.wp slices_ContainsFunc_int64_int64__Flake_isReady_1.wp a1 a2 a3 K

theorem impl_StepFlake_1.tx (w_impl_Flake_beside : List Nat → Int → Int → Int → (List Int → Prop) → Prop) (a1 : Int) (a2 : List
  Nat) (a3 : List Nat) (a4 : Nat) (a5 : List Bool) (a6 : Nat) (a7 : Int) (a8 : Int) (K : Nat → Prop) : impl_StepFlake_1.bd w_impl_Flake_beside a1 a2 a3 a4 a5 a6 a7 a8 K =
  (w_impl_Flake_beside a2 a1 a7 a8 fun y1 =>
  ((0 : Int) ≤ Go.IntKind.wrap Go.IntKind.i64 (a7 + Go.IntKind.wrap Go.IntKind.i64 (a1 * a8)) ∧
      Go.IntKind.wrap Go.IntKind.i64 (a7 + Go.IntKind.wrap Go.IntKind.i64 (a1 * a8)) < (↑(List.length a3) : Int)) ∧
    ∀ (J2 : List Int → Int → Nat → Nat → Int → Int → Prop),
      (∀ (x3 : List Int) (x4 : Int) (x5 x6 : Nat) (x7 x8 : Int),
          Go.K.ifB (Decidable.decide (x8 < x7))
              (((0 : Int) ≤ x8 ∧ x8 < (↑(List.length x3) : Int)) ∧
                ((0 : Int) ≤ List.getD x3 (Int.toNat x8) (0 : Int) ∧ List.getD x3 (Int.toNat x8) (0 : Int) < (↑(List.length a3) : Int)) ∧
                  J2 x3 x4 x5 (Go.K.farith Go.BinOp.add Go.FloatKind.f32 x6 (List.getD a3 (Int.toNat (List.getD x3 (Int.toNat x8) (0 : Int))) (0 : Nat))) x7
                    (Go.IntKind.wrap Go.IntKind.i64 (x8 + (1 : Int))))
              (∀ (J9 : Int → Nat → Nat → Int → Int → Prop),
                (∀ (x10 : Int) (x11 x12 : Nat) (x13 x14 : Int),
                    Go.K.ifB (Decidable.decide (x14 < x13)) (J9 x10 x11 (Go.K.farith Go.BinOp.add Go.FloatKind.f32 x12 x11) x13 (Go.IntKind.wrap Go.IntKind.i64 (x14 + (1 : Int))))
                        (((0 : Int) ≤ x10 ∧ x10 < (↑(List.length a5) : Int)) ∧
                          Go.K.ifB (List.getD a5 (Int.toNat x10) Bool.false)
                            (((0 : Int) ≤ x10 ∧ x10 < (↑(List.length a2) : Int)) ∧
                              K
                                (Go.K.farith Go.BinOp.add Go.FloatKind.f32
                                  (Go.K.farith Go.BinOp.add Go.FloatKind.f32 x11
                                    (Go.K.farith Go.BinOp.mul Go.FloatKind.f32 (Go.K.farith Go.BinOp.mul Go.FloatKind.f32 (1056964608 : Nat) a4)
                                      (Go.K.farith Go.BinOp.sub Go.FloatKind.f32 (Go.K.farith Go.BinOp.quo Go.FloatKind.f32 x12 (1086324736 : Nat)) x11)))
                                  (Go.K.farith Go.BinOp.add Go.FloatKind.f32 (List.getD a2 (Int.toNat x10) (0 : Nat)) a6)))
                            (K
                              (Go.K.farith Go.BinOp.add Go.FloatKind.f32 x11
                                (Go.K.farith Go.BinOp.mul Go.FloatKind.f32 (Go.K.farith Go.BinOp.mul Go.FloatKind.f32 (1056964608 : Nat) a4)
                                  (Go.K.farith Go.BinOp.sub Go.FloatKind.f32 (Go.K.farith Go.BinOp.quo Go.FloatKind.f32 x12 (1086324736 : Nat)) x11))))) →
                      J9 x10 x11 x12 x13 x14) →
                  J9 x4 x5 x6 (Go.IntKind.wrap Go.IntKind.i64 ((6 : Int) - (↑(List.length x3) : Int))) (0 : Int)) →
            J2 x3 x4 x5 x6 x7 x8) →
        J2 y1 (Go.IntKind.wrap Go.IntKind.i64 (a7 + Go.IntKind.wrap Go.IntKind.i64 (a1 * a8)))
          (List.getD a3 (Int.toNat (Go.IntKind.wrap Go.IntKind.i64 (a7 + Go.IntKind.wrap Go.IntKind.i64 (a1 * a8)))) (0 : Nat)) (0 : Nat) (↑(List.length y1) : Int)
          (0 : Int)) := by kernel_rfl
theorem impl_StepFlake_1.eq (a1 : Int) (a2 : List
  Nat) (a3 : List Nat) (a4 : Nat) (a5 : List Bool) (a6 : Nat) (a7 : Int) (a8 : Int) (K : Nat → Prop) : impl_StepFlake_1.wp a1 a2 a3 a4 a5 a6 a7 a8 K =
  (Go.K.flakes.impl_Flake_beside.wp a2 a1 a7 a8 fun y1 =>
  ((0 : Int) ≤ Go.IntKind.wrap Go.IntKind.i64 (a7 + Go.IntKind.wrap Go.IntKind.i64 (a1 * a8)) ∧
      Go.IntKind.wrap Go.IntKind.i64 (a7 + Go.IntKind.wrap Go.IntKind.i64 (a1 * a8)) < (↑(List.length a3) : Int)) ∧
    ∀ (J2 : List Int → Int → Nat → Nat → Int → Int → Prop),
      (∀ (x3 : List Int) (x4 : Int) (x5 x6 : Nat) (x7 x8 : Int),
          Go.K.ifB (Decidable.decide (x8 < x7))
              (((0 : Int) ≤ x8 ∧ x8 < (↑(List.length x3) : Int)) ∧
                ((0 : Int) ≤ List.getD x3 (Int.toNat x8) (0 : Int) ∧ List.getD x3 (Int.toNat x8) (0 : Int) < (↑(List.length a3) : Int)) ∧
                  J2 x3 x4 x5 (Go.K.farith Go.BinOp.add Go.FloatKind.f32 x6 (List.getD a3 (Int.toNat (List.getD x3 (Int.toNat x8) (0 : Int))) (0 : Nat))) x7
                    (Go.IntKind.wrap Go.IntKind.i64 (x8 + (1 : Int))))
              (∀ (J9 : Int → Nat → Nat → Int → Int → Prop),
                (∀ (x10 : Int) (x11 x12 : Nat) (x13 x14 : Int),
                    Go.K.ifB (Decidable.decide (x14 < x13)) (J9 x10 x11 (Go.K.farith Go.BinOp.add Go.FloatKind.f32 x12 x11) x13 (Go.IntKind.wrap Go.IntKind.i64 (x14 + (1 : Int))))
                        (((0 : Int) ≤ x10 ∧ x10 < (↑(List.length a5) : Int)) ∧
                          Go.K.ifB (List.getD a5 (Int.toNat x10) Bool.false)
                            (((0 : Int) ≤ x10 ∧ x10 < (↑(List.length a2) : Int)) ∧
                              K
                                (Go.K.farith Go.BinOp.add Go.FloatKind.f32
                                  (Go.K.farith Go.BinOp.add Go.FloatKind.f32 x11
                                    (Go.K.farith Go.BinOp.mul Go.FloatKind.f32 (Go.K.farith Go.BinOp.mul Go.FloatKind.f32 (1056964608 : Nat) a4)
                                      (Go.K.farith Go.BinOp.sub Go.FloatKind.f32 (Go.K.farith Go.BinOp.quo Go.FloatKind.f32 x12 (1086324736 : Nat)) x11)))
                                  (Go.K.farith Go.BinOp.add Go.FloatKind.f32 (List.getD a2 (Int.toNat x10) (0 : Nat)) a6)))
                            (K
                              (Go.K.farith Go.BinOp.add Go.FloatKind.f32 x11
                                (Go.K.farith Go.BinOp.mul Go.FloatKind.f32 (Go.K.farith Go.BinOp.mul Go.FloatKind.f32 (1056964608 : Nat) a4)
                                  (Go.K.farith Go.BinOp.sub Go.FloatKind.f32 (Go.K.farith Go.BinOp.quo Go.FloatKind.f32 x12 (1086324736 : Nat)) x11))))) →
                      J9 x10 x11 x12 x13 x14) →
                  J9 x4 x5 x6 (Go.IntKind.wrap Go.IntKind.i64 ((6 : Int) - (↑(List.length x3) : Int))) (0 : Int)) →
            J2 x3 x4 x5 x6 x7 x8) →
        J2 y1 (Go.IntKind.wrap Go.IntKind.i64 (a7 + Go.IntKind.wrap Go.IntKind.i64 (a1 * a8)))
          (List.getD a3 (Int.toNat (Go.IntKind.wrap Go.IntKind.i64 (a7 + Go.IntKind.wrap Go.IntKind.i64 (a1 * a8)))) (0 : Nat)) (0 : Nat) (↑(List.length y1) : Int)
          (0 : Int)) := impl_StepFlake_1.tx impl_Flake_beside.wp a1 a2 a3 a4 a5 a6 a7 a8 K

theorem impl_frozen__StepFlake_1.tx (w_impl_StepFlake_1 : Int → List Nat → List Nat → Nat → List Bool → Nat → Int → Int → (Nat → Prop) → Prop) (w_impl_ValidFlake : List Nat → Int → (Bool → Prop) → Prop) (a1 : Int) (a2 : List
  Nat) (a3 : List Nat) (a4 : Nat) (a5 : List Bool) (a6 : Nat) (a7 : Int) (K : List Nat → Int → Bool → Prop) : impl_frozen__StepFlake_1.bd w_impl_StepFlake_1 w_impl_ValidFlake a1 a2 a3 a4 a5 a6 a7 K =
  (∀ (J1 : Int → Int → List Nat → List Nat → Int → Int → Prop),
  (∀ (x2 x3 : Int) (x4 x5 : List Nat) (x6 x7 : Int),
      Go.K.ifB (Decidable.decide (x7 < x6))
          (∀ (J8 : Int → Int → List Nat → List Nat → Int → Int → Int → Int → Int → Prop),
            (∀ (x9 x10 : Int) (x11 x12 : List Nat) (x13 x14 x15 x16 x17 : Int),
                Go.K.ifB (Decidable.decide (x17 < x16))
                    (w_impl_StepFlake_1 a1 a2 a3 a4 a5 a6 x17 x13 fun y18 =>
                      List.length (x12 ++ y18 :: List.replicate (0 : Nat) (0 : Nat)) ≤ (1099511627776 : Nat) ∧
                        J8 x9 x10 x11 (x12 ++ y18 :: List.replicate (0 : Nat) (0 : Nat)) x13 x14 x15 x16 (Go.IntKind.wrap Go.IntKind.i64 (x17 + (1 : Int))))
                    (J1 x9 x10 x11 x12 x14 (Go.IntKind.wrap Go.IntKind.i64 (x15 + (1 : Int)))) →
                  J8 x9 x10 x11 x12 x13 x14 x15 x16 x17) →
              J8 x2 x3 x4 x5 x7 x6 x7 a7 (0 : Int))
          (w_impl_ValidFlake x5 x3 fun y21 => Go.K.ifB (!y21) (K [] (0 : Int) Bool.false) (K x5 x3 Bool.true)) →
        J1 x2 x3 x4 x5 x6 x7) →
    J1 (0 : Int) a7 [] [] a7 (0 : Int)) := by kernel_rfl
theorem impl_frozen__StepFlake_1.eq (a1 : Int) (a2 : List
  Nat) (a3 : List Nat) (a4 : Nat) (a5 : List Bool) (a6 : Nat) (a7 : Int) (K : List Nat → Int → Bool → Prop) : impl_frozen__StepFlake_1.wp a1 a2 a3 a4 a5 a6 a7 K =
  (∀ (J1 : Int → Int → List Nat → List Nat → Int → Int → Prop),
  (∀ (x2 x3 : Int) (x4 x5 : List Nat) (x6 x7 : Int),
      Go.K.ifB (Decidable.decide (x7 < x6))
          (∀ (J8 : Int → Int → List Nat → List Nat → Int → Int → Int → Int → Int → Prop),
            (∀ (x9 x10 : Int) (x11 x12 : List Nat) (x13 x14 x15 x16 x17 : Int),
                Go.K.ifB (Decidable.decide (x17 < x16))
                    (Go.K.flakes.impl_StepFlake_1.wp a1 a2 a3 a4 a5 a6 x17 x13 fun y18 =>
                      List.length (x12 ++ y18 :: List.replicate (0 : Nat) (0 : Nat)) ≤ (1099511627776 : Nat) ∧
                        J8 x9 x10 x11 (x12 ++ y18 :: List.replicate (0 : Nat) (0 : Nat)) x13 x14 x15 x16 (Go.IntKind.wrap Go.IntKind.i64 (x17 + (1 : Int))))
                    (J1 x9 x10 x11 x12 x14 (Go.IntKind.wrap Go.IntKind.i64 (x15 + (1 : Int)))) →
                  J8 x9 x10 x11 x12 x13 x14 x15 x16 x17) →
              J8 x2 x3 x4 x5 x7 x6 x7 a7 (0 : Int))
          (Go.K.flakes.impl_ValidFlake.wp x5 x3 fun y21 => Go.K.ifB (!y21) (K [] (0 : Int) Bool.false) (K x5 x3 Bool.true)) →
        J1 x2 x3 x4 x5 x6 x7) →
    J1 (0 : Int) a7 [] [] a7 (0 : Int)) := impl_frozen__StepFlake_1.tx impl_StepFlake_1.wp impl_ValidFlake.wp a1 a2 a3 a4 a5 a6 a7 K

theorem impl_StepFlake.tx (w_impl_ValidFlake : List Nat → Int → (Bool → Prop) → Prop) (w_impl_areFinite : List Nat → (Bool → Prop) → Prop) (w_impl_Flake_isReady : List Nat → Int → Int → (Bool → Prop) → Prop) (w_impl_frozen__StepFlake_1 : Int → List Nat → List Nat → Nat → List Bool → Nat → Int → (List Nat → Int → Bool → Prop) → Prop) (a1 : List Nat) (a2 : Int) (a3 : Nat) (a4 : Nat) (K : List Nat → Int → Bool → Prop) : impl_StepFlake.bd w_impl_ValidFlake w_impl_areFinite w_impl_Flake_isReady w_impl_frozen__StepFlake_1 a1 a2 a3 a4 K =
  (w_impl_ValidFlake a1 a2 fun y1 =>
  Go.K.ifB (!y1) (K [] (0 : Int) Bool.false)
    (w_impl_areFinite (a3 :: a4 :: List.replicate (0 : Nat) (0 : Nat)) fun y2 =>
      Go.K.ifB (!y2) (K [] (0 : Int) Bool.false)
        (∀ (J3 : Int → Nat → Nat → Int → List Nat → List Nat → List Bool → Int → Int → Prop),
          (∀ (x4 : Int) (x5 x6 : Nat) (x7 : Int) (x8 x9 : List Nat) (x10 : List Bool) (x11 x12 : Int),
              Go.K.ifB (Decidable.decide (x12 < x11))
                  (((0 : Int) ≤ x12 ∧ x12 < (↑(List.length a1) : Int)) ∧
                    w_impl_Flake_isReady a1 x4 x12 fun y13 =>
                      ∀ (J14 : Int → Nat → Nat → Int → List Nat → List Nat → List Bool → Nat → Bool → Int → Int → Prop),
                        (∀ (x15 : Int) (x16 x17 : Nat) (x18 : Int) (x19 x20 : List Nat) (x21 : List Bool) (x22 : Nat) (x23 : Bool) (x24 x25 : Int),
                            List.length (x20 ++ x22 :: List.replicate (0 : Nat) (0 : Nat)) ≤ (1099511627776 : Nat) ∧
                                List.length (x21 ++ x23 :: List.replicate (0 : Nat) Bool.false) ≤ (1099511627776 : Nat) ∧
                                  J3 x15 x16 x17 x18 x19 (x20 ++ x22 :: List.replicate (0 : Nat) (0 : Nat)) (x21 ++ x23 :: List.replicate (0 : Nat) Bool.false) x24
                                    (Go.IntKind.wrap Go.IntKind.i64 (x25 + (1 : Int))) →
                              J14 x15 x16 x17 x18 x19 x20 x21 x22 x23 x24 x25) →
                          Go.K.ifB y13 (J14 x4 x5 x6 x7 x8 x9 x10 (0 : Nat) y13 x11 x12) (J14 x4 x5 x6 x7 x8 x9 x10 (List.getD a1 (Int.toNat x12) (0 : Nat)) y13 x11 x12))
                  (w_impl_frozen__StepFlake_1 x4 a1 x9 x5 x10 x6 x4 fun y28 y29 y30 => K y28 y29 y30) →
                J3 x4 x5 x6 x7 x8 x9 x10 x11 x12) →
            J3 a2 a3 a4 (0 : Int) [] (List.replicate (0 : Nat) (0 : Nat)) (List.replicate (0 : Nat) Bool.false) (↑(List.length a1) : Int) (0 : Int)))) := by kernel_rfl
theorem impl_StepFlake.eq (a1 : List Nat) (a2 : Int) (a3 : Nat) (a4 : Nat) (K : List Nat → Int → Bool → Prop) : impl_StepFlake.wp a1 a2 a3 a4 K =
  (Go.K.flakes.impl_ValidFlake.wp a1 a2 fun y1 =>
  Go.K.ifB (!y1) (K [] (0 : Int) Bool.false)
    (Go.K.flakes.impl_areFinite.wp (a3 :: a4 :: List.replicate (0 : Nat) (0 : Nat)) fun y2 =>
      Go.K.ifB (!y2) (K [] (0 : Int) Bool.false)
        (∀ (J3 : Int → Nat → Nat → Int → List Nat → List Nat → List Bool → Int → Int → Prop),
          (∀ (x4 : Int) (x5 x6 : Nat) (x7 : Int) (x8 x9 : List Nat) (x10 : List Bool) (x11 x12 : Int),
              Go.K.ifB (Decidable.decide (x12 < x11))
                  (((0 : Int) ≤ x12 ∧ x12 < (↑(List.length a1) : Int)) ∧
                    Go.K.flakes.impl_Flake_isReady.wp a1 x4 x12 fun y13 =>
                      ∀ (J14 : Int → Nat → Nat → Int → List Nat → List Nat → List Bool → Nat → Bool → Int → Int → Prop),
                        (∀ (x15 : Int) (x16 x17 : Nat) (x18 : Int) (x19 x20 : List Nat) (x21 : List Bool) (x22 : Nat) (x23 : Bool) (x24 x25 : Int),
                            List.length (x20 ++ x22 :: List.replicate (0 : Nat) (0 : Nat)) ≤ (1099511627776 : Nat) ∧
                                List.length (x21 ++ x23 :: List.replicate (0 : Nat) Bool.false) ≤ (1099511627776 : Nat) ∧
                                  J3 x15 x16 x17 x18 x19 (x20 ++ x22 :: List.replicate (0 : Nat) (0 : Nat)) (x21 ++ x23 :: List.replicate (0 : Nat) Bool.false) x24
                                    (Go.IntKind.wrap Go.IntKind.i64 (x25 + (1 : Int))) →
                              J14 x15 x16 x17 x18 x19 x20 x21 x22 x23 x24 x25) →
                          Go.K.ifB y13 (J14 x4 x5 x6 x7 x8 x9 x10 (0 : Nat) y13 x11 x12) (J14 x4 x5 x6 x7 x8 x9 x10 (List.getD a1 (Int.toNat x12) (0 : Nat)) y13 x11 x12))
                  (Go.K.flakes.impl_frozen__StepFlake_1.wp x4 a1 x9 x5 x10 x6 x4 fun y28 y29 y30 => K y28 y29 y30) →
                J3 x4 x5 x6 x7 x8 x9 x10 x11 x12) →
            J3 a2 a3 a4 (0 : Int) [] (List.replicate (0 : Nat) (0 : Nat)) (List.replicate (0 : Nat) Bool.false) (↑(List.length a1) : Int) (0 : Int)))) := impl_StepFlake.tx impl_ValidFlake.wp impl_areFinite.wp impl_Flake_isReady.wp impl_frozen__StepFlake_1.wp a1 a2 a3 a4 K

theorem impl_RunFlake.tx (w_impl_ValidFlake : List Nat → Int → (Bool → Prop) → Prop) (w_impl_areFinite : List Nat → (Bool → Prop) → Prop) (w_impl_within : Int → Int → Int → (Bool → Prop) → Prop) (w_slices_Clone_float32_float32 : List Nat → (List Nat → Prop) → Prop) (w_impl_StepFlake : List Nat → Int → Nat → Nat → (List Nat → Int → Bool → Prop) → Prop) (w_impl_Flake_ice : List Nat → Int → (List Int → Prop) → Prop) (a1 : List Nat) (a2 : Int) (a3 : Nat) (a4 : Nat) (a5 : Int) (K : List Nat → List Int → Int → Bool → Prop) : impl_RunFlake.bd w_impl_ValidFlake w_impl_areFinite w_impl_within w_slices_Clone_float32_float32 w_impl_StepFlake w_impl_Flake_ice a1 a2 a3 a4 a5 K =
  (w_impl_ValidFlake a1 a2 fun y1 =>
  Go.K.ifB (!y1) (K [] [] (0 : Int) Bool.false)
    (w_impl_areFinite (a3 :: a4 :: List.replicate (0 : Nat) (0 : Nat)) fun y2 =>
      Go.K.ifB (!y2) (K [] [] (0 : Int) Bool.false)
        (w_impl_within a5 (0 : Int) (64 : Int) fun y3 =>
          Go.K.ifB (!y3) (K [] [] (0 : Int) Bool.false)
            (w_slices_Clone_float32_float32 a1 fun y4 =>
              ∀ (J5 : Int → Int → List Int → List Nat → List Nat → Int → Int → Prop),
                (∀ (x6 x7 : Int) (x8 : List Int) (x9 x10 : List Nat) (x11 x12 : Int),
                    Go.K.ifB (Decidable.decide (x12 < x11))
                        (w_impl_StepFlake x9 x6 a3 a4 fun y13 y14 y15 =>
                          Go.K.ifB (!y15) (K [] [] (0 : Int) Bool.false)
                            (w_impl_Flake_ice y13 y14 fun y16 =>
                              List.length (x8 ++ (↑(List.length y16) : Int) :: List.replicate (0 : Nat) (0 : Int)) ≤ (1099511627776 : Nat) ∧
                                J5 y14 x7 (x8 ++ (↑(List.length y16) : Int) :: List.replicate (0 : Nat) (0 : Int)) y13 x10 x11 (Go.IntKind.wrap Go.IntKind.i64 (x12 + (1 : Int)))))
                        (K x9 x8 x6 Bool.true) →
                      J5 x6 x7 x8 x9 x10 x11 x12) →
                  J5 a2 (0 : Int) (List.replicate (0 : Nat) (0 : Int)) y4 [] a5 (0 : Int))))) := by kernel_rfl
theorem impl_RunFlake.eq (a1 : List Nat) (a2 : Int) (a3 : Nat) (a4 : Nat) (a5 : Int) (K : List Nat → List Int → Int → Bool → Prop) : impl_RunFlake.wp a1 a2 a3 a4 a5 K =
  (Go.K.flakes.impl_ValidFlake.wp a1 a2 fun y1 =>
  Go.K.ifB (!y1) (K [] [] (0 : Int) Bool.false)
    (Go.K.flakes.impl_areFinite.wp (a3 :: a4 :: List.replicate (0 : Nat) (0 : Nat)) fun y2 =>
      Go.K.ifB (!y2) (K [] [] (0 : Int) Bool.false)
        (Go.K.flakes.impl_within.wp a5 (0 : Int) (64 : Int) fun y3 =>
          Go.K.ifB (!y3) (K [] [] (0 : Int) Bool.false)
            (Go.K.flakes.slices_Clone_float32_float32.wp a1 fun y4 =>
              ∀ (J5 : Int → Int → List Int → List Nat → List Nat → Int → Int → Prop),
                (∀ (x6 x7 : Int) (x8 : List Int) (x9 x10 : List Nat) (x11 x12 : Int),
                    Go.K.ifB (Decidable.decide (x12 < x11))
                        (Go.K.flakes.impl_StepFlake.wp x9 x6 a3 a4 fun y13 y14 y15 =>
                          Go.K.ifB (!y15) (K [] [] (0 : Int) Bool.false)
                            (Go.K.flakes.impl_Flake_ice.wp y13 y14 fun y16 =>
                              List.length (x8 ++ (↑(List.length y16) : Int) :: List.replicate (0 : Nat) (0 : Int)) ≤ (1099511627776 : Nat) ∧
                                J5 y14 x7 (x8 ++ (↑(List.length y16) : Int) :: List.replicate (0 : Nat) (0 : Int)) y13 x10 x11 (Go.IntKind.wrap Go.IntKind.i64 (x12 + (1 : Int)))))
                        (K x9 x8 x6 Bool.true) →
                      J5 x6 x7 x8 x9 x10 x11 x12) →
                  J5 a2 (0 : Int) (List.replicate (0 : Nat) (0 : Int)) y4 [] a5 (0 : Int))))) := impl_RunFlake.tx impl_ValidFlake.wp impl_areFinite.wp impl_within.wp slices_Clone_float32_float32.wp impl_StepFlake.wp impl_Flake_ice.wp a1 a2 a3 a4 a5 K

theorem laws_FnFlakes.tx (w_laws_r8Long : List Int → List Int → (Bool → Prop) → Prop) (w_spec_R8Flake : List Int → (List Nat → Int → Prop) → Prop) (w_laws_r8At : List Int → Int → Int → (Int → Prop) → Prop) (w_impl_RunFlake : List Nat → Int → Nat → Nat → Int → (List Nat → List Int → Int → Bool → Prop) → Prop) (w_impl_IceOf : List Nat → Int → (List Int → Bool → Prop) → Prop) (w_impl_SameFlake : List Nat → List Nat → Int → Int → (Bool → Prop) → Prop) (w_impl_ValidFlake : List Nat → Int → (Bool → Prop) → Prop) (w_impl_SwapFlake : List Nat → Int → (List Nat → Int → Bool → Prop) → Prop) (w_impl_BackFlake : List Nat → Int → (List Nat → Int → Bool → Prop) → Prop) (w_impl_NewFlake : Int → Nat → (List Nat → Int → Bool → Prop) → Prop) (w_impl_ReachOfFlake : List Nat → Int → (Int → Bool → Prop) → Prop) (w_impl_StepFlake : List Nat → Int → Nat → Nat → (List Nat → Int → Bool → Prop) → Prop) (a1 : List Int) (a2 : List Int) (K : Bool → Prop) : laws_FnFlakes.bd w_laws_r8Long w_spec_R8Flake w_laws_r8At w_impl_RunFlake w_impl_IceOf w_impl_SameFlake w_impl_ValidFlake w_impl_SwapFlake w_impl_BackFlake w_impl_NewFlake w_impl_ReachOfFlake w_impl_StepFlake a1 a2 K =
  (w_laws_r8Long a1 a2 fun y1 =>
  Go.K.ifB y1 (K Bool.true)
    (w_spec_R8Flake a1 fun y2 y3 =>
      w_laws_r8At a2 (0 : Int) (9 : Int) fun y4 =>
        w_laws_r8At a2 (1 : Int) (9 : Int) fun y5 =>
          w_laws_r8At a2 (2 : Int) (5 : Int) fun y6 =>
            w_laws_r8At a2 (3 : Int) (4 : Int) fun y7 =>
              w_impl_RunFlake y2 y3 (Go.K.farith Go.BinOp.quo Go.FloatKind.f32 (Go.K.fofint Go.FloatKind.f32 y4) (1090519040 : Nat))
                (Go.K.farith Go.BinOp.quo Go.FloatKind.f32 (Go.K.fofint Go.FloatKind.f32 y5) (1098907648 : Nat)) y6 fun y8 y9 y10 y11 =>
                w_impl_RunFlake y8 y10 (Go.K.farith Go.BinOp.quo Go.FloatKind.f32 (Go.K.fofint Go.FloatKind.f32 y4) (1090519040 : Nat))
                  (Go.K.farith Go.BinOp.quo Go.FloatKind.f32 (Go.K.fofint Go.FloatKind.f32 y5) (1098907648 : Nat)) y7 fun y12 y13 y14 y15 =>
                  w_impl_RunFlake y2 y3 (Go.K.farith Go.BinOp.quo Go.FloatKind.f32 (Go.K.fofint Go.FloatKind.f32 y4) (1090519040 : Nat))
                    (Go.K.farith Go.BinOp.quo Go.FloatKind.f32 (Go.K.fofint Go.FloatKind.f32 y5) (1098907648 : Nat)) (Go.IntKind.wrap Go.IntKind.i64 (y6 + y7))
                    fun y16 y17 y18 y19 =>
                    w_impl_IceOf y2 y3 fun y20 y21 =>
                      Go.K.ifB (!y11) (K Bool.false)
                        (Go.K.ifB (!y15) (K Bool.false)
                          (Go.K.ifB (!y19) (K Bool.false)
                            (Go.K.ifB (!y21) (K Bool.false)
                              (w_impl_SameFlake y12 y16 y14 y18 fun y22 =>
                                Go.K.ifB (!y22) (K Bool.false)
                                  (Go.K.ifB ((↑(List.length y9) : Int) != y6) (K Bool.false)
                                    (Go.K.ifB ((↑(List.length y13) : Int) != y7) (K Bool.false)
                                      (Go.K.ifB ((↑(List.length y17) : Int) != Go.IntKind.wrap Go.IntKind.i64 (y6 + y7)) (K Bool.false)
                                        (w_impl_ValidFlake y16 y18 fun y23 =>
                                          Go.K.ifB (!y23) (K Bool.false)
                                            (∀ (J24 : Int → List Int → List Nat → Nat → Nat → Int → Int → Int → Prop),
                                              (∀ (x25 : Int) (x26 : List Int) (x27 : List Nat) (x28 x29 : Nat) (x30 x31 x32 : Int),
                                                  Go.K.ifB (Decidable.decide (x32 < (↑(List.length x26) : Int)))
                                                      (((0 : Int) ≤ x32 ∧ x32 < (↑(List.length x26) : Int)) ∧
                                                        Go.K.ifB (Decidable.decide (List.getD x26 (Int.toNat x32) (0 : Int) < x31)) (K Bool.false)
                                                          (((0 : Int) ≤ x32 ∧ x32 < (↑(List.length x26) : Int)) ∧
                                                            J24 x25 x26 x27 x28 x29 x30 (List.getD x26 (Int.toNat x32) (0 : Int))
                                                              (Go.IntKind.wrap Go.IntKind.i64 (x32 + (1 : Int)))))
                                                      (w_impl_SwapFlake x27 x25 fun y33 y34 y35 =>
                                                        w_impl_SwapFlake y33 y34 fun y36 y37 y38 =>
                                                          w_impl_BackFlake x27 x25 fun y39 y40 y41 =>
                                                            w_impl_BackFlake y39 y40 fun y42 y43 y44 =>
                                                              w_laws_r8At a2 (4 : Int) (13 : Int) fun y45 =>
                                                                w_impl_NewFlake x25
                                                                  (Go.K.farith Go.BinOp.quo Go.FloatKind.f32 (Go.K.fofint Go.FloatKind.f32 y45) (1098907648 : Nat))
                                                                  fun y46 y47 y48 =>
                                                                  w_impl_RunFlake y46 y47 x28 x29 x30 fun y49 y50 y51 y52 =>
                                                                    w_impl_ReachOfFlake y49 y51 fun y53 y54 =>
                                                                      w_impl_ReachOfFlake y46 y47 fun y55 y56 =>
                                                                        w_impl_StepFlake x27 x25 x28 x29 fun y57 y58 y59 =>
                                                                          w_impl_RunFlake x27 x25 x28 x29 (1 : Int) fun y60 y61 y62 y63 =>
                                                                            Go.K.ifB y35
                                                                              (Go.K.ifB y38
                                                                                (Go.K.ifB y41
                                                                                  (Go.K.ifB y44
                                                                                    (Go.K.ifB y48
                                                                                      (Go.K.ifB y52
                                                                                        (Go.K.ifB y54
                                                                                          (Go.K.ifB y56
                                                                                            (Go.K.ifB y59
                                                                                              (Go.K.ifB y63
                                                                                                (w_impl_SameFlake y36 x27 y37 x25 fun y64 =>
                                                                                                  Go.K.ifB y64
                                                                                                    (w_impl_SameFlake y42 x27 y43 x25 fun y65 =>
                                                                                                      Go.K.ifB y65
                                                                                                        (Go.K.ifB (Decidable.decide (y53 ≤ x30))
                                                                                                          (Go.K.ifB (y55 == (0 : Int))
                                                                                                            (Go.K.ifB ((↑(List.length y50) : Int) == x30)
                                                                                                              (w_impl_SameFlake y57 y60 y58 y62 fun y66 => K y66)
                                                                                                              (K Bool.false))
                                                                                                            (K Bool.false))
                                                                                                          (K Bool.false))
                                                                                                        (K Bool.false))
                                                                                                    (K Bool.false))
                                                                                                (K Bool.false))
                                                                                              (K Bool.false))
                                                                                            (K Bool.false))
                                                                                          (K Bool.false))
                                                                                        (K Bool.false))
                                                                                      (K Bool.false))
                                                                                    (K Bool.false))
                                                                                  (K Bool.false))
                                                                                (K Bool.false))
                                                                              (K Bool.false)) →
                                                    J24 x25 x26 x27 x28 x29 x30 x31 x32) →
                                                J24 y3 y17 y2 (Go.K.farith Go.BinOp.quo Go.FloatKind.f32 (Go.K.fofint Go.FloatKind.f32 y4) (1090519040 : Nat))
                                                  (Go.K.farith Go.BinOp.quo Go.FloatKind.f32 (Go.K.fofint Go.FloatKind.f32 y5) (1098907648 : Nat)) y6 (↑(List.length y20) : Int)
                                                  (0 : Int)))))))))))) := by kernel_rfl
theorem laws_FnFlakes.eq (a1 : List Int) (a2 : List Int) (K : Bool → Prop) : laws_FnFlakes.wp a1 a2 K =
  (Go.K.flakes.laws_r8Long.wp a1 a2 fun y1 =>
  Go.K.ifB y1 (K Bool.true)
    (Go.K.flakes.spec_R8Flake.wp a1 fun y2 y3 =>
      Go.K.flakes.laws_r8At.wp a2 (0 : Int) (9 : Int) fun y4 =>
        Go.K.flakes.laws_r8At.wp a2 (1 : Int) (9 : Int) fun y5 =>
          Go.K.flakes.laws_r8At.wp a2 (2 : Int) (5 : Int) fun y6 =>
            Go.K.flakes.laws_r8At.wp a2 (3 : Int) (4 : Int) fun y7 =>
              Go.K.flakes.impl_RunFlake.wp y2 y3 (Go.K.farith Go.BinOp.quo Go.FloatKind.f32 (Go.K.fofint Go.FloatKind.f32 y4) (1090519040 : Nat))
                (Go.K.farith Go.BinOp.quo Go.FloatKind.f32 (Go.K.fofint Go.FloatKind.f32 y5) (1098907648 : Nat)) y6 fun y8 y9 y10 y11 =>
                Go.K.flakes.impl_RunFlake.wp y8 y10 (Go.K.farith Go.BinOp.quo Go.FloatKind.f32 (Go.K.fofint Go.FloatKind.f32 y4) (1090519040 : Nat))
                  (Go.K.farith Go.BinOp.quo Go.FloatKind.f32 (Go.K.fofint Go.FloatKind.f32 y5) (1098907648 : Nat)) y7 fun y12 y13 y14 y15 =>
                  Go.K.flakes.impl_RunFlake.wp y2 y3 (Go.K.farith Go.BinOp.quo Go.FloatKind.f32 (Go.K.fofint Go.FloatKind.f32 y4) (1090519040 : Nat))
                    (Go.K.farith Go.BinOp.quo Go.FloatKind.f32 (Go.K.fofint Go.FloatKind.f32 y5) (1098907648 : Nat)) (Go.IntKind.wrap Go.IntKind.i64 (y6 + y7))
                    fun y16 y17 y18 y19 =>
                    Go.K.flakes.impl_IceOf.wp y2 y3 fun y20 y21 =>
                      Go.K.ifB (!y11) (K Bool.false)
                        (Go.K.ifB (!y15) (K Bool.false)
                          (Go.K.ifB (!y19) (K Bool.false)
                            (Go.K.ifB (!y21) (K Bool.false)
                              (Go.K.flakes.impl_SameFlake.wp y12 y16 y14 y18 fun y22 =>
                                Go.K.ifB (!y22) (K Bool.false)
                                  (Go.K.ifB ((↑(List.length y9) : Int) != y6) (K Bool.false)
                                    (Go.K.ifB ((↑(List.length y13) : Int) != y7) (K Bool.false)
                                      (Go.K.ifB ((↑(List.length y17) : Int) != Go.IntKind.wrap Go.IntKind.i64 (y6 + y7)) (K Bool.false)
                                        (Go.K.flakes.impl_ValidFlake.wp y16 y18 fun y23 =>
                                          Go.K.ifB (!y23) (K Bool.false)
                                            (∀ (J24 : Int → List Int → List Nat → Nat → Nat → Int → Int → Int → Prop),
                                              (∀ (x25 : Int) (x26 : List Int) (x27 : List Nat) (x28 x29 : Nat) (x30 x31 x32 : Int),
                                                  Go.K.ifB (Decidable.decide (x32 < (↑(List.length x26) : Int)))
                                                      (((0 : Int) ≤ x32 ∧ x32 < (↑(List.length x26) : Int)) ∧
                                                        Go.K.ifB (Decidable.decide (List.getD x26 (Int.toNat x32) (0 : Int) < x31)) (K Bool.false)
                                                          (((0 : Int) ≤ x32 ∧ x32 < (↑(List.length x26) : Int)) ∧
                                                            J24 x25 x26 x27 x28 x29 x30 (List.getD x26 (Int.toNat x32) (0 : Int))
                                                              (Go.IntKind.wrap Go.IntKind.i64 (x32 + (1 : Int)))))
                                                      (Go.K.flakes.impl_SwapFlake.wp x27 x25 fun y33 y34 y35 =>
                                                        Go.K.flakes.impl_SwapFlake.wp y33 y34 fun y36 y37 y38 =>
                                                          Go.K.flakes.impl_BackFlake.wp x27 x25 fun y39 y40 y41 =>
                                                            Go.K.flakes.impl_BackFlake.wp y39 y40 fun y42 y43 y44 =>
                                                              Go.K.flakes.laws_r8At.wp a2 (4 : Int) (13 : Int) fun y45 =>
                                                                Go.K.flakes.impl_NewFlake.wp x25
                                                                  (Go.K.farith Go.BinOp.quo Go.FloatKind.f32 (Go.K.fofint Go.FloatKind.f32 y45) (1098907648 : Nat))
                                                                  fun y46 y47 y48 =>
                                                                  Go.K.flakes.impl_RunFlake.wp y46 y47 x28 x29 x30 fun y49 y50 y51 y52 =>
                                                                    Go.K.flakes.impl_ReachOfFlake.wp y49 y51 fun y53 y54 =>
                                                                      Go.K.flakes.impl_ReachOfFlake.wp y46 y47 fun y55 y56 =>
                                                                        Go.K.flakes.impl_StepFlake.wp x27 x25 x28 x29 fun y57 y58 y59 =>
                                                                          Go.K.flakes.impl_RunFlake.wp x27 x25 x28 x29 (1 : Int) fun y60 y61 y62 y63 =>
                                                                            Go.K.ifB y35
                                                                              (Go.K.ifB y38
                                                                                (Go.K.ifB y41
                                                                                  (Go.K.ifB y44
                                                                                    (Go.K.ifB y48
                                                                                      (Go.K.ifB y52
                                                                                        (Go.K.ifB y54
                                                                                          (Go.K.ifB y56
                                                                                            (Go.K.ifB y59
                                                                                              (Go.K.ifB y63
                                                                                                (Go.K.flakes.impl_SameFlake.wp y36 x27 y37 x25 fun y64 =>
                                                                                                  Go.K.ifB y64
                                                                                                    (Go.K.flakes.impl_SameFlake.wp y42 x27 y43 x25 fun y65 =>
                                                                                                      Go.K.ifB y65
                                                                                                        (Go.K.ifB (Decidable.decide (y53 ≤ x30))
                                                                                                          (Go.K.ifB (y55 == (0 : Int))
                                                                                                            (Go.K.ifB ((↑(List.length y50) : Int) == x30)
                                                                                                              (Go.K.flakes.impl_SameFlake.wp y57 y60 y58 y62 fun y66 => K y66)
                                                                                                              (K Bool.false))
                                                                                                            (K Bool.false))
                                                                                                          (K Bool.false))
                                                                                                        (K Bool.false))
                                                                                                    (K Bool.false))
                                                                                                (K Bool.false))
                                                                                              (K Bool.false))
                                                                                            (K Bool.false))
                                                                                          (K Bool.false))
                                                                                        (K Bool.false))
                                                                                      (K Bool.false))
                                                                                    (K Bool.false))
                                                                                  (K Bool.false))
                                                                                (K Bool.false))
                                                                              (K Bool.false)) →
                                                    J24 x25 x26 x27 x28 x29 x30 x31 x32) →
                                                J24 y3 y17 y2 (Go.K.farith Go.BinOp.quo Go.FloatKind.f32 (Go.K.fofint Go.FloatKind.f32 y4) (1090519040 : Nat))
                                                  (Go.K.farith Go.BinOp.quo Go.FloatKind.f32 (Go.K.fofint Go.FloatKind.f32 y5) (1098907648 : Nat)) y6 (↑(List.length y20) : Int)
                                                  (0 : Int)))))))))))) := laws_FnFlakes.tx laws_r8Long.wp spec_R8Flake.wp laws_r8At.wp impl_RunFlake.wp impl_IceOf.wp impl_SameFlake.wp impl_ValidFlake.wp impl_SwapFlake.wp impl_BackFlake.wp impl_NewFlake.wp impl_ReachOfFlake.wp impl_StepFlake.wp a1 a2 K

end Go.K.flakes
