/- What the functions compute, written out. -/
import Derived.Test.YtccblhcfjaofoaaD
import Derived.KernelRfl
set_option maxRecDepth 100000
set_option linter.unusedVariables false
namespace Go.K.melts
open Go.K Go

theorem laws_szFloat32S.tx  (a1 : List Nat) (a2 : Int) (K : Int → Prop) : laws_szFloat32S.bd  a1 a2 K =
  (Go.K.ifB (Decidable.decide (Go.IntKind.wrap Go.IntKind.i64 (a2 - (↑(List.length a1) : Int)) < (0 : Int))) (K (-1 : Int))
  (K (Go.IntKind.wrap Go.IntKind.i64 (a2 - (↑(List.length a1) : Int))))) := by kernel_rfl
theorem laws_szFloat32S.eq (a1 : List Nat) (a2 : Int) (K : Int → Prop) : laws_szFloat32S.wp a1 a2 K =
  (Go.K.ifB (Decidable.decide (Go.IntKind.wrap Go.IntKind.i64 (a2 - (↑(List.length a1) : Int)) < (0 : Int))) (K (-1 : Int))
  (K (Go.IntKind.wrap Go.IntKind.i64 (a2 - (↑(List.length a1) : Int))))) := laws_szFloat32S.tx  a1 a2 K

theorem laws_szField.tx (w_laws_szFloat32S : List Nat → Int → (Int → Prop) → Prop) (a1 : List Nat) (a2 : Int) (a3 : Int) (a4 : Bool) (a5 : Int) (K : Int → Prop) : laws_szField.bd w_laws_szFloat32S a1 a2 a3 a4 a5 K =
  (w_laws_szFloat32S a1 a5 fun y1 => Go.K.ifB (Decidable.decide (y1 < (0 : Int))) (K (-1 : Int)) (K y1)) := by kernel_rfl
theorem laws_szField.eq (a1 : List Nat) (a2 : Int) (a3 : Int) (a4 : Bool) (a5 : Int) (K : Int → Prop) : laws_szField.wp a1 a2 a3 a4 a5 K =
  (Go.K.melts.laws_szFloat32S.wp a1 a5 fun y1 => Go.K.ifB (Decidable.decide (y1 < (0 : Int))) (K (-1 : Int)) (K y1)) := laws_szField.tx laws_szFloat32S.wp a1 a2 a3 a4 a5 K

theorem laws_szMelt.tx (w_laws_szField : List Nat → Int → Int → Bool → Int → (Int → Prop) → Prop) (a1 : List
  Nat) (a2 : List
  Nat) (a3 : Int) (a4 : Int) (a5 : Bool) (a6 : Int) (a7 : Int) (a8 : Bool) (a9 : Nat) (a10 : Nat) (a11 : Nat) (a12 : Nat) (a13 : Nat) (a14 : Int) (a15 : Int) (K : Int →
  Prop) : laws_szMelt.bd w_laws_szField a1 a2 a3 a4 a5 a6 a7 a8 a9 a10 a11 a12 a13 a14 a15 K =
  (w_laws_szField a1 a3 a4 a5 a15 fun y1 =>
  Go.K.ifB (Decidable.decide (y1 < (0 : Int))) (K (-1 : Int))
    (w_laws_szField a2 a6 a7 a8 y1 fun y2 => Go.K.ifB (Decidable.decide (y2 < (0 : Int))) (K (-1 : Int)) (K y2))) := by kernel_rfl
theorem laws_szMelt.eq (a1 : List
  Nat) (a2 : List
  Nat) (a3 : Int) (a4 : Int) (a5 : Bool) (a6 : Int) (a7 : Int) (a8 : Bool) (a9 : Nat) (a10 : Nat) (a11 : Nat) (a12 : Nat) (a13 : Nat) (a14 : Int) (a15 : Int) (K : Int →
  Prop) : laws_szMelt.wp a1 a2 a3 a4 a5 a6 a7 a8 a9 a10 a11 a12 a13 a14 a15 K =
  (Go.K.melts.laws_szField.wp a1 a3 a4 a5 a15 fun y1 =>
  Go.K.ifB (Decidable.decide (y1 < (0 : Int))) (K (-1 : Int))
    (Go.K.melts.laws_szField.wp a2 a6 a7 a8 y1 fun y2 => Go.K.ifB (Decidable.decide (y2 < (0 : Int))) (K (-1 : Int)) (K y2))) := laws_szMelt.tx laws_szField.wp a1 a2 a3 a4 a5 a6 a7 a8 a9 a10 a11 a12 a13 a14 a15 K

theorem laws_toFloat32S.tx  (a1 : List Nat) (K : List Nat → Prop) : laws_toFloat32S.bd  a1 K =
  (((0 : Int) ≤ (↑(List.length a1) : Int) ∧ (↑(List.length a1) : Int) ≤ (↑(List.length a1) : Int) ∧ (↑(List.length a1) : Int) ≤ (1099511627776 : Int)) ∧
  ∀ (J1 : List Nat → Int → Prop),
    (∀ (x2 : List Nat) (x3 : Int),
        Go.K.ifB (Decidable.decide (x3 < (↑(List.length a1) : Int)))
            (((0 : Int) ≤ x3 ∧ x3 < (↑(List.length a1) : Int)) ∧
              ((0 : Int) ≤ x3 ∧ x3 < (↑(List.length x2) : Int)) ∧
                J1 (List.set x2 (Int.toNat x3) (List.getD a1 (Int.toNat x3) (0 : Nat))) (Go.IntKind.wrap Go.IntKind.i64 (x3 + (1 : Int))))
            (K x2) →
          J1 x2 x3) →
      J1 (List.replicate (Int.toNat (↑(List.length a1) : Int)) (0 : Nat)) (0 : Int)) := by kernel_rfl
theorem laws_toFloat32S.eq (a1 : List Nat) (K : List Nat → Prop) : laws_toFloat32S.wp a1 K =
  (((0 : Int) ≤ (↑(List.length a1) : Int) ∧ (↑(List.length a1) : Int) ≤ (↑(List.length a1) : Int) ∧ (↑(List.length a1) : Int) ≤ (1099511627776 : Int)) ∧
  ∀ (J1 : List Nat → Int → Prop),
    (∀ (x2 : List Nat) (x3 : Int),
        Go.K.ifB (Decidable.decide (x3 < (↑(List.length a1) : Int)))
            (((0 : Int) ≤ x3 ∧ x3 < (↑(List.length a1) : Int)) ∧
              ((0 : Int) ≤ x3 ∧ x3 < (↑(List.length x2) : Int)) ∧
                J1 (List.set x2 (Int.toNat x3) (List.getD a1 (Int.toNat x3) (0 : Nat))) (Go.IntKind.wrap Go.IntKind.i64 (x3 + (1 : Int))))
            (K x2) →
          J1 x2 x3) →
      J1 (List.replicate (Int.toNat (↑(List.length a1) : Int)) (0 : Nat)) (0 : Int)) := laws_toFloat32S.tx  a1 K

theorem laws_toField.tx (w_laws_toFloat32S : List Nat → (List Nat → Prop) → Prop) (a1 : List Nat) (a2 : Int) (a3 : Int) (a4 : Bool) (K : List Nat → Int → Int → Bool → Prop) : laws_toField.bd w_laws_toFloat32S a1 a2 a3 a4 K =
  (w_laws_toFloat32S a1 fun y1 => K y1 a2 a3 a4) := by kernel_rfl
theorem laws_toField.eq (a1 : List Nat) (a2 : Int) (a3 : Int) (a4 : Bool) (K : List Nat → Int → Int → Bool → Prop) : laws_toField.wp a1 a2 a3 a4 K =
  (Go.K.melts.laws_toFloat32S.wp a1 fun y1 => K y1 a2 a3 a4) := laws_toField.tx laws_toFloat32S.wp a1 a2 a3 a4 K

theorem laws_toMelt.tx (w_laws_toField : List Nat → Int → Int → Bool → (List Nat → Int → Int → Bool → Prop) → Prop) (a1 : List
  Nat) (a2 : List
  Nat) (a3 : Int) (a4 : Int) (a5 : Bool) (a6 : Int) (a7 : Int) (a8 : Bool) (a9 : Nat) (a10 : Nat) (a11 : Nat) (a12 : Nat) (a13 : Nat) (a14 : Int) (K : List Nat →
  List Nat → Int → Int → Bool → Int → Int → Bool → Nat → Nat → Nat → Nat → Nat → Int → Prop) : laws_toMelt.bd w_laws_toField a1 a2 a3 a4 a5 a6 a7 a8 a9 a10 a11 a12 a13 a14 K =
  (w_laws_toField a1 a3 a4 a5 fun y1 y2 y3 y4 =>
  w_laws_toField a2 a6 a7 a8 fun y5 y6 y7 y8 => K y1 y5 y2 y3 y4 y6 y7 y8 a9 a10 a11 a12 a13 a14) := by kernel_rfl
theorem laws_toMelt.eq (a1 : List
  Nat) (a2 : List
  Nat) (a3 : Int) (a4 : Int) (a5 : Bool) (a6 : Int) (a7 : Int) (a8 : Bool) (a9 : Nat) (a10 : Nat) (a11 : Nat) (a12 : Nat) (a13 : Nat) (a14 : Int) (K : List Nat →
  List Nat → Int → Int → Bool → Int → Int → Bool → Nat → Nat → Nat → Nat → Nat → Int → Prop) : laws_toMelt.wp a1 a2 a3 a4 a5 a6 a7 a8 a9 a10 a11 a12 a13 a14 K =
  (Go.K.melts.laws_toField.wp a1 a3 a4 a5 fun y1 y2 y3 y4 =>
  Go.K.melts.laws_toField.wp a2 a6 a7 a8 fun y5 y6 y7 y8 => K y1 y5 y2 y3 y4 y6 y7 y8 a9 a10 a11 a12 a13 a14) := laws_toMelt.tx laws_toField.wp a1 a2 a3 a4 a5 a6 a7 a8 a9 a10 a11 a12 a13 a14 K

theorem spec_l00In.tx  (a1 : Int) (a2 : Int) (a3 : Int) (K : Bool → Prop) : spec_l00In.bd  a1 a2 a3 K =
  (Go.K.ifB (Decidable.decide (a1 ≥ a2)) (K (Decidable.decide (a1 ≤ a3))) (K Bool.false)) := by kernel_rfl
theorem spec_l00In.eq (a1 : Int) (a2 : Int) (a3 : Int) (K : Bool → Prop) : spec_l00In.wp a1 a2 a3 K =
  (Go.K.ifB (Decidable.decide (a1 ≥ a2)) (K (Decidable.decide (a1 ≤ a3))) (K Bool.false)) := spec_l00In.tx  a1 a2 a3 K

theorem spec_l02Size.tx (w_spec_l00In : Int → Int → Int → (Bool → Prop) → Prop) (a1 : Int) (a2 : Int) (K : Bool → Prop) : spec_l02Size.bd w_spec_l00In a1 a2 K =
  (w_spec_l00In a1 (1 : Int) (16 : Int) fun y1 => Go.K.ifB y1 (w_spec_l00In a2 (1 : Int) (16 : Int) fun y2 => K y2) (K Bool.false)) := by kernel_rfl
theorem spec_l02Size.eq (a1 : Int) (a2 : Int) (K : Bool → Prop) : spec_l02Size.wp a1 a2 K =
  (Go.K.melts.spec_l00In.wp a1 (1 : Int) (16 : Int) fun y1 => Go.K.ifB y1 (Go.K.melts.spec_l00In.wp a2 (1 : Int) (16 : Int) fun y2 => K y2) (K Bool.false)) := spec_l02Size.tx spec_l00In.wp a1 a2 K

theorem spec_l02Is.tx (w_spec_l02Size : Int → Int → (Bool → Prop) → Prop) (a1 : Int) (a2 : Int) (a3 : Bool) (a4 : List Nat) (K : Bool → Prop) : spec_l02Is.bd w_spec_l02Size a1 a2 a3 a4 K =
  (w_spec_l02Size a1 a2 fun y1 => Go.K.ifB y1 (K ((↑(List.length a4) : Int) == Go.IntKind.wrap Go.IntKind.i64 (a1 * a2))) (K Bool.false)) := by kernel_rfl
theorem spec_l02Is.eq (a1 : Int) (a2 : Int) (a3 : Bool) (a4 : List Nat) (K : Bool → Prop) : spec_l02Is.wp a1 a2 a3 a4 K =
  (Go.K.melts.spec_l02Size.wp a1 a2 fun y1 => Go.K.ifB y1 (K ((↑(List.length a4) : Int) == Go.IntKind.wrap Go.IntKind.i64 (a1 * a2))) (K Bool.false)) := spec_l02Is.tx spec_l02Size.wp a1 a2 a3 a4 K

theorem spec_l01Finite.tx  (a1 : Nat) (K : Bool → Prop) : spec_l01Finite.bd  a1 K =
  (K (Go.K.feq Go.FloatKind.f32 (Go.K.farith Go.BinOp.sub Go.FloatKind.f32 a1 a1) (0 : Nat))) := by kernel_rfl
theorem spec_l01Finite.eq (a1 : Nat) (K : Bool → Prop) : spec_l01Finite.wp a1 K =
  (K (Go.K.feq Go.FloatKind.f32 (Go.K.farith Go.BinOp.sub Go.FloatKind.f32 a1 a1) (0 : Nat))) := spec_l01Finite.tx  a1 K

theorem spec_l03Least.tx (w_spec_l01Finite : Nat → (Bool → Prop) → Prop) (a1 : Nat) (K : Bool → Prop) : spec_l03Least.bd w_spec_l01Finite a1 K =
  (w_spec_l01Finite a1 fun y1 => Go.K.ifB y1 (K (Go.K.fge Go.FloatKind.f32 a1 (0 : Nat))) (K Bool.false)) := by kernel_rfl
theorem spec_l03Least.eq (a1 : Nat) (K : Bool → Prop) : spec_l03Least.wp a1 K =
  (Go.K.melts.spec_l01Finite.wp a1 fun y1 => Go.K.ifB y1 (K (Go.K.fge Go.FloatKind.f32 a1 (0 : Nat))) (K Bool.false)) := spec_l03Least.tx spec_l01Finite.wp a1 K

theorem spec_l03Is.tx (w_spec_l02Is : Int → Int → Bool → List Nat → (Bool → Prop) → Prop) (w_spec_l01Finite : Nat → (Bool → Prop) → Prop) (w_spec_l03Least : Nat → (Bool → Prop) → Prop) (w_spec_l00In : Int → Int → Int → (Bool → Prop) → Prop) (a1 : Int) (a2 : Int) (a3 : Bool) (a4 : Int) (a5 : Int) (a6 : Bool) (a7 : Nat) (a8 : Nat) (a9 : Nat) (a10 : Nat) (a11 : Nat) (a12 : Int) (a13 : List
  Nat) (a14 : List Nat) (K : Bool → Prop) : spec_l03Is.bd w_spec_l02Is w_spec_l01Finite w_spec_l03Least w_spec_l00In a1 a2 a3 a4 a5 a6 a7 a8 a9 a10 a11 a12 a13 a14 K =
  (w_spec_l02Is a1 a2 a3 a13 fun y1 =>
  Go.K.ifB (!y1) (K Bool.false)
    (w_spec_l02Is a4 a5 a6 a14 fun y2 =>
      Go.K.ifB (!y2) (K Bool.false)
        (Go.K.ifB (a1 != a4) (K Bool.false)
          (Go.K.ifB (a2 != a5) (K Bool.false)
            (Go.K.ifB (a3 != a6) (K Bool.false)
              (∀ (J3 : Int → Int → Prop),
                (∀ (x4 x5 : Int),
                    Go.K.ifB (Decidable.decide (x5 < x4))
                        (((0 : Int) ≤ x5 ∧ x5 < (↑(List.length a13) : Int)) ∧
                          Go.K.ifB (!Go.K.fge Go.FloatKind.f32 (List.getD a13 (Int.toNat x5) (0 : Nat)) (0 : Nat)) (K Bool.false)
                            (((0 : Int) ≤ x5 ∧ x5 < (↑(List.length a13) : Int)) ∧
                              Go.K.ifB (Go.K.fgt Go.FloatKind.f32 (List.getD a13 (Int.toNat x5) (0 : Nat)) (1065353216 : Nat)) (K Bool.false)
                                (((0 : Int) ≤ x5 ∧ x5 < (↑(List.length a14) : Int)) ∧
                                  w_spec_l01Finite (List.getD a14 (Int.toNat x5) (0 : Nat)) fun y6 =>
                                    Go.K.ifB (!y6) (K Bool.false) (J3 x4 (Go.IntKind.wrap Go.IntKind.i64 (x5 + (1 : Int)))))))
                        (w_spec_l03Least a7 fun y7 =>
                          Go.K.ifB y7
                            (w_spec_l03Least a8 fun y8 =>
                              Go.K.ifB y8
                                (w_spec_l03Least a9 fun y9 =>
                                  Go.K.ifB y9
                                    (w_spec_l03Least a10 fun y10 =>
                                      Go.K.ifB y10
                                        (Go.K.ifB (Go.K.fge Go.FloatKind.f32 a11 (0 : Nat))
                                          (Go.K.ifB (Go.K.flt Go.FloatKind.f32 a11 (1065353216 : Nat)) (w_spec_l00In a12 (1 : Int) (8 : Int) fun y11 => K y11)
                                            (K Bool.false))
                                          (K Bool.false))
                                        (K Bool.false))
                                    (K Bool.false))
                                (K Bool.false))
                            (K Bool.false)) →
                      J3 x4 x5) →
                  J3 (↑(List.length a13) : Int) (0 : Int))))))) := by kernel_rfl
theorem spec_l03Is.eq (a1 : Int) (a2 : Int) (a3 : Bool) (a4 : Int) (a5 : Int) (a6 : Bool) (a7 : Nat) (a8 : Nat) (a9 : Nat) (a10 : Nat) (a11 : Nat) (a12 : Int) (a13 : List
  Nat) (a14 : List Nat) (K : Bool → Prop) : spec_l03Is.wp a1 a2 a3 a4 a5 a6 a7 a8 a9 a10 a11 a12 a13 a14 K =
  (Go.K.melts.spec_l02Is.wp a1 a2 a3 a13 fun y1 =>
  Go.K.ifB (!y1) (K Bool.false)
    (Go.K.melts.spec_l02Is.wp a4 a5 a6 a14 fun y2 =>
      Go.K.ifB (!y2) (K Bool.false)
        (Go.K.ifB (a1 != a4) (K Bool.false)
          (Go.K.ifB (a2 != a5) (K Bool.false)
            (Go.K.ifB (a3 != a6) (K Bool.false)
              (∀ (J3 : Int → Int → Prop),
                (∀ (x4 x5 : Int),
                    Go.K.ifB (Decidable.decide (x5 < x4))
                        (((0 : Int) ≤ x5 ∧ x5 < (↑(List.length a13) : Int)) ∧
                          Go.K.ifB (!Go.K.fge Go.FloatKind.f32 (List.getD a13 (Int.toNat x5) (0 : Nat)) (0 : Nat)) (K Bool.false)
                            (((0 : Int) ≤ x5 ∧ x5 < (↑(List.length a13) : Int)) ∧
                              Go.K.ifB (Go.K.fgt Go.FloatKind.f32 (List.getD a13 (Int.toNat x5) (0 : Nat)) (1065353216 : Nat)) (K Bool.false)
                                (((0 : Int) ≤ x5 ∧ x5 < (↑(List.length a14) : Int)) ∧
                                  Go.K.melts.spec_l01Finite.wp (List.getD a14 (Int.toNat x5) (0 : Nat)) fun y6 =>
                                    Go.K.ifB (!y6) (K Bool.false) (J3 x4 (Go.IntKind.wrap Go.IntKind.i64 (x5 + (1 : Int)))))))
                        (Go.K.melts.spec_l03Least.wp a7 fun y7 =>
                          Go.K.ifB y7
                            (Go.K.melts.spec_l03Least.wp a8 fun y8 =>
                              Go.K.ifB y8
                                (Go.K.melts.spec_l03Least.wp a9 fun y9 =>
                                  Go.K.ifB y9
                                    (Go.K.melts.spec_l03Least.wp a10 fun y10 =>
                                      Go.K.ifB y10
                                        (Go.K.ifB (Go.K.fge Go.FloatKind.f32 a11 (0 : Nat))
                                          (Go.K.ifB (Go.K.flt Go.FloatKind.f32 a11 (1065353216 : Nat)) (Go.K.melts.spec_l00In.wp a12 (1 : Int) (8 : Int) fun y11 => K y11)
                                            (K Bool.false))
                                          (K Bool.false))
                                        (K Bool.false))
                                    (K Bool.false))
                                (K Bool.false))
                            (K Bool.false)) →
                      J3 x4 x5) →
                  J3 (↑(List.length a13) : Int) (0 : Int))))))) := spec_l03Is.tx spec_l02Is.wp spec_l01Finite.wp spec_l03Least.wp spec_l00In.wp a1 a2 a3 a4 a5 a6 a7 a8 a9 a10 a11 a12 a13 a14 K

theorem spec_l02New.tx  (a1 : Int) (a2 : Int) (a3 : Bool) (K : List Nat → Int → Int → Bool → Prop) : spec_l02New.bd  a1 a2 a3 K =
  (K (List.replicate (0 : Nat) (0 : Nat)) a1 a2 a3) := by kernel_rfl
theorem spec_l02New.eq (a1 : Int) (a2 : Int) (a3 : Bool) (K : List Nat → Int → Int → Bool → Prop) : spec_l02New.wp a1 a2 a3 K =
  (K (List.replicate (0 : Nat) (0 : Nat)) a1 a2 a3) := spec_l02New.tx  a1 a2 a3 K

theorem spec_l02Gap.tx  (a1 : Nat) (a2 : Nat) (a3 : Int) (a4 : Bool) (K : Nat → Prop) : spec_l02Gap.bd  a1 a2 a3 a4 K =
  (Go.K.ifB a4
  (Go.K.ifB
    (Go.K.fgt Go.FloatKind.f32 (Go.K.farith Go.BinOp.sub Go.FloatKind.f32 a1 a2) (Go.K.farith Go.BinOp.quo Go.FloatKind.f32 (Go.K.fofint Go.FloatKind.f32 a3) (1073741824 : Nat)))
    (K (Go.K.farith Go.BinOp.sub Go.FloatKind.f32 (Go.K.farith Go.BinOp.sub Go.FloatKind.f32 a1 a2) (Go.K.fofint Go.FloatKind.f32 a3)))
    (Go.K.ifB a4
      (Go.K.ifB
        (Go.K.flt Go.FloatKind.f32 (Go.K.farith Go.BinOp.sub Go.FloatKind.f32 a1 a2)
          (Go.K.fneg Go.FloatKind.f32 (Go.K.farith Go.BinOp.quo Go.FloatKind.f32 (Go.K.fofint Go.FloatKind.f32 a3) (1073741824 : Nat))))
        (K (Go.K.farith Go.BinOp.add Go.FloatKind.f32 (Go.K.farith Go.BinOp.sub Go.FloatKind.f32 a1 a2) (Go.K.fofint Go.FloatKind.f32 a3)))
        (K (Go.K.farith Go.BinOp.sub Go.FloatKind.f32 a1 a2)))
      (K (Go.K.farith Go.BinOp.sub Go.FloatKind.f32 a1 a2))))
  (Go.K.ifB a4
    (Go.K.ifB
      (Go.K.flt Go.FloatKind.f32 (Go.K.farith Go.BinOp.sub Go.FloatKind.f32 a1 a2)
        (Go.K.fneg Go.FloatKind.f32 (Go.K.farith Go.BinOp.quo Go.FloatKind.f32 (Go.K.fofint Go.FloatKind.f32 a3) (1073741824 : Nat))))
      (K (Go.K.farith Go.BinOp.add Go.FloatKind.f32 (Go.K.farith Go.BinOp.sub Go.FloatKind.f32 a1 a2) (Go.K.fofint Go.FloatKind.f32 a3)))
      (K (Go.K.farith Go.BinOp.sub Go.FloatKind.f32 a1 a2)))
    (K (Go.K.farith Go.BinOp.sub Go.FloatKind.f32 a1 a2)))) := by kernel_rfl
theorem spec_l02Gap.eq (a1 : Nat) (a2 : Nat) (a3 : Int) (a4 : Bool) (K : Nat → Prop) : spec_l02Gap.wp a1 a2 a3 a4 K =
  (Go.K.ifB a4
  (Go.K.ifB
    (Go.K.fgt Go.FloatKind.f32 (Go.K.farith Go.BinOp.sub Go.FloatKind.f32 a1 a2) (Go.K.farith Go.BinOp.quo Go.FloatKind.f32 (Go.K.fofint Go.FloatKind.f32 a3) (1073741824 : Nat)))
    (K (Go.K.farith Go.BinOp.sub Go.FloatKind.f32 (Go.K.farith Go.BinOp.sub Go.FloatKind.f32 a1 a2) (Go.K.fofint Go.FloatKind.f32 a3)))
    (Go.K.ifB a4
      (Go.K.ifB
        (Go.K.flt Go.FloatKind.f32 (Go.K.farith Go.BinOp.sub Go.FloatKind.f32 a1 a2)
          (Go.K.fneg Go.FloatKind.f32 (Go.K.farith Go.BinOp.quo Go.FloatKind.f32 (Go.K.fofint Go.FloatKind.f32 a3) (1073741824 : Nat))))
        (K (Go.K.farith Go.BinOp.add Go.FloatKind.f32 (Go.K.farith Go.BinOp.sub Go.FloatKind.f32 a1 a2) (Go.K.fofint Go.FloatKind.f32 a3)))
        (K (Go.K.farith Go.BinOp.sub Go.FloatKind.f32 a1 a2)))
      (K (Go.K.farith Go.BinOp.sub Go.FloatKind.f32 a1 a2))))
  (Go.K.ifB a4
    (Go.K.ifB
      (Go.K.flt Go.FloatKind.f32 (Go.K.farith Go.BinOp.sub Go.FloatKind.f32 a1 a2)
        (Go.K.fneg Go.FloatKind.f32 (Go.K.farith Go.BinOp.quo Go.FloatKind.f32 (Go.K.fofint Go.FloatKind.f32 a3) (1073741824 : Nat))))
      (K (Go.K.farith Go.BinOp.add Go.FloatKind.f32 (Go.K.farith Go.BinOp.sub Go.FloatKind.f32 a1 a2) (Go.K.fofint Go.FloatKind.f32 a3)))
      (K (Go.K.farith Go.BinOp.sub Go.FloatKind.f32 a1 a2)))
    (K (Go.K.farith Go.BinOp.sub Go.FloatKind.f32 a1 a2)))) := spec_l02Gap.tx  a1 a2 a3 a4 K

theorem spec_DiscField.tx (w_spec_l02Size : Int → Int → (Bool → Prop) → Prop) (w_spec_l01Finite : Nat → (Bool → Prop) → Prop) (w_spec_l02New : Int → Int → Bool → (List Nat → Int → Int → Bool → Prop) → Prop) (w_spec_l02Gap : Nat → Nat → Int → Bool → (Nat → Prop) → Prop) (a1 : Int) (a2 : Int) (a3 : Bool) (a4 : Nat) (a5 : Nat) (a6 : Nat) (K : List Nat →
  Int → Int → Bool → Bool → Prop) : spec_DiscField.bd w_spec_l02Size w_spec_l01Finite w_spec_l02New w_spec_l02Gap a1 a2 a3 a4 a5 a6 K =
  (w_spec_l02Size a1 a2 fun y1 =>
  Go.K.ifB (!y1) (K [] (0 : Int) (0 : Int) Bool.false Bool.false)
    (w_spec_l01Finite a4 fun y2 =>
      Go.K.ifB (!y2) (K [] (0 : Int) (0 : Int) Bool.false Bool.false)
        (w_spec_l01Finite a5 fun y3 =>
          Go.K.ifB (!y3) (K [] (0 : Int) (0 : Int) Bool.false Bool.false)
            (w_spec_l01Finite a6 fun y4 =>
              Go.K.ifB (!y4) (K [] (0 : Int) (0 : Int) Bool.false Bool.false)
                (w_spec_l02New a1 a2 a3 fun y5 y6 y7 y8 =>
                  ∀ (J9 : Int → Int → Bool → Int → Int → Bool → List Nat → List Nat → Nat → Int → Prop),
                    (∀ (x10 x11 : Int) (x12 : Bool) (x13 x14 : Int) (x15 : Bool) (x16 x17 : List Nat) (x18 : Nat) (x19 : Int),
                        Go.K.ifB (Decidable.decide (x19 < Go.IntKind.wrap Go.IntKind.i64 (a1 * a2)))
                            (a1 ≠ (0 : Int) ∧
                              w_spec_l02Gap (Go.K.fofint Go.FloatKind.f32 (Int.tmod x19 a1)) a4 a1 a3 fun y20 =>
                                a1 ≠ (0 : Int) ∧
                                  w_spec_l02Gap (Go.K.fofint Go.FloatKind.f32 (Go.IntKind.wrap Go.IntKind.i64 (Int.tdiv x19 a1))) a5 a2 a3 fun y21 =>
                                    Go.K.ifB
                                      (Go.K.fle Go.FloatKind.f32
                                        (Go.K.farith Go.BinOp.add Go.FloatKind.f32 (Go.K.farith Go.BinOp.mul Go.FloatKind.f32 y20 y20)
                                          (Go.K.farith Go.BinOp.mul Go.FloatKind.f32 y21 y21))
                                        x18)
                                      (List.length (x17 ++ (1065353216 : Nat) :: List.replicate (0 : Nat) (0 : Nat)) ≤ (1099511627776 : Nat) ∧
                                        J9 x10 x11 x12 x13 x14 x15 x16 (x17 ++ (1065353216 : Nat) :: List.replicate (0 : Nat) (0 : Nat)) x18
                                          (Go.IntKind.wrap Go.IntKind.i64 (x19 + (1 : Int))))
                                      (List.length (x17 ++ (0 : Nat) :: List.replicate (0 : Nat) (0 : Nat)) ≤ (1099511627776 : Nat) ∧
                                        J9 x10 x11 x12 x13 x14 x15 x16 (x17 ++ (0 : Nat) :: List.replicate (0 : Nat) (0 : Nat)) x18
                                          (Go.IntKind.wrap Go.IntKind.i64 (x19 + (1 : Int)))))
                            (K x17 x13 x14 x15 Bool.true) →
                          J9 x10 x11 x12 x13 x14 x15 x16 x17 x18 x19) →
                      J9 (0 : Int) (0 : Int) Bool.false y6 y7 y8 [] y5 (Go.K.farith Go.BinOp.mul Go.FloatKind.f32 a6 a6) (0 : Int)))))) := by kernel_rfl
theorem spec_DiscField.eq (a1 : Int) (a2 : Int) (a3 : Bool) (a4 : Nat) (a5 : Nat) (a6 : Nat) (K : List Nat →
  Int → Int → Bool → Bool → Prop) : spec_DiscField.wp a1 a2 a3 a4 a5 a6 K =
  (Go.K.melts.spec_l02Size.wp a1 a2 fun y1 =>
  Go.K.ifB (!y1) (K [] (0 : Int) (0 : Int) Bool.false Bool.false)
    (Go.K.melts.spec_l01Finite.wp a4 fun y2 =>
      Go.K.ifB (!y2) (K [] (0 : Int) (0 : Int) Bool.false Bool.false)
        (Go.K.melts.spec_l01Finite.wp a5 fun y3 =>
          Go.K.ifB (!y3) (K [] (0 : Int) (0 : Int) Bool.false Bool.false)
            (Go.K.melts.spec_l01Finite.wp a6 fun y4 =>
              Go.K.ifB (!y4) (K [] (0 : Int) (0 : Int) Bool.false Bool.false)
                (Go.K.melts.spec_l02New.wp a1 a2 a3 fun y5 y6 y7 y8 =>
                  ∀ (J9 : Int → Int → Bool → Int → Int → Bool → List Nat → List Nat → Nat → Int → Prop),
                    (∀ (x10 x11 : Int) (x12 : Bool) (x13 x14 : Int) (x15 : Bool) (x16 x17 : List Nat) (x18 : Nat) (x19 : Int),
                        Go.K.ifB (Decidable.decide (x19 < Go.IntKind.wrap Go.IntKind.i64 (a1 * a2)))
                            (a1 ≠ (0 : Int) ∧
                              Go.K.melts.spec_l02Gap.wp (Go.K.fofint Go.FloatKind.f32 (Int.tmod x19 a1)) a4 a1 a3 fun y20 =>
                                a1 ≠ (0 : Int) ∧
                                  Go.K.melts.spec_l02Gap.wp (Go.K.fofint Go.FloatKind.f32 (Go.IntKind.wrap Go.IntKind.i64 (Int.tdiv x19 a1))) a5 a2 a3 fun y21 =>
                                    Go.K.ifB
                                      (Go.K.fle Go.FloatKind.f32
                                        (Go.K.farith Go.BinOp.add Go.FloatKind.f32 (Go.K.farith Go.BinOp.mul Go.FloatKind.f32 y20 y20)
                                          (Go.K.farith Go.BinOp.mul Go.FloatKind.f32 y21 y21))
                                        x18)
                                      (List.length (x17 ++ (1065353216 : Nat) :: List.replicate (0 : Nat) (0 : Nat)) ≤ (1099511627776 : Nat) ∧
                                        J9 x10 x11 x12 x13 x14 x15 x16 (x17 ++ (1065353216 : Nat) :: List.replicate (0 : Nat) (0 : Nat)) x18
                                          (Go.IntKind.wrap Go.IntKind.i64 (x19 + (1 : Int))))
                                      (List.length (x17 ++ (0 : Nat) :: List.replicate (0 : Nat) (0 : Nat)) ≤ (1099511627776 : Nat) ∧
                                        J9 x10 x11 x12 x13 x14 x15 x16 (x17 ++ (0 : Nat) :: List.replicate (0 : Nat) (0 : Nat)) x18
                                          (Go.IntKind.wrap Go.IntKind.i64 (x19 + (1 : Int)))))
                            (K x17 x13 x14 x15 Bool.true) →
                          J9 x10 x11 x12 x13 x14 x15 x16 x17 x18 x19) →
                      J9 (0 : Int) (0 : Int) Bool.false y6 y7 y8 [] y5 (Go.K.farith Go.BinOp.mul Go.FloatKind.f32 a6 a6) (0 : Int)))))) := spec_DiscField.tx spec_l02Size.wp spec_l01Finite.wp spec_l02New.wp spec_l02Gap.wp a1 a2 a3 a4 a5 a6 K

theorem spec_l02Own.tx (w_spec_l02New : Int → Int → Bool → (List Nat → Int → Int → Bool → Prop) → Prop) (a1 : Int) (a2 : Int) (a3 : Bool) (a4 : List Nat) (K : List Nat → Int → Int → Bool → Prop) : spec_l02Own.bd w_spec_l02New a1 a2 a3 a4 K =
  (w_spec_l02New a1 a2 a3 fun y1 y2 y3 y4 => List.length (y1 ++ a4) ≤ (1099511627776 : Nat) ∧ K (y1 ++ a4) y2 y3 y4) := by kernel_rfl
theorem spec_l02Own.eq (a1 : Int) (a2 : Int) (a3 : Bool) (a4 : List Nat) (K : List Nat → Int → Int → Bool → Prop) : spec_l02Own.wp a1 a2 a3 a4 K =
  (Go.K.melts.spec_l02New.wp a1 a2 a3 fun y1 y2 y3 y4 => List.length (y1 ++ a4) ≤ (1099511627776 : Nat) ∧ K (y1 ++ a4) y2 y3 y4) := spec_l02Own.tx spec_l02New.wp a1 a2 a3 a4 K

theorem spec_l03Own.tx (w_spec_l02Own : Int → Int → Bool → List Nat → (List Nat → Int → Int → Bool → Prop) → Prop) (a1 : Int) (a2 : Int) (a3 : Bool) (a4 : Int) (a5 : Int) (a6 : Bool) (a7 : Nat) (a8 : Nat) (a9 : Nat) (a10 : Nat) (a11 : Nat) (a12 : Int) (a13 : List
  Nat) (a14 : List
  Nat) (K : List Nat →
  List Nat → Int → Int → Bool → Int → Int → Bool → Nat → Nat → Nat → Nat → Nat → Int → Prop) : spec_l03Own.bd w_spec_l02Own a1 a2 a3 a4 a5 a6 a7 a8 a9 a10 a11 a12 a13 a14 K =
  (w_spec_l02Own a1 a2 a3 a13 fun y1 y2 y3 y4 =>
  w_spec_l02Own a4 a5 a6 a14 fun y5 y6 y7 y8 => K y1 y5 y2 y3 y4 y6 y7 y8 a7 a8 a9 a10 a11 a12) := by kernel_rfl
theorem spec_l03Own.eq (a1 : Int) (a2 : Int) (a3 : Bool) (a4 : Int) (a5 : Int) (a6 : Bool) (a7 : Nat) (a8 : Nat) (a9 : Nat) (a10 : Nat) (a11 : Nat) (a12 : Int) (a13 : List
  Nat) (a14 : List
  Nat) (K : List Nat →
  List Nat → Int → Int → Bool → Int → Int → Bool → Nat → Nat → Nat → Nat → Nat → Int → Prop) : spec_l03Own.wp a1 a2 a3 a4 a5 a6 a7 a8 a9 a10 a11 a12 a13 a14 K =
  (Go.K.melts.spec_l02Own.wp a1 a2 a3 a13 fun y1 y2 y3 y4 =>
  Go.K.melts.spec_l02Own.wp a4 a5 a6 a14 fun y5 y6 y7 y8 => K y1 y5 y2 y3 y4 y6 y7 y8 a7 a8 a9 a10 a11 a12) := spec_l03Own.tx spec_l02Own.wp a1 a2 a3 a4 a5 a6 a7 a8 a9 a10 a11 a12 a13 a14 K

theorem spec_SeedMelt.tx (w_spec_l03Is : Int → Int → Bool → Int → Int → Bool → Nat → Nat → Nat → Nat → Nat → Int → List Nat → List Nat → (Bool → Prop) → Prop) (w_spec_DiscField : Int → Int → Bool → Nat → Nat → Nat → (List Nat → Int → Int → Bool → Bool → Prop) → Prop) (w_spec_l03Own : Int → Int → Bool → Int → Int → Bool → Nat → Nat → Nat → Nat → Nat → Int → List Nat → List Nat → (List Nat → List Nat → Int → Int → Bool → Int → Int → Bool → Nat → Nat → Nat → Nat → Nat → Int → Prop) → Prop) (a1 : List
  Nat) (a2 : List
  Nat) (a3 : Int) (a4 : Int) (a5 : Bool) (a6 : Int) (a7 : Int) (a8 : Bool) (a9 : Nat) (a10 : Nat) (a11 : Nat) (a12 : Nat) (a13 : Nat) (a14 : Int) (a15 : Nat) (a16 : Nat) (a17 : Nat) (K : List
    Nat →
  List Nat →
    Int → Int → Bool → Int → Int → Bool → Nat → Nat → Nat → Nat → Nat → Int → Bool → Prop) : spec_SeedMelt.bd w_spec_l03Is w_spec_DiscField w_spec_l03Own a1 a2 a3 a4 a5 a6 a7 a8 a9 a10 a11 a12 a13 a14 a15 a16 a17 K =
  (w_spec_l03Is a3 a4 a5 a6 a7 a8 a9 a10 a11 a12 a13 a14 a1 a2 fun y1 =>
  Go.K.ifB (!y1) (K [] [] (0 : Int) (0 : Int) Bool.false (0 : Int) (0 : Int) Bool.false (0 : Nat) (0 : Nat) (0 : Nat) (0 : Nat) (0 : Nat) (0 : Int) Bool.false)
    (w_spec_DiscField a3 a4 a5 a15 a16 a17 fun y2 y3 y4 y5 y6 =>
      Go.K.ifB (!y6) (K [] [] (0 : Int) (0 : Int) Bool.false (0 : Int) (0 : Int) Bool.false (0 : Nat) (0 : Nat) (0 : Nat) (0 : Nat) (0 : Nat) (0 : Int) Bool.false)
        (w_spec_l03Own a3 a4 a5 a6 a7 a8 a9 a10 a11 a12 a13 a14 a1 a2 fun y7 y8 y9 y10 y11 y12 y13 y14 y15 y16 y17 y18 y19 y20 =>
          ∀
            (J21 :
              Int →
                Int →
                  Bool →
                    Int →
                      Int →
                        Bool →
                          Nat →
                            Nat →
                              Nat →
                                Nat →
                                  Nat →
                                    Int →
                                      Int →
                                        Int →
                                          Bool →
                                            Int →
                                              Int →
                                                Bool →
                                                  Int → Int → Bool → Nat → Nat → Nat → Nat → Nat → Int → List Nat → List Nat → List Nat → List Nat → List Nat → Int → Int → Prop),
            (∀ (x22 x23 : Int) (x24 : Bool) (x25 x26 : Int) (x27 : Bool) (x28 x29 x30 x31 x32 : Nat) (x33 x34 x35 : Int) (x36 : Bool) (x37 x38 : Int) (x39 : Bool) (x40 x41 : Int)
                (x42 : Bool) (x43 x44 x45 x46 x47 : Nat) (x48 : Int) (x49 x50 x51 x52 x53 : List Nat) (x54 x55 : Int),
                Go.K.ifB (Decidable.decide (x55 < x54))
                    (((0 : Int) ≤ x55 ∧ x55 < (↑(List.length x51) : Int)) ∧
                      Go.K.ifB (Go.K.feq Go.FloatKind.f32 (List.getD x51 (Int.toNat x55) (0 : Nat)) (1065353216 : Nat))
                        (((0 : Int) ≤ x55 ∧ x55 < (↑(List.length x52) : Int)) ∧
                          J21 x22 x23 x24 x25 x26 x27 x28 x29 x30 x31 x32 x33 x34 x35 x36 x37 x38 x39 x40 x41 x42 x43 x44 x45 x46 x47 x48 x49 x50 x51
                            (List.set x52 (Int.toNat x55) (1065353216 : Nat)) x53 x54 (Go.IntKind.wrap Go.IntKind.i64 (x55 + (1 : Int))))
                        (J21 x22 x23 x24 x25 x26 x27 x28 x29 x30 x31 x32 x33 x34 x35 x36 x37 x38 x39 x40 x41 x42 x43 x44 x45 x46 x47 x48 x49 x50 x51 x52 x53 x54
                          (Go.IntKind.wrap Go.IntKind.i64 (x55 + (1 : Int)))))
                    (K x52 x53 x37 x38 x39 x40 x41 x42 x43 x44 x45 x46 x47 x48 Bool.true) →
                  J21 x22 x23 x24 x25 x26 x27 x28 x29 x30 x31 x32 x33 x34 x35 x36 x37 x38 x39 x40 x41 x42 x43 x44 x45 x46 x47 x48 x49 x50 x51 x52 x53 x54 x55) →
              J21 (0 : Int) (0 : Int) Bool.false (0 : Int) (0 : Int) Bool.false (0 : Nat) (0 : Nat) (0 : Nat) (0 : Nat) (0 : Nat) (0 : Int) y3 y4 y5 y9 y10 y11 y12 y13 y14 y15 y16
                y17 y18 y19 y20 [] [] y2 y7 y8 (↑(List.length y2) : Int) (0 : Int)))) := by kernel_rfl
theorem spec_SeedMelt.eq (a1 : List
  Nat) (a2 : List
  Nat) (a3 : Int) (a4 : Int) (a5 : Bool) (a6 : Int) (a7 : Int) (a8 : Bool) (a9 : Nat) (a10 : Nat) (a11 : Nat) (a12 : Nat) (a13 : Nat) (a14 : Int) (a15 : Nat) (a16 : Nat) (a17 : Nat) (K : List
    Nat →
  List Nat →
    Int → Int → Bool → Int → Int → Bool → Nat → Nat → Nat → Nat → Nat → Int → Bool → Prop) : spec_SeedMelt.wp a1 a2 a3 a4 a5 a6 a7 a8 a9 a10 a11 a12 a13 a14 a15 a16 a17 K =
  (Go.K.melts.spec_l03Is.wp a3 a4 a5 a6 a7 a8 a9 a10 a11 a12 a13 a14 a1 a2 fun y1 =>
  Go.K.ifB (!y1) (K [] [] (0 : Int) (0 : Int) Bool.false (0 : Int) (0 : Int) Bool.false (0 : Nat) (0 : Nat) (0 : Nat) (0 : Nat) (0 : Nat) (0 : Int) Bool.false)
    (Go.K.melts.spec_DiscField.wp a3 a4 a5 a15 a16 a17 fun y2 y3 y4 y5 y6 =>
      Go.K.ifB (!y6) (K [] [] (0 : Int) (0 : Int) Bool.false (0 : Int) (0 : Int) Bool.false (0 : Nat) (0 : Nat) (0 : Nat) (0 : Nat) (0 : Nat) (0 : Int) Bool.false)
        (Go.K.melts.spec_l03Own.wp a3 a4 a5 a6 a7 a8 a9 a10 a11 a12 a13 a14 a1 a2 fun y7 y8 y9 y10 y11 y12 y13 y14 y15 y16 y17 y18 y19 y20 =>
          ∀
            (J21 :
              Int →
                Int →
                  Bool →
                    Int →
                      Int →
                        Bool →
                          Nat →
                            Nat →
                              Nat →
                                Nat →
                                  Nat →
                                    Int →
                                      Int →
                                        Int →
                                          Bool →
                                            Int →
                                              Int →
                                                Bool →
                                                  Int → Int → Bool → Nat → Nat → Nat → Nat → Nat → Int → List Nat → List Nat → List Nat → List Nat → List Nat → Int → Int → Prop),
            (∀ (x22 x23 : Int) (x24 : Bool) (x25 x26 : Int) (x27 : Bool) (x28 x29 x30 x31 x32 : Nat) (x33 x34 x35 : Int) (x36 : Bool) (x37 x38 : Int) (x39 : Bool) (x40 x41 : Int)
                (x42 : Bool) (x43 x44 x45 x46 x47 : Nat) (x48 : Int) (x49 x50 x51 x52 x53 : List Nat) (x54 x55 : Int),
                Go.K.ifB (Decidable.decide (x55 < x54))
                    (((0 : Int) ≤ x55 ∧ x55 < (↑(List.length x51) : Int)) ∧
                      Go.K.ifB (Go.K.feq Go.FloatKind.f32 (List.getD x51 (Int.toNat x55) (0 : Nat)) (1065353216 : Nat))
                        (((0 : Int) ≤ x55 ∧ x55 < (↑(List.length x52) : Int)) ∧
                          J21 x22 x23 x24 x25 x26 x27 x28 x29 x30 x31 x32 x33 x34 x35 x36 x37 x38 x39 x40 x41 x42 x43 x44 x45 x46 x47 x48 x49 x50 x51
                            (List.set x52 (Int.toNat x55) (1065353216 : Nat)) x53 x54 (Go.IntKind.wrap Go.IntKind.i64 (x55 + (1 : Int))))
                        (J21 x22 x23 x24 x25 x26 x27 x28 x29 x30 x31 x32 x33 x34 x35 x36 x37 x38 x39 x40 x41 x42 x43 x44 x45 x46 x47 x48 x49 x50 x51 x52 x53 x54
                          (Go.IntKind.wrap Go.IntKind.i64 (x55 + (1 : Int)))))
                    (K x52 x53 x37 x38 x39 x40 x41 x42 x43 x44 x45 x46 x47 x48 Bool.true) →
                  J21 x22 x23 x24 x25 x26 x27 x28 x29 x30 x31 x32 x33 x34 x35 x36 x37 x38 x39 x40 x41 x42 x43 x44 x45 x46 x47 x48 x49 x50 x51 x52 x53 x54 x55) →
              J21 (0 : Int) (0 : Int) Bool.false (0 : Int) (0 : Int) Bool.false (0 : Nat) (0 : Nat) (0 : Nat) (0 : Nat) (0 : Nat) (0 : Int) y3 y4 y5 y9 y10 y11 y12 y13 y14 y15 y16
                y17 y18 y19 y20 [] [] y2 y7 y8 (↑(List.length y2) : Int) (0 : Int)))) := spec_SeedMelt.tx spec_l03Is.wp spec_DiscField.wp spec_l03Own.wp a1 a2 a3 a4 a5 a6 a7 a8 a9 a10 a11 a12 a13 a14 a15 a16 a17 K

theorem impl_within.tx  (a1 : Int) (a2 : Int) (a3 : Int) (K : Bool → Prop) : impl_within.bd  a1 a2 a3 K =
  (Go.K.ifB (Decidable.decide (a2 ≤ a1)) (K (Decidable.decide (a1 ≤ a3))) (K Bool.false)) := by kernel_rfl
theorem impl_within.eq (a1 : Int) (a2 : Int) (a3 : Int) (K : Bool → Prop) : impl_within.wp a1 a2 a3 K =
  (Go.K.ifB (Decidable.decide (a2 ≤ a1)) (K (Decidable.decide (a1 ≤ a3))) (K Bool.false)) := impl_within.tx  a1 a2 a3 K

theorem impl_areWithin_1.tx (w_impl_within : Int → Int → Int → (Bool → Prop) → Prop) (a1 : Int) (a2 : Int) (a3 : Int) (K : Bool → Prop) : impl_areWithin_1.bd w_impl_within a1 a2 a3 K =
  (w_impl_within a3 a1 a2 fun y1 => K !y1) := by kernel_rfl
theorem impl_areWithin_1.eq (a1 : Int) (a2 : Int) (a3 : Int) (K : Bool → Prop) : impl_areWithin_1.wp a1 a2 a3 K =
  (Go.K.melts.impl_within.wp a3 a1 a2 fun y1 => K !y1) := impl_areWithin_1.tx impl_within.wp a1 a2 a3 K

theorem slices_IndexFunc_int64_int64__areWithin_1.tx (w_impl_areWithin_1 : Int → Int → Int → (Bool → Prop) → Prop) (a1 : List Int) (a2 : Int) (a3 : Int) (K : Int → Prop) : slices_IndexFunc_int64_int64__areWithin_1.bd w_impl_areWithin_1 a1 a2 a3 K =
  (∀ (J1 : Int → Int → Prop),
  (∀ (x2 x3 : Int),
      Go.K.ifB (Decidable.decide (x3 < x2))
          (((0 : Int) ≤ x3 ∧ x3 < (↑(List.length a1) : Int)) ∧
            w_impl_areWithin_1 a2 a3 (List.getD a1 (Int.toNat x3) (0 : Int)) fun y4 => Go.K.ifB y4 (K x3) (J1 x2 (Go.IntKind.wrap Go.IntKind.i64 (x3 + (1 : Int)))))
          (K (-1 : Int)) →
        J1 x2 x3) →
    J1 (↑(List.length a1) : Int) (0 : Int)) := by kernel_rfl
theorem slices_IndexFunc_int64_int64__areWithin_1.eq (a1 : List Int) (a2 : Int) (a3 : Int) (K : Int → Prop) : slices_IndexFunc_int64_int64__areWithin_1.wp a1 a2 a3 K =
  (∀ (J1 : Int → Int → Prop),
  (∀ (x2 x3 : Int),
      Go.K.ifB (Decidable.decide (x3 < x2))
          (((0 : Int) ≤ x3 ∧ x3 < (↑(List.length a1) : Int)) ∧
            Go.K.melts.impl_areWithin_1.wp a2 a3 (List.getD a1 (Int.toNat x3) (0 : Int)) fun y4 => Go.K.ifB y4 (K x3) (J1 x2 (Go.IntKind.wrap Go.IntKind.i64 (x3 + (1 : Int)))))
          (K (-1 : Int)) →
        J1 x2 x3) →
    J1 (↑(List.length a1) : Int) (0 : Int)) := slices_IndexFunc_int64_int64__areWithin_1.tx impl_areWithin_1.wp a1 a2 a3 K

theorem slices_ContainsFunc_int64_int64__areWithin_1.tx (w_slices_IndexFunc_int64_int64__areWithin_1 : List Int → Int → Int → (Int → Prop) → Prop) (a1 : List Int) (a2 : Int) (a3 : Int) (K : Bool → Prop) : slices_ContainsFunc_int64_int64__areWithin_1.bd w_slices_IndexFunc_int64_int64__areWithin_1 a1 a2 a3 K =
  (w_slices_IndexFunc_int64_int64__areWithin_1 a1 a2 a3 fun y1 => K (Decidable.decide (y1 ≥ (0 : Int)))) := by kernel_rfl
theorem slices_ContainsFunc_int64_int64__areWithin_1.eq (a1 : List Int) (a2 : Int) (a3 : Int) (K : Bool → Prop) : slices_ContainsFunc_int64_int64__areWithin_1.wp a1 a2 a3 K =
  (Go.K.melts.slices_IndexFunc_int64_int64__areWithin_1.wp a1 a2 a3 fun y1 => K (Decidable.decide (y1 ≥ (0 : Int)))) := slices_ContainsFunc_int64_int64__areWithin_1.tx slices_IndexFunc_int64_int64__areWithin_1.wp a1 a2 a3 K

theorem impl_areWithin.tx (w_slices_ContainsFunc_int64_int64__areWithin_1 : List Int → Int → Int → (Bool → Prop) → Prop) (a1 : List Int) (a2 : Int) (a3 : Int) (K : Bool → Prop) : impl_areWithin.bd w_slices_ContainsFunc_int64_int64__areWithin_1 a1 a2 a3 K =
  (w_slices_ContainsFunc_int64_int64__areWithin_1 a1 a2 a3 fun y1 => K !y1) := by kernel_rfl
theorem impl_areWithin.eq (a1 : List Int) (a2 : Int) (a3 : Int) (K : Bool → Prop) : impl_areWithin.wp a1 a2 a3 K =
  (Go.K.melts.slices_ContainsFunc_int64_int64__areWithin_1.wp a1 a2 a3 fun y1 => K !y1) := impl_areWithin.tx slices_ContainsFunc_int64_int64__areWithin_1.wp a1 a2 a3 K

theorem impl_ValidField.tx (w_impl_areWithin : List Int → Int → Int → (Bool → Prop) → Prop) (a1 : List Nat) (a2 : Int) (a3 : Int) (a4 : Bool) (K : Bool → Prop) : impl_ValidField.bd w_impl_areWithin a1 a2 a3 a4 K =
  (w_impl_areWithin (a2 :: a3 :: List.replicate (0 : Nat) (0 : Int)) (1 : Int) (16 : Int) fun y1 =>
  Go.K.ifB y1 (K ((↑(List.length a1) : Int) == Go.IntKind.wrap Go.IntKind.i64 (a2 * a3))) (K Bool.false)) := by kernel_rfl
theorem impl_ValidField.eq (a1 : List Nat) (a2 : Int) (a3 : Int) (a4 : Bool) (K : Bool → Prop) : impl_ValidField.wp a1 a2 a3 a4 K =
  (Go.K.melts.impl_areWithin.wp (a2 :: a3 :: List.replicate (0 : Nat) (0 : Int)) (1 : Int) (16 : Int) fun y1 =>
  Go.K.ifB y1 (K ((↑(List.length a1) : Int) == Go.IntKind.wrap Go.IntKind.i64 (a2 * a3))) (K Bool.false)) := impl_ValidField.tx impl_areWithin.wp a1 a2 a3 a4 K

theorem impl_alike.tx  (a1 : List
  Nat) (a2 : List Nat) (a3 : Int) (a4 : Int) (a5 : Bool) (a6 : Int) (a7 : Int) (a8 : Bool) (K : Bool → Prop) : impl_alike.bd  a1 a2 a3 a4 a5 a6 a7 a8 K =
  (Go.K.ifB (a3 == a6) (Go.K.ifB (a4 == a7) (K (a5 == a8)) (K Bool.false)) (K Bool.false)) := by kernel_rfl
theorem impl_alike.eq (a1 : List
  Nat) (a2 : List Nat) (a3 : Int) (a4 : Int) (a5 : Bool) (a6 : Int) (a7 : Int) (a8 : Bool) (K : Bool → Prop) : impl_alike.wp a1 a2 a3 a4 a5 a6 a7 a8 K =
  (Go.K.ifB (a3 == a6) (Go.K.ifB (a4 == a7) (K (a5 == a8)) (K Bool.false)) (K Bool.false)) := impl_alike.tx  a1 a2 a3 a4 a5 a6 a7 a8 K

theorem math_IsNaN.tx  (a1 : Nat) (K : Bool → Prop) : math_IsNaN.bd  a1 K =
  (K (Go.K.fne Go.FloatKind.f64 a1 a1)) := by kernel_rfl
theorem math_IsNaN.eq (a1 : Nat) (K : Bool → Prop) : math_IsNaN.wp a1 K =
  (K (Go.K.fne Go.FloatKind.f64 a1 a1)) := math_IsNaN.tx  a1 K

theorem math_Abs.tx  (a1 : Nat) (K : Nat → Prop) : math_Abs.bd  a1 K =
  (Go.K.isNaNW Go.FloatKind.f64 a1 = Bool.false ∧
  K (Go.K.cF Go.FloatKind.f64 (Int.toNat (Go.K.ibits Go.BinOp.andNot Go.IntKind.u64 (↑a1 : Int) (9223372036854775808 : Int))))) := by kernel_rfl
theorem math_Abs.eq (a1 : Nat) (K : Nat → Prop) : math_Abs.wp a1 K =
  (Go.K.isNaNW Go.FloatKind.f64 a1 = Bool.false ∧
  K (Go.K.cF Go.FloatKind.f64 (Int.toNat (Go.K.ibits Go.BinOp.andNot Go.IntKind.u64 (↑a1 : Int) (9223372036854775808 : Int))))) := math_Abs.tx  a1 K

theorem math_IsInf.tx (w_math_Abs : Nat → (Nat → Prop) → Prop) (a1 : Nat) (a2 : Int) (K : Bool → Prop) : math_IsInf.bd w_math_Abs a1 a2 K =
  (Go.K.ifB (a2 == (0 : Int)) (w_math_Abs a1 fun y1 => K (Go.K.fgt Go.FloatKind.f64 y1 (9218868437227405311 : Nat)))
  (Go.K.ifB (Decidable.decide (a2 < (0 : Int))) (K (Go.K.fgt Go.FloatKind.f64 (Go.K.fneg Go.FloatKind.f64 a1) (9218868437227405311 : Nat)))
    (K (Go.K.fgt Go.FloatKind.f64 a1 (9218868437227405311 : Nat))))) := by kernel_rfl
theorem math_IsInf.eq (a1 : Nat) (a2 : Int) (K : Bool → Prop) : math_IsInf.wp a1 a2 K =
  (Go.K.ifB (a2 == (0 : Int)) (Go.K.melts.math_Abs.wp a1 fun y1 => K (Go.K.fgt Go.FloatKind.f64 y1 (9218868437227405311 : Nat)))
  (Go.K.ifB (Decidable.decide (a2 < (0 : Int))) (K (Go.K.fgt Go.FloatKind.f64 (Go.K.fneg Go.FloatKind.f64 a1) (9218868437227405311 : Nat)))
    (K (Go.K.fgt Go.FloatKind.f64 a1 (9218868437227405311 : Nat))))) := math_IsInf.tx math_Abs.wp a1 a2 K

theorem impl_finite.tx (w_math_IsNaN : Nat → (Bool → Prop) → Prop) (w_math_IsInf : Nat → Int → (Bool → Prop) → Prop) (a1 : Nat) (K : Bool → Prop) : impl_finite.bd w_math_IsNaN w_math_IsInf a1 K =
  (w_math_IsNaN a1 fun y1 => Go.K.ifB (!y1) (w_math_IsInf a1 (0 : Int) fun y2 => K !y2) (K Bool.false)) := by kernel_rfl
theorem impl_finite.eq (a1 : Nat) (K : Bool → Prop) : impl_finite.wp a1 K =
  (Go.K.melts.math_IsNaN.wp a1 fun y1 => Go.K.ifB (!y1) (Go.K.melts.math_IsInf.wp a1 (0 : Int) fun y2 => K !y2) (K Bool.false)) := impl_finite.tx math_IsNaN.wp math_IsInf.wp a1 K

theorem impl_IsFinite.tx (w_impl_finite : Nat → (Bool → Prop) → Prop) (a1 : Nat) (K : Bool → Prop) : impl_IsFinite.bd w_impl_finite a1 K =
  (w_impl_finite (Go.K.fconv Go.FloatKind.f32 Go.FloatKind.f64 a1) fun y1 => K y1) := by kernel_rfl
theorem impl_IsFinite.eq (a1 : Nat) (K : Bool → Prop) : impl_IsFinite.wp a1 K =
  (Go.K.melts.impl_finite.wp (Go.K.fconv Go.FloatKind.f32 Go.FloatKind.f64 a1) fun y1 => K y1) := impl_IsFinite.tx impl_finite.wp a1 K

theorem impl_areFinite_1.tx (w_impl_IsFinite : Nat → (Bool → Prop) → Prop) (a1 : Nat) (K : Bool → Prop) : impl_areFinite_1.bd w_impl_IsFinite a1 K =
  (w_impl_IsFinite a1 fun y1 => K !y1) := by kernel_rfl
theorem impl_areFinite_1.eq (a1 : Nat) (K : Bool → Prop) : impl_areFinite_1.wp a1 K =
  (Go.K.melts.impl_IsFinite.wp a1 fun y1 => K !y1) := impl_areFinite_1.tx impl_IsFinite.wp a1 K

theorem slices_IndexFunc_float32_float32__areFinite_1.tx (w_impl_areFinite_1 : Nat → (Bool → Prop) → Prop) (a1 : List Nat) (K : Int → Prop) : slices_IndexFunc_float32_float32__areFinite_1.bd w_impl_areFinite_1 a1 K =
  (∀ (J1 : Int → Int → Prop),
  (∀ (x2 x3 : Int),
      Go.K.ifB (Decidable.decide (x3 < x2))
          (((0 : Int) ≤ x3 ∧ x3 < (↑(List.length a1) : Int)) ∧
            w_impl_areFinite_1 (List.getD a1 (Int.toNat x3) (0 : Nat)) fun y4 => Go.K.ifB y4 (K x3) (J1 x2 (Go.IntKind.wrap Go.IntKind.i64 (x3 + (1 : Int)))))
          (K (-1 : Int)) →
        J1 x2 x3) →
    J1 (↑(List.length a1) : Int) (0 : Int)) := by kernel_rfl
theorem slices_IndexFunc_float32_float32__areFinite_1.eq (a1 : List Nat) (K : Int → Prop) : slices_IndexFunc_float32_float32__areFinite_1.wp a1 K =
  (∀ (J1 : Int → Int → Prop),
  (∀ (x2 x3 : Int),
      Go.K.ifB (Decidable.decide (x3 < x2))
          (((0 : Int) ≤ x3 ∧ x3 < (↑(List.length a1) : Int)) ∧
            Go.K.melts.impl_areFinite_1.wp (List.getD a1 (Int.toNat x3) (0 : Nat)) fun y4 => Go.K.ifB y4 (K x3) (J1 x2 (Go.IntKind.wrap Go.IntKind.i64 (x3 + (1 : Int)))))
          (K (-1 : Int)) →
        J1 x2 x3) →
    J1 (↑(List.length a1) : Int) (0 : Int)) := slices_IndexFunc_float32_float32__areFinite_1.tx impl_areFinite_1.wp a1 K

theorem slices_ContainsFunc_float32_float32__areFinite_1.tx (w_slices_IndexFunc_float32_float32__areFinite_1 : List Nat → (Int → Prop) → Prop) (a1 : List Nat) (K : Bool → Prop) : slices_ContainsFunc_float32_float32__areFinite_1.bd w_slices_IndexFunc_float32_float32__areFinite_1 a1 K =
  (w_slices_IndexFunc_float32_float32__areFinite_1 a1 fun y1 => K (Decidable.decide (y1 ≥ (0 : Int)))) := by kernel_rfl
theorem slices_ContainsFunc_float32_float32__areFinite_1.eq (a1 : List Nat) (K : Bool → Prop) : slices_ContainsFunc_float32_float32__areFinite_1.wp a1 K =
  (Go.K.melts.slices_IndexFunc_float32_float32__areFinite_1.wp a1 fun y1 => K (Decidable.decide (y1 ≥ (0 : Int)))) := slices_ContainsFunc_float32_float32__areFinite_1.tx slices_IndexFunc_float32_float32__areFinite_1.wp a1 K

theorem impl_areFinite.tx (w_slices_ContainsFunc_float32_float32__areFinite_1 : List Nat → (Bool → Prop) → Prop) (a1 : List Nat) (K : Bool → Prop) : impl_areFinite.bd w_slices_ContainsFunc_float32_float32__areFinite_1 a1 K =
  (w_slices_ContainsFunc_float32_float32__areFinite_1 a1 fun y1 => K !y1) := by kernel_rfl
theorem impl_areFinite.eq (a1 : List Nat) (K : Bool → Prop) : impl_areFinite.wp a1 K =
  (Go.K.melts.slices_ContainsFunc_float32_float32__areFinite_1.wp a1 fun y1 => K !y1) := impl_areFinite.tx slices_ContainsFunc_float32_float32__areFinite_1.wp a1 K

theorem impl_finiteField.tx (w_impl_areFinite : List Nat → (Bool → Prop) → Prop) (a1 : List Nat) (a2 : Int) (a3 : Int) (a4 : Bool) (K : Bool → Prop) : impl_finiteField.bd w_impl_areFinite a1 a2 a3 a4 K =
  (w_impl_areFinite a1 fun y1 => K y1) := by kernel_rfl
theorem impl_finiteField.eq (a1 : List Nat) (a2 : Int) (a3 : Int) (a4 : Bool) (K : Bool → Prop) : impl_finiteField.wp a1 a2 a3 a4 K =
  (Go.K.melts.impl_areFinite.wp a1 fun y1 => K y1) := impl_finiteField.tx impl_areFinite.wp a1 a2 a3 a4 K

theorem impl_ValidMelt_1.tx  (a1 : Nat) (K : Bool → Prop) : impl_ValidMelt_1.bd  a1 K =
  (Go.K.ifB (Go.K.fge Go.FloatKind.f32 a1 (0 : Nat)) (K !Go.K.fle Go.FloatKind.f32 a1 (1065353216 : Nat)) (K Bool.true)) := by kernel_rfl
theorem impl_ValidMelt_1.eq (a1 : Nat) (K : Bool → Prop) : impl_ValidMelt_1.wp a1 K =
  (Go.K.ifB (Go.K.fge Go.FloatKind.f32 a1 (0 : Nat)) (K !Go.K.fle Go.FloatKind.f32 a1 (1065353216 : Nat)) (K Bool.true)) := impl_ValidMelt_1.tx  a1 K

theorem slices_IndexFunc_float32_float32__ValidMelt_1.tx (w_impl_ValidMelt_1 : Nat → (Bool → Prop) → Prop) (a1 : List Nat) (K : Int → Prop) : slices_IndexFunc_float32_float32__ValidMelt_1.bd w_impl_ValidMelt_1 a1 K =
  (∀ (J1 : Int → Int → Prop),
  (∀ (x2 x3 : Int),
      Go.K.ifB (Decidable.decide (x3 < x2))
          (((0 : Int) ≤ x3 ∧ x3 < (↑(List.length a1) : Int)) ∧
            w_impl_ValidMelt_1 (List.getD a1 (Int.toNat x3) (0 : Nat)) fun y4 => Go.K.ifB y4 (K x3) (J1 x2 (Go.IntKind.wrap Go.IntKind.i64 (x3 + (1 : Int)))))
          (K (-1 : Int)) →
        J1 x2 x3) →
    J1 (↑(List.length a1) : Int) (0 : Int)) := by kernel_rfl
theorem slices_IndexFunc_float32_float32__ValidMelt_1.eq (a1 : List Nat) (K : Int → Prop) : slices_IndexFunc_float32_float32__ValidMelt_1.wp a1 K =
  (∀ (J1 : Int → Int → Prop),
  (∀ (x2 x3 : Int),
      Go.K.ifB (Decidable.decide (x3 < x2))
          (((0 : Int) ≤ x3 ∧ x3 < (↑(List.length a1) : Int)) ∧
            Go.K.melts.impl_ValidMelt_1.wp (List.getD a1 (Int.toNat x3) (0 : Nat)) fun y4 => Go.K.ifB y4 (K x3) (J1 x2 (Go.IntKind.wrap Go.IntKind.i64 (x3 + (1 : Int)))))
          (K (-1 : Int)) →
        J1 x2 x3) →
    J1 (↑(List.length a1) : Int) (0 : Int)) := slices_IndexFunc_float32_float32__ValidMelt_1.tx impl_ValidMelt_1.wp a1 K

theorem slices_ContainsFunc_float32_float32__ValidMelt_1.tx (w_slices_IndexFunc_float32_float32__ValidMelt_1 : List Nat → (Int → Prop) → Prop) (a1 : List Nat) (K : Bool → Prop) : slices_ContainsFunc_float32_float32__ValidMelt_1.bd w_slices_IndexFunc_float32_float32__ValidMelt_1 a1 K =
  (w_slices_IndexFunc_float32_float32__ValidMelt_1 a1 fun y1 => K (Decidable.decide (y1 ≥ (0 : Int)))) := by kernel_rfl
theorem slices_ContainsFunc_float32_float32__ValidMelt_1.eq (a1 : List Nat) (K : Bool → Prop) : slices_ContainsFunc_float32_float32__ValidMelt_1.wp a1 K =
  (Go.K.melts.slices_IndexFunc_float32_float32__ValidMelt_1.wp a1 fun y1 => K (Decidable.decide (y1 ≥ (0 : Int)))) := slices_ContainsFunc_float32_float32__ValidMelt_1.tx slices_IndexFunc_float32_float32__ValidMelt_1.wp a1 K

theorem impl_aMass.tx (w_impl_IsFinite : Nat → (Bool → Prop) → Prop) (a1 : Nat) (K : Bool → Prop) : impl_aMass.bd w_impl_IsFinite a1 K =
  (w_impl_IsFinite a1 fun y1 => Go.K.ifB y1 (K (Go.K.fge Go.FloatKind.f32 a1 (0 : Nat))) (K Bool.false)) := by kernel_rfl
theorem impl_aMass.eq (a1 : Nat) (K : Bool → Prop) : impl_aMass.wp a1 K =
  (Go.K.melts.impl_IsFinite.wp a1 fun y1 => Go.K.ifB y1 (K (Go.K.fge Go.FloatKind.f32 a1 (0 : Nat))) (K Bool.false)) := impl_aMass.tx impl_IsFinite.wp a1 K

theorem impl_ValidMelt.tx (w_impl_ValidField : List Nat → Int → Int → Bool → (Bool → Prop) → Prop) (w_impl_alike : List Nat → List Nat → Int → Int → Bool → Int → Int → Bool → (Bool → Prop) → Prop) (w_impl_finiteField : List Nat → Int → Int → Bool → (Bool → Prop) → Prop) (w_slices_ContainsFunc_float32_float32__ValidMelt_1 : List Nat → (Bool → Prop) → Prop) (w_impl_aMass : Nat → (Bool → Prop) → Prop) (w_impl_within : Int → Int → Int → (Bool → Prop) → Prop) (a1 : List
  Nat) (a2 : List
  Nat) (a3 : Int) (a4 : Int) (a5 : Bool) (a6 : Int) (a7 : Int) (a8 : Bool) (a9 : Nat) (a10 : Nat) (a11 : Nat) (a12 : Nat) (a13 : Nat) (a14 : Int) (K : Bool →
  Prop) : impl_ValidMelt.bd w_impl_ValidField w_impl_alike w_impl_finiteField w_slices_ContainsFunc_float32_float32__ValidMelt_1 w_impl_aMass w_impl_within a1 a2 a3 a4 a5 a6 a7 a8 a9 a10 a11 a12 a13 a14 K =
  (w_impl_ValidField a1 a3 a4 a5 fun y1 =>
  Go.K.ifB (!y1) (K Bool.false)
    (w_impl_ValidField a2 a6 a7 a8 fun y2 =>
      Go.K.ifB (!y2) (K Bool.false)
        (w_impl_alike a1 a2 a3 a4 a5 a6 a7 a8 fun y3 =>
          Go.K.ifB (!y3) (K Bool.false)
            (w_impl_finiteField a2 a6 a7 a8 fun y4 =>
              Go.K.ifB (!y4) (K Bool.false)
                (w_slices_ContainsFunc_float32_float32__ValidMelt_1 a1 fun y5 =>
                  Go.K.ifB y5 (K Bool.false)
                    (∀ (J6 : Int → Int → Bool → Int → Int → Bool → Nat → Nat → Nat → Nat → Nat → Int → List Nat → Int → Int → Prop),
                      (∀ (x7 x8 : Int) (x9 : Bool) (x10 x11 : Int) (x12 : Bool) (x13 x14 x15 x16 x17 : Nat) (x18 : Int) (x19 : List Nat) (x20 x21 : Int),
                          Go.K.ifB (Decidable.decide (x21 < x20))
                              (((0 : Int) ≤ x21 ∧ x21 < (↑(List.length x19) : Int)) ∧
                                w_impl_aMass (List.getD x19 (Int.toNat x21) (0 : Nat)) fun y22 =>
                                  Go.K.ifB (!y22) (K Bool.false) (J6 x7 x8 x9 x10 x11 x12 x13 x14 x15 x16 x17 x18 x19 x20 (Go.IntKind.wrap Go.IntKind.i64 (x21 + (1 : Int)))))
                              (Go.K.ifB (Go.K.fge Go.FloatKind.f32 x17 (0 : Nat))
                                (Go.K.ifB (Go.K.flt Go.FloatKind.f32 x17 (1065353216 : Nat)) (w_impl_within x18 (1 : Int) (8 : Int) fun y23 => K y23) (K Bool.false))
                                (K Bool.false)) →
                            J6 x7 x8 x9 x10 x11 x12 x13 x14 x15 x16 x17 x18 x19 x20 x21) →
                        J6 a3 a4 a5 a6 a7 a8 a9 a10 a11 a12 a13 a14 (a9 :: a10 :: a11 :: a12 :: List.replicate (0 : Nat) (0 : Nat)) (4 : Int) (0 : Int))))))) := by kernel_rfl
theorem impl_ValidMelt.eq (a1 : List
  Nat) (a2 : List
  Nat) (a3 : Int) (a4 : Int) (a5 : Bool) (a6 : Int) (a7 : Int) (a8 : Bool) (a9 : Nat) (a10 : Nat) (a11 : Nat) (a12 : Nat) (a13 : Nat) (a14 : Int) (K : Bool →
  Prop) : impl_ValidMelt.wp a1 a2 a3 a4 a5 a6 a7 a8 a9 a10 a11 a12 a13 a14 K =
  (Go.K.melts.impl_ValidField.wp a1 a3 a4 a5 fun y1 =>
  Go.K.ifB (!y1) (K Bool.false)
    (Go.K.melts.impl_ValidField.wp a2 a6 a7 a8 fun y2 =>
      Go.K.ifB (!y2) (K Bool.false)
        (Go.K.melts.impl_alike.wp a1 a2 a3 a4 a5 a6 a7 a8 fun y3 =>
          Go.K.ifB (!y3) (K Bool.false)
            (Go.K.melts.impl_finiteField.wp a2 a6 a7 a8 fun y4 =>
              Go.K.ifB (!y4) (K Bool.false)
                (Go.K.melts.slices_ContainsFunc_float32_float32__ValidMelt_1.wp a1 fun y5 =>
                  Go.K.ifB y5 (K Bool.false)
                    (∀ (J6 : Int → Int → Bool → Int → Int → Bool → Nat → Nat → Nat → Nat → Nat → Int → List Nat → Int → Int → Prop),
                      (∀ (x7 x8 : Int) (x9 : Bool) (x10 x11 : Int) (x12 : Bool) (x13 x14 x15 x16 x17 : Nat) (x18 : Int) (x19 : List Nat) (x20 x21 : Int),
                          Go.K.ifB (Decidable.decide (x21 < x20))
                              (((0 : Int) ≤ x21 ∧ x21 < (↑(List.length x19) : Int)) ∧
                                Go.K.melts.impl_aMass.wp (List.getD x19 (Int.toNat x21) (0 : Nat)) fun y22 =>
                                  Go.K.ifB (!y22) (K Bool.false) (J6 x7 x8 x9 x10 x11 x12 x13 x14 x15 x16 x17 x18 x19 x20 (Go.IntKind.wrap Go.IntKind.i64 (x21 + (1 : Int)))))
                              (Go.K.ifB (Go.K.fge Go.FloatKind.f32 x17 (0 : Nat))
                                (Go.K.ifB (Go.K.flt Go.FloatKind.f32 x17 (1065353216 : Nat)) (Go.K.melts.impl_within.wp x18 (1 : Int) (8 : Int) fun y23 => K y23) (K Bool.false))
                                (K Bool.false)) →
                            J6 x7 x8 x9 x10 x11 x12 x13 x14 x15 x16 x17 x18 x19 x20 x21) →
                        J6 a3 a4 a5 a6 a7 a8 a9 a10 a11 a12 a13 a14 (a9 :: a10 :: a11 :: a12 :: List.replicate (0 : Nat) (0 : Nat)) (4 : Int) (0 : Int))))))) := impl_ValidMelt.tx impl_ValidField.wp impl_alike.wp impl_finiteField.wp slices_ContainsFunc_float32_float32__ValidMelt_1.wp impl_aMass.wp impl_within.wp a1 a2 a3 a4 a5 a6 a7 a8 a9 a10 a11 a12 a13 a14 K

theorem slices_Clone_float32_float32.tx  (a1 : List Nat) (K : List Nat → Prop) : slices_Clone_float32_float32.bd  a1 K =
  (List.length a1 ≠ (0 : Nat) ∧ List.length (List.replicate (0 : Nat) (0 : Nat) ++ a1) ≤ (1099511627776 : Nat) ∧ K (List.replicate (0 : Nat) (0 : Nat) ++ a1)) := by kernel_rfl
theorem slices_Clone_float32_float32.eq (a1 : List Nat) (K : List Nat → Prop) : slices_Clone_float32_float32.wp a1 K =
  (List.length a1 ≠ (0 : Nat) ∧ List.length (List.replicate (0 : Nat) (0 : Nat) ++ a1) ≤ (1099511627776 : Nat) ∧ K (List.replicate (0 : Nat) (0 : Nat) ++ a1)) := slices_Clone_float32_float32.tx  a1 K

theorem impl_Melt_cloned.tx (w_impl_ValidMelt : List Nat → List Nat → Int → Int → Bool → Int → Int → Bool → Nat → Nat → Nat → Nat → Nat → Int → (Bool → Prop) → Prop) (w_slices_Clone_float32_float32 : List Nat → (List Nat → Prop) → Prop) (a1 : List
  Nat) (a2 : List
  Nat) (a3 : Int) (a4 : Int) (a5 : Bool) (a6 : Int) (a7 : Int) (a8 : Bool) (a9 : Nat) (a10 : Nat) (a11 : Nat) (a12 : Nat) (a13 : Nat) (a14 : Int) (K : List Nat →
  List Nat → Int → Int → Bool → Int → Int → Bool → Nat → Nat → Nat → Nat → Nat → Int → Bool → Prop) : impl_Melt_cloned.bd w_impl_ValidMelt w_slices_Clone_float32_float32 a1 a2 a3 a4 a5 a6 a7 a8 a9 a10 a11 a12 a13 a14 K =
  (w_impl_ValidMelt a1 a2 a3 a4 a5 a6 a7 a8 a9 a10 a11 a12 a13 a14 fun y1 =>
  Go.K.ifB (!y1) (K [] [] (0 : Int) (0 : Int) Bool.false (0 : Int) (0 : Int) Bool.false (0 : Nat) (0 : Nat) (0 : Nat) (0 : Nat) (0 : Nat) (0 : Int) Bool.false)
    (w_slices_Clone_float32_float32 a1 fun y2 =>
      w_slices_Clone_float32_float32 a2 fun y3 => K y2 y3 a3 a4 a5 a6 a7 a8 a9 a10 a11 a12 a13 a14 Bool.true)) := by kernel_rfl
theorem impl_Melt_cloned.eq (a1 : List
  Nat) (a2 : List
  Nat) (a3 : Int) (a4 : Int) (a5 : Bool) (a6 : Int) (a7 : Int) (a8 : Bool) (a9 : Nat) (a10 : Nat) (a11 : Nat) (a12 : Nat) (a13 : Nat) (a14 : Int) (K : List Nat →
  List Nat → Int → Int → Bool → Int → Int → Bool → Nat → Nat → Nat → Nat → Nat → Int → Bool → Prop) : impl_Melt_cloned.wp a1 a2 a3 a4 a5 a6 a7 a8 a9 a10 a11 a12 a13 a14 K =
  (Go.K.melts.impl_ValidMelt.wp a1 a2 a3 a4 a5 a6 a7 a8 a9 a10 a11 a12 a13 a14 fun y1 =>
  Go.K.ifB (!y1) (K [] [] (0 : Int) (0 : Int) Bool.false (0 : Int) (0 : Int) Bool.false (0 : Nat) (0 : Nat) (0 : Nat) (0 : Nat) (0 : Nat) (0 : Int) Bool.false)
    (Go.K.melts.slices_Clone_float32_float32.wp a1 fun y2 =>
      Go.K.melts.slices_Clone_float32_float32.wp a2 fun y3 => K y2 y3 a3 a4 a5 a6 a7 a8 a9 a10 a11 a12 a13 a14 Bool.true)) := impl_Melt_cloned.tx impl_ValidMelt.wp slices_Clone_float32_float32.wp a1 a2 a3 a4 a5 a6 a7 a8 a9 a10 a11 a12 a13 a14 K

theorem impl_difference.tx  (a1 : Nat) (a2 : Int) (a3 : Bool) (K : Nat → Prop) : impl_difference.bd  a1 a2 a3 K =
  (Go.K.ifB a3
  (Go.K.ifB (Go.K.fgt Go.FloatKind.f32 a1 (Go.K.farith Go.BinOp.quo Go.FloatKind.f32 (Go.K.fofint Go.FloatKind.f32 a2) (1073741824 : Nat)))
    (K (Go.K.farith Go.BinOp.sub Go.FloatKind.f32 a1 (Go.K.fofint Go.FloatKind.f32 a2)))
    (Go.K.ifB a3
      (Go.K.ifB (Go.K.flt Go.FloatKind.f32 a1 (Go.K.fneg Go.FloatKind.f32 (Go.K.farith Go.BinOp.quo Go.FloatKind.f32 (Go.K.fofint Go.FloatKind.f32 a2) (1073741824 : Nat))))
        (K (Go.K.farith Go.BinOp.add Go.FloatKind.f32 a1 (Go.K.fofint Go.FloatKind.f32 a2))) (K a1))
      (K a1)))
  (Go.K.ifB a3
    (Go.K.ifB (Go.K.flt Go.FloatKind.f32 a1 (Go.K.fneg Go.FloatKind.f32 (Go.K.farith Go.BinOp.quo Go.FloatKind.f32 (Go.K.fofint Go.FloatKind.f32 a2) (1073741824 : Nat))))
      (K (Go.K.farith Go.BinOp.add Go.FloatKind.f32 a1 (Go.K.fofint Go.FloatKind.f32 a2))) (K a1))
    (K a1))) := by kernel_rfl
theorem impl_difference.eq (a1 : Nat) (a2 : Int) (a3 : Bool) (K : Nat → Prop) : impl_difference.wp a1 a2 a3 K =
  (Go.K.ifB a3
  (Go.K.ifB (Go.K.fgt Go.FloatKind.f32 a1 (Go.K.farith Go.BinOp.quo Go.FloatKind.f32 (Go.K.fofint Go.FloatKind.f32 a2) (1073741824 : Nat)))
    (K (Go.K.farith Go.BinOp.sub Go.FloatKind.f32 a1 (Go.K.fofint Go.FloatKind.f32 a2)))
    (Go.K.ifB a3
      (Go.K.ifB (Go.K.flt Go.FloatKind.f32 a1 (Go.K.fneg Go.FloatKind.f32 (Go.K.farith Go.BinOp.quo Go.FloatKind.f32 (Go.K.fofint Go.FloatKind.f32 a2) (1073741824 : Nat))))
        (K (Go.K.farith Go.BinOp.add Go.FloatKind.f32 a1 (Go.K.fofint Go.FloatKind.f32 a2))) (K a1))
      (K a1)))
  (Go.K.ifB a3
    (Go.K.ifB (Go.K.flt Go.FloatKind.f32 a1 (Go.K.fneg Go.FloatKind.f32 (Go.K.farith Go.BinOp.quo Go.FloatKind.f32 (Go.K.fofint Go.FloatKind.f32 a2) (1073741824 : Nat))))
      (K (Go.K.farith Go.BinOp.add Go.FloatKind.f32 a1 (Go.K.fofint Go.FloatKind.f32 a2))) (K a1))
    (K a1))) := impl_difference.tx  a1 a2 a3 K

theorem impl_DiscField_1.tx (w_impl_difference : Nat → Int → Bool → (Nat → Prop) → Prop) (a1 : Nat) (a2 : Int) (a3 : Bool) (a4 : Nat) (a5 : Int) (a6 : Nat) (a7 : Int) (a8 : Int) (K : Nat →
  Prop) : impl_DiscField_1.bd w_impl_difference a1 a2 a3 a4 a5 a6 a7 a8 K =
  (w_impl_difference (Go.K.farith Go.BinOp.sub Go.FloatKind.f32 (Go.K.fofint Go.FloatKind.f32 a7) a1) a2 a3 fun y1 =>
  w_impl_difference (Go.K.farith Go.BinOp.sub Go.FloatKind.f32 (Go.K.fofint Go.FloatKind.f32 a8) a4) a5 a3 fun y2 =>
    Go.K.ifB
      (Go.K.fle Go.FloatKind.f32 (Go.K.farith Go.BinOp.add Go.FloatKind.f32 (Go.K.farith Go.BinOp.mul Go.FloatKind.f32 y1 y1) (Go.K.farith Go.BinOp.mul Go.FloatKind.f32 y2 y2))
        (Go.K.farith Go.BinOp.mul Go.FloatKind.f32 a6 a6))
      (K (1065353216 : Nat)) (K (0 : Nat))) := by kernel_rfl
theorem impl_DiscField_1.eq (a1 : Nat) (a2 : Int) (a3 : Bool) (a4 : Nat) (a5 : Int) (a6 : Nat) (a7 : Int) (a8 : Int) (K : Nat →
  Prop) : impl_DiscField_1.wp a1 a2 a3 a4 a5 a6 a7 a8 K =
  (Go.K.melts.impl_difference.wp (Go.K.farith Go.BinOp.sub Go.FloatKind.f32 (Go.K.fofint Go.FloatKind.f32 a7) a1) a2 a3 fun y1 =>
  Go.K.melts.impl_difference.wp (Go.K.farith Go.BinOp.sub Go.FloatKind.f32 (Go.K.fofint Go.FloatKind.f32 a8) a4) a5 a3 fun y2 =>
    Go.K.ifB
      (Go.K.fle Go.FloatKind.f32 (Go.K.farith Go.BinOp.add Go.FloatKind.f32 (Go.K.farith Go.BinOp.mul Go.FloatKind.f32 y1 y1) (Go.K.farith Go.BinOp.mul Go.FloatKind.f32 y2 y2))
        (Go.K.farith Go.BinOp.mul Go.FloatKind.f32 a6 a6))
      (K (1065353216 : Nat)) (K (0 : Nat))) := impl_DiscField_1.tx impl_difference.wp a1 a2 a3 a4 a5 a6 a7 a8 K

theorem impl_made__DiscField_1.tx (w_impl_DiscField_1 : Nat → Int → Bool → Nat → Int → Nat → Int → Int → (Nat → Prop) → Prop) (a1 : Nat) (a2 : Int) (a3 : Bool) (a4 : Nat) (a5 : Int) (a6 : Nat) (a7 : Int) (a8 : Int) (a9 : Bool) (K : List Nat →
  Int → Int → Bool → Prop) : impl_made__DiscField_1.bd w_impl_DiscField_1 a1 a2 a3 a4 a5 a6 a7 a8 a9 K =
  (∀ (J1 : Int → Int → Bool → Int → Int → Bool → List Nat → List Nat → Int → Int → Prop),
  (∀ (x2 x3 : Int) (x4 : Bool) (x5 x6 : Int) (x7 : Bool) (x8 x9 : List Nat) (x10 x11 : Int),
      Go.K.ifB (Decidable.decide (x11 < x10))
          (∀ (J12 : Int → Int → Bool → Int → Int → Bool → List Nat → List Nat → Int → Int → Int → Int → Int → Prop),
            (∀ (x13 x14 : Int) (x15 : Bool) (x16 x17 : Int) (x18 : Bool) (x19 x20 : List Nat) (x21 x22 x23 x24 x25 : Int),
                Go.K.ifB (Decidable.decide (x25 < x24))
                    (w_impl_DiscField_1 a1 a2 a3 a4 a5 a6 x25 x21 fun y26 =>
                      List.length (x20 ++ y26 :: List.replicate (0 : Nat) (0 : Nat)) ≤ (1099511627776 : Nat) ∧
                        J12 x13 x14 x15 x16 x17 x18 x19 (x20 ++ y26 :: List.replicate (0 : Nat) (0 : Nat)) x21 x22 x23 x24 (Go.IntKind.wrap Go.IntKind.i64 (x25 + (1 : Int))))
                    (J1 x13 x14 x15 x16 x17 x18 x19 x20 x22 (Go.IntKind.wrap Go.IntKind.i64 (x23 + (1 : Int)))) →
                  J12 x13 x14 x15 x16 x17 x18 x19 x20 x21 x22 x23 x24 x25) →
              J12 x2 x3 x4 x5 x6 x7 x8 x9 x11 x10 x11 a7 (0 : Int))
          (K x9 x5 x6 x7) →
        J1 x2 x3 x4 x5 x6 x7 x8 x9 x10 x11) →
    J1 (0 : Int) (0 : Int) Bool.false a7 a8 a9 [] (List.replicate (0 : Nat) (0 : Nat)) a8 (0 : Int)) := by kernel_rfl
theorem impl_made__DiscField_1.eq (a1 : Nat) (a2 : Int) (a3 : Bool) (a4 : Nat) (a5 : Int) (a6 : Nat) (a7 : Int) (a8 : Int) (a9 : Bool) (K : List Nat →
  Int → Int → Bool → Prop) : impl_made__DiscField_1.wp a1 a2 a3 a4 a5 a6 a7 a8 a9 K =
  (∀ (J1 : Int → Int → Bool → Int → Int → Bool → List Nat → List Nat → Int → Int → Prop),
  (∀ (x2 x3 : Int) (x4 : Bool) (x5 x6 : Int) (x7 : Bool) (x8 x9 : List Nat) (x10 x11 : Int),
      Go.K.ifB (Decidable.decide (x11 < x10))
          (∀ (J12 : Int → Int → Bool → Int → Int → Bool → List Nat → List Nat → Int → Int → Int → Int → Int → Prop),
            (∀ (x13 x14 : Int) (x15 : Bool) (x16 x17 : Int) (x18 : Bool) (x19 x20 : List Nat) (x21 x22 x23 x24 x25 : Int),
                Go.K.ifB (Decidable.decide (x25 < x24))
                    (Go.K.melts.impl_DiscField_1.wp a1 a2 a3 a4 a5 a6 x25 x21 fun y26 =>
                      List.length (x20 ++ y26 :: List.replicate (0 : Nat) (0 : Nat)) ≤ (1099511627776 : Nat) ∧
                        J12 x13 x14 x15 x16 x17 x18 x19 (x20 ++ y26 :: List.replicate (0 : Nat) (0 : Nat)) x21 x22 x23 x24 (Go.IntKind.wrap Go.IntKind.i64 (x25 + (1 : Int))))
                    (J1 x13 x14 x15 x16 x17 x18 x19 x20 x22 (Go.IntKind.wrap Go.IntKind.i64 (x23 + (1 : Int)))) →
                  J12 x13 x14 x15 x16 x17 x18 x19 x20 x21 x22 x23 x24 x25) →
              J12 x2 x3 x4 x5 x6 x7 x8 x9 x11 x10 x11 a7 (0 : Int))
          (K x9 x5 x6 x7) →
        J1 x2 x3 x4 x5 x6 x7 x8 x9 x10 x11) →
    J1 (0 : Int) (0 : Int) Bool.false a7 a8 a9 [] (List.replicate (0 : Nat) (0 : Nat)) a8 (0 : Int)) := impl_made__DiscField_1.tx impl_DiscField_1.wp a1 a2 a3 a4 a5 a6 a7 a8 a9 K

theorem impl_DiscField.tx (w_impl_areWithin : List Int → Int → Int → (Bool → Prop) → Prop) (w_impl_areFinite : List Nat → (Bool → Prop) → Prop) (w_impl_made__DiscField_1 : Nat → Int → Bool → Nat → Int → Nat → Int → Int → Bool → (List Nat → Int → Int → Bool → Prop) → Prop) (a1 : Int) (a2 : Int) (a3 : Bool) (a4 : Nat) (a5 : Nat) (a6 : Nat) (K : List Nat →
  Int → Int → Bool → Bool → Prop) : impl_DiscField.bd w_impl_areWithin w_impl_areFinite w_impl_made__DiscField_1 a1 a2 a3 a4 a5 a6 K =
  (w_impl_areWithin (a1 :: a2 :: List.replicate (0 : Nat) (0 : Int)) (1 : Int) (16 : Int) fun y1 =>
  Go.K.ifB (!y1) (K [] (0 : Int) (0 : Int) Bool.false Bool.false)
    (w_impl_areFinite (a4 :: a5 :: a6 :: List.replicate (0 : Nat) (0 : Nat)) fun y2 =>
      Go.K.ifB (!y2) (K [] (0 : Int) (0 : Int) Bool.false Bool.false)
        (w_impl_made__DiscField_1 a4 a1 a3 a5 a2 a6 a1 a2 a3 fun y3 y4 y5 y6 => K y3 y4 y5 y6 Bool.true))) := by kernel_rfl
theorem impl_DiscField.eq (a1 : Int) (a2 : Int) (a3 : Bool) (a4 : Nat) (a5 : Nat) (a6 : Nat) (K : List Nat →
  Int → Int → Bool → Bool → Prop) : impl_DiscField.wp a1 a2 a3 a4 a5 a6 K =
  (Go.K.melts.impl_areWithin.wp (a1 :: a2 :: List.replicate (0 : Nat) (0 : Int)) (1 : Int) (16 : Int) fun y1 =>
  Go.K.ifB (!y1) (K [] (0 : Int) (0 : Int) Bool.false Bool.false)
    (Go.K.melts.impl_areFinite.wp (a4 :: a5 :: a6 :: List.replicate (0 : Nat) (0 : Nat)) fun y2 =>
      Go.K.ifB (!y2) (K [] (0 : Int) (0 : Int) Bool.false Bool.false)
        (Go.K.melts.impl_made__DiscField_1.wp a4 a1 a3 a5 a2 a6 a1 a2 a3 fun y3 y4 y5 y6 => K y3 y4 y5 y6 Bool.true))) := impl_DiscField.tx impl_areWithin.wp impl_areFinite.wp impl_made__DiscField_1.wp a1 a2 a3 a4 a5 a6 K

theorem impl_SeedMelt.tx (w_impl_Melt_cloned : List Nat → List Nat → Int → Int → Bool → Int → Int → Bool → Nat → Nat → Nat → Nat → Nat → Int → (List Nat → List Nat → Int → Int → Bool → Int → Int → Bool → Nat → Nat → Nat → Nat → Nat → Int → Bool → Prop) → Prop) (w_impl_DiscField : Int → Int → Bool → Nat → Nat → Nat → (List Nat → Int → Int → Bool → Bool → Prop) → Prop) (a1 : List
  Nat) (a2 : List
  Nat) (a3 : Int) (a4 : Int) (a5 : Bool) (a6 : Int) (a7 : Int) (a8 : Bool) (a9 : Nat) (a10 : Nat) (a11 : Nat) (a12 : Nat) (a13 : Nat) (a14 : Int) (a15 : Nat) (a16 : Nat) (a17 : Nat) (K : List
    Nat →
  List Nat →
    Int → Int → Bool → Int → Int → Bool → Nat → Nat → Nat → Nat → Nat → Int → Bool → Prop) : impl_SeedMelt.bd w_impl_Melt_cloned w_impl_DiscField a1 a2 a3 a4 a5 a6 a7 a8 a9 a10 a11 a12 a13 a14 a15 a16 a17 K =
  (w_impl_Melt_cloned a1 a2 a3 a4 a5 a6 a7 a8 a9 a10 a11 a12 a13 a14 fun y1 y2 y3 y4 y5 y6 y7 y8 y9 y10 y11 y12 y13 y14 y15 =>
  w_impl_DiscField a3 a4 a5 a15 a16 a17 fun y16 y17 y18 y19 y20 =>
    Go.K.ifB (!y15) (K [] [] (0 : Int) (0 : Int) Bool.false (0 : Int) (0 : Int) Bool.false (0 : Nat) (0 : Nat) (0 : Nat) (0 : Nat) (0 : Nat) (0 : Int) Bool.false)
      (Go.K.ifB (!y20) (K [] [] (0 : Int) (0 : Int) Bool.false (0 : Int) (0 : Int) Bool.false (0 : Nat) (0 : Nat) (0 : Nat) (0 : Nat) (0 : Nat) (0 : Int) Bool.false)
        (∀
          (J21 :
            Int →
              Int →
                Bool →
                  Int →
                    Int →
                      Bool →
                        Nat →
                          Nat →
                            Nat →
                              Nat →
                                Nat →
                                  Int →
                                    Int →
                                      Int → Bool → Int → Int → Bool → Nat → Nat → Nat → Nat → Nat → Int → List Nat → List Nat → List Nat → List Nat → List Nat → Int → Int → Prop),
          (∀ (x22 x23 : Int) (x24 : Bool) (x25 x26 : Int) (x27 : Bool) (x28 x29 x30 x31 x32 : Nat) (x33 x34 x35 : Int) (x36 : Bool) (x37 x38 : Int) (x39 : Bool)
              (x40 x41 x42 x43 x44 : Nat) (x45 : Int) (x46 x47 x48 x49 x50 : List Nat) (x51 x52 : Int),
              Go.K.ifB (Decidable.decide (x52 < x51))
                  (((0 : Int) ≤ x52 ∧ x52 < (↑(List.length x46) : Int)) ∧
                    Go.K.ifB (Go.K.feq Go.FloatKind.f32 (List.getD x46 (Int.toNat x52) (0 : Nat)) (1065353216 : Nat))
                      (((0 : Int) ≤ x52 ∧ x52 < (↑(List.length x49) : Int)) ∧
                        J21 x22 x23 x24 x25 x26 x27 x28 x29 x30 x31 x32 x33 x34 x35 x36 x37 x38 x39 x40 x41 x42 x43 x44 x45 x46 x47 x48
                          (List.set x49 (Int.toNat x52) (1065353216 : Nat)) x50 x51 (Go.IntKind.wrap Go.IntKind.i64 (x52 + (1 : Int))))
                      (J21 x22 x23 x24 x25 x26 x27 x28 x29 x30 x31 x32 x33 x34 x35 x36 x37 x38 x39 x40 x41 x42 x43 x44 x45 x46 x47 x48 x49 x50 x51
                        (Go.IntKind.wrap Go.IntKind.i64 (x52 + (1 : Int)))))
                  (K x49 x50 x34 x35 x36 x37 x38 x39 x40 x41 x42 x43 x44 x45 Bool.true) →
                J21 x22 x23 x24 x25 x26 x27 x28 x29 x30 x31 x32 x33 x34 x35 x36 x37 x38 x39 x40 x41 x42 x43 x44 x45 x46 x47 x48 x49 x50 x51 x52) →
            J21 (0 : Int) (0 : Int) Bool.false (0 : Int) (0 : Int) Bool.false (0 : Nat) (0 : Nat) (0 : Nat) (0 : Nat) (0 : Nat) (0 : Int) y3 y4 y5 y6 y7 y8 y9 y10 y11 y12 y13 y14
              y16 [] [] y1 y2 (↑(List.length y16) : Int) (0 : Int)))) := by kernel_rfl
theorem impl_SeedMelt.eq (a1 : List
  Nat) (a2 : List
  Nat) (a3 : Int) (a4 : Int) (a5 : Bool) (a6 : Int) (a7 : Int) (a8 : Bool) (a9 : Nat) (a10 : Nat) (a11 : Nat) (a12 : Nat) (a13 : Nat) (a14 : Int) (a15 : Nat) (a16 : Nat) (a17 : Nat) (K : List
    Nat →
  List Nat →
    Int → Int → Bool → Int → Int → Bool → Nat → Nat → Nat → Nat → Nat → Int → Bool → Prop) : impl_SeedMelt.wp a1 a2 a3 a4 a5 a6 a7 a8 a9 a10 a11 a12 a13 a14 a15 a16 a17 K =
  (Go.K.melts.impl_Melt_cloned.wp a1 a2 a3 a4 a5 a6 a7 a8 a9 a10 a11 a12 a13 a14 fun y1 y2 y3 y4 y5 y6 y7 y8 y9 y10 y11 y12 y13 y14 y15 =>
  Go.K.melts.impl_DiscField.wp a3 a4 a5 a15 a16 a17 fun y16 y17 y18 y19 y20 =>
    Go.K.ifB (!y15) (K [] [] (0 : Int) (0 : Int) Bool.false (0 : Int) (0 : Int) Bool.false (0 : Nat) (0 : Nat) (0 : Nat) (0 : Nat) (0 : Nat) (0 : Int) Bool.false)
      (Go.K.ifB (!y20) (K [] [] (0 : Int) (0 : Int) Bool.false (0 : Int) (0 : Int) Bool.false (0 : Nat) (0 : Nat) (0 : Nat) (0 : Nat) (0 : Nat) (0 : Int) Bool.false)
        (∀
          (J21 :
            Int →
              Int →
                Bool →
                  Int →
                    Int →
                      Bool →
                        Nat →
                          Nat →
                            Nat →
                              Nat →
                                Nat →
                                  Int →
                                    Int →
                                      Int → Bool → Int → Int → Bool → Nat → Nat → Nat → Nat → Nat → Int → List Nat → List Nat → List Nat → List Nat → List Nat → Int → Int → Prop),
          (∀ (x22 x23 : Int) (x24 : Bool) (x25 x26 : Int) (x27 : Bool) (x28 x29 x30 x31 x32 : Nat) (x33 x34 x35 : Int) (x36 : Bool) (x37 x38 : Int) (x39 : Bool)
              (x40 x41 x42 x43 x44 : Nat) (x45 : Int) (x46 x47 x48 x49 x50 : List Nat) (x51 x52 : Int),
              Go.K.ifB (Decidable.decide (x52 < x51))
                  (((0 : Int) ≤ x52 ∧ x52 < (↑(List.length x46) : Int)) ∧
                    Go.K.ifB (Go.K.feq Go.FloatKind.f32 (List.getD x46 (Int.toNat x52) (0 : Nat)) (1065353216 : Nat))
                      (((0 : Int) ≤ x52 ∧ x52 < (↑(List.length x49) : Int)) ∧
                        J21 x22 x23 x24 x25 x26 x27 x28 x29 x30 x31 x32 x33 x34 x35 x36 x37 x38 x39 x40 x41 x42 x43 x44 x45 x46 x47 x48
                          (List.set x49 (Int.toNat x52) (1065353216 : Nat)) x50 x51 (Go.IntKind.wrap Go.IntKind.i64 (x52 + (1 : Int))))
                      (J21 x22 x23 x24 x25 x26 x27 x28 x29 x30 x31 x32 x33 x34 x35 x36 x37 x38 x39 x40 x41 x42 x43 x44 x45 x46 x47 x48 x49 x50 x51
                        (Go.IntKind.wrap Go.IntKind.i64 (x52 + (1 : Int)))))
                  (K x49 x50 x34 x35 x36 x37 x38 x39 x40 x41 x42 x43 x44 x45 Bool.true) →
                J21 x22 x23 x24 x25 x26 x27 x28 x29 x30 x31 x32 x33 x34 x35 x36 x37 x38 x39 x40 x41 x42 x43 x44 x45 x46 x47 x48 x49 x50 x51 x52) →
            J21 (0 : Int) (0 : Int) Bool.false (0 : Int) (0 : Int) Bool.false (0 : Nat) (0 : Nat) (0 : Nat) (0 : Nat) (0 : Nat) (0 : Int) y3 y4 y5 y6 y7 y8 y9 y10 y11 y12 y13 y14
              y16 [] [] y1 y2 (↑(List.length y16) : Int) (0 : Int)))) := impl_SeedMelt.tx impl_Melt_cloned.wp impl_DiscField.wp a1 a2 a3 a4 a5 a6 a7 a8 a9 a10 a11 a12 a13 a14 a15 a16 a17 K

theorem laws_sameFloat.tx  (a1 : Nat) (a2 : Nat) (K : Bool → Prop) : laws_sameFloat.bd  a1 a2 K =
  (Go.K.ifB (Go.K.fne Go.FloatKind.f64 a1 a1) (Go.K.ifB (Go.K.fne Go.FloatKind.f64 a1 a1) (K (Go.K.fne Go.FloatKind.f64 a2 a2)) (K Bool.false))
  (Go.K.ifB (Go.K.fne Go.FloatKind.f64 a2 a2) (Go.K.ifB (Go.K.fne Go.FloatKind.f64 a1 a1) (K (Go.K.fne Go.FloatKind.f64 a2 a2)) (K Bool.false))
    (Go.K.ifB (Go.K.feq Go.FloatKind.f64 a1 (0 : Nat))
      (Go.K.ifB (Go.K.feq Go.FloatKind.f64 a2 (0 : Nat))
        (K
          (Go.K.fgt Go.FloatKind.f64 (Go.K.farith Go.BinOp.quo Go.FloatKind.f64 (4607182418800017408 : Nat) a1) (0 : Nat) ==
            Go.K.fgt Go.FloatKind.f64 (Go.K.farith Go.BinOp.quo Go.FloatKind.f64 (4607182418800017408 : Nat) a2) (0 : Nat)))
        (K (Go.K.feq Go.FloatKind.f64 a1 a2)))
      (K (Go.K.feq Go.FloatKind.f64 a1 a2))))) := by kernel_rfl
theorem laws_sameFloat.eq (a1 : Nat) (a2 : Nat) (K : Bool → Prop) : laws_sameFloat.wp a1 a2 K =
  (Go.K.ifB (Go.K.fne Go.FloatKind.f64 a1 a1) (Go.K.ifB (Go.K.fne Go.FloatKind.f64 a1 a1) (K (Go.K.fne Go.FloatKind.f64 a2 a2)) (K Bool.false))
  (Go.K.ifB (Go.K.fne Go.FloatKind.f64 a2 a2) (Go.K.ifB (Go.K.fne Go.FloatKind.f64 a1 a1) (K (Go.K.fne Go.FloatKind.f64 a2 a2)) (K Bool.false))
    (Go.K.ifB (Go.K.feq Go.FloatKind.f64 a1 (0 : Nat))
      (Go.K.ifB (Go.K.feq Go.FloatKind.f64 a2 (0 : Nat))
        (K
          (Go.K.fgt Go.FloatKind.f64 (Go.K.farith Go.BinOp.quo Go.FloatKind.f64 (4607182418800017408 : Nat) a1) (0 : Nat) ==
            Go.K.fgt Go.FloatKind.f64 (Go.K.farith Go.BinOp.quo Go.FloatKind.f64 (4607182418800017408 : Nat) a2) (0 : Nat)))
        (K (Go.K.feq Go.FloatKind.f64 a1 a2)))
      (K (Go.K.feq Go.FloatKind.f64 a1 a2))))) := laws_sameFloat.tx  a1 a2 K

theorem laws_eqFloat32S.tx (w_laws_sameFloat : Nat → Nat → (Bool → Prop) → Prop) (a1 : List Nat) (a2 : List Nat) (K : Bool → Prop) : laws_eqFloat32S.bd w_laws_sameFloat a1 a2 K =
  (Go.K.ifB ((↑(List.length a1) : Int) != (↑(List.length a2) : Int)) (K Bool.false)
  (∀ (J1 : Int → Prop),
    (∀ (x2 : Int),
        Go.K.ifB (Decidable.decide (x2 < (↑(List.length a1) : Int)))
            (((0 : Int) ≤ x2 ∧ x2 < (↑(List.length a1) : Int)) ∧
              ((0 : Int) ≤ x2 ∧ x2 < (↑(List.length a2) : Int)) ∧
                w_laws_sameFloat (Go.K.fconv Go.FloatKind.f32 Go.FloatKind.f64 (List.getD a1 (Int.toNat x2) (0 : Nat)))
                  (Go.K.fconv Go.FloatKind.f32 Go.FloatKind.f64 (List.getD a2 (Int.toNat x2) (0 : Nat))) fun y3 =>
                  Go.K.ifB (!y3) (K Bool.false) (J1 (Go.IntKind.wrap Go.IntKind.i64 (x2 + (1 : Int)))))
            (K Bool.true) →
          J1 x2) →
      J1 (0 : Int))) := by kernel_rfl
theorem laws_eqFloat32S.eq (a1 : List Nat) (a2 : List Nat) (K : Bool → Prop) : laws_eqFloat32S.wp a1 a2 K =
  (Go.K.ifB ((↑(List.length a1) : Int) != (↑(List.length a2) : Int)) (K Bool.false)
  (∀ (J1 : Int → Prop),
    (∀ (x2 : Int),
        Go.K.ifB (Decidable.decide (x2 < (↑(List.length a1) : Int)))
            (((0 : Int) ≤ x2 ∧ x2 < (↑(List.length a1) : Int)) ∧
              ((0 : Int) ≤ x2 ∧ x2 < (↑(List.length a2) : Int)) ∧
                Go.K.melts.laws_sameFloat.wp (Go.K.fconv Go.FloatKind.f32 Go.FloatKind.f64 (List.getD a1 (Int.toNat x2) (0 : Nat)))
                  (Go.K.fconv Go.FloatKind.f32 Go.FloatKind.f64 (List.getD a2 (Int.toNat x2) (0 : Nat))) fun y3 =>
                  Go.K.ifB (!y3) (K Bool.false) (J1 (Go.IntKind.wrap Go.IntKind.i64 (x2 + (1 : Int)))))
            (K Bool.true) →
          J1 x2) →
      J1 (0 : Int))) := laws_eqFloat32S.tx laws_sameFloat.wp a1 a2 K

theorem laws_eqField.tx (w_laws_eqFloat32S : List Nat → List Nat → (Bool → Prop) → Prop) (a1 : List
  Nat) (a2 : List Nat) (a3 : Int) (a4 : Int) (a5 : Bool) (a6 : Int) (a7 : Int) (a8 : Bool) (K : Bool → Prop) : laws_eqField.bd w_laws_eqFloat32S a1 a2 a3 a4 a5 a6 a7 a8 K =
  (Go.K.ifB (a3 != a6) (K Bool.false)
  (Go.K.ifB (a4 != a7) (K Bool.false)
    (Go.K.ifB (a5 != a8) (K Bool.false) (w_laws_eqFloat32S a1 a2 fun y1 => Go.K.ifB (!y1) (K Bool.false) (K Bool.true))))) := by kernel_rfl
theorem laws_eqField.eq (a1 : List
  Nat) (a2 : List Nat) (a3 : Int) (a4 : Int) (a5 : Bool) (a6 : Int) (a7 : Int) (a8 : Bool) (K : Bool → Prop) : laws_eqField.wp a1 a2 a3 a4 a5 a6 a7 a8 K =
  (Go.K.ifB (a3 != a6) (K Bool.false)
  (Go.K.ifB (a4 != a7) (K Bool.false)
    (Go.K.ifB (a5 != a8) (K Bool.false) (Go.K.melts.laws_eqFloat32S.wp a1 a2 fun y1 => Go.K.ifB (!y1) (K Bool.false) (K Bool.true))))) := laws_eqField.tx laws_eqFloat32S.wp a1 a2 a3 a4 a5 a6 a7 a8 K

theorem laws_eqMelt.tx (w_laws_eqField : List Nat → List Nat → Int → Int → Bool → Int → Int → Bool → (Bool → Prop) → Prop) (w_laws_sameFloat : Nat → Nat → (Bool → Prop) → Prop) (a1 : List
  Nat) (a2 : List
  Nat) (a3 : List
  Nat) (a4 : List
  Nat) (a5 : Int) (a6 : Int) (a7 : Bool) (a8 : Int) (a9 : Int) (a10 : Bool) (a11 : Nat) (a12 : Nat) (a13 : Nat) (a14 : Nat) (a15 : Nat) (a16 : Int) (a17 : Int) (a18 : Int) (a19 : Bool) (a20 : Int) (a21 : Int) (a22 : Bool) (a23 : Nat) (a24 : Nat) (a25 : Nat) (a26 : Nat) (a27 : Nat) (a28 : Int) (K : Bool →
  Prop) : laws_eqMelt.bd w_laws_eqField w_laws_sameFloat a1 a2 a3 a4 a5 a6 a7 a8 a9 a10 a11 a12 a13 a14 a15 a16 a17 a18 a19 a20 a21 a22 a23 a24 a25 a26 a27 a28 K =
  (w_laws_eqField a1 a3 a5 a6 a7 a17 a18 a19 fun y1 =>
  Go.K.ifB (!y1) (K Bool.false)
    (w_laws_eqField a2 a4 a8 a9 a10 a20 a21 a22 fun y2 =>
      Go.K.ifB (!y2) (K Bool.false)
        (w_laws_sameFloat (Go.K.fconv Go.FloatKind.f32 Go.FloatKind.f64 a11) (Go.K.fconv Go.FloatKind.f32 Go.FloatKind.f64 a23) fun y3 =>
          Go.K.ifB (!y3) (K Bool.false)
            (w_laws_sameFloat (Go.K.fconv Go.FloatKind.f32 Go.FloatKind.f64 a12) (Go.K.fconv Go.FloatKind.f32 Go.FloatKind.f64 a24) fun y4 =>
              Go.K.ifB (!y4) (K Bool.false)
                (w_laws_sameFloat (Go.K.fconv Go.FloatKind.f32 Go.FloatKind.f64 a13) (Go.K.fconv Go.FloatKind.f32 Go.FloatKind.f64 a25) fun y5 =>
                  Go.K.ifB (!y5) (K Bool.false)
                    (w_laws_sameFloat (Go.K.fconv Go.FloatKind.f32 Go.FloatKind.f64 a14) (Go.K.fconv Go.FloatKind.f32 Go.FloatKind.f64 a26) fun y6 =>
                      Go.K.ifB (!y6) (K Bool.false)
                        (w_laws_sameFloat (Go.K.fconv Go.FloatKind.f32 Go.FloatKind.f64 a15) (Go.K.fconv Go.FloatKind.f32 Go.FloatKind.f64 a27) fun y7 =>
                          Go.K.ifB (!y7) (K Bool.false) (Go.K.ifB (a16 != a28) (K Bool.false) (K Bool.true))))))))) := by kernel_rfl
theorem laws_eqMelt.eq (a1 : List
  Nat) (a2 : List
  Nat) (a3 : List
  Nat) (a4 : List
  Nat) (a5 : Int) (a6 : Int) (a7 : Bool) (a8 : Int) (a9 : Int) (a10 : Bool) (a11 : Nat) (a12 : Nat) (a13 : Nat) (a14 : Nat) (a15 : Nat) (a16 : Int) (a17 : Int) (a18 : Int) (a19 : Bool) (a20 : Int) (a21 : Int) (a22 : Bool) (a23 : Nat) (a24 : Nat) (a25 : Nat) (a26 : Nat) (a27 : Nat) (a28 : Int) (K : Bool →
  Prop) : laws_eqMelt.wp a1 a2 a3 a4 a5 a6 a7 a8 a9 a10 a11 a12 a13 a14 a15 a16 a17 a18 a19 a20 a21 a22 a23 a24 a25 a26 a27 a28 K =
  (Go.K.melts.laws_eqField.wp a1 a3 a5 a6 a7 a17 a18 a19 fun y1 =>
  Go.K.ifB (!y1) (K Bool.false)
    (Go.K.melts.laws_eqField.wp a2 a4 a8 a9 a10 a20 a21 a22 fun y2 =>
      Go.K.ifB (!y2) (K Bool.false)
        (Go.K.melts.laws_sameFloat.wp (Go.K.fconv Go.FloatKind.f32 Go.FloatKind.f64 a11) (Go.K.fconv Go.FloatKind.f32 Go.FloatKind.f64 a23) fun y3 =>
          Go.K.ifB (!y3) (K Bool.false)
            (Go.K.melts.laws_sameFloat.wp (Go.K.fconv Go.FloatKind.f32 Go.FloatKind.f64 a12) (Go.K.fconv Go.FloatKind.f32 Go.FloatKind.f64 a24) fun y4 =>
              Go.K.ifB (!y4) (K Bool.false)
                (Go.K.melts.laws_sameFloat.wp (Go.K.fconv Go.FloatKind.f32 Go.FloatKind.f64 a13) (Go.K.fconv Go.FloatKind.f32 Go.FloatKind.f64 a25) fun y5 =>
                  Go.K.ifB (!y5) (K Bool.false)
                    (Go.K.melts.laws_sameFloat.wp (Go.K.fconv Go.FloatKind.f32 Go.FloatKind.f64 a14) (Go.K.fconv Go.FloatKind.f32 Go.FloatKind.f64 a26) fun y6 =>
                      Go.K.ifB (!y6) (K Bool.false)
                        (Go.K.melts.laws_sameFloat.wp (Go.K.fconv Go.FloatKind.f32 Go.FloatKind.f64 a15) (Go.K.fconv Go.FloatKind.f32 Go.FloatKind.f64 a27) fun y7 =>
                          Go.K.ifB (!y7) (K Bool.false) (Go.K.ifB (a16 != a28) (K Bool.false) (K Bool.true))))))))) := laws_eqMelt.tx laws_eqField.wp laws_sameFloat.wp a1 a2 a3 a4 a5 a6 a7 a8 a9 a10 a11 a12 a13 a14 a15 a16 a17 a18 a19 a20 a21 a22 a23 a24 a25 a26 a27 a28 K

theorem laws_markFloat32S.tx  (a1 : List Nat) (a2 : Int) (K : List Nat → Int → Prop) : laws_markFloat32S.bd  a1 a2 K =
  (∀ (J1 : List Nat → Int → Int → Prop),
  (∀ (x2 : List Nat) (x3 x4 : Int),
      Go.K.ifB (Decidable.decide (x4 < (↑(List.length a1) : Int)))
          (((0 : Int) ≤ x4 ∧ x4 < (↑(List.length a1) : Int)) ∧
            J1 (List.set x2 (Int.toNat x4) (Go.K.fofint Go.FloatKind.f32 x3)) (Go.IntKind.wrap Go.IntKind.i64 (x3 + (1 : Int))) (Go.IntKind.wrap Go.IntKind.i64 (x4 + (1 : Int))))
          (K x2 x3) →
        J1 x2 x3 x4) →
    J1 a1 a2 (0 : Int)) := by kernel_rfl
theorem laws_markFloat32S.eq (a1 : List Nat) (a2 : Int) (K : List Nat → Int → Prop) : laws_markFloat32S.wp a1 a2 K =
  (∀ (J1 : List Nat → Int → Int → Prop),
  (∀ (x2 : List Nat) (x3 x4 : Int),
      Go.K.ifB (Decidable.decide (x4 < (↑(List.length a1) : Int)))
          (((0 : Int) ≤ x4 ∧ x4 < (↑(List.length a1) : Int)) ∧
            J1 (List.set x2 (Int.toNat x4) (Go.K.fofint Go.FloatKind.f32 x3)) (Go.IntKind.wrap Go.IntKind.i64 (x3 + (1 : Int))) (Go.IntKind.wrap Go.IntKind.i64 (x4 + (1 : Int))))
          (K x2 x3) →
        J1 x2 x3 x4) →
    J1 a1 a2 (0 : Int)) := laws_markFloat32S.tx  a1 a2 K

theorem laws_markField.tx (w_laws_markFloat32S : List Nat → Int → (List Nat → Int → Prop) → Prop) (a1 : List Nat) (a2 : Int) (a3 : Int) (a4 : Bool) (a5 : Int) (K : List Nat → Int → Prop) : laws_markField.bd w_laws_markFloat32S a1 a2 a3 a4 a5 K =
  (w_laws_markFloat32S a1 a5 fun y1 y2 => K y1 y2) := by kernel_rfl
theorem laws_markField.eq (a1 : List Nat) (a2 : Int) (a3 : Int) (a4 : Bool) (a5 : Int) (K : List Nat → Int → Prop) : laws_markField.wp a1 a2 a3 a4 a5 K =
  (Go.K.melts.laws_markFloat32S.wp a1 a5 fun y1 y2 => K y1 y2) := laws_markField.tx laws_markFloat32S.wp a1 a2 a3 a4 a5 K

theorem laws_markMelt.tx (w_laws_markField : List Nat → Int → Int → Bool → Int → (List Nat → Int → Prop) → Prop) (a1 : List
  Nat) (a2 : List
  Nat) (a3 : Int) (a4 : Int) (a5 : Bool) (a6 : Int) (a7 : Int) (a8 : Bool) (a9 : Nat) (a10 : Nat) (a11 : Nat) (a12 : Nat) (a13 : Nat) (a14 : Int) (a15 : Int) (K : List Nat →
  List Nat → Int → Prop) : laws_markMelt.bd w_laws_markField a1 a2 a3 a4 a5 a6 a7 a8 a9 a10 a11 a12 a13 a14 a15 K =
  (w_laws_markField a1 a3 a4 a5 a15 fun y1 y2 => w_laws_markField a2 a6 a7 a8 y2 fun y3 y4 => K y1 y3 y4) := by kernel_rfl
theorem laws_markMelt.eq (a1 : List
  Nat) (a2 : List
  Nat) (a3 : Int) (a4 : Int) (a5 : Bool) (a6 : Int) (a7 : Int) (a8 : Bool) (a9 : Nat) (a10 : Nat) (a11 : Nat) (a12 : Nat) (a13 : Nat) (a14 : Int) (a15 : Int) (K : List Nat →
  List Nat → Int → Prop) : laws_markMelt.wp a1 a2 a3 a4 a5 a6 a7 a8 a9 a10 a11 a12 a13 a14 a15 K =
  (Go.K.melts.laws_markField.wp a1 a3 a4 a5 a15 fun y1 y2 => Go.K.melts.laws_markField.wp a2 a6 a7 a8 y2 fun y3 y4 => K y1 y3 y4) := laws_markMelt.tx laws_markField.wp a1 a2 a3 a4 a5 a6 a7 a8 a9 a10 a11 a12 a13 a14 a15 K

theorem laws_heldFloat32S.tx  (a1 : List Nat) (a2 : Int) (K : Int → Prop) : laws_heldFloat32S.bd  a1 a2 K =
  (∀ (J1 : Int → Int → Prop),
  (∀ (x2 x3 : Int),
      Go.K.ifB (Decidable.decide (x3 < (↑(List.length a1) : Int)))
          (((0 : Int) ≤ x3 ∧ x3 < (↑(List.length a1) : Int)) ∧
            Go.K.ifB (Go.K.fne Go.FloatKind.f32 (List.getD a1 (Int.toNat x3) (0 : Nat)) (Go.K.fofint Go.FloatKind.f32 x2)) (K (-1 : Int))
              (J1 (Go.IntKind.wrap Go.IntKind.i64 (x2 + (1 : Int))) (Go.IntKind.wrap Go.IntKind.i64 (x3 + (1 : Int)))))
          (K x2) →
        J1 x2 x3) →
    J1 a2 (0 : Int)) := by kernel_rfl
theorem laws_heldFloat32S.eq (a1 : List Nat) (a2 : Int) (K : Int → Prop) : laws_heldFloat32S.wp a1 a2 K =
  (∀ (J1 : Int → Int → Prop),
  (∀ (x2 x3 : Int),
      Go.K.ifB (Decidable.decide (x3 < (↑(List.length a1) : Int)))
          (((0 : Int) ≤ x3 ∧ x3 < (↑(List.length a1) : Int)) ∧
            Go.K.ifB (Go.K.fne Go.FloatKind.f32 (List.getD a1 (Int.toNat x3) (0 : Nat)) (Go.K.fofint Go.FloatKind.f32 x2)) (K (-1 : Int))
              (J1 (Go.IntKind.wrap Go.IntKind.i64 (x2 + (1 : Int))) (Go.IntKind.wrap Go.IntKind.i64 (x3 + (1 : Int)))))
          (K x2) →
        J1 x2 x3) →
    J1 a2 (0 : Int)) := laws_heldFloat32S.tx  a1 a2 K

theorem laws_heldField.tx (w_laws_heldFloat32S : List Nat → Int → (Int → Prop) → Prop) (a1 : List Nat) (a2 : Int) (a3 : Int) (a4 : Bool) (a5 : Int) (K : Int → Prop) : laws_heldField.bd w_laws_heldFloat32S a1 a2 a3 a4 a5 K =
  (w_laws_heldFloat32S a1 a5 fun y1 => Go.K.ifB (Decidable.decide (y1 < (0 : Int))) (K (-1 : Int)) (K y1)) := by kernel_rfl
theorem laws_heldField.eq (a1 : List Nat) (a2 : Int) (a3 : Int) (a4 : Bool) (a5 : Int) (K : Int → Prop) : laws_heldField.wp a1 a2 a3 a4 a5 K =
  (Go.K.melts.laws_heldFloat32S.wp a1 a5 fun y1 => Go.K.ifB (Decidable.decide (y1 < (0 : Int))) (K (-1 : Int)) (K y1)) := laws_heldField.tx laws_heldFloat32S.wp a1 a2 a3 a4 a5 K

theorem laws_heldMelt.tx (w_laws_heldField : List Nat → Int → Int → Bool → Int → (Int → Prop) → Prop) (a1 : List
  Nat) (a2 : List
  Nat) (a3 : Int) (a4 : Int) (a5 : Bool) (a6 : Int) (a7 : Int) (a8 : Bool) (a9 : Nat) (a10 : Nat) (a11 : Nat) (a12 : Nat) (a13 : Nat) (a14 : Int) (a15 : Int) (K : Int →
  Prop) : laws_heldMelt.bd w_laws_heldField a1 a2 a3 a4 a5 a6 a7 a8 a9 a10 a11 a12 a13 a14 a15 K =
  (w_laws_heldField a1 a3 a4 a5 a15 fun y1 =>
  Go.K.ifB (Decidable.decide (y1 < (0 : Int))) (K (-1 : Int))
    (w_laws_heldField a2 a6 a7 a8 y1 fun y2 => Go.K.ifB (Decidable.decide (y2 < (0 : Int))) (K (-1 : Int)) (K y2))) := by kernel_rfl
theorem laws_heldMelt.eq (a1 : List
  Nat) (a2 : List
  Nat) (a3 : Int) (a4 : Int) (a5 : Bool) (a6 : Int) (a7 : Int) (a8 : Bool) (a9 : Nat) (a10 : Nat) (a11 : Nat) (a12 : Nat) (a13 : Nat) (a14 : Int) (a15 : Int) (K : Int →
  Prop) : laws_heldMelt.wp a1 a2 a3 a4 a5 a6 a7 a8 a9 a10 a11 a12 a13 a14 a15 K =
  (Go.K.melts.laws_heldField.wp a1 a3 a4 a5 a15 fun y1 =>
  Go.K.ifB (Decidable.decide (y1 < (0 : Int))) (K (-1 : Int))
    (Go.K.melts.laws_heldField.wp a2 a6 a7 a8 y1 fun y2 => Go.K.ifB (Decidable.decide (y2 < (0 : Int))) (K (-1 : Int)) (K y2))) := laws_heldMelt.tx laws_heldField.wp a1 a2 a3 a4 a5 a6 a7 a8 a9 a10 a11 a12 a13 a14 a15 K

theorem laws_FnExactSeedMelt.tx (w_laws_szMelt : List Nat → List Nat → Int → Int → Bool → Int → Int → Bool → Nat → Nat → Nat → Nat → Nat → Int → Int → (Int → Prop) → Prop) (w_laws_toMelt : List Nat → List Nat → Int → Int → Bool → Int → Int → Bool → Nat → Nat → Nat → Nat → Nat → Int → (List Nat → List Nat → Int → Int → Bool → Int → Int → Bool → Nat → Nat → Nat → Nat → Nat → Int → Prop) → Prop) (w_spec_SeedMelt : List Nat → List Nat → Int → Int → Bool → Int → Int → Bool → Nat → Nat → Nat → Nat → Nat → Int → Nat → Nat → Nat → (List Nat → List Nat → Int → Int → Bool → Int → Int → Bool → Nat → Nat → Nat → Nat → Nat → Int → Bool → Prop) → Prop) (w_impl_SeedMelt : List Nat → List Nat → Int → Int → Bool → Int → Int → Bool → Nat → Nat → Nat → Nat → Nat → Int → Nat → Nat → Nat → (List Nat → List Nat → Int → Int → Bool → Int → Int → Bool → Nat → Nat → Nat → Nat → Nat → Int → Bool → Prop) → Prop) (w_laws_eqMelt : List Nat → List Nat → List Nat → List Nat → Int → Int → Bool → Int → Int → Bool → Nat → Nat → Nat → Nat → Nat → Int → Int → Int → Bool → Int → Int → Bool → Nat → Nat → Nat → Nat → Nat → Int → (Bool → Prop) → Prop) (w_laws_markMelt : List Nat → List Nat → Int → Int → Bool → Int → Int → Bool → Nat → Nat → Nat → Nat → Nat → Int → Int → (List Nat → List Nat → Int → Prop) → Prop) (w_laws_heldMelt : List Nat → List Nat → Int → Int → Bool → Int → Int → Bool → Nat → Nat → Nat → Nat → Nat → Int → Int → (Int → Prop) → Prop) (a1 : List
  Nat) (a2 : List
  Nat) (a3 : Int) (a4 : Int) (a5 : Bool) (a6 : Int) (a7 : Int) (a8 : Bool) (a9 : Nat) (a10 : Nat) (a11 : Nat) (a12 : Nat) (a13 : Nat) (a14 : Int) (a15 : Nat) (a16 : Nat) (a17 : Nat) (K : Bool →
  Prop) : laws_FnExactSeedMelt.bd w_laws_szMelt w_laws_toMelt w_spec_SeedMelt w_impl_SeedMelt w_laws_eqMelt w_laws_markMelt w_laws_heldMelt a1 a2 a3 a4 a5 a6 a7 a8 a9 a10 a11 a12 a13 a14 a15 a16 a17 K =
  (w_laws_szMelt a1 a2 a3 a4 a5 a6 a7 a8 a9 a10 a11 a12 a13 a14 (1048576 : Int) fun y1 =>
  Go.K.ifB (Decidable.decide (y1 < (0 : Int))) (K Bool.true)
    (w_laws_toMelt a1 a2 a3 a4 a5 a6 a7 a8 a9 a10 a11 a12 a13 a14 fun y2 y3 y4 y5 y6 y7 y8 y9 y10 y11 y12 y13 y14 y15 =>
      w_spec_SeedMelt y2 y3 y4 y5 y6 y7 y8 y9 y10 y11 y12 y13 y14 y15 a15 a16 a17 fun y16 y17 y18 y19 y20 y21 y22 y23 y24 y25 y26 y27 y28 y29 y30 =>
        w_laws_toMelt a1 a2 a3 a4 a5 a6 a7 a8 a9 a10 a11 a12 a13 a14 fun y31 y32 y33 y34 y35 y36 y37 y38 y39 y40 y41 y42 y43 y44 =>
          w_impl_SeedMelt y31 y32 y33 y34 y35 y36 y37 y38 y39 y40 y41 y42 y43 y44 a15 a16 a17 fun y45 y46 y47 y48 y49 y50 y51 y52 y53 y54 y55 y56 y57 y58 y59 =>
            w_laws_eqMelt y45 y46 y16 y17 y47 y48 y49 y50 y51 y52 y53 y54 y55 y56 y57 y58 y18 y19 y20 y21 y22 y23 y24 y25 y26 y27 y28 y29 fun y60 =>
              Go.K.ifB (!y60) (K Bool.false)
                (Go.K.ifB (y59 != y30) (K Bool.false)
                  (w_laws_toMelt a1 a2 a3 a4 a5 a6 a7 a8 a9 a10 a11 a12 a13 a14 fun y61 y62 y63 y64 y65 y66 y67 y68 y69 y70 y71 y72 y73 y74 =>
                    w_laws_eqMelt y31 y32 y61 y62 y33 y34 y35 y36 y37 y38 y39 y40 y41 y42 y43 y44 y63 y64 y65 y66 y67 y68 y69 y70 y71 y72 y73 y74 fun y75 =>
                      Go.K.ifB (!y75) (K Bool.false)
                        (w_laws_markMelt y31 y32 y33 y34 y35 y36 y37 y38 y39 y40 y41 y42 y43 y44 (1 : Int) fun y76 y77 y78 =>
                          Go.K.ifB (Decidable.decide (y78 < (0 : Int))) (K Bool.false)
                            (w_laws_eqMelt y45 y46 y16 y17 y47 y48 y49 y50 y51 y52 y53 y54 y55 y56 y57 y58 y18 y19 y20 y21 y22 y23 y24 y25 y26 y27 y28 y29 fun y79 =>
                              Go.K.ifB (!y79) (K Bool.false)
                                (Go.K.ifB (y59 != y30) (K Bool.false)
                                  (w_laws_markMelt y45 y46 y47 y48 y49 y50 y51 y52 y53 y54 y55 y56 y57 y58 (1 : Int) fun y80 y81 y82 =>
                                    w_laws_heldMelt y80 y81 y47 y48 y49 y50 y51 y52 y53 y54 y55 y56 y57 y58 (1 : Int) fun y83 =>
                                      Go.K.ifB (Decidable.decide (y83 < (0 : Int))) (K Bool.false)
                                        (Go.K.ifB (y83 != y82) (K Bool.false)
                                          (w_laws_toMelt a1 a2 a3 a4 a5 a6 a7 a8 a9 a10 a11 a12 a13 a14 fun y84 y85 y86 y87 y88 y89 y90 y91 y92 y93 y94 y95 y96 y97 =>
                                            w_impl_SeedMelt y84 y85 y86 y87 y88 y89 y90 y91 y92 y93 y94 y95 y96 y97 a15 a16 a17
                                              fun y98 y99 y100 y101 y102 y103 y104 y105 y106 y107 y108 y109 y110 y111 y112 =>
                                              w_laws_eqMelt y98 y99 y16 y17 y100 y101 y102 y103 y104 y105 y106 y107 y108 y109 y110 y111 y18 y19 y20 y21 y22 y23 y24 y25
                                                y26 y27 y28 y29 fun y113 =>
                                                Go.K.ifB (!y113) (K Bool.false)
                                                  (Go.K.ifB (y112 != y30) (K Bool.false)
                                                    (w_laws_heldMelt y80 y81 y47 y48 y49 y50 y51 y52 y53 y54 y55 y56 y57 y58 (1 : Int) fun y114 =>
                                                      Go.K.ifB (Decidable.decide (y114 < (0 : Int))) (K Bool.false)
                                                        (Go.K.ifB (y114 != y82) (K Bool.false) (K Bool.true)))))))))))))) := by kernel_rfl
theorem laws_FnExactSeedMelt.eq (a1 : List
  Nat) (a2 : List
  Nat) (a3 : Int) (a4 : Int) (a5 : Bool) (a6 : Int) (a7 : Int) (a8 : Bool) (a9 : Nat) (a10 : Nat) (a11 : Nat) (a12 : Nat) (a13 : Nat) (a14 : Int) (a15 : Nat) (a16 : Nat) (a17 : Nat) (K : Bool →
  Prop) : laws_FnExactSeedMelt.wp a1 a2 a3 a4 a5 a6 a7 a8 a9 a10 a11 a12 a13 a14 a15 a16 a17 K =
  (Go.K.melts.laws_szMelt.wp a1 a2 a3 a4 a5 a6 a7 a8 a9 a10 a11 a12 a13 a14 (1048576 : Int) fun y1 =>
  Go.K.ifB (Decidable.decide (y1 < (0 : Int))) (K Bool.true)
    (Go.K.melts.laws_toMelt.wp a1 a2 a3 a4 a5 a6 a7 a8 a9 a10 a11 a12 a13 a14 fun y2 y3 y4 y5 y6 y7 y8 y9 y10 y11 y12 y13 y14 y15 =>
      Go.K.melts.spec_SeedMelt.wp y2 y3 y4 y5 y6 y7 y8 y9 y10 y11 y12 y13 y14 y15 a15 a16 a17 fun y16 y17 y18 y19 y20 y21 y22 y23 y24 y25 y26 y27 y28 y29 y30 =>
        Go.K.melts.laws_toMelt.wp a1 a2 a3 a4 a5 a6 a7 a8 a9 a10 a11 a12 a13 a14 fun y31 y32 y33 y34 y35 y36 y37 y38 y39 y40 y41 y42 y43 y44 =>
          Go.K.melts.impl_SeedMelt.wp y31 y32 y33 y34 y35 y36 y37 y38 y39 y40 y41 y42 y43 y44 a15 a16 a17 fun y45 y46 y47 y48 y49 y50 y51 y52 y53 y54 y55 y56 y57 y58 y59 =>
            Go.K.melts.laws_eqMelt.wp y45 y46 y16 y17 y47 y48 y49 y50 y51 y52 y53 y54 y55 y56 y57 y58 y18 y19 y20 y21 y22 y23 y24 y25 y26 y27 y28 y29 fun y60 =>
              Go.K.ifB (!y60) (K Bool.false)
                (Go.K.ifB (y59 != y30) (K Bool.false)
                  (Go.K.melts.laws_toMelt.wp a1 a2 a3 a4 a5 a6 a7 a8 a9 a10 a11 a12 a13 a14 fun y61 y62 y63 y64 y65 y66 y67 y68 y69 y70 y71 y72 y73 y74 =>
                    Go.K.melts.laws_eqMelt.wp y31 y32 y61 y62 y33 y34 y35 y36 y37 y38 y39 y40 y41 y42 y43 y44 y63 y64 y65 y66 y67 y68 y69 y70 y71 y72 y73 y74 fun y75 =>
                      Go.K.ifB (!y75) (K Bool.false)
                        (Go.K.melts.laws_markMelt.wp y31 y32 y33 y34 y35 y36 y37 y38 y39 y40 y41 y42 y43 y44 (1 : Int) fun y76 y77 y78 =>
                          Go.K.ifB (Decidable.decide (y78 < (0 : Int))) (K Bool.false)
                            (Go.K.melts.laws_eqMelt.wp y45 y46 y16 y17 y47 y48 y49 y50 y51 y52 y53 y54 y55 y56 y57 y58 y18 y19 y20 y21 y22 y23 y24 y25 y26 y27 y28 y29 fun y79 =>
                              Go.K.ifB (!y79) (K Bool.false)
                                (Go.K.ifB (y59 != y30) (K Bool.false)
                                  (Go.K.melts.laws_markMelt.wp y45 y46 y47 y48 y49 y50 y51 y52 y53 y54 y55 y56 y57 y58 (1 : Int) fun y80 y81 y82 =>
                                    Go.K.melts.laws_heldMelt.wp y80 y81 y47 y48 y49 y50 y51 y52 y53 y54 y55 y56 y57 y58 (1 : Int) fun y83 =>
                                      Go.K.ifB (Decidable.decide (y83 < (0 : Int))) (K Bool.false)
                                        (Go.K.ifB (y83 != y82) (K Bool.false)
                                          (Go.K.melts.laws_toMelt.wp a1 a2 a3 a4 a5 a6 a7 a8 a9 a10 a11 a12 a13 a14 fun y84 y85 y86 y87 y88 y89 y90 y91 y92 y93 y94 y95 y96 y97 =>
                                            Go.K.melts.impl_SeedMelt.wp y84 y85 y86 y87 y88 y89 y90 y91 y92 y93 y94 y95 y96 y97 a15 a16 a17
                                              fun y98 y99 y100 y101 y102 y103 y104 y105 y106 y107 y108 y109 y110 y111 y112 =>
                                              Go.K.melts.laws_eqMelt.wp y98 y99 y16 y17 y100 y101 y102 y103 y104 y105 y106 y107 y108 y109 y110 y111 y18 y19 y20 y21 y22 y23 y24 y25
                                                y26 y27 y28 y29 fun y113 =>
                                                Go.K.ifB (!y113) (K Bool.false)
                                                  (Go.K.ifB (y112 != y30) (K Bool.false)
                                                    (Go.K.melts.laws_heldMelt.wp y80 y81 y47 y48 y49 y50 y51 y52 y53 y54 y55 y56 y57 y58 (1 : Int) fun y114 =>
                                                      Go.K.ifB (Decidable.decide (y114 < (0 : Int))) (K Bool.false)
                                                        (Go.K.ifB (y114 != y82) (K Bool.false) (K Bool.true)))))))))))))) := laws_FnExactSeedMelt.tx laws_szMelt.wp laws_toMelt.wp spec_SeedMelt.wp impl_SeedMelt.wp laws_eqMelt.wp laws_markMelt.wp laws_heldMelt.wp a1 a2 a3 a4 a5 a6 a7 a8 a9 a10 a11 a12 a13 a14 a15 a16 a17 K

end Go.K.melts
