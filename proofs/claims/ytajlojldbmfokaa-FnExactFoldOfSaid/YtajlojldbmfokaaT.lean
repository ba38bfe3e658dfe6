/- What the functions compute, written out. -/
import Derived.Test.YtajlojldbmfokaaD
import Derived.KernelRfl
set_option maxRecDepth 100000
set_option linter.unusedVariables false
namespace Go.K.melts
open Go.K Go

theorem laws_szFloat32S.tx  (a1 : List Nat) (a2 : Int) (K : Int → Prop) : laws_szFloat32S.bd  a1 a2 K =
  (Go.K.ifB (Decidable.decide (Go.IntKind.wrap Go.IntKind.i64 (a2 - (↑(List.length a1) : Int)) < (0 : Int))) (K (-1 : Int))
  (K (Go.IntKind.wrap Go.IntKind.i64 (a2 - (↑(List.length a1) : Int))))) := by kernel_rfl
theorem laws_szFloat32S.eq (a1 : List Nat) (a2 : Int) (K : Int → Prop) : laws_szFloat32S.wp a1 a2 K =
  (Go.K.ifB (Decidable.decide (Go.IntKind.wrap Go.IntKind.i64 (a2 - (↑(List.length a1) : Int)) < (0 : Int))) (K (-1 : Int))
  (K (Go.IntKind.wrap Go.IntKind.i64 (a2 - (↑(List.length a1) : Int))))) := laws_szFloat32S.tx  a1 a2 K

theorem laws_szField.tx (w_laws_szFloat32S : List Nat → Int → (Int → Prop) → Prop) (a1 : List Nat) (a2 : Int) (a3 : Int) (a4 : Bool) (a5 : Int) (K : Int → Prop) : laws_szField.bd w_laws_szFloat32S a1 a2 a3 a4 a5 K =
  (w_laws_szFloat32S a1 a5 fun y1 => Go.K.ifB (Decidable.decide (y1 < (0 : Int))) (K (-1 : Int)) (K y1)) := by kernel_rfl
theorem laws_szField.eq (a1 : List Nat) (a2 : Int) (a3 : Int) (a4 : Bool) (a5 : Int) (K : Int → Prop) : laws_szField.wp a1 a2 a3 a4 a5 K =
  (Go.K.melts.laws_szFloat32S.wp a1 a5 fun y1 => Go.K.ifB (Decidable.decide (y1 < (0 : Int))) (K (-1 : Int)) (K y1)) := laws_szField.tx laws_szFloat32S.wp a1 a2 a3 a4 a5 K

theorem laws_szMelt.tx (w_laws_szField : List Nat → Int → Int → Bool → Int → (Int → Prop) → Prop) (a1 : List
  Nat) (a2 : List
  Nat) (a3 : Int) (a4 : Int) (a5 : Bool) (a6 : Int) (a7 : Int) (a8 : Bool) (a9 : Nat) (a10 : Nat) (a11 : Nat) (a12 : Nat) (a13 : Nat) (a14 : Int) (a15 : Int) (K : Int →
  Prop) : laws_szMelt.bd w_laws_szField a1 a2 a3 a4 a5 a6 a7 a8 a9 a10 a11 a12 a13 a14 a15 K =
  (w_laws_szField a1 a3 a4 a5 a15 fun y1 =>
  Go.K.ifB (Decidable.decide (y1 < (0 : Int))) (K (-1 : Int))
    (w_laws_szField a2 a6 a7 a8 y1 fun y2 => Go.K.ifB (Decidable.decide (y2 < (0 : Int))) (K (-1 : Int)) (K y2))) := by kernel_rfl
theorem laws_szMelt.eq (a1 : List
  Nat) (a2 : List
  Nat) (a3 : Int) (a4 : Int) (a5 : Bool) (a6 : Int) (a7 : Int) (a8 : Bool) (a9 : Nat) (a10 : Nat) (a11 : Nat) (a12 : Nat) (a13 : Nat) (a14 : Int) (a15 : Int) (K : Int →
  Prop) : laws_szMelt.wp a1 a2 a3 a4 a5 a6 a7 a8 a9 a10 a11 a12 a13 a14 a15 K =
  (Go.K.melts.laws_szField.wp a1 a3 a4 a5 a15 fun y1 =>
  Go.K.ifB (Decidable.decide (y1 < (0 : Int))) (K (-1 : Int))
    (Go.K.melts.laws_szField.wp a2 a6 a7 a8 y1 fun y2 => Go.K.ifB (Decidable.decide (y2 < (0 : Int))) (K (-1 : Int)) (K y2))) := laws_szMelt.tx laws_szField.wp a1 a2 a3 a4 a5 a6 a7 a8 a9 a10 a11 a12 a13 a14 a15 K

theorem laws_toFloat32S.tx  (a1 : List Nat) (K : List Nat → Prop) : laws_toFloat32S.bd  a1 K =
  (((0 : Int) ≤ (↑(List.length a1) : Int) ∧ (↑(List.length a1) : Int) ≤ (↑(List.length a1) : Int) ∧ (↑(List.length a1) : Int) ≤ (1099511627776 : Int)) ∧
  ∀ (J1 : List Nat → Int → Prop),
    (∀ (x2 : List Nat) (x3 : Int),
        Go.K.ifB (Decidable.decide (x3 < (↑(List.length a1) : Int)))
            (((0 : Int) ≤ x3 ∧ x3 < (↑(List.length a1) : Int)) ∧
              ((0 : Int) ≤ x3 ∧ x3 < (↑(List.length x2) : Int)) ∧
                J1 (List.set x2 (Int.toNat x3) (List.getD a1 (Int.toNat x3) (0 : Nat))) (Go.IntKind.wrap Go.IntKind.i64 (x3 + (1 : Int))))
            (K x2) →
          J1 x2 x3) →
      J1 (List.replicate (Int.toNat (↑(List.length a1) : Int)) (0 : Nat)) (0 : Int)) := by kernel_rfl
theorem laws_toFloat32S.eq (a1 : List Nat) (K : List Nat → Prop) : laws_toFloat32S.wp a1 K =
  (((0 : Int) ≤ (↑(List.length a1) : Int) ∧ (↑(List.length a1) : Int) ≤ (↑(List.length a1) : Int) ∧ (↑(List.length a1) : Int) ≤ (1099511627776 : Int)) ∧
  ∀ (J1 : List Nat → Int → Prop),
    (∀ (x2 : List Nat) (x3 : Int),
        Go.K.ifB (Decidable.decide (x3 < (↑(List.length a1) : Int)))
            (((0 : Int) ≤ x3 ∧ x3 < (↑(List.length a1) : Int)) ∧
              ((0 : Int) ≤ x3 ∧ x3 < (↑(List.length x2) : Int)) ∧
                J1 (List.set x2 (Int.toNat x3) (List.getD a1 (Int.toNat x3) (0 : Nat))) (Go.IntKind.wrap Go.IntKind.i64 (x3 + (1 : Int))))
            (K x2) →
          J1 x2 x3) →
      J1 (List.replicate (Int.toNat (↑(List.length a1) : Int)) (0 : Nat)) (0 : Int)) := laws_toFloat32S.tx  a1 K

theorem laws_toField.tx (w_laws_toFloat32S : List Nat → (List Nat → Prop) → Prop) (a1 : List Nat) (a2 : Int) (a3 : Int) (a4 : Bool) (K : List Nat → Int → Int → Bool → Prop) : laws_toField.bd w_laws_toFloat32S a1 a2 a3 a4 K =
  (w_laws_toFloat32S a1 fun y1 => K y1 a2 a3 a4) := by kernel_rfl
theorem laws_toField.eq (a1 : List Nat) (a2 : Int) (a3 : Int) (a4 : Bool) (K : List Nat → Int → Int → Bool → Prop) : laws_toField.wp a1 a2 a3 a4 K =
  (Go.K.melts.laws_toFloat32S.wp a1 fun y1 => K y1 a2 a3 a4) := laws_toField.tx laws_toFloat32S.wp a1 a2 a3 a4 K

theorem laws_toMelt.tx (w_laws_toField : List Nat → Int → Int → Bool → (List Nat → Int → Int → Bool → Prop) → Prop) (a1 : List
  Nat) (a2 : List
  Nat) (a3 : Int) (a4 : Int) (a5 : Bool) (a6 : Int) (a7 : Int) (a8 : Bool) (a9 : Nat) (a10 : Nat) (a11 : Nat) (a12 : Nat) (a13 : Nat) (a14 : Int) (K : List Nat →
  List Nat → Int → Int → Bool → Int → Int → Bool → Nat → Nat → Nat → Nat → Nat → Int → Prop) : laws_toMelt.bd w_laws_toField a1 a2 a3 a4 a5 a6 a7 a8 a9 a10 a11 a12 a13 a14 K =
  (w_laws_toField a1 a3 a4 a5 fun y1 y2 y3 y4 =>
  w_laws_toField a2 a6 a7 a8 fun y5 y6 y7 y8 => K y1 y5 y2 y3 y4 y6 y7 y8 a9 a10 a11 a12 a13 a14) := by kernel_rfl
theorem laws_toMelt.eq (a1 : List
  Nat) (a2 : List
  Nat) (a3 : Int) (a4 : Int) (a5 : Bool) (a6 : Int) (a7 : Int) (a8 : Bool) (a9 : Nat) (a10 : Nat) (a11 : Nat) (a12 : Nat) (a13 : Nat) (a14 : Int) (K : List Nat →
  List Nat → Int → Int → Bool → Int → Int → Bool → Nat → Nat → Nat → Nat → Nat → Int → Prop) : laws_toMelt.wp a1 a2 a3 a4 a5 a6 a7 a8 a9 a10 a11 a12 a13 a14 K =
  (Go.K.melts.laws_toField.wp a1 a3 a4 a5 fun y1 y2 y3 y4 =>
  Go.K.melts.laws_toField.wp a2 a6 a7 a8 fun y5 y6 y7 y8 => K y1 y5 y2 y3 y4 y6 y7 y8 a9 a10 a11 a12 a13 a14) := laws_toMelt.tx laws_toField.wp a1 a2 a3 a4 a5 a6 a7 a8 a9 a10 a11 a12 a13 a14 K

theorem spec_l00In.tx  (a1 : Int) (a2 : Int) (a3 : Int) (K : Bool → Prop) : spec_l00In.bd  a1 a2 a3 K =
  (Go.K.ifB (Decidable.decide (a1 ≥ a2)) (K (Decidable.decide (a1 ≤ a3))) (K Bool.false)) := by kernel_rfl
theorem spec_l00In.eq (a1 : Int) (a2 : Int) (a3 : Int) (K : Bool → Prop) : spec_l00In.wp a1 a2 a3 K =
  (Go.K.ifB (Decidable.decide (a1 ≥ a2)) (K (Decidable.decide (a1 ≤ a3))) (K Bool.false)) := spec_l00In.tx  a1 a2 a3 K

theorem spec_l02Size.tx (w_spec_l00In : Int → Int → Int → (Bool → Prop) → Prop) (a1 : Int) (a2 : Int) (K : Bool → Prop) : spec_l02Size.bd w_spec_l00In a1 a2 K =
  (w_spec_l00In a1 (1 : Int) (16 : Int) fun y1 => Go.K.ifB y1 (w_spec_l00In a2 (1 : Int) (16 : Int) fun y2 => K y2) (K Bool.false)) := by kernel_rfl
theorem spec_l02Size.eq (a1 : Int) (a2 : Int) (K : Bool → Prop) : spec_l02Size.wp a1 a2 K =
  (Go.K.melts.spec_l00In.wp a1 (1 : Int) (16 : Int) fun y1 => Go.K.ifB y1 (Go.K.melts.spec_l00In.wp a2 (1 : Int) (16 : Int) fun y2 => K y2) (K Bool.false)) := spec_l02Size.tx spec_l00In.wp a1 a2 K

theorem spec_l02Is.tx (w_spec_l02Size : Int → Int → (Bool → Prop) → Prop) (a1 : Int) (a2 : Int) (a3 : Bool) (a4 : List Nat) (K : Bool → Prop) : spec_l02Is.bd w_spec_l02Size a1 a2 a3 a4 K =
  (w_spec_l02Size a1 a2 fun y1 => Go.K.ifB y1 (K ((↑(List.length a4) : Int) == Go.IntKind.wrap Go.IntKind.i64 (a1 * a2))) (K Bool.false)) := by kernel_rfl
theorem spec_l02Is.eq (a1 : Int) (a2 : Int) (a3 : Bool) (a4 : List Nat) (K : Bool → Prop) : spec_l02Is.wp a1 a2 a3 a4 K =
  (Go.K.melts.spec_l02Size.wp a1 a2 fun y1 => Go.K.ifB y1 (K ((↑(List.length a4) : Int) == Go.IntKind.wrap Go.IntKind.i64 (a1 * a2))) (K Bool.false)) := spec_l02Is.tx spec_l02Size.wp a1 a2 a3 a4 K

theorem spec_l01Finite.tx  (a1 : Nat) (K : Bool → Prop) : spec_l01Finite.bd  a1 K =
  (K (Go.K.feq Go.FloatKind.f32 (Go.K.farith Go.BinOp.sub Go.FloatKind.f32 a1 a1) (0 : Nat))) := by kernel_rfl
theorem spec_l01Finite.eq (a1 : Nat) (K : Bool → Prop) : spec_l01Finite.wp a1 K =
  (K (Go.K.feq Go.FloatKind.f32 (Go.K.farith Go.BinOp.sub Go.FloatKind.f32 a1 a1) (0 : Nat))) := spec_l01Finite.tx  a1 K

theorem spec_l03Least.tx (w_spec_l01Finite : Nat → (Bool → Prop) → Prop) (a1 : Nat) (K : Bool → Prop) : spec_l03Least.bd w_spec_l01Finite a1 K =
  (w_spec_l01Finite a1 fun y1 => Go.K.ifB y1 (K (Go.K.fge Go.FloatKind.f32 a1 (0 : Nat))) (K Bool.false)) := by kernel_rfl
theorem spec_l03Least.eq (a1 : Nat) (K : Bool → Prop) : spec_l03Least.wp a1 K =
  (Go.K.melts.spec_l01Finite.wp a1 fun y1 => Go.K.ifB y1 (K (Go.K.fge Go.FloatKind.f32 a1 (0 : Nat))) (K Bool.false)) := spec_l03Least.tx spec_l01Finite.wp a1 K

theorem spec_l03Is.tx (w_spec_l02Is : Int → Int → Bool → List Nat → (Bool → Prop) → Prop) (w_spec_l01Finite : Nat → (Bool → Prop) → Prop) (w_spec_l03Least : Nat → (Bool → Prop) → Prop) (w_spec_l00In : Int → Int → Int → (Bool → Prop) → Prop) (a1 : Int) (a2 : Int) (a3 : Bool) (a4 : Int) (a5 : Int) (a6 : Bool) (a7 : Nat) (a8 : Nat) (a9 : Nat) (a10 : Nat) (a11 : Nat) (a12 : Int) (a13 : List
  Nat) (a14 : List Nat) (K : Bool → Prop) : spec_l03Is.bd w_spec_l02Is w_spec_l01Finite w_spec_l03Least w_spec_l00In a1 a2 a3 a4 a5 a6 a7 a8 a9 a10 a11 a12 a13 a14 K =
  (w_spec_l02Is a1 a2 a3 a13 fun y1 =>
  Go.K.ifB (!y1) (K Bool.false)
    (w_spec_l02Is a4 a5 a6 a14 fun y2 =>
      Go.K.ifB (!y2) (K Bool.false)
        (Go.K.ifB (a1 != a4) (K Bool.false)
          (Go.K.ifB (a2 != a5) (K Bool.false)
            (Go.K.ifB (a3 != a6) (K Bool.false)
              (∀ (J3 : Int → Int → Prop),
                (∀ (x4 x5 : Int),
                    Go.K.ifB (Decidable.decide (x5 < x4))
                        (((0 : Int) ≤ x5 ∧ x5 < (↑(List.length a13) : Int)) ∧
                          Go.K.ifB (!Go.K.fge Go.FloatKind.f32 (List.getD a13 (Int.toNat x5) (0 : Nat)) (0 : Nat)) (K Bool.false)
                            (((0 : Int) ≤ x5 ∧ x5 < (↑(List.length a13) : Int)) ∧
                              Go.K.ifB (Go.K.fgt Go.FloatKind.f32 (List.getD a13 (Int.toNat x5) (0 : Nat)) (1065353216 : Nat)) (K Bool.false)
                                (((0 : Int) ≤ x5 ∧ x5 < (↑(List.length a14) : Int)) ∧
                                  w_spec_l01Finite (List.getD a14 (Int.toNat x5) (0 : Nat)) fun y6 =>
                                    Go.K.ifB (!y6) (K Bool.false) (J3 x4 (Go.IntKind.wrap Go.IntKind.i64 (x5 + (1 : Int)))))))
                        (w_spec_l03Least a7 fun y7 =>
                          Go.K.ifB y7
                            (w_spec_l03Least a8 fun y8 =>
                              Go.K.ifB y8
                                (w_spec_l03Least a9 fun y9 =>
                                  Go.K.ifB y9
                                    (w_spec_l03Least a10 fun y10 =>
                                      Go.K.ifB y10
                                        (Go.K.ifB (Go.K.fge Go.FloatKind.f32 a11 (0 : Nat))
                                          (Go.K.ifB (Go.K.flt Go.FloatKind.f32 a11 (1065353216 : Nat)) (w_spec_l00In a12 (1 : Int) (8 : Int) fun y11 => K y11)
                                            (K Bool.false))
                                          (K Bool.false))
                                        (K Bool.false))
                                    (K Bool.false))
                                (K Bool.false))
                            (K Bool.false)) →
                      J3 x4 x5) →
                  J3 (↑(List.length a13) : Int) (0 : Int))))))) := by kernel_rfl
theorem spec_l03Is.eq (a1 : Int) (a2 : Int) (a3 : Bool) (a4 : Int) (a5 : Int) (a6 : Bool) (a7 : Nat) (a8 : Nat) (a9 : Nat) (a10 : Nat) (a11 : Nat) (a12 : Int) (a13 : List
  Nat) (a14 : List Nat) (K : Bool → Prop) : spec_l03Is.wp a1 a2 a3 a4 a5 a6 a7 a8 a9 a10 a11 a12 a13 a14 K =
  (Go.K.melts.spec_l02Is.wp a1 a2 a3 a13 fun y1 =>
  Go.K.ifB (!y1) (K Bool.false)
    (Go.K.melts.spec_l02Is.wp a4 a5 a6 a14 fun y2 =>
      Go.K.ifB (!y2) (K Bool.false)
        (Go.K.ifB (a1 != a4) (K Bool.false)
          (Go.K.ifB (a2 != a5) (K Bool.false)
            (Go.K.ifB (a3 != a6) (K Bool.false)
              (∀ (J3 : Int → Int → Prop),
                (∀ (x4 x5 : Int),
                    Go.K.ifB (Decidable.decide (x5 < x4))
                        (((0 : Int) ≤ x5 ∧ x5 < (↑(List.length a13) : Int)) ∧
                          Go.K.ifB (!Go.K.fge Go.FloatKind.f32 (List.getD a13 (Int.toNat x5) (0 : Nat)) (0 : Nat)) (K Bool.false)
                            (((0 : Int) ≤ x5 ∧ x5 < (↑(List.length a13) : Int)) ∧
                              Go.K.ifB (Go.K.fgt Go.FloatKind.f32 (List.getD a13 (Int.toNat x5) (0 : Nat)) (1065353216 : Nat)) (K Bool.false)
                                (((0 : Int) ≤ x5 ∧ x5 < (↑(List.length a14) : Int)) ∧
                                  Go.K.melts.spec_l01Finite.wp (List.getD a14 (Int.toNat x5) (0 : Nat)) fun y6 =>
                                    Go.K.ifB (!y6) (K Bool.false) (J3 x4 (Go.IntKind.wrap Go.IntKind.i64 (x5 + (1 : Int)))))))
                        (Go.K.melts.spec_l03Least.wp a7 fun y7 =>
                          Go.K.ifB y7
                            (Go.K.melts.spec_l03Least.wp a8 fun y8 =>
                              Go.K.ifB y8
                                (Go.K.melts.spec_l03Least.wp a9 fun y9 =>
                                  Go.K.ifB y9
                                    (Go.K.melts.spec_l03Least.wp a10 fun y10 =>
                                      Go.K.ifB y10
                                        (Go.K.ifB (Go.K.fge Go.FloatKind.f32 a11 (0 : Nat))
                                          (Go.K.ifB (Go.K.flt Go.FloatKind.f32 a11 (1065353216 : Nat)) (Go.K.melts.spec_l00In.wp a12 (1 : Int) (8 : Int) fun y11 => K y11)
                                            (K Bool.false))
                                          (K Bool.false))
                                        (K Bool.false))
                                    (K Bool.false))
                                (K Bool.false))
                            (K Bool.false)) →
                      J3 x4 x5) →
                  J3 (↑(List.length a13) : Int) (0 : Int))))))) := spec_l03Is.tx spec_l02Is.wp spec_l01Finite.wp spec_l03Least.wp spec_l00In.wp a1 a2 a3 a4 a5 a6 a7 a8 a9 a10 a11 a12 a13 a14 K

theorem spec_l03Cell.tx (w_spec_l03Is : Int → Int → Bool → Int → Int → Bool → Nat → Nat → Nat → Nat → Nat → Int → List Nat → List Nat → (Bool → Prop) → Prop) (w_spec_l00In : Int → Int → Int → (Bool → Prop) → Prop) (a1 : Int) (a2 : Int) (a3 : Bool) (a4 : Int) (a5 : Int) (a6 : Bool) (a7 : Nat) (a8 : Nat) (a9 : Nat) (a10 : Nat) (a11 : Nat) (a12 : Int) (a13 : List
  Nat) (a14 : List Nat) (a15 : Int) (a16 : Int) (K : Bool → Prop) : spec_l03Cell.bd w_spec_l03Is w_spec_l00In a1 a2 a3 a4 a5 a6 a7 a8 a9 a10 a11 a12 a13 a14 a15 a16 K =
  (w_spec_l03Is a1 a2 a3 a4 a5 a6 a7 a8 a9 a10 a11 a12 a13 a14 fun y1 =>
  Go.K.ifB y1
    (w_spec_l00In a15 (0 : Int) (Go.IntKind.wrap Go.IntKind.i64 (a1 - (1 : Int))) fun y2 =>
      Go.K.ifB y2 (w_spec_l00In a16 (0 : Int) (Go.IntKind.wrap Go.IntKind.i64 (a2 - (1 : Int))) fun y3 => K y3) (K Bool.false))
    (K Bool.false)) := by kernel_rfl
theorem spec_l03Cell.eq (a1 : Int) (a2 : Int) (a3 : Bool) (a4 : Int) (a5 : Int) (a6 : Bool) (a7 : Nat) (a8 : Nat) (a9 : Nat) (a10 : Nat) (a11 : Nat) (a12 : Int) (a13 : List
  Nat) (a14 : List Nat) (a15 : Int) (a16 : Int) (K : Bool → Prop) : spec_l03Cell.wp a1 a2 a3 a4 a5 a6 a7 a8 a9 a10 a11 a12 a13 a14 a15 a16 K =
  (Go.K.melts.spec_l03Is.wp a1 a2 a3 a4 a5 a6 a7 a8 a9 a10 a11 a12 a13 a14 fun y1 =>
  Go.K.ifB y1
    (Go.K.melts.spec_l00In.wp a15 (0 : Int) (Go.IntKind.wrap Go.IntKind.i64 (a1 - (1 : Int))) fun y2 =>
      Go.K.ifB y2 (Go.K.melts.spec_l00In.wp a16 (0 : Int) (Go.IntKind.wrap Go.IntKind.i64 (a2 - (1 : Int))) fun y3 => K y3) (K Bool.false))
    (K Bool.false)) := spec_l03Cell.tx spec_l03Is.wp spec_l00In.wp a1 a2 a3 a4 a5 a6 a7 a8 a9 a10 a11 a12 a13 a14 a15 a16 K

theorem spec_l00Min.tx  (a1 : Int) (a2 : Int) (K : Int → Prop) : spec_l00Min.bd  a1 a2 K =
  (Go.K.ifB (Decidable.decide (a1 < a2)) (K a1) (K a2)) := by kernel_rfl
theorem spec_l00Min.eq (a1 : Int) (a2 : Int) (K : Int → Prop) : spec_l00Min.wp a1 a2 K =
  (Go.K.ifB (Decidable.decide (a1 < a2)) (K a1) (K a2)) := spec_l00Min.tx  a1 a2 K

theorem spec_l00Max.tx  (a1 : Int) (a2 : Int) (K : Int → Prop) : spec_l00Max.bd  a1 a2 K =
  (Go.K.ifB (Decidable.decide (a1 > a2)) (K a1) (K a2)) := by kernel_rfl
theorem spec_l00Max.eq (a1 : Int) (a2 : Int) (K : Int → Prop) : spec_l00Max.wp a1 a2 K =
  (Go.K.ifB (Decidable.decide (a1 > a2)) (K a1) (K a2)) := spec_l00Max.tx  a1 a2 K

theorem spec_l02Place.tx (w_spec_l00Min : Int → Int → (Int → Prop) → Prop) (w_spec_l00Max : Int → Int → (Int → Prop) → Prop) (a1 : Int) (a2 : Int) (a3 : Bool) (K : Int → Prop) : spec_l02Place.bd w_spec_l00Min w_spec_l00Max a1 a2 a3 K =
  (Go.K.ifB a3 (a2 ≠ (0 : Int) ∧ a2 ≠ (0 : Int) ∧ K (Int.tmod (Go.IntKind.wrap Go.IntKind.i64 (Int.tmod a1 a2 + a2)) a2))
  (w_spec_l00Min (Go.IntKind.wrap Go.IntKind.i64 (a2 - (1 : Int))) a1 fun y1 => w_spec_l00Max (0 : Int) y1 fun y2 => K y2)) := by kernel_rfl
theorem spec_l02Place.eq (a1 : Int) (a2 : Int) (a3 : Bool) (K : Int → Prop) : spec_l02Place.wp a1 a2 a3 K =
  (Go.K.ifB a3 (a2 ≠ (0 : Int) ∧ a2 ≠ (0 : Int) ∧ K (Int.tmod (Go.IntKind.wrap Go.IntKind.i64 (Int.tmod a1 a2 + a2)) a2))
  (Go.K.melts.spec_l00Min.wp (Go.IntKind.wrap Go.IntKind.i64 (a2 - (1 : Int))) a1 fun y1 => Go.K.melts.spec_l00Max.wp (0 : Int) y1 fun y2 => K y2)) := spec_l02Place.tx spec_l00Min.wp spec_l00Max.wp a1 a2 a3 K

theorem spec_l02Index.tx (w_spec_l02Place : Int → Int → Bool → (Int → Prop) → Prop) (a1 : Int) (a2 : Int) (a3 : Bool) (a4 : List Nat) (a5 : Int) (a6 : Int) (K : Int → Prop) : spec_l02Index.bd w_spec_l02Place a1 a2 a3 a4 a5 a6 K =
  (w_spec_l02Place a5 a1 a3 fun y1 =>
  w_spec_l02Place a6 a2 a3 fun y2 => K (Go.IntKind.wrap Go.IntKind.i64 (y1 + Go.IntKind.wrap Go.IntKind.i64 (a1 * y2)))) := by kernel_rfl
theorem spec_l02Index.eq (a1 : Int) (a2 : Int) (a3 : Bool) (a4 : List Nat) (a5 : Int) (a6 : Int) (K : Int → Prop) : spec_l02Index.wp a1 a2 a3 a4 a5 a6 K =
  (Go.K.melts.spec_l02Place.wp a5 a1 a3 fun y1 =>
  Go.K.melts.spec_l02Place.wp a6 a2 a3 fun y2 => K (Go.IntKind.wrap Go.IntKind.i64 (y1 + Go.IntKind.wrap Go.IntKind.i64 (a1 * y2)))) := spec_l02Index.tx spec_l02Place.wp a1 a2 a3 a4 a5 a6 K

theorem spec_l02At.tx (w_spec_l02Index : Int → Int → Bool → List Nat → Int → Int → (Int → Prop) → Prop) (a1 : Int) (a2 : Int) (a3 : Bool) (a4 : List Nat) (a5 : Int) (a6 : Int) (K : Nat → Prop) : spec_l02At.bd w_spec_l02Index a1 a2 a3 a4 a5 a6 K =
  (w_spec_l02Index a1 a2 a3 a4 a5 a6 fun y1 => ((0 : Int) ≤ y1 ∧ y1 < (↑(List.length a4) : Int)) ∧ K (List.getD a4 (Int.toNat y1) (0 : Nat))) := by kernel_rfl
theorem spec_l02At.eq (a1 : Int) (a2 : Int) (a3 : Bool) (a4 : List Nat) (a5 : Int) (a6 : Int) (K : Nat → Prop) : spec_l02At.wp a1 a2 a3 a4 a5 a6 K =
  (Go.K.melts.spec_l02Index.wp a1 a2 a3 a4 a5 a6 fun y1 => ((0 : Int) ≤ y1 ∧ y1 < (↑(List.length a4) : Int)) ∧ K (List.getD a4 (Int.toNat y1) (0 : Nat))) := spec_l02At.tx spec_l02Index.wp a1 a2 a3 a4 a5 a6 K

theorem spec_l02SlopeY.tx (w_spec_l02At : Int → Int → Bool → List Nat → Int → Int → (Nat → Prop) → Prop) (a1 : Int) (a2 : Int) (a3 : Bool) (a4 : List Nat) (a5 : Int) (a6 : Int) (K : Nat → Prop) : spec_l02SlopeY.bd w_spec_l02At a1 a2 a3 a4 a5 a6 K =
  (w_spec_l02At a1 a2 a3 a4 a5 (Go.IntKind.wrap Go.IntKind.i64 (a6 + (1 : Int))) fun y1 =>
  w_spec_l02At a1 a2 a3 a4 a5 (Go.IntKind.wrap Go.IntKind.i64 (a6 - (1 : Int))) fun y2 =>
    K (Go.K.farith Go.BinOp.mul Go.FloatKind.f32 (1056964608 : Nat) (Go.K.farith Go.BinOp.sub Go.FloatKind.f32 y1 y2))) := by kernel_rfl
theorem spec_l02SlopeY.eq (a1 : Int) (a2 : Int) (a3 : Bool) (a4 : List Nat) (a5 : Int) (a6 : Int) (K : Nat → Prop) : spec_l02SlopeY.wp a1 a2 a3 a4 a5 a6 K =
  (Go.K.melts.spec_l02At.wp a1 a2 a3 a4 a5 (Go.IntKind.wrap Go.IntKind.i64 (a6 + (1 : Int))) fun y1 =>
  Go.K.melts.spec_l02At.wp a1 a2 a3 a4 a5 (Go.IntKind.wrap Go.IntKind.i64 (a6 - (1 : Int))) fun y2 =>
    K (Go.K.farith Go.BinOp.mul Go.FloatKind.f32 (1056964608 : Nat) (Go.K.farith Go.BinOp.sub Go.FloatKind.f32 y1 y2))) := spec_l02SlopeY.tx spec_l02At.wp a1 a2 a3 a4 a5 a6 K

theorem spec_l02SlopeX.tx (w_spec_l02At : Int → Int → Bool → List Nat → Int → Int → (Nat → Prop) → Prop) (a1 : Int) (a2 : Int) (a3 : Bool) (a4 : List Nat) (a5 : Int) (a6 : Int) (K : Nat → Prop) : spec_l02SlopeX.bd w_spec_l02At a1 a2 a3 a4 a5 a6 K =
  (w_spec_l02At a1 a2 a3 a4 (Go.IntKind.wrap Go.IntKind.i64 (a5 + (1 : Int))) a6 fun y1 =>
  w_spec_l02At a1 a2 a3 a4 (Go.IntKind.wrap Go.IntKind.i64 (a5 - (1 : Int))) a6 fun y2 =>
    K (Go.K.farith Go.BinOp.mul Go.FloatKind.f32 (1056964608 : Nat) (Go.K.farith Go.BinOp.sub Go.FloatKind.f32 y1 y2))) := by kernel_rfl
theorem spec_l02SlopeX.eq (a1 : Int) (a2 : Int) (a3 : Bool) (a4 : List Nat) (a5 : Int) (a6 : Int) (K : Nat → Prop) : spec_l02SlopeX.wp a1 a2 a3 a4 a5 a6 K =
  (Go.K.melts.spec_l02At.wp a1 a2 a3 a4 (Go.IntKind.wrap Go.IntKind.i64 (a5 + (1 : Int))) a6 fun y1 =>
  Go.K.melts.spec_l02At.wp a1 a2 a3 a4 (Go.IntKind.wrap Go.IntKind.i64 (a5 - (1 : Int))) a6 fun y2 =>
    K (Go.K.farith Go.BinOp.mul Go.FloatKind.f32 (1056964608 : Nat) (Go.K.farith Go.BinOp.sub Go.FloatKind.f32 y1 y2))) := spec_l02SlopeX.tx spec_l02At.wp a1 a2 a3 a4 a5 a6 K

theorem math_NaN.tx  (K : Nat → Prop) : math_NaN.bd  K =
  (K (Go.K.cF Go.FloatKind.f64 (Int.toNat (9221120237041090561 : Int)))) := by kernel_rfl
theorem math_NaN.eq (K : Nat → Prop) : math_NaN.wp K =
  (K (Go.K.cF Go.FloatKind.f64 (Int.toNat (9221120237041090561 : Int)))) := math_NaN.tx  K

theorem math_Abs.tx  (a1 : Nat) (K : Nat → Prop) : math_Abs.bd  a1 K =
  (Go.K.isNaNW Go.FloatKind.f64 a1 = Bool.false ∧
  K (Go.K.cF Go.FloatKind.f64 (Int.toNat (Go.K.ibits Go.BinOp.andNot Go.IntKind.u64 (↑a1 : Int) (9223372036854775808 : Int))))) := by kernel_rfl
theorem math_Abs.eq (a1 : Nat) (K : Nat → Prop) : math_Abs.wp a1 K =
  (Go.K.isNaNW Go.FloatKind.f64 a1 = Bool.false ∧
  K (Go.K.cF Go.FloatKind.f64 (Int.toNat (Go.K.ibits Go.BinOp.andNot Go.IntKind.u64 (↑a1 : Int) (9223372036854775808 : Int))))) := math_Abs.tx  a1 K

theorem math_Sqrt.tx  (a1 : Nat) (K : Nat → Prop) : math_Sqrt.bd  a1 K =
  (K (Go.K.fsqrt a1)) := by kernel_rfl
theorem math_Sqrt.eq (a1 : Nat) (K : Nat → Prop) : math_Sqrt.wp a1 K =
  (K (Go.K.fsqrt a1)) := math_Sqrt.tx  a1 K

theorem spec_l01AngleWide.tx (w_math_NaN : (Nat → Prop) → Prop) (w_math_Abs : Nat → (Nat → Prop) → Prop) (w_math_Sqrt : Nat → (Nat → Prop) → Prop) (a1 : Nat) (a2 : Nat) (K : Nat → Prop) : spec_l01AngleWide.bd w_math_NaN w_math_Abs w_math_Sqrt a1 a2 K =
  (Go.K.ifB (Go.K.fne Go.FloatKind.f64 (Go.K.farith Go.BinOp.sub Go.FloatKind.f64 a1 a1) (0 : Nat)) (w_math_NaN fun y1 => K y1)
  (Go.K.ifB (Go.K.fne Go.FloatKind.f64 (Go.K.farith Go.BinOp.sub Go.FloatKind.f64 a2 a2) (0 : Nat)) (w_math_NaN fun y2 => K y2)
    (Go.K.ifB (Go.K.feq Go.FloatKind.f64 a2 (0 : Nat))
      (Go.K.ifB (Go.K.feq Go.FloatKind.f64 a1 (0 : Nat)) (K (0 : Nat))
        (w_math_Abs a1 fun y3 =>
          w_math_Abs a2 fun y4 =>
            ∀ (J5 : Bool → Nat → Prop),
              (∀ (x6 : Bool) (x7 : Nat),
                  (∀ (J8 : Bool → Nat → Int → Prop),
                      (∀ (x9 : Bool) (x10 : Nat) (x11 : Int),
                          Go.K.ifB (Decidable.decide (x11 < (3 : Int)))
                              (w_math_Sqrt (Go.K.farith Go.BinOp.add Go.FloatKind.f64 (4607182418800017408 : Nat) (Go.K.farith Go.BinOp.mul Go.FloatKind.f64 x10 x10))
                                fun y12 =>
                                J8 x9 (Go.K.farith Go.BinOp.quo Go.FloatKind.f64 x10 (Go.K.farith Go.BinOp.add Go.FloatKind.f64 (4607182418800017408 : Nat) y12))
                                  (Go.IntKind.wrap Go.IntKind.i64 (x11 + (1 : Int))))
                              (∀ (J13 : Bool → Nat → Nat → Nat → Int → Prop),
                                (∀ (x14 : Bool) (x15 x16 x17 : Nat) (x18 : Int),
                                    Go.K.ifB (Decidable.decide (x18 ≥ (1 : Int)))
                                        (J13 x14 x15 x16
                                          (Go.K.farith Go.BinOp.sub Go.FloatKind.f64
                                            (Go.K.farith Go.BinOp.quo Go.FloatKind.f64 (4607182418800017408 : Nat) (Go.K.fofint Go.FloatKind.f64 x18))
                                            (Go.K.farith Go.BinOp.mul Go.FloatKind.f64 x16 x17))
                                          (Go.IntKind.wrap Go.IntKind.i64 (x18 - (2 : Int))))
                                        (Go.K.ifB x14
                                          (Go.K.ifB (Go.K.flt Go.FloatKind.f64 a2 (0 : Nat))
                                            (Go.K.ifB (Go.K.flt Go.FloatKind.f64 a1 (0 : Nat))
                                              (K
                                                (Go.K.fneg Go.FloatKind.f64
                                                  (Go.K.farith Go.BinOp.sub Go.FloatKind.f64 (4602678819172646912 : Nat)
                                                    (Go.K.farith Go.BinOp.sub Go.FloatKind.f64 (4598175219545276416 : Nat)
                                                      (Go.K.farith Go.BinOp.quo Go.FloatKind.f64
                                                        (Go.K.farith Go.BinOp.mul Go.FloatKind.f64 (4620693217682128896 : Nat) (Go.K.farith Go.BinOp.mul Go.FloatKind.f64 x15 x17))
                                                        (4618760256179416344 : Nat))))))
                                              (K
                                                (Go.K.farith Go.BinOp.sub Go.FloatKind.f64 (4602678819172646912 : Nat)
                                                  (Go.K.farith Go.BinOp.sub Go.FloatKind.f64 (4598175219545276416 : Nat)
                                                    (Go.K.farith Go.BinOp.quo Go.FloatKind.f64
                                                      (Go.K.farith Go.BinOp.mul Go.FloatKind.f64 (4620693217682128896 : Nat) (Go.K.farith Go.BinOp.mul Go.FloatKind.f64 x15 x17))
                                                      (4618760256179416344 : Nat))))))
                                            (Go.K.ifB (Go.K.flt Go.FloatKind.f64 a1 (0 : Nat))
                                              (K
                                                (Go.K.fneg Go.FloatKind.f64
                                                  (Go.K.farith Go.BinOp.sub Go.FloatKind.f64 (4598175219545276416 : Nat)
                                                    (Go.K.farith Go.BinOp.quo Go.FloatKind.f64
                                                      (Go.K.farith Go.BinOp.mul Go.FloatKind.f64 (4620693217682128896 : Nat) (Go.K.farith Go.BinOp.mul Go.FloatKind.f64 x15 x17))
                                                      (4618760256179416344 : Nat)))))
                                              (K
                                                (Go.K.farith Go.BinOp.sub Go.FloatKind.f64 (4598175219545276416 : Nat)
                                                  (Go.K.farith Go.BinOp.quo Go.FloatKind.f64
                                                    (Go.K.farith Go.BinOp.mul Go.FloatKind.f64 (4620693217682128896 : Nat) (Go.K.farith Go.BinOp.mul Go.FloatKind.f64 x15 x17))
                                                    (4618760256179416344 : Nat))))))
                                          (Go.K.ifB (Go.K.flt Go.FloatKind.f64 a2 (0 : Nat))
                                            (Go.K.ifB (Go.K.flt Go.FloatKind.f64 a1 (0 : Nat))
                                              (K
                                                (Go.K.fneg Go.FloatKind.f64
                                                  (Go.K.farith Go.BinOp.sub Go.FloatKind.f64 (4602678819172646912 : Nat)
                                                    (Go.K.farith Go.BinOp.quo Go.FloatKind.f64
                                                      (Go.K.farith Go.BinOp.mul Go.FloatKind.f64 (4620693217682128896 : Nat) (Go.K.farith Go.BinOp.mul Go.FloatKind.f64 x15 x17))
                                                      (4618760256179416344 : Nat)))))
                                              (K
                                                (Go.K.farith Go.BinOp.sub Go.FloatKind.f64 (4602678819172646912 : Nat)
                                                  (Go.K.farith Go.BinOp.quo Go.FloatKind.f64
                                                    (Go.K.farith Go.BinOp.mul Go.FloatKind.f64 (4620693217682128896 : Nat) (Go.K.farith Go.BinOp.mul Go.FloatKind.f64 x15 x17))
                                                    (4618760256179416344 : Nat)))))
                                            (Go.K.ifB (Go.K.flt Go.FloatKind.f64 a1 (0 : Nat))
                                              (K
                                                (Go.K.fneg Go.FloatKind.f64
                                                  (Go.K.farith Go.BinOp.quo Go.FloatKind.f64
                                                    (Go.K.farith Go.BinOp.mul Go.FloatKind.f64 (4620693217682128896 : Nat) (Go.K.farith Go.BinOp.mul Go.FloatKind.f64 x15 x17))
                                                    (4618760256179416344 : Nat))))
                                              (K
                                                (Go.K.farith Go.BinOp.quo Go.FloatKind.f64
                                                  (Go.K.farith Go.BinOp.mul Go.FloatKind.f64 (4620693217682128896 : Nat) (Go.K.farith Go.BinOp.mul Go.FloatKind.f64 x15 x17))
                                                  (4618760256179416344 : Nat)))))) →
                                      J13 x14 x15 x16 x17 x18) →
                                  J13 x9 x10 (Go.K.farith Go.BinOp.mul Go.FloatKind.f64 x10 x10) (0 : Nat) (15 : Int)) →
                            J8 x9 x10 x11) →
                        J8 x6 x7 (0 : Int)) →
                    J5 x6 x7) →
                Go.K.ifB (Go.K.fgt Go.FloatKind.f64 y3 y4) (J5 (Go.K.fgt Go.FloatKind.f64 y3 y4) (Go.K.farith Go.BinOp.quo Go.FloatKind.f64 y4 y3))
                  (J5 (Go.K.fgt Go.FloatKind.f64 y3 y4) (Go.K.farith Go.BinOp.quo Go.FloatKind.f64 y3 y4))))
      (w_math_Abs a1 fun y25 =>
        w_math_Abs a2 fun y26 =>
          ∀ (J27 : Bool → Nat → Prop),
            (∀ (x28 : Bool) (x29 : Nat),
                (∀ (J30 : Bool → Nat → Int → Prop),
                    (∀ (x31 : Bool) (x32 : Nat) (x33 : Int),
                        Go.K.ifB (Decidable.decide (x33 < (3 : Int)))
                            (w_math_Sqrt (Go.K.farith Go.BinOp.add Go.FloatKind.f64 (4607182418800017408 : Nat) (Go.K.farith Go.BinOp.mul Go.FloatKind.f64 x32 x32))
                              fun y34 =>
                              J30 x31 (Go.K.farith Go.BinOp.quo Go.FloatKind.f64 x32 (Go.K.farith Go.BinOp.add Go.FloatKind.f64 (4607182418800017408 : Nat) y34))
                                (Go.IntKind.wrap Go.IntKind.i64 (x33 + (1 : Int))))
                            (∀ (J35 : Bool → Nat → Nat → Nat → Int → Prop),
                              (∀ (x36 : Bool) (x37 x38 x39 : Nat) (x40 : Int),
                                  Go.K.ifB (Decidable.decide (x40 ≥ (1 : Int)))
                                      (J35 x36 x37 x38
                                        (Go.K.farith Go.BinOp.sub Go.FloatKind.f64
                                          (Go.K.farith Go.BinOp.quo Go.FloatKind.f64 (4607182418800017408 : Nat) (Go.K.fofint Go.FloatKind.f64 x40))
                                          (Go.K.farith Go.BinOp.mul Go.FloatKind.f64 x38 x39))
                                        (Go.IntKind.wrap Go.IntKind.i64 (x40 - (2 : Int))))
                                      (Go.K.ifB x36
                                        (Go.K.ifB (Go.K.flt Go.FloatKind.f64 a2 (0 : Nat))
                                          (Go.K.ifB (Go.K.flt Go.FloatKind.f64 a1 (0 : Nat))
                                            (K
                                              (Go.K.fneg Go.FloatKind.f64
                                                (Go.K.farith Go.BinOp.sub Go.FloatKind.f64 (4602678819172646912 : Nat)
                                                  (Go.K.farith Go.BinOp.sub Go.FloatKind.f64 (4598175219545276416 : Nat)
                                                    (Go.K.farith Go.BinOp.quo Go.FloatKind.f64
                                                      (Go.K.farith Go.BinOp.mul Go.FloatKind.f64 (4620693217682128896 : Nat) (Go.K.farith Go.BinOp.mul Go.FloatKind.f64 x37 x39))
                                                      (4618760256179416344 : Nat))))))
                                            (K
                                              (Go.K.farith Go.BinOp.sub Go.FloatKind.f64 (4602678819172646912 : Nat)
                                                (Go.K.farith Go.BinOp.sub Go.FloatKind.f64 (4598175219545276416 : Nat)
                                                  (Go.K.farith Go.BinOp.quo Go.FloatKind.f64
                                                    (Go.K.farith Go.BinOp.mul Go.FloatKind.f64 (4620693217682128896 : Nat) (Go.K.farith Go.BinOp.mul Go.FloatKind.f64 x37 x39))
                                                    (4618760256179416344 : Nat))))))
                                          (Go.K.ifB (Go.K.flt Go.FloatKind.f64 a1 (0 : Nat))
                                            (K
                                              (Go.K.fneg Go.FloatKind.f64
                                                (Go.K.farith Go.BinOp.sub Go.FloatKind.f64 (4598175219545276416 : Nat)
                                                  (Go.K.farith Go.BinOp.quo Go.FloatKind.f64
                                                    (Go.K.farith Go.BinOp.mul Go.FloatKind.f64 (4620693217682128896 : Nat) (Go.K.farith Go.BinOp.mul Go.FloatKind.f64 x37 x39))
                                                    (4618760256179416344 : Nat)))))
                                            (K
                                              (Go.K.farith Go.BinOp.sub Go.FloatKind.f64 (4598175219545276416 : Nat)
                                                (Go.K.farith Go.BinOp.quo Go.FloatKind.f64
                                                  (Go.K.farith Go.BinOp.mul Go.FloatKind.f64 (4620693217682128896 : Nat) (Go.K.farith Go.BinOp.mul Go.FloatKind.f64 x37 x39))
                                                  (4618760256179416344 : Nat))))))
                                        (Go.K.ifB (Go.K.flt Go.FloatKind.f64 a2 (0 : Nat))
                                          (Go.K.ifB (Go.K.flt Go.FloatKind.f64 a1 (0 : Nat))
                                            (K
                                              (Go.K.fneg Go.FloatKind.f64
                                                (Go.K.farith Go.BinOp.sub Go.FloatKind.f64 (4602678819172646912 : Nat)
                                                  (Go.K.farith Go.BinOp.quo Go.FloatKind.f64
                                                    (Go.K.farith Go.BinOp.mul Go.FloatKind.f64 (4620693217682128896 : Nat) (Go.K.farith Go.BinOp.mul Go.FloatKind.f64 x37 x39))
                                                    (4618760256179416344 : Nat)))))
                                            (K
                                              (Go.K.farith Go.BinOp.sub Go.FloatKind.f64 (4602678819172646912 : Nat)
                                                (Go.K.farith Go.BinOp.quo Go.FloatKind.f64
                                                  (Go.K.farith Go.BinOp.mul Go.FloatKind.f64 (4620693217682128896 : Nat) (Go.K.farith Go.BinOp.mul Go.FloatKind.f64 x37 x39))
                                                  (4618760256179416344 : Nat)))))
                                          (Go.K.ifB (Go.K.flt Go.FloatKind.f64 a1 (0 : Nat))
                                            (K
                                              (Go.K.fneg Go.FloatKind.f64
                                                (Go.K.farith Go.BinOp.quo Go.FloatKind.f64
                                                  (Go.K.farith Go.BinOp.mul Go.FloatKind.f64 (4620693217682128896 : Nat) (Go.K.farith Go.BinOp.mul Go.FloatKind.f64 x37 x39))
                                                  (4618760256179416344 : Nat))))
                                            (K
                                              (Go.K.farith Go.BinOp.quo Go.FloatKind.f64
                                                (Go.K.farith Go.BinOp.mul Go.FloatKind.f64 (4620693217682128896 : Nat) (Go.K.farith Go.BinOp.mul Go.FloatKind.f64 x37 x39))
                                                (4618760256179416344 : Nat)))))) →
                                    J35 x36 x37 x38 x39 x40) →
                                J35 x31 x32 (Go.K.farith Go.BinOp.mul Go.FloatKind.f64 x32 x32) (0 : Nat) (15 : Int)) →
                          J30 x31 x32 x33) →
                      J30 x28 x29 (0 : Int)) →
                  J27 x28 x29) →
              Go.K.ifB (Go.K.fgt Go.FloatKind.f64 y25 y26) (J27 (Go.K.fgt Go.FloatKind.f64 y25 y26) (Go.K.farith Go.BinOp.quo Go.FloatKind.f64 y26 y25))
                (J27 (Go.K.fgt Go.FloatKind.f64 y25 y26) (Go.K.farith Go.BinOp.quo Go.FloatKind.f64 y25 y26)))))) := by kernel_rfl
theorem spec_l01AngleWide.eq (a1 : Nat) (a2 : Nat) (K : Nat → Prop) : spec_l01AngleWide.wp a1 a2 K =
  (Go.K.ifB (Go.K.fne Go.FloatKind.f64 (Go.K.farith Go.BinOp.sub Go.FloatKind.f64 a1 a1) (0 : Nat)) (Go.K.melts.math_NaN.wp fun y1 => K y1)
  (Go.K.ifB (Go.K.fne Go.FloatKind.f64 (Go.K.farith Go.BinOp.sub Go.FloatKind.f64 a2 a2) (0 : Nat)) (Go.K.melts.math_NaN.wp fun y2 => K y2)
    (Go.K.ifB (Go.K.feq Go.FloatKind.f64 a2 (0 : Nat))
      (Go.K.ifB (Go.K.feq Go.FloatKind.f64 a1 (0 : Nat)) (K (0 : Nat))
        (Go.K.melts.math_Abs.wp a1 fun y3 =>
          Go.K.melts.math_Abs.wp a2 fun y4 =>
            ∀ (J5 : Bool → Nat → Prop),
              (∀ (x6 : Bool) (x7 : Nat),
                  (∀ (J8 : Bool → Nat → Int → Prop),
                      (∀ (x9 : Bool) (x10 : Nat) (x11 : Int),
                          Go.K.ifB (Decidable.decide (x11 < (3 : Int)))
                              (Go.K.melts.math_Sqrt.wp (Go.K.farith Go.BinOp.add Go.FloatKind.f64 (4607182418800017408 : Nat) (Go.K.farith Go.BinOp.mul Go.FloatKind.f64 x10 x10))
                                fun y12 =>
                                J8 x9 (Go.K.farith Go.BinOp.quo Go.FloatKind.f64 x10 (Go.K.farith Go.BinOp.add Go.FloatKind.f64 (4607182418800017408 : Nat) y12))
                                  (Go.IntKind.wrap Go.IntKind.i64 (x11 + (1 : Int))))
                              (∀ (J13 : Bool → Nat → Nat → Nat → Int → Prop),
                                (∀ (x14 : Bool) (x15 x16 x17 : Nat) (x18 : Int),
                                    Go.K.ifB (Decidable.decide (x18 ≥ (1 : Int)))
                                        (J13 x14 x15 x16
                                          (Go.K.farith Go.BinOp.sub Go.FloatKind.f64
                                            (Go.K.farith Go.BinOp.quo Go.FloatKind.f64 (4607182418800017408 : Nat) (Go.K.fofint Go.FloatKind.f64 x18))
                                            (Go.K.farith Go.BinOp.mul Go.FloatKind.f64 x16 x17))
                                          (Go.IntKind.wrap Go.IntKind.i64 (x18 - (2 : Int))))
                                        (Go.K.ifB x14
                                          (Go.K.ifB (Go.K.flt Go.FloatKind.f64 a2 (0 : Nat))
                                            (Go.K.ifB (Go.K.flt Go.FloatKind.f64 a1 (0 : Nat))
                                              (K
                                                (Go.K.fneg Go.FloatKind.f64
                                                  (Go.K.farith Go.BinOp.sub Go.FloatKind.f64 (4602678819172646912 : Nat)
                                                    (Go.K.farith Go.BinOp.sub Go.FloatKind.f64 (4598175219545276416 : Nat)
                                                      (Go.K.farith Go.BinOp.quo Go.FloatKind.f64
                                                        (Go.K.farith Go.BinOp.mul Go.FloatKind.f64 (4620693217682128896 : Nat) (Go.K.farith Go.BinOp.mul Go.FloatKind.f64 x15 x17))
                                                        (4618760256179416344 : Nat))))))
                                              (K
                                                (Go.K.farith Go.BinOp.sub Go.FloatKind.f64 (4602678819172646912 : Nat)
                                                  (Go.K.farith Go.BinOp.sub Go.FloatKind.f64 (4598175219545276416 : Nat)
                                                    (Go.K.farith Go.BinOp.quo Go.FloatKind.f64
                                                      (Go.K.farith Go.BinOp.mul Go.FloatKind.f64 (4620693217682128896 : Nat) (Go.K.farith Go.BinOp.mul Go.FloatKind.f64 x15 x17))
                                                      (4618760256179416344 : Nat))))))
                                            (Go.K.ifB (Go.K.flt Go.FloatKind.f64 a1 (0 : Nat))
                                              (K
                                                (Go.K.fneg Go.FloatKind.f64
                                                  (Go.K.farith Go.BinOp.sub Go.FloatKind.f64 (4598175219545276416 : Nat)
                                                    (Go.K.farith Go.BinOp.quo Go.FloatKind.f64
                                                      (Go.K.farith Go.BinOp.mul Go.FloatKind.f64 (4620693217682128896 : Nat) (Go.K.farith Go.BinOp.mul Go.FloatKind.f64 x15 x17))
                                                      (4618760256179416344 : Nat)))))
                                              (K
                                                (Go.K.farith Go.BinOp.sub Go.FloatKind.f64 (4598175219545276416 : Nat)
                                                  (Go.K.farith Go.BinOp.quo Go.FloatKind.f64
                                                    (Go.K.farith Go.BinOp.mul Go.FloatKind.f64 (4620693217682128896 : Nat) (Go.K.farith Go.BinOp.mul Go.FloatKind.f64 x15 x17))
                                                    (4618760256179416344 : Nat))))))
                                          (Go.K.ifB (Go.K.flt Go.FloatKind.f64 a2 (0 : Nat))
                                            (Go.K.ifB (Go.K.flt Go.FloatKind.f64 a1 (0 : Nat))
                                              (K
                                                (Go.K.fneg Go.FloatKind.f64
                                                  (Go.K.farith Go.BinOp.sub Go.FloatKind.f64 (4602678819172646912 : Nat)
                                                    (Go.K.farith Go.BinOp.quo Go.FloatKind.f64
                                                      (Go.K.farith Go.BinOp.mul Go.FloatKind.f64 (4620693217682128896 : Nat) (Go.K.farith Go.BinOp.mul Go.FloatKind.f64 x15 x17))
                                                      (4618760256179416344 : Nat)))))
                                              (K
                                                (Go.K.farith Go.BinOp.sub Go.FloatKind.f64 (4602678819172646912 : Nat)
                                                  (Go.K.farith Go.BinOp.quo Go.FloatKind.f64
                                                    (Go.K.farith Go.BinOp.mul Go.FloatKind.f64 (4620693217682128896 : Nat) (Go.K.farith Go.BinOp.mul Go.FloatKind.f64 x15 x17))
                                                    (4618760256179416344 : Nat)))))
                                            (Go.K.ifB (Go.K.flt Go.FloatKind.f64 a1 (0 : Nat))
                                              (K
                                                (Go.K.fneg Go.FloatKind.f64
                                                  (Go.K.farith Go.BinOp.quo Go.FloatKind.f64
                                                    (Go.K.farith Go.BinOp.mul Go.FloatKind.f64 (4620693217682128896 : Nat) (Go.K.farith Go.BinOp.mul Go.FloatKind.f64 x15 x17))
                                                    (4618760256179416344 : Nat))))
                                              (K
                                                (Go.K.farith Go.BinOp.quo Go.FloatKind.f64
                                                  (Go.K.farith Go.BinOp.mul Go.FloatKind.f64 (4620693217682128896 : Nat) (Go.K.farith Go.BinOp.mul Go.FloatKind.f64 x15 x17))
                                                  (4618760256179416344 : Nat)))))) →
                                      J13 x14 x15 x16 x17 x18) →
                                  J13 x9 x10 (Go.K.farith Go.BinOp.mul Go.FloatKind.f64 x10 x10) (0 : Nat) (15 : Int)) →
                            J8 x9 x10 x11) →
                        J8 x6 x7 (0 : Int)) →
                    J5 x6 x7) →
                Go.K.ifB (Go.K.fgt Go.FloatKind.f64 y3 y4) (J5 (Go.K.fgt Go.FloatKind.f64 y3 y4) (Go.K.farith Go.BinOp.quo Go.FloatKind.f64 y4 y3))
                  (J5 (Go.K.fgt Go.FloatKind.f64 y3 y4) (Go.K.farith Go.BinOp.quo Go.FloatKind.f64 y3 y4))))
      (Go.K.melts.math_Abs.wp a1 fun y25 =>
        Go.K.melts.math_Abs.wp a2 fun y26 =>
          ∀ (J27 : Bool → Nat → Prop),
            (∀ (x28 : Bool) (x29 : Nat),
                (∀ (J30 : Bool → Nat → Int → Prop),
                    (∀ (x31 : Bool) (x32 : Nat) (x33 : Int),
                        Go.K.ifB (Decidable.decide (x33 < (3 : Int)))
                            (Go.K.melts.math_Sqrt.wp (Go.K.farith Go.BinOp.add Go.FloatKind.f64 (4607182418800017408 : Nat) (Go.K.farith Go.BinOp.mul Go.FloatKind.f64 x32 x32))
                              fun y34 =>
                              J30 x31 (Go.K.farith Go.BinOp.quo Go.FloatKind.f64 x32 (Go.K.farith Go.BinOp.add Go.FloatKind.f64 (4607182418800017408 : Nat) y34))
                                (Go.IntKind.wrap Go.IntKind.i64 (x33 + (1 : Int))))
                            (∀ (J35 : Bool → Nat → Nat → Nat → Int → Prop),
                              (∀ (x36 : Bool) (x37 x38 x39 : Nat) (x40 : Int),
                                  Go.K.ifB (Decidable.decide (x40 ≥ (1 : Int)))
                                      (J35 x36 x37 x38
                                        (Go.K.farith Go.BinOp.sub Go.FloatKind.f64
                                          (Go.K.farith Go.BinOp.quo Go.FloatKind.f64 (4607182418800017408 : Nat) (Go.K.fofint Go.FloatKind.f64 x40))
                                          (Go.K.farith Go.BinOp.mul Go.FloatKind.f64 x38 x39))
                                        (Go.IntKind.wrap Go.IntKind.i64 (x40 - (2 : Int))))
                                      (Go.K.ifB x36
                                        (Go.K.ifB (Go.K.flt Go.FloatKind.f64 a2 (0 : Nat))
                                          (Go.K.ifB (Go.K.flt Go.FloatKind.f64 a1 (0 : Nat))
                                            (K
                                              (Go.K.fneg Go.FloatKind.f64
                                                (Go.K.farith Go.BinOp.sub Go.FloatKind.f64 (4602678819172646912 : Nat)
                                                  (Go.K.farith Go.BinOp.sub Go.FloatKind.f64 (4598175219545276416 : Nat)
                                                    (Go.K.farith Go.BinOp.quo Go.FloatKind.f64
                                                      (Go.K.farith Go.BinOp.mul Go.FloatKind.f64 (4620693217682128896 : Nat) (Go.K.farith Go.BinOp.mul Go.FloatKind.f64 x37 x39))
                                                      (4618760256179416344 : Nat))))))
                                            (K
                                              (Go.K.farith Go.BinOp.sub Go.FloatKind.f64 (4602678819172646912 : Nat)
                                                (Go.K.farith Go.BinOp.sub Go.FloatKind.f64 (4598175219545276416 : Nat)
                                                  (Go.K.farith Go.BinOp.quo Go.FloatKind.f64
                                                    (Go.K.farith Go.BinOp.mul Go.FloatKind.f64 (4620693217682128896 : Nat) (Go.K.farith Go.BinOp.mul Go.FloatKind.f64 x37 x39))
                                                    (4618760256179416344 : Nat))))))
                                          (Go.K.ifB (Go.K.flt Go.FloatKind.f64 a1 (0 : Nat))
                                            (K
                                              (Go.K.fneg Go.FloatKind.f64
                                                (Go.K.farith Go.BinOp.sub Go.FloatKind.f64 (4598175219545276416 : Nat)
                                                  (Go.K.farith Go.BinOp.quo Go.FloatKind.f64
                                                    (Go.K.farith Go.BinOp.mul Go.FloatKind.f64 (4620693217682128896 : Nat) (Go.K.farith Go.BinOp.mul Go.FloatKind.f64 x37 x39))
                                                    (4618760256179416344 : Nat)))))
                                            (K
                                              (Go.K.farith Go.BinOp.sub Go.FloatKind.f64 (4598175219545276416 : Nat)
                                                (Go.K.farith Go.BinOp.quo Go.FloatKind.f64
                                                  (Go.K.farith Go.BinOp.mul Go.FloatKind.f64 (4620693217682128896 : Nat) (Go.K.farith Go.BinOp.mul Go.FloatKind.f64 x37 x39))
                                                  (4618760256179416344 : Nat))))))
                                        (Go.K.ifB (Go.K.flt Go.FloatKind.f64 a2 (0 : Nat))
                                          (Go.K.ifB (Go.K.flt Go.FloatKind.f64 a1 (0 : Nat))
                                            (K
                                              (Go.K.fneg Go.FloatKind.f64
                                                (Go.K.farith Go.BinOp.sub Go.FloatKind.f64 (4602678819172646912 : Nat)
                                                  (Go.K.farith Go.BinOp.quo Go.FloatKind.f64
                                                    (Go.K.farith Go.BinOp.mul Go.FloatKind.f64 (4620693217682128896 : Nat) (Go.K.farith Go.BinOp.mul Go.FloatKind.f64 x37 x39))
                                                    (4618760256179416344 : Nat)))))
                                            (K
                                              (Go.K.farith Go.BinOp.sub Go.FloatKind.f64 (4602678819172646912 : Nat)
                                                (Go.K.farith Go.BinOp.quo Go.FloatKind.f64
                                                  (Go.K.farith Go.BinOp.mul Go.FloatKind.f64 (4620693217682128896 : Nat) (Go.K.farith Go.BinOp.mul Go.FloatKind.f64 x37 x39))
                                                  (4618760256179416344 : Nat)))))
                                          (Go.K.ifB (Go.K.flt Go.FloatKind.f64 a1 (0 : Nat))
                                            (K
                                              (Go.K.fneg Go.FloatKind.f64
                                                (Go.K.farith Go.BinOp.quo Go.FloatKind.f64
                                                  (Go.K.farith Go.BinOp.mul Go.FloatKind.f64 (4620693217682128896 : Nat) (Go.K.farith Go.BinOp.mul Go.FloatKind.f64 x37 x39))
                                                  (4618760256179416344 : Nat))))
                                            (K
                                              (Go.K.farith Go.BinOp.quo Go.FloatKind.f64
                                                (Go.K.farith Go.BinOp.mul Go.FloatKind.f64 (4620693217682128896 : Nat) (Go.K.farith Go.BinOp.mul Go.FloatKind.f64 x37 x39))
                                                (4618760256179416344 : Nat)))))) →
                                    J35 x36 x37 x38 x39 x40) →
                                J35 x31 x32 (Go.K.farith Go.BinOp.mul Go.FloatKind.f64 x32 x32) (0 : Nat) (15 : Int)) →
                          J30 x31 x32 x33) →
                      J30 x28 x29 (0 : Int)) →
                  J27 x28 x29) →
              Go.K.ifB (Go.K.fgt Go.FloatKind.f64 y25 y26) (J27 (Go.K.fgt Go.FloatKind.f64 y25 y26) (Go.K.farith Go.BinOp.quo Go.FloatKind.f64 y26 y25))
                (J27 (Go.K.fgt Go.FloatKind.f64 y25 y26) (Go.K.farith Go.BinOp.quo Go.FloatKind.f64 y25 y26)))))) := spec_l01AngleWide.tx math_NaN.wp math_Abs.wp math_Sqrt.wp a1 a2 K

theorem spec_l01Narrow.tx  (a1 : Nat) (K : Nat → Prop) : spec_l01Narrow.bd  a1 K =
  (Go.K.fitsF Go.FloatKind.f64 Go.FloatKind.f32 a1 = Bool.true ∧ K (Go.K.fconv Go.FloatKind.f64 Go.FloatKind.f32 a1)) := by kernel_rfl
theorem spec_l01Narrow.eq (a1 : Nat) (K : Nat → Prop) : spec_l01Narrow.wp a1 K =
  (Go.K.fitsF Go.FloatKind.f64 Go.FloatKind.f32 a1 = Bool.true ∧ K (Go.K.fconv Go.FloatKind.f64 Go.FloatKind.f32 a1)) := spec_l01Narrow.tx  a1 K

theorem spec_l01Angle.tx (w_spec_l01AngleWide : Nat → Nat → (Nat → Prop) → Prop) (w_spec_l01Narrow : Nat → (Nat → Prop) → Prop) (a1 : Nat) (a2 : Nat) (K : Nat → Prop) : spec_l01Angle.bd w_spec_l01AngleWide w_spec_l01Narrow a1 a2 K =
  (w_spec_l01AngleWide (Go.K.fconv Go.FloatKind.f32 Go.FloatKind.f64 a1) (Go.K.fconv Go.FloatKind.f32 Go.FloatKind.f64 a2) fun y1 =>
  w_spec_l01Narrow y1 fun y2 => K y2) := by kernel_rfl
theorem spec_l01Angle.eq (a1 : Nat) (a2 : Nat) (K : Nat → Prop) : spec_l01Angle.wp a1 a2 K =
  (Go.K.melts.spec_l01AngleWide.wp (Go.K.fconv Go.FloatKind.f32 Go.FloatKind.f64 a1) (Go.K.fconv Go.FloatKind.f32 Go.FloatKind.f64 a2) fun y1 =>
  Go.K.melts.spec_l01Narrow.wp y1 fun y2 => K y2) := spec_l01Angle.tx spec_l01AngleWide.wp spec_l01Narrow.wp a1 a2 K

theorem spec_l03Turn.tx (w_spec_l02SlopeY : Int → Int → Bool → List Nat → Int → Int → (Nat → Prop) → Prop) (w_spec_l02SlopeX : Int → Int → Bool → List Nat → Int → Int → (Nat → Prop) → Prop) (w_spec_l01Angle : Nat → Nat → (Nat → Prop) → Prop) (a1 : Int) (a2 : Int) (a3 : Bool) (a4 : Int) (a5 : Int) (a6 : Bool) (a7 : Nat) (a8 : Nat) (a9 : Nat) (a10 : Nat) (a11 : Nat) (a12 : Int) (a13 : List
  Nat) (a14 : List Nat) (a15 : Int) (a16 : Int) (K : Nat → Prop) : spec_l03Turn.bd w_spec_l02SlopeY w_spec_l02SlopeX w_spec_l01Angle a1 a2 a3 a4 a5 a6 a7 a8 a9 a10 a11 a12 a13 a14 a15 a16 K =
  (w_spec_l02SlopeY a1 a2 a3 a13 a15 a16 fun y1 =>
  w_spec_l02SlopeX a1 a2 a3 a13 a15 a16 fun y2 => w_spec_l01Angle y1 y2 fun y3 => K y3) := by kernel_rfl
theorem spec_l03Turn.eq (a1 : Int) (a2 : Int) (a3 : Bool) (a4 : Int) (a5 : Int) (a6 : Bool) (a7 : Nat) (a8 : Nat) (a9 : Nat) (a10 : Nat) (a11 : Nat) (a12 : Int) (a13 : List
  Nat) (a14 : List Nat) (a15 : Int) (a16 : Int) (K : Nat → Prop) : spec_l03Turn.wp a1 a2 a3 a4 a5 a6 a7 a8 a9 a10 a11 a12 a13 a14 a15 a16 K =
  (Go.K.melts.spec_l02SlopeY.wp a1 a2 a3 a13 a15 a16 fun y1 =>
  Go.K.melts.spec_l02SlopeX.wp a1 a2 a3 a13 a15 a16 fun y2 => Go.K.melts.spec_l01Angle.wp y1 y2 fun y3 => K y3) := spec_l03Turn.tx spec_l02SlopeY.wp spec_l02SlopeX.wp spec_l01Angle.wp a1 a2 a3 a4 a5 a6 a7 a8 a9 a10 a11 a12 a13 a14 a15 a16 K

theorem spec_l03Number.tx (w_spec_l01Finite : Nat → (Bool → Prop) → Prop) (a1 : Nat) (K : Nat → Bool → Prop) : spec_l03Number.bd w_spec_l01Finite a1 K =
  (w_spec_l01Finite a1 fun y1 => Go.K.ifB (!y1) (K (0 : Nat) Bool.false) (K a1 Bool.true)) := by kernel_rfl
theorem spec_l03Number.eq (a1 : Nat) (K : Nat → Bool → Prop) : spec_l03Number.wp a1 K =
  (Go.K.melts.spec_l01Finite.wp a1 fun y1 => Go.K.ifB (!y1) (K (0 : Nat) Bool.false) (K a1 Bool.true)) := spec_l03Number.tx spec_l01Finite.wp a1 K

theorem spec_TurnAt.tx (w_spec_l03Cell : Int → Int → Bool → Int → Int → Bool → Nat → Nat → Nat → Nat → Nat → Int → List Nat → List Nat → Int → Int → (Bool → Prop) → Prop) (w_spec_l03Turn : Int → Int → Bool → Int → Int → Bool → Nat → Nat → Nat → Nat → Nat → Int → List Nat → List Nat → Int → Int → (Nat → Prop) → Prop) (w_spec_l03Number : Nat → (Nat → Bool → Prop) → Prop) (a1 : List
  Nat) (a2 : List
  Nat) (a3 : Int) (a4 : Int) (a5 : Bool) (a6 : Int) (a7 : Int) (a8 : Bool) (a9 : Nat) (a10 : Nat) (a11 : Nat) (a12 : Nat) (a13 : Nat) (a14 : Int) (a15 : Int) (a16 : Int) (K : Nat →
  Bool → Prop) : spec_TurnAt.bd w_spec_l03Cell w_spec_l03Turn w_spec_l03Number a1 a2 a3 a4 a5 a6 a7 a8 a9 a10 a11 a12 a13 a14 a15 a16 K =
  (w_spec_l03Cell a3 a4 a5 a6 a7 a8 a9 a10 a11 a12 a13 a14 a1 a2 a15 a16 fun y1 =>
  Go.K.ifB (!y1) (K (0 : Nat) Bool.false)
    (w_spec_l03Turn a3 a4 a5 a6 a7 a8 a9 a10 a11 a12 a13 a14 a1 a2 a15 a16 fun y2 => w_spec_l03Number y2 fun y3 y4 => K y3 y4)) := by kernel_rfl
theorem spec_TurnAt.eq (a1 : List
  Nat) (a2 : List
  Nat) (a3 : Int) (a4 : Int) (a5 : Bool) (a6 : Int) (a7 : Int) (a8 : Bool) (a9 : Nat) (a10 : Nat) (a11 : Nat) (a12 : Nat) (a13 : Nat) (a14 : Int) (a15 : Int) (a16 : Int) (K : Nat →
  Bool → Prop) : spec_TurnAt.wp a1 a2 a3 a4 a5 a6 a7 a8 a9 a10 a11 a12 a13 a14 a15 a16 K =
  (Go.K.melts.spec_l03Cell.wp a3 a4 a5 a6 a7 a8 a9 a10 a11 a12 a13 a14 a1 a2 a15 a16 fun y1 =>
  Go.K.ifB (!y1) (K (0 : Nat) Bool.false)
    (Go.K.melts.spec_l03Turn.wp a3 a4 a5 a6 a7 a8 a9 a10 a11 a12 a13 a14 a1 a2 a15 a16 fun y2 => Go.K.melts.spec_l03Number.wp y2 fun y3 y4 => K y3 y4)) := spec_TurnAt.tx spec_l03Cell.wp spec_l03Turn.wp spec_l03Number.wp a1 a2 a3 a4 a5 a6 a7 a8 a9 a10 a11 a12 a13 a14 a15 a16 K

theorem impl_within.tx  (a1 : Int) (a2 : Int) (a3 : Int) (K : Bool → Prop) : impl_within.bd  a1 a2 a3 K =
  (Go.K.ifB (Decidable.decide (a2 ≤ a1)) (K (Decidable.decide (a1 ≤ a3))) (K Bool.false)) := by kernel_rfl
theorem impl_within.eq (a1 : Int) (a2 : Int) (a3 : Int) (K : Bool → Prop) : impl_within.wp a1 a2 a3 K =
  (Go.K.ifB (Decidable.decide (a2 ≤ a1)) (K (Decidable.decide (a1 ≤ a3))) (K Bool.false)) := impl_within.tx  a1 a2 a3 K

theorem impl_areWithin_1.tx (w_impl_within : Int → Int → Int → (Bool → Prop) → Prop) (a1 : Int) (a2 : Int) (a3 : Int) (K : Bool → Prop) : impl_areWithin_1.bd w_impl_within a1 a2 a3 K =
  (w_impl_within a3 a1 a2 fun y1 => K !y1) := by kernel_rfl
theorem impl_areWithin_1.eq (a1 : Int) (a2 : Int) (a3 : Int) (K : Bool → Prop) : impl_areWithin_1.wp a1 a2 a3 K =
  (Go.K.melts.impl_within.wp a3 a1 a2 fun y1 => K !y1) := impl_areWithin_1.tx impl_within.wp a1 a2 a3 K

theorem slices_IndexFunc_int64_int64__areWithin_1.tx (w_impl_areWithin_1 : Int → Int → Int → (Bool → Prop) → Prop) (a1 : List Int) (a2 : Int) (a3 : Int) (K : Int → Prop) : slices_IndexFunc_int64_int64__areWithin_1.bd w_impl_areWithin_1 a1 a2 a3 K =
  (∀ (J1 : Int → Int → Prop),
  (∀ (x2 x3 : Int),
      Go.K.ifB (Decidable.decide (x3 < x2))
          (((0 : Int) ≤ x3 ∧ x3 < (↑(List.length a1) : Int)) ∧
            w_impl_areWithin_1 a2 a3 (List.getD a1 (Int.toNat x3) (0 : Int)) fun y4 => Go.K.ifB y4 (K x3) (J1 x2 (Go.IntKind.wrap Go.IntKind.i64 (x3 + (1 : Int)))))
          (K (-1 : Int)) →
        J1 x2 x3) →
    J1 (↑(List.length a1) : Int) (0 : Int)) := by kernel_rfl
theorem slices_IndexFunc_int64_int64__areWithin_1.eq (a1 : List Int) (a2 : Int) (a3 : Int) (K : Int → Prop) : slices_IndexFunc_int64_int64__areWithin_1.wp a1 a2 a3 K =
  (∀ (J1 : Int → Int → Prop),
  (∀ (x2 x3 : Int),
      Go.K.ifB (Decidable.decide (x3 < x2))
          (((0 : Int) ≤ x3 ∧ x3 < (↑(List.length a1) : Int)) ∧
            Go.K.melts.impl_areWithin_1.wp a2 a3 (List.getD a1 (Int.toNat x3) (0 : Int)) fun y4 => Go.K.ifB y4 (K x3) (J1 x2 (Go.IntKind.wrap Go.IntKind.i64 (x3 + (1 : Int)))))
          (K (-1 : Int)) →
        J1 x2 x3) →
    J1 (↑(List.length a1) : Int) (0 : Int)) := slices_IndexFunc_int64_int64__areWithin_1.tx impl_areWithin_1.wp a1 a2 a3 K

theorem slices_ContainsFunc_int64_int64__areWithin_1.tx (w_slices_IndexFunc_int64_int64__areWithin_1 : List Int → Int → Int → (Int → Prop) → Prop) (a1 : List Int) (a2 : Int) (a3 : Int) (K : Bool → Prop) : slices_ContainsFunc_int64_int64__areWithin_1.bd w_slices_IndexFunc_int64_int64__areWithin_1 a1 a2 a3 K =
  (w_slices_IndexFunc_int64_int64__areWithin_1 a1 a2 a3 fun y1 => K (Decidable.decide (y1 ≥ (0 : Int)))) := by kernel_rfl
theorem slices_ContainsFunc_int64_int64__areWithin_1.eq (a1 : List Int) (a2 : Int) (a3 : Int) (K : Bool → Prop) : slices_ContainsFunc_int64_int64__areWithin_1.wp a1 a2 a3 K =
  (Go.K.melts.slices_IndexFunc_int64_int64__areWithin_1.wp a1 a2 a3 fun y1 => K (Decidable.decide (y1 ≥ (0 : Int)))) := slices_ContainsFunc_int64_int64__areWithin_1.tx slices_IndexFunc_int64_int64__areWithin_1.wp a1 a2 a3 K

theorem impl_areWithin.tx (w_slices_ContainsFunc_int64_int64__areWithin_1 : List Int → Int → Int → (Bool → Prop) → Prop) (a1 : List Int) (a2 : Int) (a3 : Int) (K : Bool → Prop) : impl_areWithin.bd w_slices_ContainsFunc_int64_int64__areWithin_1 a1 a2 a3 K =
  (w_slices_ContainsFunc_int64_int64__areWithin_1 a1 a2 a3 fun y1 => K !y1) := by kernel_rfl
theorem impl_areWithin.eq (a1 : List Int) (a2 : Int) (a3 : Int) (K : Bool → Prop) : impl_areWithin.wp a1 a2 a3 K =
  (Go.K.melts.slices_ContainsFunc_int64_int64__areWithin_1.wp a1 a2 a3 fun y1 => K !y1) := impl_areWithin.tx slices_ContainsFunc_int64_int64__areWithin_1.wp a1 a2 a3 K

theorem impl_ValidField.tx (w_impl_areWithin : List Int → Int → Int → (Bool → Prop) → Prop) (a1 : List Nat) (a2 : Int) (a3 : Int) (a4 : Bool) (K : Bool → Prop) : impl_ValidField.bd w_impl_areWithin a1 a2 a3 a4 K =
  (w_impl_areWithin (a2 :: a3 :: List.replicate (0 : Nat) (0 : Int)) (1 : Int) (16 : Int) fun y1 =>
  Go.K.ifB y1 (K ((↑(List.length a1) : Int) == Go.IntKind.wrap Go.IntKind.i64 (a2 * a3))) (K Bool.false)) := by kernel_rfl
theorem impl_ValidField.eq (a1 : List Nat) (a2 : Int) (a3 : Int) (a4 : Bool) (K : Bool → Prop) : impl_ValidField.wp a1 a2 a3 a4 K =
  (Go.K.melts.impl_areWithin.wp (a2 :: a3 :: List.replicate (0 : Nat) (0 : Int)) (1 : Int) (16 : Int) fun y1 =>
  Go.K.ifB y1 (K ((↑(List.length a1) : Int) == Go.IntKind.wrap Go.IntKind.i64 (a2 * a3))) (K Bool.false)) := impl_ValidField.tx impl_areWithin.wp a1 a2 a3 a4 K

theorem impl_alike.tx  (a1 : List
  Nat) (a2 : List Nat) (a3 : Int) (a4 : Int) (a5 : Bool) (a6 : Int) (a7 : Int) (a8 : Bool) (K : Bool → Prop) : impl_alike.bd  a1 a2 a3 a4 a5 a6 a7 a8 K =
  (Go.K.ifB (a3 == a6) (Go.K.ifB (a4 == a7) (K (a5 == a8)) (K Bool.false)) (K Bool.false)) := by kernel_rfl
theorem impl_alike.eq (a1 : List
  Nat) (a2 : List Nat) (a3 : Int) (a4 : Int) (a5 : Bool) (a6 : Int) (a7 : Int) (a8 : Bool) (K : Bool → Prop) : impl_alike.wp a1 a2 a3 a4 a5 a6 a7 a8 K =
  (Go.K.ifB (a3 == a6) (Go.K.ifB (a4 == a7) (K (a5 == a8)) (K Bool.false)) (K Bool.false)) := impl_alike.tx  a1 a2 a3 a4 a5 a6 a7 a8 K

theorem math_IsNaN.tx  (a1 : Nat) (K : Bool → Prop) : math_IsNaN.bd  a1 K =
  (K (Go.K.fne Go.FloatKind.f64 a1 a1)) := by kernel_rfl
theorem math_IsNaN.eq (a1 : Nat) (K : Bool → Prop) : math_IsNaN.wp a1 K =
  (K (Go.K.fne Go.FloatKind.f64 a1 a1)) := math_IsNaN.tx  a1 K

theorem math_IsInf.tx (w_math_Abs : Nat → (Nat → Prop) → Prop) (a1 : Nat) (a2 : Int) (K : Bool → Prop) : math_IsInf.bd w_math_Abs a1 a2 K =
  (Go.K.ifB (a2 == (0 : Int)) (w_math_Abs a1 fun y1 => K (Go.K.fgt Go.FloatKind.f64 y1 (9218868437227405311 : Nat)))
  (Go.K.ifB (Decidable.decide (a2 < (0 : Int))) (K (Go.K.fgt Go.FloatKind.f64 (Go.K.fneg Go.FloatKind.f64 a1) (9218868437227405311 : Nat)))
    (K (Go.K.fgt Go.FloatKind.f64 a1 (9218868437227405311 : Nat))))) := by kernel_rfl
theorem math_IsInf.eq (a1 : Nat) (a2 : Int) (K : Bool → Prop) : math_IsInf.wp a1 a2 K =
  (Go.K.ifB (a2 == (0 : Int)) (Go.K.melts.math_Abs.wp a1 fun y1 => K (Go.K.fgt Go.FloatKind.f64 y1 (9218868437227405311 : Nat)))
  (Go.K.ifB (Decidable.decide (a2 < (0 : Int))) (K (Go.K.fgt Go.FloatKind.f64 (Go.K.fneg Go.FloatKind.f64 a1) (9218868437227405311 : Nat)))
    (K (Go.K.fgt Go.FloatKind.f64 a1 (9218868437227405311 : Nat))))) := math_IsInf.tx math_Abs.wp a1 a2 K

theorem impl_finite.tx (w_math_IsNaN : Nat → (Bool → Prop) → Prop) (w_math_IsInf : Nat → Int → (Bool → Prop) → Prop) (a1 : Nat) (K : Bool → Prop) : impl_finite.bd w_math_IsNaN w_math_IsInf a1 K =
  (w_math_IsNaN a1 fun y1 => Go.K.ifB (!y1) (w_math_IsInf a1 (0 : Int) fun y2 => K !y2) (K Bool.false)) := by kernel_rfl
theorem impl_finite.eq (a1 : Nat) (K : Bool → Prop) : impl_finite.wp a1 K =
  (Go.K.melts.math_IsNaN.wp a1 fun y1 => Go.K.ifB (!y1) (Go.K.melts.math_IsInf.wp a1 (0 : Int) fun y2 => K !y2) (K Bool.false)) := impl_finite.tx math_IsNaN.wp math_IsInf.wp a1 K

theorem impl_IsFinite.tx (w_impl_finite : Nat → (Bool → Prop) → Prop) (a1 : Nat) (K : Bool → Prop) : impl_IsFinite.bd w_impl_finite a1 K =
  (w_impl_finite (Go.K.fconv Go.FloatKind.f32 Go.FloatKind.f64 a1) fun y1 => K y1) := by kernel_rfl
theorem impl_IsFinite.eq (a1 : Nat) (K : Bool → Prop) : impl_IsFinite.wp a1 K =
  (Go.K.melts.impl_finite.wp (Go.K.fconv Go.FloatKind.f32 Go.FloatKind.f64 a1) fun y1 => K y1) := impl_IsFinite.tx impl_finite.wp a1 K

theorem impl_areFinite_1.tx (w_impl_IsFinite : Nat → (Bool → Prop) → Prop) (a1 : Nat) (K : Bool → Prop) : impl_areFinite_1.bd w_impl_IsFinite a1 K =
  (w_impl_IsFinite a1 fun y1 => K !y1) := by kernel_rfl
theorem impl_areFinite_1.eq (a1 : Nat) (K : Bool → Prop) : impl_areFinite_1.wp a1 K =
  (Go.K.melts.impl_IsFinite.wp a1 fun y1 => K !y1) := impl_areFinite_1.tx impl_IsFinite.wp a1 K

theorem slices_IndexFunc_float32_float32__areFinite_1.tx (w_impl_areFinite_1 : Nat → (Bool → Prop) → Prop) (a1 : List Nat) (K : Int → Prop) : slices_IndexFunc_float32_float32__areFinite_1.bd w_impl_areFinite_1 a1 K =
  (∀ (J1 : Int → Int → Prop),
  (∀ (x2 x3 : Int),
      Go.K.ifB (Decidable.decide (x3 < x2))
          (((0 : Int) ≤ x3 ∧ x3 < (↑(List.length a1) : Int)) ∧
            w_impl_areFinite_1 (List.getD a1 (Int.toNat x3) (0 : Nat)) fun y4 => Go.K.ifB y4 (K x3) (J1 x2 (Go.IntKind.wrap Go.IntKind.i64 (x3 + (1 : Int)))))
          (K (-1 : Int)) →
        J1 x2 x3) →
    J1 (↑(List.length a1) : Int) (0 : Int)) := by kernel_rfl
theorem slices_IndexFunc_float32_float32__areFinite_1.eq (a1 : List Nat) (K : Int → Prop) : slices_IndexFunc_float32_float32__areFinite_1.wp a1 K =
  (∀ (J1 : Int → Int → Prop),
  (∀ (x2 x3 : Int),
      Go.K.ifB (Decidable.decide (x3 < x2))
          (((0 : Int) ≤ x3 ∧ x3 < (↑(List.length a1) : Int)) ∧
            Go.K.melts.impl_areFinite_1.wp (List.getD a1 (Int.toNat x3) (0 : Nat)) fun y4 => Go.K.ifB y4 (K x3) (J1 x2 (Go.IntKind.wrap Go.IntKind.i64 (x3 + (1 : Int)))))
          (K (-1 : Int)) →
        J1 x2 x3) →
    J1 (↑(List.length a1) : Int) (0 : Int)) := slices_IndexFunc_float32_float32__areFinite_1.tx impl_areFinite_1.wp a1 K

theorem slices_ContainsFunc_float32_float32__areFinite_1.tx (w_slices_IndexFunc_float32_float32__areFinite_1 : List Nat → (Int → Prop) → Prop) (a1 : List Nat) (K : Bool → Prop) : slices_ContainsFunc_float32_float32__areFinite_1.bd w_slices_IndexFunc_float32_float32__areFinite_1 a1 K =
  (w_slices_IndexFunc_float32_float32__areFinite_1 a1 fun y1 => K (Decidable.decide (y1 ≥ (0 : Int)))) := by kernel_rfl
theorem slices_ContainsFunc_float32_float32__areFinite_1.eq (a1 : List Nat) (K : Bool → Prop) : slices_ContainsFunc_float32_float32__areFinite_1.wp a1 K =
  (Go.K.melts.slices_IndexFunc_float32_float32__areFinite_1.wp a1 fun y1 => K (Decidable.decide (y1 ≥ (0 : Int)))) := slices_ContainsFunc_float32_float32__areFinite_1.tx slices_IndexFunc_float32_float32__areFinite_1.wp a1 K

theorem impl_areFinite.tx (w_slices_ContainsFunc_float32_float32__areFinite_1 : List Nat → (Bool → Prop) → Prop) (a1 : List Nat) (K : Bool → Prop) : impl_areFinite.bd w_slices_ContainsFunc_float32_float32__areFinite_1 a1 K =
  (w_slices_ContainsFunc_float32_float32__areFinite_1 a1 fun y1 => K !y1) := by kernel_rfl
theorem impl_areFinite.eq (a1 : List Nat) (K : Bool → Prop) : impl_areFinite.wp a1 K =
  (Go.K.melts.slices_ContainsFunc_float32_float32__areFinite_1.wp a1 fun y1 => K !y1) := impl_areFinite.tx slices_ContainsFunc_float32_float32__areFinite_1.wp a1 K

theorem impl_finiteField.tx (w_impl_areFinite : List Nat → (Bool → Prop) → Prop) (a1 : List Nat) (a2 : Int) (a3 : Int) (a4 : Bool) (K : Bool → Prop) : impl_finiteField.bd w_impl_areFinite a1 a2 a3 a4 K =
  (w_impl_areFinite a1 fun y1 => K y1) := by kernel_rfl
theorem impl_finiteField.eq (a1 : List Nat) (a2 : Int) (a3 : Int) (a4 : Bool) (K : Bool → Prop) : impl_finiteField.wp a1 a2 a3 a4 K =
  (Go.K.melts.impl_areFinite.wp a1 fun y1 => K y1) := impl_finiteField.tx impl_areFinite.wp a1 a2 a3 a4 K

theorem impl_ValidMelt_1.tx  (a1 : Nat) (K : Bool → Prop) : impl_ValidMelt_1.bd  a1 K =
  (Go.K.ifB (Go.K.fge Go.FloatKind.f32 a1 (0 : Nat)) (K !Go.K.fle Go.FloatKind.f32 a1 (1065353216 : Nat)) (K Bool.true)) := by kernel_rfl
theorem impl_ValidMelt_1.eq (a1 : Nat) (K : Bool → Prop) : impl_ValidMelt_1.wp a1 K =
  (Go.K.ifB (Go.K.fge Go.FloatKind.f32 a1 (0 : Nat)) (K !Go.K.fle Go.FloatKind.f32 a1 (1065353216 : Nat)) (K Bool.true)) := impl_ValidMelt_1.tx  a1 K

theorem slices_IndexFunc_float32_float32__ValidMelt_1.tx (w_impl_ValidMelt_1 : Nat → (Bool → Prop) → Prop) (a1 : List Nat) (K : Int → Prop) : slices_IndexFunc_float32_float32__ValidMelt_1.bd w_impl_ValidMelt_1 a1 K =
  (∀ (J1 : Int → Int → Prop),
  (∀ (x2 x3 : Int),
      Go.K.ifB (Decidable.decide (x3 < x2))
          (((0 : Int) ≤ x3 ∧ x3 < (↑(List.length a1) : Int)) ∧
            w_impl_ValidMelt_1 (List.getD a1 (Int.toNat x3) (0 : Nat)) fun y4 => Go.K.ifB y4 (K x3) (J1 x2 (Go.IntKind.wrap Go.IntKind.i64 (x3 + (1 : Int)))))
          (K (-1 : Int)) →
        J1 x2 x3) →
    J1 (↑(List.length a1) : Int) (0 : Int)) := by kernel_rfl
theorem slices_IndexFunc_float32_float32__ValidMelt_1.eq (a1 : List Nat) (K : Int → Prop) : slices_IndexFunc_float32_float32__ValidMelt_1.wp a1 K =
  (∀ (J1 : Int → Int → Prop),
  (∀ (x2 x3 : Int),
      Go.K.ifB (Decidable.decide (x3 < x2))
          (((0 : Int) ≤ x3 ∧ x3 < (↑(List.length a1) : Int)) ∧
            Go.K.melts.impl_ValidMelt_1.wp (List.getD a1 (Int.toNat x3) (0 : Nat)) fun y4 => Go.K.ifB y4 (K x3) (J1 x2 (Go.IntKind.wrap Go.IntKind.i64 (x3 + (1 : Int)))))
          (K (-1 : Int)) →
        J1 x2 x3) →
    J1 (↑(List.length a1) : Int) (0 : Int)) := slices_IndexFunc_float32_float32__ValidMelt_1.tx impl_ValidMelt_1.wp a1 K

theorem slices_ContainsFunc_float32_float32__ValidMelt_1.tx (w_slices_IndexFunc_float32_float32__ValidMelt_1 : List Nat → (Int → Prop) → Prop) (a1 : List Nat) (K : Bool → Prop) : slices_ContainsFunc_float32_float32__ValidMelt_1.bd w_slices_IndexFunc_float32_float32__ValidMelt_1 a1 K =
  (w_slices_IndexFunc_float32_float32__ValidMelt_1 a1 fun y1 => K (Decidable.decide (y1 ≥ (0 : Int)))) := by kernel_rfl
theorem slices_ContainsFunc_float32_float32__ValidMelt_1.eq (a1 : List Nat) (K : Bool → Prop) : slices_ContainsFunc_float32_float32__ValidMelt_1.wp a1 K =
  (Go.K.melts.slices_IndexFunc_float32_float32__ValidMelt_1.wp a1 fun y1 => K (Decidable.decide (y1 ≥ (0 : Int)))) := slices_ContainsFunc_float32_float32__ValidMelt_1.tx slices_IndexFunc_float32_float32__ValidMelt_1.wp a1 K

theorem impl_aMass.tx (w_impl_IsFinite : Nat → (Bool → Prop) → Prop) (a1 : Nat) (K : Bool → Prop) : impl_aMass.bd w_impl_IsFinite a1 K =
  (w_impl_IsFinite a1 fun y1 => Go.K.ifB y1 (K (Go.K.fge Go.FloatKind.f32 a1 (0 : Nat))) (K Bool.false)) := by kernel_rfl
theorem impl_aMass.eq (a1 : Nat) (K : Bool → Prop) : impl_aMass.wp a1 K =
  (Go.K.melts.impl_IsFinite.wp a1 fun y1 => Go.K.ifB y1 (K (Go.K.fge Go.FloatKind.f32 a1 (0 : Nat))) (K Bool.false)) := impl_aMass.tx impl_IsFinite.wp a1 K

theorem impl_ValidMelt.tx (w_impl_ValidField : List Nat → Int → Int → Bool → (Bool → Prop) → Prop) (w_impl_alike : List Nat → List Nat → Int → Int → Bool → Int → Int → Bool → (Bool → Prop) → Prop) (w_impl_finiteField : List Nat → Int → Int → Bool → (Bool → Prop) → Prop) (w_slices_ContainsFunc_float32_float32__ValidMelt_1 : List Nat → (Bool → Prop) → Prop) (w_impl_aMass : Nat → (Bool → Prop) → Prop) (w_impl_within : Int → Int → Int → (Bool → Prop) → Prop) (a1 : List
  Nat) (a2 : List
  Nat) (a3 : Int) (a4 : Int) (a5 : Bool) (a6 : Int) (a7 : Int) (a8 : Bool) (a9 : Nat) (a10 : Nat) (a11 : Nat) (a12 : Nat) (a13 : Nat) (a14 : Int) (K : Bool →
  Prop) : impl_ValidMelt.bd w_impl_ValidField w_impl_alike w_impl_finiteField w_slices_ContainsFunc_float32_float32__ValidMelt_1 w_impl_aMass w_impl_within a1 a2 a3 a4 a5 a6 a7 a8 a9 a10 a11 a12 a13 a14 K =
  (w_impl_ValidField a1 a3 a4 a5 fun y1 =>
  Go.K.ifB (!y1) (K Bool.false)
    (w_impl_ValidField a2 a6 a7 a8 fun y2 =>
      Go.K.ifB (!y2) (K Bool.false)
        (w_impl_alike a1 a2 a3 a4 a5 a6 a7 a8 fun y3 =>
          Go.K.ifB (!y3) (K Bool.false)
            (w_impl_finiteField a2 a6 a7 a8 fun y4 =>
              Go.K.ifB (!y4) (K Bool.false)
                (w_slices_ContainsFunc_float32_float32__ValidMelt_1 a1 fun y5 =>
                  Go.K.ifB y5 (K Bool.false)
                    (∀ (J6 : Int → Int → Bool → Int → Int → Bool → Nat → Nat → Nat → Nat → Nat → Int → List Nat → Int → Int → Prop),
                      (∀ (x7 x8 : Int) (x9 : Bool) (x10 x11 : Int) (x12 : Bool) (x13 x14 x15 x16 x17 : Nat) (x18 : Int) (x19 : List Nat) (x20 x21 : Int),
                          Go.K.ifB (Decidable.decide (x21 < x20))
                              (((0 : Int) ≤ x21 ∧ x21 < (↑(List.length x19) : Int)) ∧
                                w_impl_aMass (List.getD x19 (Int.toNat x21) (0 : Nat)) fun y22 =>
                                  Go.K.ifB (!y22) (K Bool.false) (J6 x7 x8 x9 x10 x11 x12 x13 x14 x15 x16 x17 x18 x19 x20 (Go.IntKind.wrap Go.IntKind.i64 (x21 + (1 : Int)))))
                              (Go.K.ifB (Go.K.fge Go.FloatKind.f32 x17 (0 : Nat))
                                (Go.K.ifB (Go.K.flt Go.FloatKind.f32 x17 (1065353216 : Nat)) (w_impl_within x18 (1 : Int) (8 : Int) fun y23 => K y23) (K Bool.false))
                                (K Bool.false)) →
                            J6 x7 x8 x9 x10 x11 x12 x13 x14 x15 x16 x17 x18 x19 x20 x21) →
                        J6 a3 a4 a5 a6 a7 a8 a9 a10 a11 a12 a13 a14 (a9 :: a10 :: a11 :: a12 :: List.replicate (0 : Nat) (0 : Nat)) (4 : Int) (0 : Int))))))) := by kernel_rfl
theorem impl_ValidMelt.eq (a1 : List
  Nat) (a2 : List
  Nat) (a3 : Int) (a4 : Int) (a5 : Bool) (a6 : Int) (a7 : Int) (a8 : Bool) (a9 : Nat) (a10 : Nat) (a11 : Nat) (a12 : Nat) (a13 : Nat) (a14 : Int) (K : Bool →
  Prop) : impl_ValidMelt.wp a1 a2 a3 a4 a5 a6 a7 a8 a9 a10 a11 a12 a13 a14 K =
  (Go.K.melts.impl_ValidField.wp a1 a3 a4 a5 fun y1 =>
  Go.K.ifB (!y1) (K Bool.false)
    (Go.K.melts.impl_ValidField.wp a2 a6 a7 a8 fun y2 =>
      Go.K.ifB (!y2) (K Bool.false)
        (Go.K.melts.impl_alike.wp a1 a2 a3 a4 a5 a6 a7 a8 fun y3 =>
          Go.K.ifB (!y3) (K Bool.false)
            (Go.K.melts.impl_finiteField.wp a2 a6 a7 a8 fun y4 =>
              Go.K.ifB (!y4) (K Bool.false)
                (Go.K.melts.slices_ContainsFunc_float32_float32__ValidMelt_1.wp a1 fun y5 =>
                  Go.K.ifB y5 (K Bool.false)
                    (∀ (J6 : Int → Int → Bool → Int → Int → Bool → Nat → Nat → Nat → Nat → Nat → Int → List Nat → Int → Int → Prop),
                      (∀ (x7 x8 : Int) (x9 : Bool) (x10 x11 : Int) (x12 : Bool) (x13 x14 x15 x16 x17 : Nat) (x18 : Int) (x19 : List Nat) (x20 x21 : Int),
                          Go.K.ifB (Decidable.decide (x21 < x20))
                              (((0 : Int) ≤ x21 ∧ x21 < (↑(List.length x19) : Int)) ∧
                                Go.K.melts.impl_aMass.wp (List.getD x19 (Int.toNat x21) (0 : Nat)) fun y22 =>
                                  Go.K.ifB (!y22) (K Bool.false) (J6 x7 x8 x9 x10 x11 x12 x13 x14 x15 x16 x17 x18 x19 x20 (Go.IntKind.wrap Go.IntKind.i64 (x21 + (1 : Int)))))
                              (Go.K.ifB (Go.K.fge Go.FloatKind.f32 x17 (0 : Nat))
                                (Go.K.ifB (Go.K.flt Go.FloatKind.f32 x17 (1065353216 : Nat)) (Go.K.melts.impl_within.wp x18 (1 : Int) (8 : Int) fun y23 => K y23) (K Bool.false))
                                (K Bool.false)) →
                            J6 x7 x8 x9 x10 x11 x12 x13 x14 x15 x16 x17 x18 x19 x20 x21) →
                        J6 a3 a4 a5 a6 a7 a8 a9 a10 a11 a12 a13 a14 (a9 :: a10 :: a11 :: a12 :: List.replicate (0 : Nat) (0 : Nat)) (4 : Int) (0 : Int))))))) := impl_ValidMelt.tx impl_ValidField.wp impl_alike.wp impl_finiteField.wp slices_ContainsFunc_float32_float32__ValidMelt_1.wp impl_aMass.wp impl_within.wp a1 a2 a3 a4 a5 a6 a7 a8 a9 a10 a11 a12 a13 a14 K

theorem impl_Melt_isCell.tx (w_impl_ValidMelt : List Nat → List Nat → Int → Int → Bool → Int → Int → Bool → Nat → Nat → Nat → Nat → Nat → Int → (Bool → Prop) → Prop) (w_impl_within : Int → Int → Int → (Bool → Prop) → Prop) (a1 : List
  Nat) (a2 : List
  Nat) (a3 : Int) (a4 : Int) (a5 : Bool) (a6 : Int) (a7 : Int) (a8 : Bool) (a9 : Nat) (a10 : Nat) (a11 : Nat) (a12 : Nat) (a13 : Nat) (a14 : Int) (a15 : Int) (a16 : Int) (K : Bool →
  Prop) : impl_Melt_isCell.bd w_impl_ValidMelt w_impl_within a1 a2 a3 a4 a5 a6 a7 a8 a9 a10 a11 a12 a13 a14 a15 a16 K =
  (w_impl_ValidMelt a1 a2 a3 a4 a5 a6 a7 a8 a9 a10 a11 a12 a13 a14 fun y1 =>
  Go.K.ifB y1
    (w_impl_within a15 (0 : Int) (Go.IntKind.wrap Go.IntKind.i64 (a3 - (1 : Int))) fun y2 =>
      Go.K.ifB y2 (w_impl_within a16 (0 : Int) (Go.IntKind.wrap Go.IntKind.i64 (a4 - (1 : Int))) fun y3 => K y3) (K Bool.false))
    (K Bool.false)) := by kernel_rfl
theorem impl_Melt_isCell.eq (a1 : List
  Nat) (a2 : List
  Nat) (a3 : Int) (a4 : Int) (a5 : Bool) (a6 : Int) (a7 : Int) (a8 : Bool) (a9 : Nat) (a10 : Nat) (a11 : Nat) (a12 : Nat) (a13 : Nat) (a14 : Int) (a15 : Int) (a16 : Int) (K : Bool →
  Prop) : impl_Melt_isCell.wp a1 a2 a3 a4 a5 a6 a7 a8 a9 a10 a11 a12 a13 a14 a15 a16 K =
  (Go.K.melts.impl_ValidMelt.wp a1 a2 a3 a4 a5 a6 a7 a8 a9 a10 a11 a12 a13 a14 fun y1 =>
  Go.K.ifB y1
    (Go.K.melts.impl_within.wp a15 (0 : Int) (Go.IntKind.wrap Go.IntKind.i64 (a3 - (1 : Int))) fun y2 =>
      Go.K.ifB y2 (Go.K.melts.impl_within.wp a16 (0 : Int) (Go.IntKind.wrap Go.IntKind.i64 (a4 - (1 : Int))) fun y3 => K y3) (K Bool.false))
    (K Bool.false)) := impl_Melt_isCell.tx impl_ValidMelt.wp impl_within.wp a1 a2 a3 a4 a5 a6 a7 a8 a9 a10 a11 a12 a13 a14 a15 a16 K

theorem impl_place.tx  (a1 : Int) (a2 : Int) (a3 : Bool) (K : Int → Prop) : impl_place.bd  a1 a2 a3 K =
  (Go.K.ifB a3 (a2 ≠ (0 : Int) ∧ a2 ≠ (0 : Int) ∧ K (Int.tmod (Go.IntKind.wrap Go.IntKind.i64 (Int.tmod a1 a2 + a2)) a2))
  (K (Go.K.mmI Bool.false (Go.K.mmI Bool.true a1 (0 : Int)) (Go.IntKind.wrap Go.IntKind.i64 (a2 - (1 : Int)))))) := by kernel_rfl
theorem impl_place.eq (a1 : Int) (a2 : Int) (a3 : Bool) (K : Int → Prop) : impl_place.wp a1 a2 a3 K =
  (Go.K.ifB a3 (a2 ≠ (0 : Int) ∧ a2 ≠ (0 : Int) ∧ K (Int.tmod (Go.IntKind.wrap Go.IntKind.i64 (Int.tmod a1 a2 + a2)) a2))
  (K (Go.K.mmI Bool.false (Go.K.mmI Bool.true a1 (0 : Int)) (Go.IntKind.wrap Go.IntKind.i64 (a2 - (1 : Int)))))) := impl_place.tx  a1 a2 a3 K

theorem impl_Field_cell.tx (w_impl_place : Int → Int → Bool → (Int → Prop) → Prop) (a1 : List Nat) (a2 : Int) (a3 : Int) (a4 : Bool) (a5 : Int) (a6 : Int) (K : Int → Prop) : impl_Field_cell.bd w_impl_place a1 a2 a3 a4 a5 a6 K =
  (w_impl_place a5 a2 a4 fun y1 =>
  w_impl_place a6 a3 a4 fun y2 => K (Go.IntKind.wrap Go.IntKind.i64 (y1 + Go.IntKind.wrap Go.IntKind.i64 (a2 * y2)))) := by kernel_rfl
theorem impl_Field_cell.eq (a1 : List Nat) (a2 : Int) (a3 : Int) (a4 : Bool) (a5 : Int) (a6 : Int) (K : Int → Prop) : impl_Field_cell.wp a1 a2 a3 a4 a5 a6 K =
  (Go.K.melts.impl_place.wp a5 a2 a4 fun y1 =>
  Go.K.melts.impl_place.wp a6 a3 a4 fun y2 => K (Go.IntKind.wrap Go.IntKind.i64 (y1 + Go.IntKind.wrap Go.IntKind.i64 (a2 * y2)))) := impl_Field_cell.tx impl_place.wp a1 a2 a3 a4 a5 a6 K

theorem impl_Field_about.tx (w_impl_Field_cell : List Nat → Int → Int → Bool → Int → Int → (Int → Prop) → Prop) (a1 : List Nat) (a2 : Int) (a3 : Int) (a4 : Bool) (a5 : Int) (a6 : Int) (K : Nat → Prop) : impl_Field_about.bd w_impl_Field_cell a1 a2 a3 a4 a5 a6 K =
  (w_impl_Field_cell a1 a2 a3 a4 a5 a6 fun y1 => ((0 : Int) ≤ y1 ∧ y1 < (↑(List.length a1) : Int)) ∧ K (List.getD a1 (Int.toNat y1) (0 : Nat))) := by kernel_rfl
theorem impl_Field_about.eq (a1 : List Nat) (a2 : Int) (a3 : Int) (a4 : Bool) (a5 : Int) (a6 : Int) (K : Nat → Prop) : impl_Field_about.wp a1 a2 a3 a4 a5 a6 K =
  (Go.K.melts.impl_Field_cell.wp a1 a2 a3 a4 a5 a6 fun y1 => ((0 : Int) ≤ y1 ∧ y1 < (↑(List.length a1) : Int)) ∧ K (List.getD a1 (Int.toNat y1) (0 : Nat))) := impl_Field_about.tx impl_Field_cell.wp a1 a2 a3 a4 a5 a6 K

theorem impl_Field_slopes.tx (w_impl_Field_about : List Nat → Int → Int → Bool → Int → Int → (Nat → Prop) → Prop) (a1 : List Nat) (a2 : Int) (a3 : Int) (a4 : Bool) (a5 : Int) (a6 : Int) (K : Nat → Nat → Prop) : impl_Field_slopes.bd w_impl_Field_about a1 a2 a3 a4 a5 a6 K =
  (w_impl_Field_about a1 a2 a3 a4 (Go.IntKind.wrap Go.IntKind.i64 (a5 + (1 : Int))) a6 fun y1 =>
  w_impl_Field_about a1 a2 a3 a4 (Go.IntKind.wrap Go.IntKind.i64 (a5 - (1 : Int))) a6 fun y2 =>
    w_impl_Field_about a1 a2 a3 a4 a5 (Go.IntKind.wrap Go.IntKind.i64 (a6 + (1 : Int))) fun y3 =>
      w_impl_Field_about a1 a2 a3 a4 a5 (Go.IntKind.wrap Go.IntKind.i64 (a6 - (1 : Int))) fun y4 =>
        K (Go.K.farith Go.BinOp.mul Go.FloatKind.f32 (1056964608 : Nat) (Go.K.farith Go.BinOp.sub Go.FloatKind.f32 y1 y2))
          (Go.K.farith Go.BinOp.mul Go.FloatKind.f32 (1056964608 : Nat) (Go.K.farith Go.BinOp.sub Go.FloatKind.f32 y3 y4))) := by kernel_rfl
theorem impl_Field_slopes.eq (a1 : List Nat) (a2 : Int) (a3 : Int) (a4 : Bool) (a5 : Int) (a6 : Int) (K : Nat → Nat → Prop) : impl_Field_slopes.wp a1 a2 a3 a4 a5 a6 K =
  (Go.K.melts.impl_Field_about.wp a1 a2 a3 a4 (Go.IntKind.wrap Go.IntKind.i64 (a5 + (1 : Int))) a6 fun y1 =>
  Go.K.melts.impl_Field_about.wp a1 a2 a3 a4 (Go.IntKind.wrap Go.IntKind.i64 (a5 - (1 : Int))) a6 fun y2 =>
    Go.K.melts.impl_Field_about.wp a1 a2 a3 a4 a5 (Go.IntKind.wrap Go.IntKind.i64 (a6 + (1 : Int))) fun y3 =>
      Go.K.melts.impl_Field_about.wp a1 a2 a3 a4 a5 (Go.IntKind.wrap Go.IntKind.i64 (a6 - (1 : Int))) fun y4 =>
        K (Go.K.farith Go.BinOp.mul Go.FloatKind.f32 (1056964608 : Nat) (Go.K.farith Go.BinOp.sub Go.FloatKind.f32 y1 y2))
          (Go.K.farith Go.BinOp.mul Go.FloatKind.f32 (1056964608 : Nat) (Go.K.farith Go.BinOp.sub Go.FloatKind.f32 y3 y4))) := impl_Field_slopes.tx impl_Field_about.wp a1 a2 a3 a4 a5 a6 K

theorem impl_angle.tx (w_math_Abs : Nat → (Nat → Prop) → Prop) (w_math_Sqrt : Nat → (Nat → Prop) → Prop) (a1 : Nat) (a2 : Nat) (K : Nat → Prop) : impl_angle.bd w_math_Abs w_math_Sqrt a1 a2 K =
  (w_math_Abs a1 fun y1 =>
  w_math_Abs a2 fun y2 =>
    ∀ (J3 : Nat → Nat → Nat → Prop),
      (∀ (x4 x5 x6 : Nat),
          (∀ (J7 : Nat → Nat → Nat → Int → Prop),
              (∀ (x8 x9 x10 : Nat) (x11 : Int),
                  Go.K.ifB (Decidable.decide (x11 < (3 : Int)))
                      (w_math_Sqrt (Go.K.farith Go.BinOp.add Go.FloatKind.f64 (4607182418800017408 : Nat) (Go.K.farith Go.BinOp.mul Go.FloatKind.f64 x10 x10))
                        fun y12 =>
                        J7 x8 x9 (Go.K.farith Go.BinOp.quo Go.FloatKind.f64 x10 (Go.K.farith Go.BinOp.add Go.FloatKind.f64 (4607182418800017408 : Nat) y12))
                          (Go.IntKind.wrap Go.IntKind.i64 (x11 + (1 : Int))))
                      (∀ (J13 : Nat → Nat → Nat → Nat → Nat → Int → Prop),
                        (∀ (x14 x15 x16 x17 x18 : Nat) (x19 : Int),
                            Go.K.ifB (Decidable.decide (x19 ≥ (1 : Int)))
                                (J13 x14 x15 x16 x17
                                  (Go.K.farith Go.BinOp.sub Go.FloatKind.f64
                                    (Go.K.farith Go.BinOp.quo Go.FloatKind.f64 (4607182418800017408 : Nat) (Go.K.fofint Go.FloatKind.f64 x19))
                                    (Go.K.farith Go.BinOp.mul Go.FloatKind.f64 x17 x18))
                                  (Go.IntKind.wrap Go.IntKind.i64 (x19 - (2 : Int))))
                                (Go.K.ifB (Go.K.fgt Go.FloatKind.f64 x14 x15)
                                  (Go.K.ifB (Go.K.flt Go.FloatKind.f64 a2 (0 : Nat))
                                    (Go.K.ifB (Go.K.flt Go.FloatKind.f64 a1 (0 : Nat))
                                      (K
                                        (Go.K.fneg Go.FloatKind.f64
                                          (Go.K.farith Go.BinOp.sub Go.FloatKind.f64 (4602678819172646912 : Nat)
                                            (Go.K.farith Go.BinOp.sub Go.FloatKind.f64 (4598175219545276416 : Nat)
                                              (Go.K.farith Go.BinOp.quo Go.FloatKind.f64
                                                (Go.K.farith Go.BinOp.mul Go.FloatKind.f64 (4620693217682128896 : Nat) (Go.K.farith Go.BinOp.mul Go.FloatKind.f64 x16 x18))
                                                (4618760256179416344 : Nat))))))
                                      (K
                                        (Go.K.farith Go.BinOp.sub Go.FloatKind.f64 (4602678819172646912 : Nat)
                                          (Go.K.farith Go.BinOp.sub Go.FloatKind.f64 (4598175219545276416 : Nat)
                                            (Go.K.farith Go.BinOp.quo Go.FloatKind.f64
                                              (Go.K.farith Go.BinOp.mul Go.FloatKind.f64 (4620693217682128896 : Nat) (Go.K.farith Go.BinOp.mul Go.FloatKind.f64 x16 x18))
                                              (4618760256179416344 : Nat))))))
                                    (Go.K.ifB (Go.K.flt Go.FloatKind.f64 a1 (0 : Nat))
                                      (K
                                        (Go.K.fneg Go.FloatKind.f64
                                          (Go.K.farith Go.BinOp.sub Go.FloatKind.f64 (4598175219545276416 : Nat)
                                            (Go.K.farith Go.BinOp.quo Go.FloatKind.f64
                                              (Go.K.farith Go.BinOp.mul Go.FloatKind.f64 (4620693217682128896 : Nat) (Go.K.farith Go.BinOp.mul Go.FloatKind.f64 x16 x18))
                                              (4618760256179416344 : Nat)))))
                                      (K
                                        (Go.K.farith Go.BinOp.sub Go.FloatKind.f64 (4598175219545276416 : Nat)
                                          (Go.K.farith Go.BinOp.quo Go.FloatKind.f64
                                            (Go.K.farith Go.BinOp.mul Go.FloatKind.f64 (4620693217682128896 : Nat) (Go.K.farith Go.BinOp.mul Go.FloatKind.f64 x16 x18))
                                            (4618760256179416344 : Nat))))))
                                  (Go.K.ifB (Go.K.flt Go.FloatKind.f64 a2 (0 : Nat))
                                    (Go.K.ifB (Go.K.flt Go.FloatKind.f64 a1 (0 : Nat))
                                      (K
                                        (Go.K.fneg Go.FloatKind.f64
                                          (Go.K.farith Go.BinOp.sub Go.FloatKind.f64 (4602678819172646912 : Nat)
                                            (Go.K.farith Go.BinOp.quo Go.FloatKind.f64
                                              (Go.K.farith Go.BinOp.mul Go.FloatKind.f64 (4620693217682128896 : Nat) (Go.K.farith Go.BinOp.mul Go.FloatKind.f64 x16 x18))
                                              (4618760256179416344 : Nat)))))
                                      (K
                                        (Go.K.farith Go.BinOp.sub Go.FloatKind.f64 (4602678819172646912 : Nat)
                                          (Go.K.farith Go.BinOp.quo Go.FloatKind.f64
                                            (Go.K.farith Go.BinOp.mul Go.FloatKind.f64 (4620693217682128896 : Nat) (Go.K.farith Go.BinOp.mul Go.FloatKind.f64 x16 x18))
                                            (4618760256179416344 : Nat)))))
                                    (Go.K.ifB (Go.K.flt Go.FloatKind.f64 a1 (0 : Nat))
                                      (K
                                        (Go.K.fneg Go.FloatKind.f64
                                          (Go.K.farith Go.BinOp.quo Go.FloatKind.f64
                                            (Go.K.farith Go.BinOp.mul Go.FloatKind.f64 (4620693217682128896 : Nat) (Go.K.farith Go.BinOp.mul Go.FloatKind.f64 x16 x18))
                                            (4618760256179416344 : Nat))))
                                      (K
                                        (Go.K.farith Go.BinOp.quo Go.FloatKind.f64
                                          (Go.K.farith Go.BinOp.mul Go.FloatKind.f64 (4620693217682128896 : Nat) (Go.K.farith Go.BinOp.mul Go.FloatKind.f64 x16 x18))
                                          (4618760256179416344 : Nat)))))) →
                              J13 x14 x15 x16 x17 x18 x19) →
                          J13 x8 x9 x10 (Go.K.farith Go.BinOp.mul Go.FloatKind.f64 x10 x10) (0 : Nat) (15 : Int)) →
                    J7 x8 x9 x10 x11) →
                J7 x4 x5 x6 (0 : Int)) →
            J3 x4 x5 x6) →
        Go.K.ifB (Go.K.fgt Go.FloatKind.f64 y1 y2) (J3 y1 y2 (Go.K.farith Go.BinOp.quo Go.FloatKind.f64 y2 y1))
          (J3 y1 y2 (Go.K.farith Go.BinOp.quo Go.FloatKind.f64 y1 y2))) := by kernel_rfl
theorem impl_angle.eq (a1 : Nat) (a2 : Nat) (K : Nat → Prop) : impl_angle.wp a1 a2 K =
  (Go.K.melts.math_Abs.wp a1 fun y1 =>
  Go.K.melts.math_Abs.wp a2 fun y2 =>
    ∀ (J3 : Nat → Nat → Nat → Prop),
      (∀ (x4 x5 x6 : Nat),
          (∀ (J7 : Nat → Nat → Nat → Int → Prop),
              (∀ (x8 x9 x10 : Nat) (x11 : Int),
                  Go.K.ifB (Decidable.decide (x11 < (3 : Int)))
                      (Go.K.melts.math_Sqrt.wp (Go.K.farith Go.BinOp.add Go.FloatKind.f64 (4607182418800017408 : Nat) (Go.K.farith Go.BinOp.mul Go.FloatKind.f64 x10 x10))
                        fun y12 =>
                        J7 x8 x9 (Go.K.farith Go.BinOp.quo Go.FloatKind.f64 x10 (Go.K.farith Go.BinOp.add Go.FloatKind.f64 (4607182418800017408 : Nat) y12))
                          (Go.IntKind.wrap Go.IntKind.i64 (x11 + (1 : Int))))
                      (∀ (J13 : Nat → Nat → Nat → Nat → Nat → Int → Prop),
                        (∀ (x14 x15 x16 x17 x18 : Nat) (x19 : Int),
                            Go.K.ifB (Decidable.decide (x19 ≥ (1 : Int)))
                                (J13 x14 x15 x16 x17
                                  (Go.K.farith Go.BinOp.sub Go.FloatKind.f64
                                    (Go.K.farith Go.BinOp.quo Go.FloatKind.f64 (4607182418800017408 : Nat) (Go.K.fofint Go.FloatKind.f64 x19))
                                    (Go.K.farith Go.BinOp.mul Go.FloatKind.f64 x17 x18))
                                  (Go.IntKind.wrap Go.IntKind.i64 (x19 - (2 : Int))))
                                (Go.K.ifB (Go.K.fgt Go.FloatKind.f64 x14 x15)
                                  (Go.K.ifB (Go.K.flt Go.FloatKind.f64 a2 (0 : Nat))
                                    (Go.K.ifB (Go.K.flt Go.FloatKind.f64 a1 (0 : Nat))
                                      (K
                                        (Go.K.fneg Go.FloatKind.f64
                                          (Go.K.farith Go.BinOp.sub Go.FloatKind.f64 (4602678819172646912 : Nat)
                                            (Go.K.farith Go.BinOp.sub Go.FloatKind.f64 (4598175219545276416 : Nat)
                                              (Go.K.farith Go.BinOp.quo Go.FloatKind.f64
                                                (Go.K.farith Go.BinOp.mul Go.FloatKind.f64 (4620693217682128896 : Nat) (Go.K.farith Go.BinOp.mul Go.FloatKind.f64 x16 x18))
                                                (4618760256179416344 : Nat))))))
                                      (K
                                        (Go.K.farith Go.BinOp.sub Go.FloatKind.f64 (4602678819172646912 : Nat)
                                          (Go.K.farith Go.BinOp.sub Go.FloatKind.f64 (4598175219545276416 : Nat)
                                            (Go.K.farith Go.BinOp.quo Go.FloatKind.f64
                                              (Go.K.farith Go.BinOp.mul Go.FloatKind.f64 (4620693217682128896 : Nat) (Go.K.farith Go.BinOp.mul Go.FloatKind.f64 x16 x18))
                                              (4618760256179416344 : Nat))))))
                                    (Go.K.ifB (Go.K.flt Go.FloatKind.f64 a1 (0 : Nat))
                                      (K
                                        (Go.K.fneg Go.FloatKind.f64
                                          (Go.K.farith Go.BinOp.sub Go.FloatKind.f64 (4598175219545276416 : Nat)
                                            (Go.K.farith Go.BinOp.quo Go.FloatKind.f64
                                              (Go.K.farith Go.BinOp.mul Go.FloatKind.f64 (4620693217682128896 : Nat) (Go.K.farith Go.BinOp.mul Go.FloatKind.f64 x16 x18))
                                              (4618760256179416344 : Nat)))))
                                      (K
                                        (Go.K.farith Go.BinOp.sub Go.FloatKind.f64 (4598175219545276416 : Nat)
                                          (Go.K.farith Go.BinOp.quo Go.FloatKind.f64
                                            (Go.K.farith Go.BinOp.mul Go.FloatKind.f64 (4620693217682128896 : Nat) (Go.K.farith Go.BinOp.mul Go.FloatKind.f64 x16 x18))
                                            (4618760256179416344 : Nat))))))
                                  (Go.K.ifB (Go.K.flt Go.FloatKind.f64 a2 (0 : Nat))
                                    (Go.K.ifB (Go.K.flt Go.FloatKind.f64 a1 (0 : Nat))
                                      (K
                                        (Go.K.fneg Go.FloatKind.f64
                                          (Go.K.farith Go.BinOp.sub Go.FloatKind.f64 (4602678819172646912 : Nat)
                                            (Go.K.farith Go.BinOp.quo Go.FloatKind.f64
                                              (Go.K.farith Go.BinOp.mul Go.FloatKind.f64 (4620693217682128896 : Nat) (Go.K.farith Go.BinOp.mul Go.FloatKind.f64 x16 x18))
                                              (4618760256179416344 : Nat)))))
                                      (K
                                        (Go.K.farith Go.BinOp.sub Go.FloatKind.f64 (4602678819172646912 : Nat)
                                          (Go.K.farith Go.BinOp.quo Go.FloatKind.f64
                                            (Go.K.farith Go.BinOp.mul Go.FloatKind.f64 (4620693217682128896 : Nat) (Go.K.farith Go.BinOp.mul Go.FloatKind.f64 x16 x18))
                                            (4618760256179416344 : Nat)))))
                                    (Go.K.ifB (Go.K.flt Go.FloatKind.f64 a1 (0 : Nat))
                                      (K
                                        (Go.K.fneg Go.FloatKind.f64
                                          (Go.K.farith Go.BinOp.quo Go.FloatKind.f64
                                            (Go.K.farith Go.BinOp.mul Go.FloatKind.f64 (4620693217682128896 : Nat) (Go.K.farith Go.BinOp.mul Go.FloatKind.f64 x16 x18))
                                            (4618760256179416344 : Nat))))
                                      (K
                                        (Go.K.farith Go.BinOp.quo Go.FloatKind.f64
                                          (Go.K.farith Go.BinOp.mul Go.FloatKind.f64 (4620693217682128896 : Nat) (Go.K.farith Go.BinOp.mul Go.FloatKind.f64 x16 x18))
                                          (4618760256179416344 : Nat)))))) →
                              J13 x14 x15 x16 x17 x18 x19) →
                          J13 x8 x9 x10 (Go.K.farith Go.BinOp.mul Go.FloatKind.f64 x10 x10) (0 : Nat) (15 : Int)) →
                    J7 x8 x9 x10 x11) →
                J7 x4 x5 x6 (0 : Int)) →
            J3 x4 x5 x6) →
        Go.K.ifB (Go.K.fgt Go.FloatKind.f64 y1 y2) (J3 y1 y2 (Go.K.farith Go.BinOp.quo Go.FloatKind.f64 y2 y1))
          (J3 y1 y2 (Go.K.farith Go.BinOp.quo Go.FloatKind.f64 y1 y2))) := impl_angle.tx math_Abs.wp math_Sqrt.wp a1 a2 K

theorem impl_AngleTurns.tx (w_impl_IsFinite : Nat → (Bool → Prop) → Prop) (w_math_NaN : (Nat → Prop) → Prop) (w_impl_angle : Nat → Nat → (Nat → Prop) → Prop) (a1 : Nat) (a2 : Nat) (K : Nat → Prop) : impl_AngleTurns.bd w_impl_IsFinite w_math_NaN w_impl_angle a1 a2 K =
  (w_impl_IsFinite a1 fun y1 =>
  Go.K.ifB (!y1) (w_math_NaN fun y2 => Go.K.fitsF Go.FloatKind.f64 Go.FloatKind.f32 y2 = Bool.true ∧ K (Go.K.fconv Go.FloatKind.f64 Go.FloatKind.f32 y2))
    (w_impl_IsFinite a2 fun y3 =>
      Go.K.ifB (!y3) (w_math_NaN fun y4 => Go.K.fitsF Go.FloatKind.f64 Go.FloatKind.f32 y4 = Bool.true ∧ K (Go.K.fconv Go.FloatKind.f64 Go.FloatKind.f32 y4))
        (Go.K.ifB (Go.K.feq Go.FloatKind.f32 a1 (0 : Nat))
          (Go.K.ifB (Go.K.feq Go.FloatKind.f32 a2 (0 : Nat)) (K (0 : Nat))
            (w_impl_angle (Go.K.fconv Go.FloatKind.f32 Go.FloatKind.f64 a1) (Go.K.fconv Go.FloatKind.f32 Go.FloatKind.f64 a2) fun y5 =>
              Go.K.fitsF Go.FloatKind.f64 Go.FloatKind.f32 y5 = Bool.true ∧ K (Go.K.fconv Go.FloatKind.f64 Go.FloatKind.f32 y5)))
          (w_impl_angle (Go.K.fconv Go.FloatKind.f32 Go.FloatKind.f64 a1) (Go.K.fconv Go.FloatKind.f32 Go.FloatKind.f64 a2) fun y6 =>
            Go.K.fitsF Go.FloatKind.f64 Go.FloatKind.f32 y6 = Bool.true ∧ K (Go.K.fconv Go.FloatKind.f64 Go.FloatKind.f32 y6))))) := by kernel_rfl
theorem impl_AngleTurns.eq (a1 : Nat) (a2 : Nat) (K : Nat → Prop) : impl_AngleTurns.wp a1 a2 K =
  (Go.K.melts.impl_IsFinite.wp a1 fun y1 =>
  Go.K.ifB (!y1) (Go.K.melts.math_NaN.wp fun y2 => Go.K.fitsF Go.FloatKind.f64 Go.FloatKind.f32 y2 = Bool.true ∧ K (Go.K.fconv Go.FloatKind.f64 Go.FloatKind.f32 y2))
    (Go.K.melts.impl_IsFinite.wp a2 fun y3 =>
      Go.K.ifB (!y3) (Go.K.melts.math_NaN.wp fun y4 => Go.K.fitsF Go.FloatKind.f64 Go.FloatKind.f32 y4 = Bool.true ∧ K (Go.K.fconv Go.FloatKind.f64 Go.FloatKind.f32 y4))
        (Go.K.ifB (Go.K.feq Go.FloatKind.f32 a1 (0 : Nat))
          (Go.K.ifB (Go.K.feq Go.FloatKind.f32 a2 (0 : Nat)) (K (0 : Nat))
            (Go.K.melts.impl_angle.wp (Go.K.fconv Go.FloatKind.f32 Go.FloatKind.f64 a1) (Go.K.fconv Go.FloatKind.f32 Go.FloatKind.f64 a2) fun y5 =>
              Go.K.fitsF Go.FloatKind.f64 Go.FloatKind.f32 y5 = Bool.true ∧ K (Go.K.fconv Go.FloatKind.f64 Go.FloatKind.f32 y5)))
          (Go.K.melts.impl_angle.wp (Go.K.fconv Go.FloatKind.f32 Go.FloatKind.f64 a1) (Go.K.fconv Go.FloatKind.f32 Go.FloatKind.f64 a2) fun y6 =>
            Go.K.fitsF Go.FloatKind.f64 Go.FloatKind.f32 y6 = Bool.true ∧ K (Go.K.fconv Go.FloatKind.f64 Go.FloatKind.f32 y6))))) := impl_AngleTurns.tx impl_IsFinite.wp math_NaN.wp impl_angle.wp a1 a2 K

theorem impl_Melt_turn.tx (w_impl_Field_slopes : List Nat → Int → Int → Bool → Int → Int → (Nat → Nat → Prop) → Prop) (w_impl_AngleTurns : Nat → Nat → (Nat → Prop) → Prop) (a1 : List
  Nat) (a2 : List
  Nat) (a3 : Int) (a4 : Int) (a5 : Bool) (a6 : Int) (a7 : Int) (a8 : Bool) (a9 : Nat) (a10 : Nat) (a11 : Nat) (a12 : Nat) (a13 : Nat) (a14 : Int) (a15 : Int) (a16 : Int) (K : Nat →
  Prop) : impl_Melt_turn.bd w_impl_Field_slopes w_impl_AngleTurns a1 a2 a3 a4 a5 a6 a7 a8 a9 a10 a11 a12 a13 a14 a15 a16 K =
  (w_impl_Field_slopes a1 a3 a4 a5 a15 a16 fun y1 y2 => w_impl_AngleTurns y2 y1 fun y3 => K y3) := by kernel_rfl
theorem impl_Melt_turn.eq (a1 : List
  Nat) (a2 : List
  Nat) (a3 : Int) (a4 : Int) (a5 : Bool) (a6 : Int) (a7 : Int) (a8 : Bool) (a9 : Nat) (a10 : Nat) (a11 : Nat) (a12 : Nat) (a13 : Nat) (a14 : Int) (a15 : Int) (a16 : Int) (K : Nat →
  Prop) : impl_Melt_turn.wp a1 a2 a3 a4 a5 a6 a7 a8 a9 a10 a11 a12 a13 a14 a15 a16 K =
  (Go.K.melts.impl_Field_slopes.wp a1 a3 a4 a5 a15 a16 fun y1 y2 => Go.K.melts.impl_AngleTurns.wp y2 y1 fun y3 => K y3) := impl_Melt_turn.tx impl_Field_slopes.wp impl_AngleTurns.wp a1 a2 a3 a4 a5 a6 a7 a8 a9 a10 a11 a12 a13 a14 a15 a16 K

theorem impl_told.tx (w_impl_IsFinite : Nat → (Bool → Prop) → Prop) (a1 : Nat) (K : Nat → Bool → Prop) : impl_told.bd w_impl_IsFinite a1 K =
  (w_impl_IsFinite a1 fun y1 => Go.K.ifB (!y1) (K (0 : Nat) Bool.false) (K a1 Bool.true)) := by kernel_rfl
theorem impl_told.eq (a1 : Nat) (K : Nat → Bool → Prop) : impl_told.wp a1 K =
  (Go.K.melts.impl_IsFinite.wp a1 fun y1 => Go.K.ifB (!y1) (K (0 : Nat) Bool.false) (K a1 Bool.true)) := impl_told.tx impl_IsFinite.wp a1 K

theorem impl_Melt_toldAt__Melt_turn.tx (w_impl_Melt_isCell : List Nat → List Nat → Int → Int → Bool → Int → Int → Bool → Nat → Nat → Nat → Nat → Nat → Int → Int → Int → (Bool → Prop) → Prop) (w_impl_Melt_turn : List Nat → List Nat → Int → Int → Bool → Int → Int → Bool → Nat → Nat → Nat → Nat → Nat → Int → Int → Int → (Nat → Prop) → Prop) (w_impl_told : Nat → (Nat → Bool → Prop) → Prop) (a1 : List
  Nat) (a2 : List
  Nat) (a3 : List
  Nat) (a4 : List
  Nat) (a5 : Int) (a6 : Int) (a7 : Bool) (a8 : Int) (a9 : Int) (a10 : Bool) (a11 : Nat) (a12 : Nat) (a13 : Nat) (a14 : Nat) (a15 : Nat) (a16 : Int) (a17 : Int) (a18 : Int) (a19 : Int) (a20 : Int) (a21 : Bool) (a22 : Int) (a23 : Int) (a24 : Bool) (a25 : Nat) (a26 : Nat) (a27 : Nat) (a28 : Nat) (a29 : Nat) (a30 : Int) (K : Nat →
  Bool → Prop) : impl_Melt_toldAt__Melt_turn.bd w_impl_Melt_isCell w_impl_Melt_turn w_impl_told a1 a2 a3 a4 a5 a6 a7 a8 a9 a10 a11 a12 a13 a14 a15 a16 a17 a18 a19 a20 a21 a22 a23 a24 a25 a26 a27 a28 a29 a30 K =
  (w_impl_Melt_isCell a1 a2 a5 a6 a7 a8 a9 a10 a11 a12 a13 a14 a15 a16 a17 a18 fun y1 =>
  Go.K.ifB (!y1) (K (0 : Nat) Bool.false)
    (w_impl_Melt_turn a3 a4 a19 a20 a21 a22 a23 a24 a25 a26 a27 a28 a29 a30 a17 a18 fun y2 => w_impl_told y2 fun y3 y4 => K y3 y4)) := by kernel_rfl
theorem impl_Melt_toldAt__Melt_turn.eq (a1 : List
  Nat) (a2 : List
  Nat) (a3 : List
  Nat) (a4 : List
  Nat) (a5 : Int) (a6 : Int) (a7 : Bool) (a8 : Int) (a9 : Int) (a10 : Bool) (a11 : Nat) (a12 : Nat) (a13 : Nat) (a14 : Nat) (a15 : Nat) (a16 : Int) (a17 : Int) (a18 : Int) (a19 : Int) (a20 : Int) (a21 : Bool) (a22 : Int) (a23 : Int) (a24 : Bool) (a25 : Nat) (a26 : Nat) (a27 : Nat) (a28 : Nat) (a29 : Nat) (a30 : Int) (K : Nat →
  Bool → Prop) : impl_Melt_toldAt__Melt_turn.wp a1 a2 a3 a4 a5 a6 a7 a8 a9 a10 a11 a12 a13 a14 a15 a16 a17 a18 a19 a20 a21 a22 a23 a24 a25 a26 a27 a28 a29 a30 K =
  (Go.K.melts.impl_Melt_isCell.wp a1 a2 a5 a6 a7 a8 a9 a10 a11 a12 a13 a14 a15 a16 a17 a18 fun y1 =>
  Go.K.ifB (!y1) (K (0 : Nat) Bool.false)
    (Go.K.melts.impl_Melt_turn.wp a3 a4 a19 a20 a21 a22 a23 a24 a25 a26 a27 a28 a29 a30 a17 a18 fun y2 => Go.K.melts.impl_told.wp y2 fun y3 y4 => K y3 y4)) := impl_Melt_toldAt__Melt_turn.tx impl_Melt_isCell.wp impl_Melt_turn.wp impl_told.wp a1 a2 a3 a4 a5 a6 a7 a8 a9 a10 a11 a12 a13 a14 a15 a16 a17 a18 a19 a20 a21 a22 a23 a24 a25 a26 a27 a28 a29 a30 K

theorem impl_TurnAt.tx (w_impl_Melt_toldAt__Melt_turn : List Nat → List Nat → List Nat → List Nat → Int → Int → Bool → Int → Int → Bool → Nat → Nat → Nat → Nat → Nat → Int → Int → Int → Int → Int → Bool → Int → Int → Bool → Nat → Nat → Nat → Nat → Nat → Int → (Nat → Bool → Prop) → Prop) (a1 : List
  Nat) (a2 : List
  Nat) (a3 : Int) (a4 : Int) (a5 : Bool) (a6 : Int) (a7 : Int) (a8 : Bool) (a9 : Nat) (a10 : Nat) (a11 : Nat) (a12 : Nat) (a13 : Nat) (a14 : Int) (a15 : Int) (a16 : Int) (K : Nat →
  Bool → Prop) : impl_TurnAt.bd w_impl_Melt_toldAt__Melt_turn a1 a2 a3 a4 a5 a6 a7 a8 a9 a10 a11 a12 a13 a14 a15 a16 K =
  (w_impl_Melt_toldAt__Melt_turn a1 a2 a1 a2 a3 a4 a5 a6 a7 a8 a9 a10 a11 a12 a13 a14 a15 a16 a3 a4 a5 a6 a7 a8 a9 a10 a11 a12 a13 a14 fun y1 y2 =>
  K y1 y2) := by kernel_rfl
theorem impl_TurnAt.eq (a1 : List
  Nat) (a2 : List
  Nat) (a3 : Int) (a4 : Int) (a5 : Bool) (a6 : Int) (a7 : Int) (a8 : Bool) (a9 : Nat) (a10 : Nat) (a11 : Nat) (a12 : Nat) (a13 : Nat) (a14 : Int) (a15 : Int) (a16 : Int) (K : Nat →
  Bool → Prop) : impl_TurnAt.wp a1 a2 a3 a4 a5 a6 a7 a8 a9 a10 a11 a12 a13 a14 a15 a16 K =
  (Go.K.melts.impl_Melt_toldAt__Melt_turn.wp a1 a2 a1 a2 a3 a4 a5 a6 a7 a8 a9 a10 a11 a12 a13 a14 a15 a16 a3 a4 a5 a6 a7 a8 a9 a10 a11 a12 a13 a14 fun y1 y2 =>
  K y1 y2) := impl_TurnAt.tx impl_Melt_toldAt__Melt_turn.wp a1 a2 a3 a4 a5 a6 a7 a8 a9 a10 a11 a12 a13 a14 a15 a16 K

theorem laws_sameFloat.tx  (a1 : Nat) (a2 : Nat) (K : Bool → Prop) : laws_sameFloat.bd  a1 a2 K =
  (Go.K.ifB (Go.K.fne Go.FloatKind.f64 a1 a1) (Go.K.ifB (Go.K.fne Go.FloatKind.f64 a1 a1) (K (Go.K.fne Go.FloatKind.f64 a2 a2)) (K Bool.false))
  (Go.K.ifB (Go.K.fne Go.FloatKind.f64 a2 a2) (Go.K.ifB (Go.K.fne Go.FloatKind.f64 a1 a1) (K (Go.K.fne Go.FloatKind.f64 a2 a2)) (K Bool.false))
    (Go.K.ifB (Go.K.feq Go.FloatKind.f64 a1 (0 : Nat))
      (Go.K.ifB (Go.K.feq Go.FloatKind.f64 a2 (0 : Nat))
        (K
          (Go.K.fgt Go.FloatKind.f64 (Go.K.farith Go.BinOp.quo Go.FloatKind.f64 (4607182418800017408 : Nat) a1) (0 : Nat) ==
            Go.K.fgt Go.FloatKind.f64 (Go.K.farith Go.BinOp.quo Go.FloatKind.f64 (4607182418800017408 : Nat) a2) (0 : Nat)))
        (K (Go.K.feq Go.FloatKind.f64 a1 a2)))
      (K (Go.K.feq Go.FloatKind.f64 a1 a2))))) := by kernel_rfl
theorem laws_sameFloat.eq (a1 : Nat) (a2 : Nat) (K : Bool → Prop) : laws_sameFloat.wp a1 a2 K =
  (Go.K.ifB (Go.K.fne Go.FloatKind.f64 a1 a1) (Go.K.ifB (Go.K.fne Go.FloatKind.f64 a1 a1) (K (Go.K.fne Go.FloatKind.f64 a2 a2)) (K Bool.false))
  (Go.K.ifB (Go.K.fne Go.FloatKind.f64 a2 a2) (Go.K.ifB (Go.K.fne Go.FloatKind.f64 a1 a1) (K (Go.K.fne Go.FloatKind.f64 a2 a2)) (K Bool.false))
    (Go.K.ifB (Go.K.feq Go.FloatKind.f64 a1 (0 : Nat))
      (Go.K.ifB (Go.K.feq Go.FloatKind.f64 a2 (0 : Nat))
        (K
          (Go.K.fgt Go.FloatKind.f64 (Go.K.farith Go.BinOp.quo Go.FloatKind.f64 (4607182418800017408 : Nat) a1) (0 : Nat) ==
            Go.K.fgt Go.FloatKind.f64 (Go.K.farith Go.BinOp.quo Go.FloatKind.f64 (4607182418800017408 : Nat) a2) (0 : Nat)))
        (K (Go.K.feq Go.FloatKind.f64 a1 a2)))
      (K (Go.K.feq Go.FloatKind.f64 a1 a2))))) := laws_sameFloat.tx  a1 a2 K

theorem laws_eqFloat32S.tx (w_laws_sameFloat : Nat → Nat → (Bool → Prop) → Prop) (a1 : List Nat) (a2 : List Nat) (K : Bool → Prop) : laws_eqFloat32S.bd w_laws_sameFloat a1 a2 K =
  (Go.K.ifB ((↑(List.length a1) : Int) != (↑(List.length a2) : Int)) (K Bool.false)
  (∀ (J1 : Int → Prop),
    (∀ (x2 : Int),
        Go.K.ifB (Decidable.decide (x2 < (↑(List.length a1) : Int)))
            (((0 : Int) ≤ x2 ∧ x2 < (↑(List.length a1) : Int)) ∧
              ((0 : Int) ≤ x2 ∧ x2 < (↑(List.length a2) : Int)) ∧
                w_laws_sameFloat (Go.K.fconv Go.FloatKind.f32 Go.FloatKind.f64 (List.getD a1 (Int.toNat x2) (0 : Nat)))
                  (Go.K.fconv Go.FloatKind.f32 Go.FloatKind.f64 (List.getD a2 (Int.toNat x2) (0 : Nat))) fun y3 =>
                  Go.K.ifB (!y3) (K Bool.false) (J1 (Go.IntKind.wrap Go.IntKind.i64 (x2 + (1 : Int)))))
            (K Bool.true) →
          J1 x2) →
      J1 (0 : Int))) := by kernel_rfl
theorem laws_eqFloat32S.eq (a1 : List Nat) (a2 : List Nat) (K : Bool → Prop) : laws_eqFloat32S.wp a1 a2 K =
  (Go.K.ifB ((↑(List.length a1) : Int) != (↑(List.length a2) : Int)) (K Bool.false)
  (∀ (J1 : Int → Prop),
    (∀ (x2 : Int),
        Go.K.ifB (Decidable.decide (x2 < (↑(List.length a1) : Int)))
            (((0 : Int) ≤ x2 ∧ x2 < (↑(List.length a1) : Int)) ∧
              ((0 : Int) ≤ x2 ∧ x2 < (↑(List.length a2) : Int)) ∧
                Go.K.melts.laws_sameFloat.wp (Go.K.fconv Go.FloatKind.f32 Go.FloatKind.f64 (List.getD a1 (Int.toNat x2) (0 : Nat)))
                  (Go.K.fconv Go.FloatKind.f32 Go.FloatKind.f64 (List.getD a2 (Int.toNat x2) (0 : Nat))) fun y3 =>
                  Go.K.ifB (!y3) (K Bool.false) (J1 (Go.IntKind.wrap Go.IntKind.i64 (x2 + (1 : Int)))))
            (K Bool.true) →
          J1 x2) →
      J1 (0 : Int))) := laws_eqFloat32S.tx laws_sameFloat.wp a1 a2 K

theorem laws_eqField.tx (w_laws_eqFloat32S : List Nat → List Nat → (Bool → Prop) → Prop) (a1 : List
  Nat) (a2 : List Nat) (a3 : Int) (a4 : Int) (a5 : Bool) (a6 : Int) (a7 : Int) (a8 : Bool) (K : Bool → Prop) : laws_eqField.bd w_laws_eqFloat32S a1 a2 a3 a4 a5 a6 a7 a8 K =
  (Go.K.ifB (a3 != a6) (K Bool.false)
  (Go.K.ifB (a4 != a7) (K Bool.false)
    (Go.K.ifB (a5 != a8) (K Bool.false) (w_laws_eqFloat32S a1 a2 fun y1 => Go.K.ifB (!y1) (K Bool.false) (K Bool.true))))) := by kernel_rfl
theorem laws_eqField.eq (a1 : List
  Nat) (a2 : List Nat) (a3 : Int) (a4 : Int) (a5 : Bool) (a6 : Int) (a7 : Int) (a8 : Bool) (K : Bool → Prop) : laws_eqField.wp a1 a2 a3 a4 a5 a6 a7 a8 K =
  (Go.K.ifB (a3 != a6) (K Bool.false)
  (Go.K.ifB (a4 != a7) (K Bool.false)
    (Go.K.ifB (a5 != a8) (K Bool.false) (Go.K.melts.laws_eqFloat32S.wp a1 a2 fun y1 => Go.K.ifB (!y1) (K Bool.false) (K Bool.true))))) := laws_eqField.tx laws_eqFloat32S.wp a1 a2 a3 a4 a5 a6 a7 a8 K

theorem laws_eqMelt.tx (w_laws_eqField : List Nat → List Nat → Int → Int → Bool → Int → Int → Bool → (Bool → Prop) → Prop) (w_laws_sameFloat : Nat → Nat → (Bool → Prop) → Prop) (a1 : List
  Nat) (a2 : List
  Nat) (a3 : List
  Nat) (a4 : List
  Nat) (a5 : Int) (a6 : Int) (a7 : Bool) (a8 : Int) (a9 : Int) (a10 : Bool) (a11 : Nat) (a12 : Nat) (a13 : Nat) (a14 : Nat) (a15 : Nat) (a16 : Int) (a17 : Int) (a18 : Int) (a19 : Bool) (a20 : Int) (a21 : Int) (a22 : Bool) (a23 : Nat) (a24 : Nat) (a25 : Nat) (a26 : Nat) (a27 : Nat) (a28 : Int) (K : Bool →
  Prop) : laws_eqMelt.bd w_laws_eqField w_laws_sameFloat a1 a2 a3 a4 a5 a6 a7 a8 a9 a10 a11 a12 a13 a14 a15 a16 a17 a18 a19 a20 a21 a22 a23 a24 a25 a26 a27 a28 K =
  (w_laws_eqField a1 a3 a5 a6 a7 a17 a18 a19 fun y1 =>
  Go.K.ifB (!y1) (K Bool.false)
    (w_laws_eqField a2 a4 a8 a9 a10 a20 a21 a22 fun y2 =>
      Go.K.ifB (!y2) (K Bool.false)
        (w_laws_sameFloat (Go.K.fconv Go.FloatKind.f32 Go.FloatKind.f64 a11) (Go.K.fconv Go.FloatKind.f32 Go.FloatKind.f64 a23) fun y3 =>
          Go.K.ifB (!y3) (K Bool.false)
            (w_laws_sameFloat (Go.K.fconv Go.FloatKind.f32 Go.FloatKind.f64 a12) (Go.K.fconv Go.FloatKind.f32 Go.FloatKind.f64 a24) fun y4 =>
              Go.K.ifB (!y4) (K Bool.false)
                (w_laws_sameFloat (Go.K.fconv Go.FloatKind.f32 Go.FloatKind.f64 a13) (Go.K.fconv Go.FloatKind.f32 Go.FloatKind.f64 a25) fun y5 =>
                  Go.K.ifB (!y5) (K Bool.false)
                    (w_laws_sameFloat (Go.K.fconv Go.FloatKind.f32 Go.FloatKind.f64 a14) (Go.K.fconv Go.FloatKind.f32 Go.FloatKind.f64 a26) fun y6 =>
                      Go.K.ifB (!y6) (K Bool.false)
                        (w_laws_sameFloat (Go.K.fconv Go.FloatKind.f32 Go.FloatKind.f64 a15) (Go.K.fconv Go.FloatKind.f32 Go.FloatKind.f64 a27) fun y7 =>
                          Go.K.ifB (!y7) (K Bool.false) (Go.K.ifB (a16 != a28) (K Bool.false) (K Bool.true))))))))) := by kernel_rfl
theorem laws_eqMelt.eq (a1 : List
  Nat) (a2 : List
  Nat) (a3 : List
  Nat) (a4 : List
  Nat) (a5 : Int) (a6 : Int) (a7 : Bool) (a8 : Int) (a9 : Int) (a10 : Bool) (a11 : Nat) (a12 : Nat) (a13 : Nat) (a14 : Nat) (a15 : Nat) (a16 : Int) (a17 : Int) (a18 : Int) (a19 : Bool) (a20 : Int) (a21 : Int) (a22 : Bool) (a23 : Nat) (a24 : Nat) (a25 : Nat) (a26 : Nat) (a27 : Nat) (a28 : Int) (K : Bool →
  Prop) : laws_eqMelt.wp a1 a2 a3 a4 a5 a6 a7 a8 a9 a10 a11 a12 a13 a14 a15 a16 a17 a18 a19 a20 a21 a22 a23 a24 a25 a26 a27 a28 K =
  (Go.K.melts.laws_eqField.wp a1 a3 a5 a6 a7 a17 a18 a19 fun y1 =>
  Go.K.ifB (!y1) (K Bool.false)
    (Go.K.melts.laws_eqField.wp a2 a4 a8 a9 a10 a20 a21 a22 fun y2 =>
      Go.K.ifB (!y2) (K Bool.false)
        (Go.K.melts.laws_sameFloat.wp (Go.K.fconv Go.FloatKind.f32 Go.FloatKind.f64 a11) (Go.K.fconv Go.FloatKind.f32 Go.FloatKind.f64 a23) fun y3 =>
          Go.K.ifB (!y3) (K Bool.false)
            (Go.K.melts.laws_sameFloat.wp (Go.K.fconv Go.FloatKind.f32 Go.FloatKind.f64 a12) (Go.K.fconv Go.FloatKind.f32 Go.FloatKind.f64 a24) fun y4 =>
              Go.K.ifB (!y4) (K Bool.false)
                (Go.K.melts.laws_sameFloat.wp (Go.K.fconv Go.FloatKind.f32 Go.FloatKind.f64 a13) (Go.K.fconv Go.FloatKind.f32 Go.FloatKind.f64 a25) fun y5 =>
                  Go.K.ifB (!y5) (K Bool.false)
                    (Go.K.melts.laws_sameFloat.wp (Go.K.fconv Go.FloatKind.f32 Go.FloatKind.f64 a14) (Go.K.fconv Go.FloatKind.f32 Go.FloatKind.f64 a26) fun y6 =>
                      Go.K.ifB (!y6) (K Bool.false)
                        (Go.K.melts.laws_sameFloat.wp (Go.K.fconv Go.FloatKind.f32 Go.FloatKind.f64 a15) (Go.K.fconv Go.FloatKind.f32 Go.FloatKind.f64 a27) fun y7 =>
                          Go.K.ifB (!y7) (K Bool.false) (Go.K.ifB (a16 != a28) (K Bool.false) (K Bool.true))))))))) := laws_eqMelt.tx laws_eqField.wp laws_sameFloat.wp a1 a2 a3 a4 a5 a6 a7 a8 a9 a10 a11 a12 a13 a14 a15 a16 a17 a18 a19 a20 a21 a22 a23 a24 a25 a26 a27 a28 K

theorem laws_FnExactTurnAt.tx (w_laws_szMelt : List Nat → List Nat → Int → Int → Bool → Int → Int → Bool → Nat → Nat → Nat → Nat → Nat → Int → Int → (Int → Prop) → Prop) (w_laws_toMelt : List Nat → List Nat → Int → Int → Bool → Int → Int → Bool → Nat → Nat → Nat → Nat → Nat → Int → (List Nat → List Nat → Int → Int → Bool → Int → Int → Bool → Nat → Nat → Nat → Nat → Nat → Int → Prop) → Prop) (w_spec_TurnAt : List Nat → List Nat → Int → Int → Bool → Int → Int → Bool → Nat → Nat → Nat → Nat → Nat → Int → Int → Int → (Nat → Bool → Prop) → Prop) (w_impl_TurnAt : List Nat → List Nat → Int → Int → Bool → Int → Int → Bool → Nat → Nat → Nat → Nat → Nat → Int → Int → Int → (Nat → Bool → Prop) → Prop) (w_laws_sameFloat : Nat → Nat → (Bool → Prop) → Prop) (w_laws_eqMelt : List Nat → List Nat → List Nat → List Nat → Int → Int → Bool → Int → Int → Bool → Nat → Nat → Nat → Nat → Nat → Int → Int → Int → Bool → Int → Int → Bool → Nat → Nat → Nat → Nat → Nat → Int → (Bool → Prop) → Prop) (a1 : List
  Nat) (a2 : List
  Nat) (a3 : Int) (a4 : Int) (a5 : Bool) (a6 : Int) (a7 : Int) (a8 : Bool) (a9 : Nat) (a10 : Nat) (a11 : Nat) (a12 : Nat) (a13 : Nat) (a14 : Int) (a15 : Int) (a16 : Int) (K : Bool →
  Prop) : laws_FnExactTurnAt.bd w_laws_szMelt w_laws_toMelt w_spec_TurnAt w_impl_TurnAt w_laws_sameFloat w_laws_eqMelt a1 a2 a3 a4 a5 a6 a7 a8 a9 a10 a11 a12 a13 a14 a15 a16 K =
  (w_laws_szMelt a1 a2 a3 a4 a5 a6 a7 a8 a9 a10 a11 a12 a13 a14 (1048576 : Int) fun y1 =>
  Go.K.ifB (Decidable.decide (y1 < (0 : Int))) (K Bool.true)
    (w_laws_toMelt a1 a2 a3 a4 a5 a6 a7 a8 a9 a10 a11 a12 a13 a14 fun y2 y3 y4 y5 y6 y7 y8 y9 y10 y11 y12 y13 y14 y15 =>
      w_spec_TurnAt y2 y3 y4 y5 y6 y7 y8 y9 y10 y11 y12 y13 y14 y15 a15 a16 fun y16 y17 =>
        w_laws_toMelt a1 a2 a3 a4 a5 a6 a7 a8 a9 a10 a11 a12 a13 a14 fun y18 y19 y20 y21 y22 y23 y24 y25 y26 y27 y28 y29 y30 y31 =>
          w_impl_TurnAt y18 y19 y20 y21 y22 y23 y24 y25 y26 y27 y28 y29 y30 y31 a15 a16 fun y32 y33 =>
            w_laws_sameFloat (Go.K.fconv Go.FloatKind.f32 Go.FloatKind.f64 y32) (Go.K.fconv Go.FloatKind.f32 Go.FloatKind.f64 y16) fun y34 =>
              Go.K.ifB (!y34) (K Bool.false)
                (Go.K.ifB (y33 != y17) (K Bool.false)
                  (w_laws_toMelt a1 a2 a3 a4 a5 a6 a7 a8 a9 a10 a11 a12 a13 a14 fun y35 y36 y37 y38 y39 y40 y41 y42 y43 y44 y45 y46 y47 y48 =>
                    w_laws_eqMelt y18 y19 y35 y36 y20 y21 y22 y23 y24 y25 y26 y27 y28 y29 y30 y31 y37 y38 y39 y40 y41 y42 y43 y44 y45 y46 y47 y48 fun y49 =>
                      Go.K.ifB (!y49) (K Bool.false) (K Bool.true))))) := by kernel_rfl
theorem laws_FnExactTurnAt.eq (a1 : List
  Nat) (a2 : List
  Nat) (a3 : Int) (a4 : Int) (a5 : Bool) (a6 : Int) (a7 : Int) (a8 : Bool) (a9 : Nat) (a10 : Nat) (a11 : Nat) (a12 : Nat) (a13 : Nat) (a14 : Int) (a15 : Int) (a16 : Int) (K : Bool →
  Prop) : laws_FnExactTurnAt.wp a1 a2 a3 a4 a5 a6 a7 a8 a9 a10 a11 a12 a13 a14 a15 a16 K =
  (Go.K.melts.laws_szMelt.wp a1 a2 a3 a4 a5 a6 a7 a8 a9 a10 a11 a12 a13 a14 (1048576 : Int) fun y1 =>
  Go.K.ifB (Decidable.decide (y1 < (0 : Int))) (K Bool.true)
    (Go.K.melts.laws_toMelt.wp a1 a2 a3 a4 a5 a6 a7 a8 a9 a10 a11 a12 a13 a14 fun y2 y3 y4 y5 y6 y7 y8 y9 y10 y11 y12 y13 y14 y15 =>
      Go.K.melts.spec_TurnAt.wp y2 y3 y4 y5 y6 y7 y8 y9 y10 y11 y12 y13 y14 y15 a15 a16 fun y16 y17 =>
        Go.K.melts.laws_toMelt.wp a1 a2 a3 a4 a5 a6 a7 a8 a9 a10 a11 a12 a13 a14 fun y18 y19 y20 y21 y22 y23 y24 y25 y26 y27 y28 y29 y30 y31 =>
          Go.K.melts.impl_TurnAt.wp y18 y19 y20 y21 y22 y23 y24 y25 y26 y27 y28 y29 y30 y31 a15 a16 fun y32 y33 =>
            Go.K.melts.laws_sameFloat.wp (Go.K.fconv Go.FloatKind.f32 Go.FloatKind.f64 y32) (Go.K.fconv Go.FloatKind.f32 Go.FloatKind.f64 y16) fun y34 =>
              Go.K.ifB (!y34) (K Bool.false)
                (Go.K.ifB (y33 != y17) (K Bool.false)
                  (Go.K.melts.laws_toMelt.wp a1 a2 a3 a4 a5 a6 a7 a8 a9 a10 a11 a12 a13 a14 fun y35 y36 y37 y38 y39 y40 y41 y42 y43 y44 y45 y46 y47 y48 =>
                    Go.K.melts.laws_eqMelt.wp y18 y19 y35 y36 y20 y21 y22 y23 y24 y25 y26 y27 y28 y29 y30 y31 y37 y38 y39 y40 y41 y42 y43 y44 y45 y46 y47 y48 fun y49 =>
                      Go.K.ifB (!y49) (K Bool.false) (K Bool.true))))) := laws_FnExactTurnAt.tx laws_szMelt.wp laws_toMelt.wp spec_TurnAt.wp impl_TurnAt.wp laws_sameFloat.wp laws_eqMelt.wp a1 a2 a3 a4 a5 a6 a7 a8 a9 a10 a11 a12 a13 a14 a15 a16 K

theorem spec_l01SineWide.tx (w_math_NaN : (Nat → Prop) → Prop) (a1 : Nat) (K : Nat → Prop) : spec_l01SineWide.bd w_math_NaN a1 K =
  (Go.K.ifB (Go.K.fne Go.FloatKind.f64 (Go.K.farith Go.BinOp.sub Go.FloatKind.f64 a1 a1) (0 : Nat)) (w_math_NaN fun y1 => K y1)
  (Go.K.ifB (Go.K.fge Go.FloatKind.f64 a1 (4841369599423283200 : Nat)) (K (0 : Nat))
    (Go.K.ifB (Go.K.fle Go.FloatKind.f64 a1 (14064741636278059008 : Nat)) (K (0 : Nat))
      (Option.isSome (Go.K.ftoint Go.FloatKind.f64 a1 Go.IntKind.i64) = Bool.true ∧
        ∀ (J2 : Nat → Prop),
          (∀ (x3 : Nat),
              (∀ (J4 : Nat → Bool → Prop),
                  (∀ (x5 : Nat) (x6 : Bool),
                      (∀ (J7 : Nat → Bool → Prop),
                          (∀ (x8 : Nat) (x9 : Bool),
                              (∀ (J10 : Bool → Nat → Nat → Nat → Int → Prop),
                                  (∀ (x11 : Bool) (x12 x13 x14 : Nat) (x15 : Int),
                                      Go.K.ifB (Decidable.decide (x15 ≥ (1 : Int)))
                                          (J10 x11 x12 x13
                                            (Go.K.farith Go.BinOp.sub Go.FloatKind.f64 (4607182418800017408 : Nat)
                                              (Go.K.farith Go.BinOp.quo Go.FloatKind.f64 (Go.K.farith Go.BinOp.mul Go.FloatKind.f64 x13 x14)
                                                (Go.K.fofint Go.FloatKind.f64
                                                  (Go.IntKind.wrap Go.IntKind.i64
                                                    (Go.IntKind.wrap Go.IntKind.i64 ((2 : Int) * x15) *
                                                      Go.IntKind.wrap Go.IntKind.i64 (Go.IntKind.wrap Go.IntKind.i64 ((2 : Int) * x15) + (1 : Int)))))))
                                            (Go.IntKind.wrap Go.IntKind.i64 (x15 - (1 : Int))))
                                          (Go.K.ifB x11 (K (Go.K.fneg Go.FloatKind.f64 (Go.K.farith Go.BinOp.mul Go.FloatKind.f64 x12 x14)))
                                            (K (Go.K.farith Go.BinOp.mul Go.FloatKind.f64 x12 x14))) →
                                        J10 x11 x12 x13 x14 x15) →
                                    J10 x9 (Go.K.farith Go.BinOp.mul Go.FloatKind.f64 x8 (4618760256179416344 : Nat))
                                      (Go.K.farith Go.BinOp.mul Go.FloatKind.f64 (Go.K.farith Go.BinOp.mul Go.FloatKind.f64 x8 (4618760256179416344 : Nat))
                                        (Go.K.farith Go.BinOp.mul Go.FloatKind.f64 x8 (4618760256179416344 : Nat)))
                                      (4607182418800017408 : Nat) (8 : Int)) →
                                J7 x8 x9) →
                            Go.K.ifB (Go.K.fgt Go.FloatKind.f64 x5 (4598175219545276416 : Nat)) (J7 (Go.K.farith Go.BinOp.sub Go.FloatKind.f64 (4602678819172646912 : Nat) x5) x6)
                              (J7 x5 x6)) →
                        J4 x5 x6) →
                    Go.K.ifB (Go.K.fge Go.FloatKind.f64 x3 (4602678819172646912 : Nat))
                      (J4 (Go.K.farith Go.BinOp.sub Go.FloatKind.f64 x3 (4602678819172646912 : Nat)) (Go.K.fge Go.FloatKind.f64 x3 (4602678819172646912 : Nat)))
                      (J4 x3 (Go.K.fge Go.FloatKind.f64 x3 (4602678819172646912 : Nat)))) →
                J2 x3) →
            Go.K.ifB
              (Go.K.flt Go.FloatKind.f64
                (Go.K.farith Go.BinOp.sub Go.FloatKind.f64 a1 (Go.K.fofint Go.FloatKind.f64 (Option.getD (Go.K.ftoint Go.FloatKind.f64 a1 Go.IntKind.i64) (0 : Int)))) (0 : Nat))
              (J2
                (Go.K.farith Go.BinOp.add Go.FloatKind.f64
                  (Go.K.farith Go.BinOp.sub Go.FloatKind.f64 a1 (Go.K.fofint Go.FloatKind.f64 (Option.getD (Go.K.ftoint Go.FloatKind.f64 a1 Go.IntKind.i64) (0 : Int))))
                  (4607182418800017408 : Nat)))
              (J2
                (Go.K.farith Go.BinOp.sub Go.FloatKind.f64 a1
                  (Go.K.fofint Go.FloatKind.f64 (Option.getD (Go.K.ftoint Go.FloatKind.f64 a1 Go.IntKind.i64) (0 : Int))))))))) := by kernel_rfl
theorem spec_l01SineWide.eq (a1 : Nat) (K : Nat → Prop) : spec_l01SineWide.wp a1 K =
  (Go.K.ifB (Go.K.fne Go.FloatKind.f64 (Go.K.farith Go.BinOp.sub Go.FloatKind.f64 a1 a1) (0 : Nat)) (Go.K.melts.math_NaN.wp fun y1 => K y1)
  (Go.K.ifB (Go.K.fge Go.FloatKind.f64 a1 (4841369599423283200 : Nat)) (K (0 : Nat))
    (Go.K.ifB (Go.K.fle Go.FloatKind.f64 a1 (14064741636278059008 : Nat)) (K (0 : Nat))
      (Option.isSome (Go.K.ftoint Go.FloatKind.f64 a1 Go.IntKind.i64) = Bool.true ∧
        ∀ (J2 : Nat → Prop),
          (∀ (x3 : Nat),
              (∀ (J4 : Nat → Bool → Prop),
                  (∀ (x5 : Nat) (x6 : Bool),
                      (∀ (J7 : Nat → Bool → Prop),
                          (∀ (x8 : Nat) (x9 : Bool),
                              (∀ (J10 : Bool → Nat → Nat → Nat → Int → Prop),
                                  (∀ (x11 : Bool) (x12 x13 x14 : Nat) (x15 : Int),
                                      Go.K.ifB (Decidable.decide (x15 ≥ (1 : Int)))
                                          (J10 x11 x12 x13
                                            (Go.K.farith Go.BinOp.sub Go.FloatKind.f64 (4607182418800017408 : Nat)
                                              (Go.K.farith Go.BinOp.quo Go.FloatKind.f64 (Go.K.farith Go.BinOp.mul Go.FloatKind.f64 x13 x14)
                                                (Go.K.fofint Go.FloatKind.f64
                                                  (Go.IntKind.wrap Go.IntKind.i64
                                                    (Go.IntKind.wrap Go.IntKind.i64 ((2 : Int) * x15) *
                                                      Go.IntKind.wrap Go.IntKind.i64 (Go.IntKind.wrap Go.IntKind.i64 ((2 : Int) * x15) + (1 : Int)))))))
                                            (Go.IntKind.wrap Go.IntKind.i64 (x15 - (1 : Int))))
                                          (Go.K.ifB x11 (K (Go.K.fneg Go.FloatKind.f64 (Go.K.farith Go.BinOp.mul Go.FloatKind.f64 x12 x14)))
                                            (K (Go.K.farith Go.BinOp.mul Go.FloatKind.f64 x12 x14))) →
                                        J10 x11 x12 x13 x14 x15) →
                                    J10 x9 (Go.K.farith Go.BinOp.mul Go.FloatKind.f64 x8 (4618760256179416344 : Nat))
                                      (Go.K.farith Go.BinOp.mul Go.FloatKind.f64 (Go.K.farith Go.BinOp.mul Go.FloatKind.f64 x8 (4618760256179416344 : Nat))
                                        (Go.K.farith Go.BinOp.mul Go.FloatKind.f64 x8 (4618760256179416344 : Nat)))
                                      (4607182418800017408 : Nat) (8 : Int)) →
                                J7 x8 x9) →
                            Go.K.ifB (Go.K.fgt Go.FloatKind.f64 x5 (4598175219545276416 : Nat)) (J7 (Go.K.farith Go.BinOp.sub Go.FloatKind.f64 (4602678819172646912 : Nat) x5) x6)
                              (J7 x5 x6)) →
                        J4 x5 x6) →
                    Go.K.ifB (Go.K.fge Go.FloatKind.f64 x3 (4602678819172646912 : Nat))
                      (J4 (Go.K.farith Go.BinOp.sub Go.FloatKind.f64 x3 (4602678819172646912 : Nat)) (Go.K.fge Go.FloatKind.f64 x3 (4602678819172646912 : Nat)))
                      (J4 x3 (Go.K.fge Go.FloatKind.f64 x3 (4602678819172646912 : Nat)))) →
                J2 x3) →
            Go.K.ifB
              (Go.K.flt Go.FloatKind.f64
                (Go.K.farith Go.BinOp.sub Go.FloatKind.f64 a1 (Go.K.fofint Go.FloatKind.f64 (Option.getD (Go.K.ftoint Go.FloatKind.f64 a1 Go.IntKind.i64) (0 : Int)))) (0 : Nat))
              (J2
                (Go.K.farith Go.BinOp.add Go.FloatKind.f64
                  (Go.K.farith Go.BinOp.sub Go.FloatKind.f64 a1 (Go.K.fofint Go.FloatKind.f64 (Option.getD (Go.K.ftoint Go.FloatKind.f64 a1 Go.IntKind.i64) (0 : Int))))
                  (4607182418800017408 : Nat)))
              (J2
                (Go.K.farith Go.BinOp.sub Go.FloatKind.f64 a1
                  (Go.K.fofint Go.FloatKind.f64 (Option.getD (Go.K.ftoint Go.FloatKind.f64 a1 Go.IntKind.i64) (0 : Int))))))))) := spec_l01SineWide.tx math_NaN.wp a1 K

theorem spec_l01Sine.tx (w_spec_l01SineWide : Nat → (Nat → Prop) → Prop) (w_spec_l01Narrow : Nat → (Nat → Prop) → Prop) (a1 : Nat) (K : Nat → Prop) : spec_l01Sine.bd w_spec_l01SineWide w_spec_l01Narrow a1 K =
  (w_spec_l01SineWide (Go.K.fconv Go.FloatKind.f32 Go.FloatKind.f64 a1) fun y1 => w_spec_l01Narrow y1 fun y2 => K y2) := by kernel_rfl
theorem spec_l01Sine.eq (a1 : Nat) (K : Nat → Prop) : spec_l01Sine.wp a1 K =
  (Go.K.melts.spec_l01SineWide.wp (Go.K.fconv Go.FloatKind.f32 Go.FloatKind.f64 a1) fun y1 => Go.K.melts.spec_l01Narrow.wp y1 fun y2 => K y2) := spec_l01Sine.tx spec_l01SineWide.wp spec_l01Narrow.wp a1 K

theorem spec_l03Ease.tx (w_spec_l03Turn : Int → Int → Bool → Int → Int → Bool → Nat → Nat → Nat → Nat → Nat → Int → List Nat → List Nat → Int → Int → (Nat → Prop) → Prop) (w_spec_l01Sine : Nat → (Nat → Prop) → Prop) (a1 : Int) (a2 : Int) (a3 : Bool) (a4 : Int) (a5 : Int) (a6 : Bool) (a7 : Nat) (a8 : Nat) (a9 : Nat) (a10 : Nat) (a11 : Nat) (a12 : Int) (a13 : List
  Nat) (a14 : List Nat) (a15 : Int) (a16 : Int) (K : Nat → Prop) : spec_l03Ease.bd w_spec_l03Turn w_spec_l01Sine a1 a2 a3 a4 a5 a6 a7 a8 a9 a10 a11 a12 a13 a14 a15 a16 K =
  (w_spec_l03Turn a1 a2 a3 a4 a5 a6 a7 a8 a9 a10 a11 a12 a13 a14 a15 a16 fun y1 =>
  w_spec_l01Sine (Go.K.farith Go.BinOp.add Go.FloatKind.f32 (Go.K.farith Go.BinOp.mul Go.FloatKind.f32 (Go.K.fofint Go.FloatKind.f32 a12) y1) (1048576000 : Nat))
    fun y2 => K (Go.K.farith Go.BinOp.add Go.FloatKind.f32 (1065353216 : Nat) (Go.K.farith Go.BinOp.mul Go.FloatKind.f32 a11 y2))) := by kernel_rfl
theorem spec_l03Ease.eq (a1 : Int) (a2 : Int) (a3 : Bool) (a4 : Int) (a5 : Int) (a6 : Bool) (a7 : Nat) (a8 : Nat) (a9 : Nat) (a10 : Nat) (a11 : Nat) (a12 : Int) (a13 : List
  Nat) (a14 : List Nat) (a15 : Int) (a16 : Int) (K : Nat → Prop) : spec_l03Ease.wp a1 a2 a3 a4 a5 a6 a7 a8 a9 a10 a11 a12 a13 a14 a15 a16 K =
  (Go.K.melts.spec_l03Turn.wp a1 a2 a3 a4 a5 a6 a7 a8 a9 a10 a11 a12 a13 a14 a15 a16 fun y1 =>
  Go.K.melts.spec_l01Sine.wp (Go.K.farith Go.BinOp.add Go.FloatKind.f32 (Go.K.farith Go.BinOp.mul Go.FloatKind.f32 (Go.K.fofint Go.FloatKind.f32 a12) y1) (1048576000 : Nat))
    fun y2 => K (Go.K.farith Go.BinOp.add Go.FloatKind.f32 (1065353216 : Nat) (Go.K.farith Go.BinOp.mul Go.FloatKind.f32 a11 y2))) := spec_l03Ease.tx spec_l03Turn.wp spec_l01Sine.wp a1 a2 a3 a4 a5 a6 a7 a8 a9 a10 a11 a12 a13 a14 a15 a16 K

theorem spec_EaseAt.tx (w_spec_l03Cell : Int → Int → Bool → Int → Int → Bool → Nat → Nat → Nat → Nat → Nat → Int → List Nat → List Nat → Int → Int → (Bool → Prop) → Prop) (w_spec_l03Ease : Int → Int → Bool → Int → Int → Bool → Nat → Nat → Nat → Nat → Nat → Int → List Nat → List Nat → Int → Int → (Nat → Prop) → Prop) (w_spec_l03Number : Nat → (Nat → Bool → Prop) → Prop) (a1 : List
  Nat) (a2 : List
  Nat) (a3 : Int) (a4 : Int) (a5 : Bool) (a6 : Int) (a7 : Int) (a8 : Bool) (a9 : Nat) (a10 : Nat) (a11 : Nat) (a12 : Nat) (a13 : Nat) (a14 : Int) (a15 : Int) (a16 : Int) (K : Nat →
  Bool → Prop) : spec_EaseAt.bd w_spec_l03Cell w_spec_l03Ease w_spec_l03Number a1 a2 a3 a4 a5 a6 a7 a8 a9 a10 a11 a12 a13 a14 a15 a16 K =
  (w_spec_l03Cell a3 a4 a5 a6 a7 a8 a9 a10 a11 a12 a13 a14 a1 a2 a15 a16 fun y1 =>
  Go.K.ifB (!y1) (K (0 : Nat) Bool.false)
    (w_spec_l03Ease a3 a4 a5 a6 a7 a8 a9 a10 a11 a12 a13 a14 a1 a2 a15 a16 fun y2 => w_spec_l03Number y2 fun y3 y4 => K y3 y4)) := by kernel_rfl
theorem spec_EaseAt.eq (a1 : List
  Nat) (a2 : List
  Nat) (a3 : Int) (a4 : Int) (a5 : Bool) (a6 : Int) (a7 : Int) (a8 : Bool) (a9 : Nat) (a10 : Nat) (a11 : Nat) (a12 : Nat) (a13 : Nat) (a14 : Int) (a15 : Int) (a16 : Int) (K : Nat →
  Bool → Prop) : spec_EaseAt.wp a1 a2 a3 a4 a5 a6 a7 a8 a9 a10 a11 a12 a13 a14 a15 a16 K =
  (Go.K.melts.spec_l03Cell.wp a3 a4 a5 a6 a7 a8 a9 a10 a11 a12 a13 a14 a1 a2 a15 a16 fun y1 =>
  Go.K.ifB (!y1) (K (0 : Nat) Bool.false)
    (Go.K.melts.spec_l03Ease.wp a3 a4 a5 a6 a7 a8 a9 a10 a11 a12 a13 a14 a1 a2 a15 a16 fun y2 => Go.K.melts.spec_l03Number.wp y2 fun y3 y4 => K y3 y4)) := spec_EaseAt.tx spec_l03Cell.wp spec_l03Ease.wp spec_l03Number.wp a1 a2 a3 a4 a5 a6 a7 a8 a9 a10 a11 a12 a13 a14 a15 a16 K

theorem math_Copysign.tx  (a1 : Nat) (a2 : Nat) (K : Nat → Prop) : math_Copysign.bd  a1 a2 K =
  (Go.K.isNaNW Go.FloatKind.f64 a1 = Bool.false ∧
  Go.K.isNaNW Go.FloatKind.f64 a2 = Bool.false ∧
    K
      (Go.K.cF Go.FloatKind.f64
        (Int.toNat
          (Go.K.ibits Go.BinOp.or Go.IntKind.u64 (Go.K.ibits Go.BinOp.andNot Go.IntKind.u64 (↑a1 : Int) (9223372036854775808 : Int))
            (Go.K.ibits Go.BinOp.and Go.IntKind.u64 (↑a2 : Int) (9223372036854775808 : Int)))))) := by kernel_rfl
theorem math_Copysign.eq (a1 : Nat) (a2 : Nat) (K : Nat → Prop) : math_Copysign.wp a1 a2 K =
  (Go.K.isNaNW Go.FloatKind.f64 a1 = Bool.false ∧
  Go.K.isNaNW Go.FloatKind.f64 a2 = Bool.false ∧
    K
      (Go.K.cF Go.FloatKind.f64
        (Int.toNat
          (Go.K.ibits Go.BinOp.or Go.IntKind.u64 (Go.K.ibits Go.BinOp.andNot Go.IntKind.u64 (↑a1 : Int) (9223372036854775808 : Int))
            (Go.K.ibits Go.BinOp.and Go.IntKind.u64 (↑a2 : Int) (9223372036854775808 : Int)))))) := math_Copysign.tx  a1 a2 K

theorem math_trunc.tx (w_math_Abs : Nat → (Nat → Prop) → Prop) (w_math_Copysign : Nat → Nat → (Nat → Prop) → Prop) (a1 : Nat) (K : Nat → Prop) : math_trunc.bd w_math_Abs w_math_Copysign a1 K =
  (w_math_Abs a1 fun y1 =>
  Go.K.ifB (Go.K.flt Go.FloatKind.f64 y1 (4607182418800017408 : Nat)) (w_math_Copysign (0 : Nat) a1 fun y2 => K y2)
    (Go.K.isNaNW Go.FloatKind.f64 a1 = Bool.false ∧
      Go.K.ifB
        (Decidable.decide
          (Go.IntKind.wrap Go.IntKind.u64 (Go.K.ibits Go.BinOp.and Go.IntKind.u64 (Go.K.ishr Go.IntKind.u64 (↑a1 : Int) (52 : Int)) (2047 : Int) - (1023 : Int)) < (52 : Int)))
        ((0 : Int) ≤
            Go.IntKind.wrap Go.IntKind.u64
              ((52 : Int) - Go.IntKind.wrap Go.IntKind.u64 (Go.K.ibits Go.BinOp.and Go.IntKind.u64 (Go.K.ishr Go.IntKind.u64 (↑a1 : Int) (52 : Int)) (2047 : Int) - (1023 : Int))) ∧
          K
            (Go.K.cF Go.FloatKind.f64
              (Int.toNat
                (Go.K.ibits Go.BinOp.andNot Go.IntKind.u64 (↑a1 : Int)
                  (Go.IntKind.wrap Go.IntKind.u64
                    (Go.K.ishl Go.IntKind.u64 (1 : Int)
                        (Go.IntKind.wrap Go.IntKind.u64
                          ((52 : Int) -
                            Go.IntKind.wrap Go.IntKind.u64
                              (Go.K.ibits Go.BinOp.and Go.IntKind.u64 (Go.K.ishr Go.IntKind.u64 (↑a1 : Int) (52 : Int)) (2047 : Int) - (1023 : Int)))) -
                      (1 : Int)))))))
        (K (Go.K.cF Go.FloatKind.f64 (Int.toNat (↑a1 : Int)))))) := by kernel_rfl
theorem math_trunc.eq (a1 : Nat) (K : Nat → Prop) : math_trunc.wp a1 K =
  (Go.K.melts.math_Abs.wp a1 fun y1 =>
  Go.K.ifB (Go.K.flt Go.FloatKind.f64 y1 (4607182418800017408 : Nat)) (Go.K.melts.math_Copysign.wp (0 : Nat) a1 fun y2 => K y2)
    (Go.K.isNaNW Go.FloatKind.f64 a1 = Bool.false ∧
      Go.K.ifB
        (Decidable.decide
          (Go.IntKind.wrap Go.IntKind.u64 (Go.K.ibits Go.BinOp.and Go.IntKind.u64 (Go.K.ishr Go.IntKind.u64 (↑a1 : Int) (52 : Int)) (2047 : Int) - (1023 : Int)) < (52 : Int)))
        ((0 : Int) ≤
            Go.IntKind.wrap Go.IntKind.u64
              ((52 : Int) - Go.IntKind.wrap Go.IntKind.u64 (Go.K.ibits Go.BinOp.and Go.IntKind.u64 (Go.K.ishr Go.IntKind.u64 (↑a1 : Int) (52 : Int)) (2047 : Int) - (1023 : Int))) ∧
          K
            (Go.K.cF Go.FloatKind.f64
              (Int.toNat
                (Go.K.ibits Go.BinOp.andNot Go.IntKind.u64 (↑a1 : Int)
                  (Go.IntKind.wrap Go.IntKind.u64
                    (Go.K.ishl Go.IntKind.u64 (1 : Int)
                        (Go.IntKind.wrap Go.IntKind.u64
                          ((52 : Int) -
                            Go.IntKind.wrap Go.IntKind.u64
                              (Go.K.ibits Go.BinOp.and Go.IntKind.u64 (Go.K.ishr Go.IntKind.u64 (↑a1 : Int) (52 : Int)) (2047 : Int) - (1023 : Int)))) -
                      (1 : Int)))))))
        (K (Go.K.cF Go.FloatKind.f64 (Int.toNat (↑a1 : Int)))))) := math_trunc.tx math_Abs.wp math_Copysign.wp a1 K

theorem math_Trunc.tx (w_math_trunc : Nat → (Nat → Prop) → Prop) (a1 : Nat) (K : Nat → Prop) : math_Trunc.bd w_math_trunc a1 K =
  (K (Go.K.fwhole Ieee.Toward.zero a1)) := by kernel_rfl
theorem math_Trunc.eq (a1 : Nat) (K : Nat → Prop) : math_Trunc.wp a1 K =
  (K (Go.K.fwhole Ieee.Toward.zero a1)) := math_Trunc.tx math_trunc.wp a1 K

theorem impl_behind.tx (w_math_Trunc : Nat → (Nat → Prop) → Prop) (a1 : Nat) (K : Nat → Prop) : impl_behind.bd w_math_Trunc a1 K =
  (w_math_Trunc a1 fun y1 =>
  Go.K.ifB (Go.K.flt Go.FloatKind.f64 (Go.K.farith Go.BinOp.sub Go.FloatKind.f64 a1 (Go.K.farith Go.BinOp.add Go.FloatKind.f64 y1 (0 : Nat))) (0 : Nat))
    (K
      (Go.K.farith Go.BinOp.add Go.FloatKind.f64 (Go.K.farith Go.BinOp.sub Go.FloatKind.f64 a1 (Go.K.farith Go.BinOp.add Go.FloatKind.f64 y1 (0 : Nat)))
        (4607182418800017408 : Nat)))
    (K (Go.K.farith Go.BinOp.sub Go.FloatKind.f64 a1 (Go.K.farith Go.BinOp.add Go.FloatKind.f64 y1 (0 : Nat))))) := by kernel_rfl
theorem impl_behind.eq (a1 : Nat) (K : Nat → Prop) : impl_behind.wp a1 K =
  (Go.K.melts.math_Trunc.wp a1 fun y1 =>
  Go.K.ifB (Go.K.flt Go.FloatKind.f64 (Go.K.farith Go.BinOp.sub Go.FloatKind.f64 a1 (Go.K.farith Go.BinOp.add Go.FloatKind.f64 y1 (0 : Nat))) (0 : Nat))
    (K
      (Go.K.farith Go.BinOp.add Go.FloatKind.f64 (Go.K.farith Go.BinOp.sub Go.FloatKind.f64 a1 (Go.K.farith Go.BinOp.add Go.FloatKind.f64 y1 (0 : Nat)))
        (4607182418800017408 : Nat)))
    (K (Go.K.farith Go.BinOp.sub Go.FloatKind.f64 a1 (Go.K.farith Go.BinOp.add Go.FloatKind.f64 y1 (0 : Nat))))) := impl_behind.tx math_Trunc.wp a1 K

theorem impl_sine.tx (w_impl_behind : Nat → (Nat → Prop) → Prop) (a1 : Nat) (K : Nat → Prop) : impl_sine.bd w_impl_behind a1 K =
  (w_impl_behind a1 fun y1 =>
  ∀ (J2 : Nat → Bool → Prop),
    (∀ (x3 : Nat) (x4 : Bool),
        (∀ (J5 : Nat → Bool → Prop),
            (∀ (x6 : Nat) (x7 : Bool),
                (∀ (J8 : Bool → Nat → Nat → Nat → Int → Prop),
                    (∀ (x9 : Bool) (x10 x11 x12 : Nat) (x13 : Int),
                        Go.K.ifB (Decidable.decide (x13 ≥ (1 : Int)))
                            (J8 x9 x10 x11
                              (Go.K.farith Go.BinOp.sub Go.FloatKind.f64 (4607182418800017408 : Nat)
                                (Go.K.farith Go.BinOp.quo Go.FloatKind.f64 (Go.K.farith Go.BinOp.mul Go.FloatKind.f64 x11 x12)
                                  (Go.K.fofint Go.FloatKind.f64
                                    (Go.IntKind.wrap Go.IntKind.i64
                                      (Go.IntKind.wrap Go.IntKind.i64 ((2 : Int) * x13) *
                                        Go.IntKind.wrap Go.IntKind.i64 (Go.IntKind.wrap Go.IntKind.i64 ((2 : Int) * x13) + (1 : Int)))))))
                              (Go.IntKind.wrap Go.IntKind.i64 (x13 - (1 : Int))))
                            (Go.K.ifB x9 (K (Go.K.fneg Go.FloatKind.f64 (Go.K.farith Go.BinOp.mul Go.FloatKind.f64 x10 x12)))
                              (K (Go.K.farith Go.BinOp.mul Go.FloatKind.f64 x10 x12))) →
                          J8 x9 x10 x11 x12 x13) →
                      J8 x7 (Go.K.farith Go.BinOp.mul Go.FloatKind.f64 x6 (4618760256179416344 : Nat))
                        (Go.K.farith Go.BinOp.mul Go.FloatKind.f64 (Go.K.farith Go.BinOp.mul Go.FloatKind.f64 x6 (4618760256179416344 : Nat))
                          (Go.K.farith Go.BinOp.mul Go.FloatKind.f64 x6 (4618760256179416344 : Nat)))
                        (4607182418800017408 : Nat) (8 : Int)) →
                  J5 x6 x7) →
              Go.K.ifB (Go.K.fgt Go.FloatKind.f64 x3 (4598175219545276416 : Nat)) (J5 (Go.K.farith Go.BinOp.sub Go.FloatKind.f64 (4602678819172646912 : Nat) x3) x4) (J5 x3 x4)) →
          J2 x3 x4) →
      Go.K.ifB (Go.K.fge Go.FloatKind.f64 y1 (4602678819172646912 : Nat)) (J2 (Go.K.farith Go.BinOp.sub Go.FloatKind.f64 y1 (4602678819172646912 : Nat)) Bool.true)
        (J2 y1 Bool.false)) := by kernel_rfl
theorem impl_sine.eq (a1 : Nat) (K : Nat → Prop) : impl_sine.wp a1 K =
  (Go.K.melts.impl_behind.wp a1 fun y1 =>
  ∀ (J2 : Nat → Bool → Prop),
    (∀ (x3 : Nat) (x4 : Bool),
        (∀ (J5 : Nat → Bool → Prop),
            (∀ (x6 : Nat) (x7 : Bool),
                (∀ (J8 : Bool → Nat → Nat → Nat → Int → Prop),
                    (∀ (x9 : Bool) (x10 x11 x12 : Nat) (x13 : Int),
                        Go.K.ifB (Decidable.decide (x13 ≥ (1 : Int)))
                            (J8 x9 x10 x11
                              (Go.K.farith Go.BinOp.sub Go.FloatKind.f64 (4607182418800017408 : Nat)
                                (Go.K.farith Go.BinOp.quo Go.FloatKind.f64 (Go.K.farith Go.BinOp.mul Go.FloatKind.f64 x11 x12)
                                  (Go.K.fofint Go.FloatKind.f64
                                    (Go.IntKind.wrap Go.IntKind.i64
                                      (Go.IntKind.wrap Go.IntKind.i64 ((2 : Int) * x13) *
                                        Go.IntKind.wrap Go.IntKind.i64 (Go.IntKind.wrap Go.IntKind.i64 ((2 : Int) * x13) + (1 : Int)))))))
                              (Go.IntKind.wrap Go.IntKind.i64 (x13 - (1 : Int))))
                            (Go.K.ifB x9 (K (Go.K.fneg Go.FloatKind.f64 (Go.K.farith Go.BinOp.mul Go.FloatKind.f64 x10 x12)))
                              (K (Go.K.farith Go.BinOp.mul Go.FloatKind.f64 x10 x12))) →
                          J8 x9 x10 x11 x12 x13) →
                      J8 x7 (Go.K.farith Go.BinOp.mul Go.FloatKind.f64 x6 (4618760256179416344 : Nat))
                        (Go.K.farith Go.BinOp.mul Go.FloatKind.f64 (Go.K.farith Go.BinOp.mul Go.FloatKind.f64 x6 (4618760256179416344 : Nat))
                          (Go.K.farith Go.BinOp.mul Go.FloatKind.f64 x6 (4618760256179416344 : Nat)))
                        (4607182418800017408 : Nat) (8 : Int)) →
                  J5 x6 x7) →
              Go.K.ifB (Go.K.fgt Go.FloatKind.f64 x3 (4598175219545276416 : Nat)) (J5 (Go.K.farith Go.BinOp.sub Go.FloatKind.f64 (4602678819172646912 : Nat) x3) x4) (J5 x3 x4)) →
          J2 x3 x4) →
      Go.K.ifB (Go.K.fge Go.FloatKind.f64 y1 (4602678819172646912 : Nat)) (J2 (Go.K.farith Go.BinOp.sub Go.FloatKind.f64 y1 (4602678819172646912 : Nat)) Bool.true)
        (J2 y1 Bool.false)) := impl_sine.tx impl_behind.wp a1 K

theorem impl_SineTurns.tx (w_impl_IsFinite : Nat → (Bool → Prop) → Prop) (w_math_NaN : (Nat → Prop) → Prop) (w_math_Abs : Nat → (Nat → Prop) → Prop) (w_impl_sine : Nat → (Nat → Prop) → Prop) (a1 : Nat) (K : Nat → Prop) : impl_SineTurns.bd w_impl_IsFinite w_math_NaN w_math_Abs w_impl_sine a1 K =
  (w_impl_IsFinite a1 fun y1 =>
  Go.K.ifB (!y1) (w_math_NaN fun y2 => Go.K.fitsF Go.FloatKind.f64 Go.FloatKind.f32 y2 = Bool.true ∧ K (Go.K.fconv Go.FloatKind.f64 Go.FloatKind.f32 y2))
    (w_math_Abs (Go.K.fconv Go.FloatKind.f32 Go.FloatKind.f64 a1) fun y3 =>
      Go.K.ifB (Go.K.fge Go.FloatKind.f64 y3 (4841369599423283200 : Nat)) (K (0 : Nat))
        (w_impl_sine (Go.K.fconv Go.FloatKind.f32 Go.FloatKind.f64 a1) fun y4 =>
          Go.K.fitsF Go.FloatKind.f64 Go.FloatKind.f32 y4 = Bool.true ∧ K (Go.K.fconv Go.FloatKind.f64 Go.FloatKind.f32 y4)))) := by kernel_rfl
theorem impl_SineTurns.eq (a1 : Nat) (K : Nat → Prop) : impl_SineTurns.wp a1 K =
  (Go.K.melts.impl_IsFinite.wp a1 fun y1 =>
  Go.K.ifB (!y1) (Go.K.melts.math_NaN.wp fun y2 => Go.K.fitsF Go.FloatKind.f64 Go.FloatKind.f32 y2 = Bool.true ∧ K (Go.K.fconv Go.FloatKind.f64 Go.FloatKind.f32 y2))
    (Go.K.melts.math_Abs.wp (Go.K.fconv Go.FloatKind.f32 Go.FloatKind.f64 a1) fun y3 =>
      Go.K.ifB (Go.K.fge Go.FloatKind.f64 y3 (4841369599423283200 : Nat)) (K (0 : Nat))
        (Go.K.melts.impl_sine.wp (Go.K.fconv Go.FloatKind.f32 Go.FloatKind.f64 a1) fun y4 =>
          Go.K.fitsF Go.FloatKind.f64 Go.FloatKind.f32 y4 = Bool.true ∧ K (Go.K.fconv Go.FloatKind.f64 Go.FloatKind.f32 y4)))) := impl_SineTurns.tx impl_IsFinite.wp math_NaN.wp math_Abs.wp impl_sine.wp a1 K

theorem impl_Melt_ease.tx (w_impl_Melt_turn : List Nat → List Nat → Int → Int → Bool → Int → Int → Bool → Nat → Nat → Nat → Nat → Nat → Int → Int → Int → (Nat → Prop) → Prop) (w_impl_SineTurns : Nat → (Nat → Prop) → Prop) (a1 : List
  Nat) (a2 : List
  Nat) (a3 : Int) (a4 : Int) (a5 : Bool) (a6 : Int) (a7 : Int) (a8 : Bool) (a9 : Nat) (a10 : Nat) (a11 : Nat) (a12 : Nat) (a13 : Nat) (a14 : Int) (a15 : Int) (a16 : Int) (K : Nat →
  Prop) : impl_Melt_ease.bd w_impl_Melt_turn w_impl_SineTurns a1 a2 a3 a4 a5 a6 a7 a8 a9 a10 a11 a12 a13 a14 a15 a16 K =
  (w_impl_Melt_turn a1 a2 a3 a4 a5 a6 a7 a8 a9 a10 a11 a12 a13 a14 a15 a16 fun y1 =>
  w_impl_SineTurns (Go.K.farith Go.BinOp.add Go.FloatKind.f32 (Go.K.farith Go.BinOp.mul Go.FloatKind.f32 (Go.K.fofint Go.FloatKind.f32 a14) y1) (1048576000 : Nat))
    fun y2 => K (Go.K.farith Go.BinOp.add Go.FloatKind.f32 (1065353216 : Nat) (Go.K.farith Go.BinOp.mul Go.FloatKind.f32 a13 y2))) := by kernel_rfl
theorem impl_Melt_ease.eq (a1 : List
  Nat) (a2 : List
  Nat) (a3 : Int) (a4 : Int) (a5 : Bool) (a6 : Int) (a7 : Int) (a8 : Bool) (a9 : Nat) (a10 : Nat) (a11 : Nat) (a12 : Nat) (a13 : Nat) (a14 : Int) (a15 : Int) (a16 : Int) (K : Nat →
  Prop) : impl_Melt_ease.wp a1 a2 a3 a4 a5 a6 a7 a8 a9 a10 a11 a12 a13 a14 a15 a16 K =
  (Go.K.melts.impl_Melt_turn.wp a1 a2 a3 a4 a5 a6 a7 a8 a9 a10 a11 a12 a13 a14 a15 a16 fun y1 =>
  Go.K.melts.impl_SineTurns.wp (Go.K.farith Go.BinOp.add Go.FloatKind.f32 (Go.K.farith Go.BinOp.mul Go.FloatKind.f32 (Go.K.fofint Go.FloatKind.f32 a14) y1) (1048576000 : Nat))
    fun y2 => K (Go.K.farith Go.BinOp.add Go.FloatKind.f32 (1065353216 : Nat) (Go.K.farith Go.BinOp.mul Go.FloatKind.f32 a13 y2))) := impl_Melt_ease.tx impl_Melt_turn.wp impl_SineTurns.wp a1 a2 a3 a4 a5 a6 a7 a8 a9 a10 a11 a12 a13 a14 a15 a16 K

theorem impl_Melt_toldAt__Melt_ease.tx (w_impl_Melt_isCell : List Nat → List Nat → Int → Int → Bool → Int → Int → Bool → Nat → Nat → Nat → Nat → Nat → Int → Int → Int → (Bool → Prop) → Prop) (w_impl_Melt_ease : List Nat → List Nat → Int → Int → Bool → Int → Int → Bool → Nat → Nat → Nat → Nat → Nat → Int → Int → Int → (Nat → Prop) → Prop) (w_impl_told : Nat → (Nat → Bool → Prop) → Prop) (a1 : List
  Nat) (a2 : List
  Nat) (a3 : List
  Nat) (a4 : List
  Nat) (a5 : Int) (a6 : Int) (a7 : Bool) (a8 : Int) (a9 : Int) (a10 : Bool) (a11 : Nat) (a12 : Nat) (a13 : Nat) (a14 : Nat) (a15 : Nat) (a16 : Int) (a17 : Int) (a18 : Int) (a19 : Int) (a20 : Int) (a21 : Bool) (a22 : Int) (a23 : Int) (a24 : Bool) (a25 : Nat) (a26 : Nat) (a27 : Nat) (a28 : Nat) (a29 : Nat) (a30 : Int) (K : Nat →
  Bool → Prop) : impl_Melt_toldAt__Melt_ease.bd w_impl_Melt_isCell w_impl_Melt_ease w_impl_told a1 a2 a3 a4 a5 a6 a7 a8 a9 a10 a11 a12 a13 a14 a15 a16 a17 a18 a19 a20 a21 a22 a23 a24 a25 a26 a27 a28 a29 a30 K =
  (w_impl_Melt_isCell a1 a2 a5 a6 a7 a8 a9 a10 a11 a12 a13 a14 a15 a16 a17 a18 fun y1 =>
  Go.K.ifB (!y1) (K (0 : Nat) Bool.false)
    (w_impl_Melt_ease a3 a4 a19 a20 a21 a22 a23 a24 a25 a26 a27 a28 a29 a30 a17 a18 fun y2 => w_impl_told y2 fun y3 y4 => K y3 y4)) := by kernel_rfl
theorem impl_Melt_toldAt__Melt_ease.eq (a1 : List
  Nat) (a2 : List
  Nat) (a3 : List
  Nat) (a4 : List
  Nat) (a5 : Int) (a6 : Int) (a7 : Bool) (a8 : Int) (a9 : Int) (a10 : Bool) (a11 : Nat) (a12 : Nat) (a13 : Nat) (a14 : Nat) (a15 : Nat) (a16 : Int) (a17 : Int) (a18 : Int) (a19 : Int) (a20 : Int) (a21 : Bool) (a22 : Int) (a23 : Int) (a24 : Bool) (a25 : Nat) (a26 : Nat) (a27 : Nat) (a28 : Nat) (a29 : Nat) (a30 : Int) (K : Nat →
  Bool → Prop) : impl_Melt_toldAt__Melt_ease.wp a1 a2 a3 a4 a5 a6 a7 a8 a9 a10 a11 a12 a13 a14 a15 a16 a17 a18 a19 a20 a21 a22 a23 a24 a25 a26 a27 a28 a29 a30 K =
  (Go.K.melts.impl_Melt_isCell.wp a1 a2 a5 a6 a7 a8 a9 a10 a11 a12 a13 a14 a15 a16 a17 a18 fun y1 =>
  Go.K.ifB (!y1) (K (0 : Nat) Bool.false)
    (Go.K.melts.impl_Melt_ease.wp a3 a4 a19 a20 a21 a22 a23 a24 a25 a26 a27 a28 a29 a30 a17 a18 fun y2 => Go.K.melts.impl_told.wp y2 fun y3 y4 => K y3 y4)) := impl_Melt_toldAt__Melt_ease.tx impl_Melt_isCell.wp impl_Melt_ease.wp impl_told.wp a1 a2 a3 a4 a5 a6 a7 a8 a9 a10 a11 a12 a13 a14 a15 a16 a17 a18 a19 a20 a21 a22 a23 a24 a25 a26 a27 a28 a29 a30 K

theorem impl_EaseAt.tx (w_impl_Melt_toldAt__Melt_ease : List Nat → List Nat → List Nat → List Nat → Int → Int → Bool → Int → Int → Bool → Nat → Nat → Nat → Nat → Nat → Int → Int → Int → Int → Int → Bool → Int → Int → Bool → Nat → Nat → Nat → Nat → Nat → Int → (Nat → Bool → Prop) → Prop) (a1 : List
  Nat) (a2 : List
  Nat) (a3 : Int) (a4 : Int) (a5 : Bool) (a6 : Int) (a7 : Int) (a8 : Bool) (a9 : Nat) (a10 : Nat) (a11 : Nat) (a12 : Nat) (a13 : Nat) (a14 : Int) (a15 : Int) (a16 : Int) (K : Nat →
  Bool → Prop) : impl_EaseAt.bd w_impl_Melt_toldAt__Melt_ease a1 a2 a3 a4 a5 a6 a7 a8 a9 a10 a11 a12 a13 a14 a15 a16 K =
  (w_impl_Melt_toldAt__Melt_ease a1 a2 a1 a2 a3 a4 a5 a6 a7 a8 a9 a10 a11 a12 a13 a14 a15 a16 a3 a4 a5 a6 a7 a8 a9 a10 a11 a12 a13 a14 fun y1 y2 =>
  K y1 y2) := by kernel_rfl
theorem impl_EaseAt.eq (a1 : List
  Nat) (a2 : List
  Nat) (a3 : Int) (a4 : Int) (a5 : Bool) (a6 : Int) (a7 : Int) (a8 : Bool) (a9 : Nat) (a10 : Nat) (a11 : Nat) (a12 : Nat) (a13 : Nat) (a14 : Int) (a15 : Int) (a16 : Int) (K : Nat →
  Bool → Prop) : impl_EaseAt.wp a1 a2 a3 a4 a5 a6 a7 a8 a9 a10 a11 a12 a13 a14 a15 a16 K =
  (Go.K.melts.impl_Melt_toldAt__Melt_ease.wp a1 a2 a1 a2 a3 a4 a5 a6 a7 a8 a9 a10 a11 a12 a13 a14 a15 a16 a3 a4 a5 a6 a7 a8 a9 a10 a11 a12 a13 a14 fun y1 y2 =>
  K y1 y2) := impl_EaseAt.tx impl_Melt_toldAt__Melt_ease.wp a1 a2 a3 a4 a5 a6 a7 a8 a9 a10 a11 a12 a13 a14 a15 a16 K

theorem laws_FnExactEaseAt.tx (w_laws_szMelt : List Nat → List Nat → Int → Int → Bool → Int → Int → Bool → Nat → Nat → Nat → Nat → Nat → Int → Int → (Int → Prop) → Prop) (w_laws_toMelt : List Nat → List Nat → Int → Int → Bool → Int → Int → Bool → Nat → Nat → Nat → Nat → Nat → Int → (List Nat → List Nat → Int → Int → Bool → Int → Int → Bool → Nat → Nat → Nat → Nat → Nat → Int → Prop) → Prop) (w_spec_EaseAt : List Nat → List Nat → Int → Int → Bool → Int → Int → Bool → Nat → Nat → Nat → Nat → Nat → Int → Int → Int → (Nat → Bool → Prop) → Prop) (w_impl_EaseAt : List Nat → List Nat → Int → Int → Bool → Int → Int → Bool → Nat → Nat → Nat → Nat → Nat → Int → Int → Int → (Nat → Bool → Prop) → Prop) (w_laws_sameFloat : Nat → Nat → (Bool → Prop) → Prop) (w_laws_eqMelt : List Nat → List Nat → List Nat → List Nat → Int → Int → Bool → Int → Int → Bool → Nat → Nat → Nat → Nat → Nat → Int → Int → Int → Bool → Int → Int → Bool → Nat → Nat → Nat → Nat → Nat → Int → (Bool → Prop) → Prop) (a1 : List
  Nat) (a2 : List
  Nat) (a3 : Int) (a4 : Int) (a5 : Bool) (a6 : Int) (a7 : Int) (a8 : Bool) (a9 : Nat) (a10 : Nat) (a11 : Nat) (a12 : Nat) (a13 : Nat) (a14 : Int) (a15 : Int) (a16 : Int) (K : Bool →
  Prop) : laws_FnExactEaseAt.bd w_laws_szMelt w_laws_toMelt w_spec_EaseAt w_impl_EaseAt w_laws_sameFloat w_laws_eqMelt a1 a2 a3 a4 a5 a6 a7 a8 a9 a10 a11 a12 a13 a14 a15 a16 K =
  (w_laws_szMelt a1 a2 a3 a4 a5 a6 a7 a8 a9 a10 a11 a12 a13 a14 (1048576 : Int) fun y1 =>
  Go.K.ifB (Decidable.decide (y1 < (0 : Int))) (K Bool.true)
    (w_laws_toMelt a1 a2 a3 a4 a5 a6 a7 a8 a9 a10 a11 a12 a13 a14 fun y2 y3 y4 y5 y6 y7 y8 y9 y10 y11 y12 y13 y14 y15 =>
      w_spec_EaseAt y2 y3 y4 y5 y6 y7 y8 y9 y10 y11 y12 y13 y14 y15 a15 a16 fun y16 y17 =>
        w_laws_toMelt a1 a2 a3 a4 a5 a6 a7 a8 a9 a10 a11 a12 a13 a14 fun y18 y19 y20 y21 y22 y23 y24 y25 y26 y27 y28 y29 y30 y31 =>
          w_impl_EaseAt y18 y19 y20 y21 y22 y23 y24 y25 y26 y27 y28 y29 y30 y31 a15 a16 fun y32 y33 =>
            w_laws_sameFloat (Go.K.fconv Go.FloatKind.f32 Go.FloatKind.f64 y32) (Go.K.fconv Go.FloatKind.f32 Go.FloatKind.f64 y16) fun y34 =>
              Go.K.ifB (!y34) (K Bool.false)
                (Go.K.ifB (y33 != y17) (K Bool.false)
                  (w_laws_toMelt a1 a2 a3 a4 a5 a6 a7 a8 a9 a10 a11 a12 a13 a14 fun y35 y36 y37 y38 y39 y40 y41 y42 y43 y44 y45 y46 y47 y48 =>
                    w_laws_eqMelt y18 y19 y35 y36 y20 y21 y22 y23 y24 y25 y26 y27 y28 y29 y30 y31 y37 y38 y39 y40 y41 y42 y43 y44 y45 y46 y47 y48 fun y49 =>
                      Go.K.ifB (!y49) (K Bool.false) (K Bool.true))))) := by kernel_rfl
theorem laws_FnExactEaseAt.eq (a1 : List
  Nat) (a2 : List
  Nat) (a3 : Int) (a4 : Int) (a5 : Bool) (a6 : Int) (a7 : Int) (a8 : Bool) (a9 : Nat) (a10 : Nat) (a11 : Nat) (a12 : Nat) (a13 : Nat) (a14 : Int) (a15 : Int) (a16 : Int) (K : Bool →
  Prop) : laws_FnExactEaseAt.wp a1 a2 a3 a4 a5 a6 a7 a8 a9 a10 a11 a12 a13 a14 a15 a16 K =
  (Go.K.melts.laws_szMelt.wp a1 a2 a3 a4 a5 a6 a7 a8 a9 a10 a11 a12 a13 a14 (1048576 : Int) fun y1 =>
  Go.K.ifB (Decidable.decide (y1 < (0 : Int))) (K Bool.true)
    (Go.K.melts.laws_toMelt.wp a1 a2 a3 a4 a5 a6 a7 a8 a9 a10 a11 a12 a13 a14 fun y2 y3 y4 y5 y6 y7 y8 y9 y10 y11 y12 y13 y14 y15 =>
      Go.K.melts.spec_EaseAt.wp y2 y3 y4 y5 y6 y7 y8 y9 y10 y11 y12 y13 y14 y15 a15 a16 fun y16 y17 =>
        Go.K.melts.laws_toMelt.wp a1 a2 a3 a4 a5 a6 a7 a8 a9 a10 a11 a12 a13 a14 fun y18 y19 y20 y21 y22 y23 y24 y25 y26 y27 y28 y29 y30 y31 =>
          Go.K.melts.impl_EaseAt.wp y18 y19 y20 y21 y22 y23 y24 y25 y26 y27 y28 y29 y30 y31 a15 a16 fun y32 y33 =>
            Go.K.melts.laws_sameFloat.wp (Go.K.fconv Go.FloatKind.f32 Go.FloatKind.f64 y32) (Go.K.fconv Go.FloatKind.f32 Go.FloatKind.f64 y16) fun y34 =>
              Go.K.ifB (!y34) (K Bool.false)
                (Go.K.ifB (y33 != y17) (K Bool.false)
                  (Go.K.melts.laws_toMelt.wp a1 a2 a3 a4 a5 a6 a7 a8 a9 a10 a11 a12 a13 a14 fun y35 y36 y37 y38 y39 y40 y41 y42 y43 y44 y45 y46 y47 y48 =>
                    Go.K.melts.laws_eqMelt.wp y18 y19 y35 y36 y20 y21 y22 y23 y24 y25 y26 y27 y28 y29 y30 y31 y37 y38 y39 y40 y41 y42 y43 y44 y45 y46 y47 y48 fun y49 =>
                      Go.K.ifB (!y49) (K Bool.false) (K Bool.true))))) := laws_FnExactEaseAt.tx laws_szMelt.wp laws_toMelt.wp spec_EaseAt.wp impl_EaseAt.wp laws_sameFloat.wp laws_eqMelt.wp a1 a2 a3 a4 a5 a6 a7 a8 a9 a10 a11 a12 a13 a14 a15 a16 K

theorem spec_l01From.tx  (a1 : Int) (K : Nat → Prop) : spec_l01From.bd  a1 K =
  (K (Go.K.cF Go.FloatKind.f32 (Int.toNat (Go.IntKind.wrap Go.IntKind.u32 a1)))) := by kernel_rfl
theorem spec_l01From.eq (a1 : Int) (K : Nat → Prop) : spec_l01From.wp a1 K =
  (K (Go.K.cF Go.FloatKind.f32 (Int.toNat (Go.IntKind.wrap Go.IntKind.u32 a1)))) := spec_l01From.tx  a1 K

theorem spec_l01Phasor.tx (w_spec_l01From : Int → (Nat → Prop) → Prop) (w_spec_l01SineWide : Nat → (Nat → Prop) → Prop) (w_spec_l01Narrow : Nat → (Nat → Prop) → Prop) (a1 : Nat) (K : Nat → Nat → Prop) : spec_l01Phasor.bd w_spec_l01From w_spec_l01SineWide w_spec_l01Narrow a1 K =
  (Go.K.ifB (Go.K.fne Go.FloatKind.f64 (Go.K.farith Go.BinOp.sub Go.FloatKind.f64 a1 a1) (0 : Nat))
  (w_spec_l01From (2143289344 : Int) fun y1 => w_spec_l01From (2143289344 : Int) fun y2 => K y1 y2)
  (Go.K.ifB (Go.K.fge Go.FloatKind.f64 a1 (4841369599423283200 : Nat)) (K (1065353216 : Nat) (0 : Nat))
    (Go.K.ifB (Go.K.fle Go.FloatKind.f64 a1 (14064741636278059008 : Nat)) (K (1065353216 : Nat) (0 : Nat))
      (Option.isSome (Go.K.ftoint Go.FloatKind.f64 a1 Go.IntKind.i64) = Bool.true ∧
        ∀ (J3 : Nat → Prop),
          (∀ (x4 : Nat),
              (∀ (J5 : Nat → Int → Prop),
                  (∀ (x6 : Nat) (x7 : Int),
                      Go.K.ifB (Go.K.fge Go.FloatKind.f64 x6 (4598175219545276416 : Nat))
                          (J5 (Go.K.farith Go.BinOp.sub Go.FloatKind.f64 x6 (4598175219545276416 : Nat)) (Go.IntKind.wrap Go.IntKind.i64 (x7 + (1 : Int))))
                          (w_spec_l01SineWide (Go.K.farith Go.BinOp.sub Go.FloatKind.f64 (4598175219545276416 : Nat) x6) fun y8 =>
                            w_spec_l01SineWide x6 fun y9 =>
                              Go.K.ifB (x7 == (1 : Int))
                                (w_spec_l01Narrow (Go.K.farith Go.BinOp.sub Go.FloatKind.f64 (0 : Nat) y9) fun y10 =>
                                  w_spec_l01Narrow y8 fun y11 => K y10 y11)
                                (Go.K.ifB (x7 == (2 : Int))
                                  (w_spec_l01Narrow (Go.K.farith Go.BinOp.sub Go.FloatKind.f64 (0 : Nat) y8) fun y12 =>
                                    w_spec_l01Narrow (Go.K.farith Go.BinOp.sub Go.FloatKind.f64 (0 : Nat) y9) fun y13 => K y12 y13)
                                  (Go.K.ifB (x7 == (3 : Int))
                                    (w_spec_l01Narrow y9 fun y14 =>
                                      w_spec_l01Narrow (Go.K.farith Go.BinOp.sub Go.FloatKind.f64 (0 : Nat) y8) fun y15 => K y14 y15)
                                    (w_spec_l01Narrow y8 fun y16 => w_spec_l01Narrow y9 fun y17 => K y16 y17)))) →
                        J5 x6 x7) →
                    J5 x4 (0 : Int)) →
                J3 x4) →
            Go.K.ifB
              (Go.K.flt Go.FloatKind.f64
                (Go.K.farith Go.BinOp.sub Go.FloatKind.f64 a1 (Go.K.fofint Go.FloatKind.f64 (Option.getD (Go.K.ftoint Go.FloatKind.f64 a1 Go.IntKind.i64) (0 : Int)))) (0 : Nat))
              (J3
                (Go.K.farith Go.BinOp.add Go.FloatKind.f64
                  (Go.K.farith Go.BinOp.sub Go.FloatKind.f64 a1 (Go.K.fofint Go.FloatKind.f64 (Option.getD (Go.K.ftoint Go.FloatKind.f64 a1 Go.IntKind.i64) (0 : Int))))
                  (4607182418800017408 : Nat)))
              (J3
                (Go.K.farith Go.BinOp.sub Go.FloatKind.f64 a1
                  (Go.K.fofint Go.FloatKind.f64 (Option.getD (Go.K.ftoint Go.FloatKind.f64 a1 Go.IntKind.i64) (0 : Int))))))))) := by kernel_rfl
theorem spec_l01Phasor.eq (a1 : Nat) (K : Nat → Nat → Prop) : spec_l01Phasor.wp a1 K =
  (Go.K.ifB (Go.K.fne Go.FloatKind.f64 (Go.K.farith Go.BinOp.sub Go.FloatKind.f64 a1 a1) (0 : Nat))
  (Go.K.melts.spec_l01From.wp (2143289344 : Int) fun y1 => Go.K.melts.spec_l01From.wp (2143289344 : Int) fun y2 => K y1 y2)
  (Go.K.ifB (Go.K.fge Go.FloatKind.f64 a1 (4841369599423283200 : Nat)) (K (1065353216 : Nat) (0 : Nat))
    (Go.K.ifB (Go.K.fle Go.FloatKind.f64 a1 (14064741636278059008 : Nat)) (K (1065353216 : Nat) (0 : Nat))
      (Option.isSome (Go.K.ftoint Go.FloatKind.f64 a1 Go.IntKind.i64) = Bool.true ∧
        ∀ (J3 : Nat → Prop),
          (∀ (x4 : Nat),
              (∀ (J5 : Nat → Int → Prop),
                  (∀ (x6 : Nat) (x7 : Int),
                      Go.K.ifB (Go.K.fge Go.FloatKind.f64 x6 (4598175219545276416 : Nat))
                          (J5 (Go.K.farith Go.BinOp.sub Go.FloatKind.f64 x6 (4598175219545276416 : Nat)) (Go.IntKind.wrap Go.IntKind.i64 (x7 + (1 : Int))))
                          (Go.K.melts.spec_l01SineWide.wp (Go.K.farith Go.BinOp.sub Go.FloatKind.f64 (4598175219545276416 : Nat) x6) fun y8 =>
                            Go.K.melts.spec_l01SineWide.wp x6 fun y9 =>
                              Go.K.ifB (x7 == (1 : Int))
                                (Go.K.melts.spec_l01Narrow.wp (Go.K.farith Go.BinOp.sub Go.FloatKind.f64 (0 : Nat) y9) fun y10 =>
                                  Go.K.melts.spec_l01Narrow.wp y8 fun y11 => K y10 y11)
                                (Go.K.ifB (x7 == (2 : Int))
                                  (Go.K.melts.spec_l01Narrow.wp (Go.K.farith Go.BinOp.sub Go.FloatKind.f64 (0 : Nat) y8) fun y12 =>
                                    Go.K.melts.spec_l01Narrow.wp (Go.K.farith Go.BinOp.sub Go.FloatKind.f64 (0 : Nat) y9) fun y13 => K y12 y13)
                                  (Go.K.ifB (x7 == (3 : Int))
                                    (Go.K.melts.spec_l01Narrow.wp y9 fun y14 =>
                                      Go.K.melts.spec_l01Narrow.wp (Go.K.farith Go.BinOp.sub Go.FloatKind.f64 (0 : Nat) y8) fun y15 => K y14 y15)
                                    (Go.K.melts.spec_l01Narrow.wp y8 fun y16 => Go.K.melts.spec_l01Narrow.wp y9 fun y17 => K y16 y17)))) →
                        J5 x6 x7) →
                    J5 x4 (0 : Int)) →
                J3 x4) →
            Go.K.ifB
              (Go.K.flt Go.FloatKind.f64
                (Go.K.farith Go.BinOp.sub Go.FloatKind.f64 a1 (Go.K.fofint Go.FloatKind.f64 (Option.getD (Go.K.ftoint Go.FloatKind.f64 a1 Go.IntKind.i64) (0 : Int)))) (0 : Nat))
              (J3
                (Go.K.farith Go.BinOp.add Go.FloatKind.f64
                  (Go.K.farith Go.BinOp.sub Go.FloatKind.f64 a1 (Go.K.fofint Go.FloatKind.f64 (Option.getD (Go.K.ftoint Go.FloatKind.f64 a1 Go.IntKind.i64) (0 : Int))))
                  (4607182418800017408 : Nat)))
              (J3
                (Go.K.farith Go.BinOp.sub Go.FloatKind.f64 a1
                  (Go.K.fofint Go.FloatKind.f64 (Option.getD (Go.K.ftoint Go.FloatKind.f64 a1 Go.IntKind.i64) (0 : Int))))))))) := spec_l01Phasor.tx spec_l01From.wp spec_l01SineWide.wp spec_l01Narrow.wp a1 K

theorem spec_l01Scale.tx  (a1 : Nat) (a2 : Nat) (a3 : Nat) (K : Nat → Nat → Prop) : spec_l01Scale.bd  a1 a2 a3 K =
  (K (Go.K.farith Go.BinOp.mul Go.FloatKind.f32 a1 a3) (Go.K.farith Go.BinOp.mul Go.FloatKind.f32 a2 a3)) := by kernel_rfl
theorem spec_l01Scale.eq (a1 : Nat) (a2 : Nat) (a3 : Nat) (K : Nat → Nat → Prop) : spec_l01Scale.wp a1 a2 a3 K =
  (K (Go.K.farith Go.BinOp.mul Go.FloatKind.f32 a1 a3) (Go.K.farith Go.BinOp.mul Go.FloatKind.f32 a2 a3)) := spec_l01Scale.tx  a1 a2 a3 K

theorem spec_FoldOf.tx (w_spec_l03Is : Int → Int → Bool → Int → Int → Bool → Nat → Nat → Nat → Nat → Nat → Int → List Nat → List Nat → (Bool → Prop) → Prop) (w_spec_l00In : Int → Int → Int → (Bool → Prop) → Prop) (w_spec_l02At : Int → Int → Bool → List Nat → Int → Int → (Nat → Prop) → Prop) (w_spec_l01Angle : Nat → Nat → (Nat → Prop) → Prop) (w_spec_l01Phasor : Nat → (Nat → Nat → Prop) → Prop) (w_spec_l01Scale : Nat → Nat → Nat → (Nat → Nat → Prop) → Prop) (a1 : List
  Nat) (a2 : List
  Nat) (a3 : Int) (a4 : Int) (a5 : Bool) (a6 : Int) (a7 : Int) (a8 : Bool) (a9 : Nat) (a10 : Nat) (a11 : Nat) (a12 : Nat) (a13 : Nat) (a14 : Int) (a15 : Int) (K : Nat →
  Nat → Bool → Prop) : spec_FoldOf.bd w_spec_l03Is w_spec_l00In w_spec_l02At w_spec_l01Angle w_spec_l01Phasor w_spec_l01Scale a1 a2 a3 a4 a5 a6 a7 a8 a9 a10 a11 a12 a13 a14 a15 K =
  (w_spec_l03Is a3 a4 a5 a6 a7 a8 a9 a10 a11 a12 a13 a14 a1 a2 fun y1 =>
  Go.K.ifB (!y1) (K (0 : Nat) (0 : Nat) Bool.false)
    (w_spec_l00In a15 (1 : Int) (8 : Int) fun y2 =>
      Go.K.ifB (!y2) (K (0 : Nat) (0 : Nat) Bool.false)
        (∀ (J3 : Int → Int → Bool → Int → Int → Bool → Nat → Nat → Nat → Nat → Nat → Int → Nat → Nat → Nat → Int → Prop),
          (∀ (x4 x5 : Int) (x6 : Bool) (x7 x8 : Int) (x9 : Bool) (x10 x11 x12 x13 x14 : Nat) (x15 : Int) (x16 x17 x18 : Nat) (x19 : Int),
              Go.K.ifB (Decidable.decide (x19 < x5))
                  (∀ (J20 : Int → Int → Bool → Int → Int → Bool → Nat → Nat → Nat → Nat → Nat → Int → Nat → Nat → Nat → Int → Int → Prop),
                    (∀ (x21 x22 : Int) (x23 : Bool) (x24 x25 : Int) (x26 : Bool) (x27 x28 x29 x30 x31 : Nat) (x32 : Int) (x33 x34 x35 : Nat) (x36 x37 : Int),
                        Go.K.ifB (Decidable.decide (x37 < x21))
                            (Go.K.ifB
                              (Go.K.feq Go.FloatKind.f32
                                (Go.K.farith Go.BinOp.sub Go.FloatKind.f32 (Go.K.fofint Go.FloatKind.f32 x37)
                                  (Go.K.farith Go.BinOp.mul Go.FloatKind.f32 (1056964608 : Nat) (Go.K.fofint Go.FloatKind.f32 (Go.IntKind.wrap Go.IntKind.i64 (x21 - (1 : Int))))))
                                (0 : Nat))
                              (Go.K.ifB
                                (Go.K.feq Go.FloatKind.f32
                                  (Go.K.farith Go.BinOp.sub Go.FloatKind.f32 (Go.K.fofint Go.FloatKind.f32 x36)
                                    (Go.K.farith Go.BinOp.mul Go.FloatKind.f32 (1056964608 : Nat)
                                      (Go.K.fofint Go.FloatKind.f32 (Go.IntKind.wrap Go.IntKind.i64 (x22 - (1 : Int))))))
                                  (0 : Nat))
                                (J20 x21 x22 x23 x24 x25 x26 x27 x28 x29 x30 x31 x32 x33 x34 x35 x36 (Go.IntKind.wrap Go.IntKind.i64 (x37 + (1 : Int))))
                                (w_spec_l02At x21 x22 x23 a1 x37 x36 fun y38 =>
                                  w_spec_l01Angle
                                    (Go.K.farith Go.BinOp.sub Go.FloatKind.f32 (Go.K.fofint Go.FloatKind.f32 x36)
                                      (Go.K.farith Go.BinOp.mul Go.FloatKind.f32 (1056964608 : Nat)
                                        (Go.K.fofint Go.FloatKind.f32 (Go.IntKind.wrap Go.IntKind.i64 (x22 - (1 : Int))))))
                                    (Go.K.farith Go.BinOp.sub Go.FloatKind.f32 (Go.K.fofint Go.FloatKind.f32 x37)
                                      (Go.K.farith Go.BinOp.mul Go.FloatKind.f32 (1056964608 : Nat)
                                        (Go.K.fofint Go.FloatKind.f32 (Go.IntKind.wrap Go.IntKind.i64 (x21 - (1 : Int))))))
                                    fun y39 =>
                                    w_spec_l01Phasor
                                      (Go.K.farith Go.BinOp.mul Go.FloatKind.f64 (Go.K.fofint Go.FloatKind.f64 a15) (Go.K.fconv Go.FloatKind.f32 Go.FloatKind.f64 y39))
                                      fun y40 y41 =>
                                      w_spec_l01Scale y40 y41 y38 fun y42 y43 =>
                                        J20 x21 x22 x23 x24 x25 x26 x27 x28 x29 x30 x31 x32 (Go.K.farith Go.BinOp.add Go.FloatKind.f32 x33 y42)
                                          (Go.K.farith Go.BinOp.add Go.FloatKind.f32 x34 y43) (Go.K.farith Go.BinOp.add Go.FloatKind.f32 x35 y38) x36
                                          (Go.IntKind.wrap Go.IntKind.i64 (x37 + (1 : Int)))))
                              (w_spec_l02At x21 x22 x23 a1 x37 x36 fun y44 =>
                                w_spec_l01Angle
                                  (Go.K.farith Go.BinOp.sub Go.FloatKind.f32 (Go.K.fofint Go.FloatKind.f32 x36)
                                    (Go.K.farith Go.BinOp.mul Go.FloatKind.f32 (1056964608 : Nat)
                                      (Go.K.fofint Go.FloatKind.f32 (Go.IntKind.wrap Go.IntKind.i64 (x22 - (1 : Int))))))
                                  (Go.K.farith Go.BinOp.sub Go.FloatKind.f32 (Go.K.fofint Go.FloatKind.f32 x37)
                                    (Go.K.farith Go.BinOp.mul Go.FloatKind.f32 (1056964608 : Nat)
                                      (Go.K.fofint Go.FloatKind.f32 (Go.IntKind.wrap Go.IntKind.i64 (x21 - (1 : Int))))))
                                  fun y45 =>
                                  w_spec_l01Phasor
                                    (Go.K.farith Go.BinOp.mul Go.FloatKind.f64 (Go.K.fofint Go.FloatKind.f64 a15) (Go.K.fconv Go.FloatKind.f32 Go.FloatKind.f64 y45)) fun y46 y47 =>
                                    w_spec_l01Scale y46 y47 y44 fun y48 y49 =>
                                      J20 x21 x22 x23 x24 x25 x26 x27 x28 x29 x30 x31 x32 (Go.K.farith Go.BinOp.add Go.FloatKind.f32 x33 y48)
                                        (Go.K.farith Go.BinOp.add Go.FloatKind.f32 x34 y49) (Go.K.farith Go.BinOp.add Go.FloatKind.f32 x35 y44) x36
                                        (Go.IntKind.wrap Go.IntKind.i64 (x37 + (1 : Int)))))
                            (J3 x21 x22 x23 x24 x25 x26 x27 x28 x29 x30 x31 x32 x33 x34 x35 (Go.IntKind.wrap Go.IntKind.i64 (x36 + (1 : Int)))) →
                          J20 x21 x22 x23 x24 x25 x26 x27 x28 x29 x30 x31 x32 x33 x34 x35 x36 x37) →
                      J20 x4 x5 x6 x7 x8 x9 x10 x11 x12 x13 x14 x15 x16 x17 x18 x19 (0 : Int))
                  (Go.K.ifB (!Go.K.fgt Go.FloatKind.f32 x18 (0 : Nat)) (K (0 : Nat) (0 : Nat) Bool.false)
                    (K (Go.K.farith Go.BinOp.quo Go.FloatKind.f32 x16 x18) (Go.K.farith Go.BinOp.quo Go.FloatKind.f32 x17 x18) Bool.true)) →
                J3 x4 x5 x6 x7 x8 x9 x10 x11 x12 x13 x14 x15 x16 x17 x18 x19) →
            J3 a3 a4 a5 a6 a7 a8 a9 a10 a11 a12 a13 a14 (0 : Nat) (0 : Nat) (0 : Nat) (0 : Int)))) := by kernel_rfl
theorem spec_FoldOf.eq (a1 : List
  Nat) (a2 : List
  Nat) (a3 : Int) (a4 : Int) (a5 : Bool) (a6 : Int) (a7 : Int) (a8 : Bool) (a9 : Nat) (a10 : Nat) (a11 : Nat) (a12 : Nat) (a13 : Nat) (a14 : Int) (a15 : Int) (K : Nat →
  Nat → Bool → Prop) : spec_FoldOf.wp a1 a2 a3 a4 a5 a6 a7 a8 a9 a10 a11 a12 a13 a14 a15 K =
  (Go.K.melts.spec_l03Is.wp a3 a4 a5 a6 a7 a8 a9 a10 a11 a12 a13 a14 a1 a2 fun y1 =>
  Go.K.ifB (!y1) (K (0 : Nat) (0 : Nat) Bool.false)
    (Go.K.melts.spec_l00In.wp a15 (1 : Int) (8 : Int) fun y2 =>
      Go.K.ifB (!y2) (K (0 : Nat) (0 : Nat) Bool.false)
        (∀ (J3 : Int → Int → Bool → Int → Int → Bool → Nat → Nat → Nat → Nat → Nat → Int → Nat → Nat → Nat → Int → Prop),
          (∀ (x4 x5 : Int) (x6 : Bool) (x7 x8 : Int) (x9 : Bool) (x10 x11 x12 x13 x14 : Nat) (x15 : Int) (x16 x17 x18 : Nat) (x19 : Int),
              Go.K.ifB (Decidable.decide (x19 < x5))
                  (∀ (J20 : Int → Int → Bool → Int → Int → Bool → Nat → Nat → Nat → Nat → Nat → Int → Nat → Nat → Nat → Int → Int → Prop),
                    (∀ (x21 x22 : Int) (x23 : Bool) (x24 x25 : Int) (x26 : Bool) (x27 x28 x29 x30 x31 : Nat) (x32 : Int) (x33 x34 x35 : Nat) (x36 x37 : Int),
                        Go.K.ifB (Decidable.decide (x37 < x21))
                            (Go.K.ifB
                              (Go.K.feq Go.FloatKind.f32
                                (Go.K.farith Go.BinOp.sub Go.FloatKind.f32 (Go.K.fofint Go.FloatKind.f32 x37)
                                  (Go.K.farith Go.BinOp.mul Go.FloatKind.f32 (1056964608 : Nat) (Go.K.fofint Go.FloatKind.f32 (Go.IntKind.wrap Go.IntKind.i64 (x21 - (1 : Int))))))
                                (0 : Nat))
                              (Go.K.ifB
                                (Go.K.feq Go.FloatKind.f32
                                  (Go.K.farith Go.BinOp.sub Go.FloatKind.f32 (Go.K.fofint Go.FloatKind.f32 x36)
                                    (Go.K.farith Go.BinOp.mul Go.FloatKind.f32 (1056964608 : Nat)
                                      (Go.K.fofint Go.FloatKind.f32 (Go.IntKind.wrap Go.IntKind.i64 (x22 - (1 : Int))))))
                                  (0 : Nat))
                                (J20 x21 x22 x23 x24 x25 x26 x27 x28 x29 x30 x31 x32 x33 x34 x35 x36 (Go.IntKind.wrap Go.IntKind.i64 (x37 + (1 : Int))))
                                (Go.K.melts.spec_l02At.wp x21 x22 x23 a1 x37 x36 fun y38 =>
                                  Go.K.melts.spec_l01Angle.wp
                                    (Go.K.farith Go.BinOp.sub Go.FloatKind.f32 (Go.K.fofint Go.FloatKind.f32 x36)
                                      (Go.K.farith Go.BinOp.mul Go.FloatKind.f32 (1056964608 : Nat)
                                        (Go.K.fofint Go.FloatKind.f32 (Go.IntKind.wrap Go.IntKind.i64 (x22 - (1 : Int))))))
                                    (Go.K.farith Go.BinOp.sub Go.FloatKind.f32 (Go.K.fofint Go.FloatKind.f32 x37)
                                      (Go.K.farith Go.BinOp.mul Go.FloatKind.f32 (1056964608 : Nat)
                                        (Go.K.fofint Go.FloatKind.f32 (Go.IntKind.wrap Go.IntKind.i64 (x21 - (1 : Int))))))
                                    fun y39 =>
                                    Go.K.melts.spec_l01Phasor.wp
                                      (Go.K.farith Go.BinOp.mul Go.FloatKind.f64 (Go.K.fofint Go.FloatKind.f64 a15) (Go.K.fconv Go.FloatKind.f32 Go.FloatKind.f64 y39))
                                      fun y40 y41 =>
                                      Go.K.melts.spec_l01Scale.wp y40 y41 y38 fun y42 y43 =>
                                        J20 x21 x22 x23 x24 x25 x26 x27 x28 x29 x30 x31 x32 (Go.K.farith Go.BinOp.add Go.FloatKind.f32 x33 y42)
                                          (Go.K.farith Go.BinOp.add Go.FloatKind.f32 x34 y43) (Go.K.farith Go.BinOp.add Go.FloatKind.f32 x35 y38) x36
                                          (Go.IntKind.wrap Go.IntKind.i64 (x37 + (1 : Int)))))
                              (Go.K.melts.spec_l02At.wp x21 x22 x23 a1 x37 x36 fun y44 =>
                                Go.K.melts.spec_l01Angle.wp
                                  (Go.K.farith Go.BinOp.sub Go.FloatKind.f32 (Go.K.fofint Go.FloatKind.f32 x36)
                                    (Go.K.farith Go.BinOp.mul Go.FloatKind.f32 (1056964608 : Nat)
                                      (Go.K.fofint Go.FloatKind.f32 (Go.IntKind.wrap Go.IntKind.i64 (x22 - (1 : Int))))))
                                  (Go.K.farith Go.BinOp.sub Go.FloatKind.f32 (Go.K.fofint Go.FloatKind.f32 x37)
                                    (Go.K.farith Go.BinOp.mul Go.FloatKind.f32 (1056964608 : Nat)
                                      (Go.K.fofint Go.FloatKind.f32 (Go.IntKind.wrap Go.IntKind.i64 (x21 - (1 : Int))))))
                                  fun y45 =>
                                  Go.K.melts.spec_l01Phasor.wp
                                    (Go.K.farith Go.BinOp.mul Go.FloatKind.f64 (Go.K.fofint Go.FloatKind.f64 a15) (Go.K.fconv Go.FloatKind.f32 Go.FloatKind.f64 y45)) fun y46 y47 =>
                                    Go.K.melts.spec_l01Scale.wp y46 y47 y44 fun y48 y49 =>
                                      J20 x21 x22 x23 x24 x25 x26 x27 x28 x29 x30 x31 x32 (Go.K.farith Go.BinOp.add Go.FloatKind.f32 x33 y48)
                                        (Go.K.farith Go.BinOp.add Go.FloatKind.f32 x34 y49) (Go.K.farith Go.BinOp.add Go.FloatKind.f32 x35 y44) x36
                                        (Go.IntKind.wrap Go.IntKind.i64 (x37 + (1 : Int)))))
                            (J3 x21 x22 x23 x24 x25 x26 x27 x28 x29 x30 x31 x32 x33 x34 x35 (Go.IntKind.wrap Go.IntKind.i64 (x36 + (1 : Int)))) →
                          J20 x21 x22 x23 x24 x25 x26 x27 x28 x29 x30 x31 x32 x33 x34 x35 x36 x37) →
                      J20 x4 x5 x6 x7 x8 x9 x10 x11 x12 x13 x14 x15 x16 x17 x18 x19 (0 : Int))
                  (Go.K.ifB (!Go.K.fgt Go.FloatKind.f32 x18 (0 : Nat)) (K (0 : Nat) (0 : Nat) Bool.false)
                    (K (Go.K.farith Go.BinOp.quo Go.FloatKind.f32 x16 x18) (Go.K.farith Go.BinOp.quo Go.FloatKind.f32 x17 x18) Bool.true)) →
                J3 x4 x5 x6 x7 x8 x9 x10 x11 x12 x13 x14 x15 x16 x17 x18 x19) →
            J3 a3 a4 a5 a6 a7 a8 a9 a10 a11 a12 a13 a14 (0 : Nat) (0 : Nat) (0 : Nat) (0 : Int)))) := spec_FoldOf.tx spec_l03Is.wp spec_l00In.wp spec_l02At.wp spec_l01Angle.wp spec_l01Phasor.wp spec_l01Scale.wp a1 a2 a3 a4 a5 a6 a7 a8 a9 a10 a11 a12 a13 a14 a15 K

theorem impl_PhasorOf.tx (w_impl_finite : Nat → (Bool → Prop) → Prop) (w_math_NaN : (Nat → Prop) → Prop) (w_math_Abs : Nat → (Nat → Prop) → Prop) (w_impl_behind : Nat → (Nat → Prop) → Prop) (w_impl_sine : Nat → (Nat → Prop) → Prop) (a1 : Nat) (K : Nat → Nat → Prop) : impl_PhasorOf.bd w_impl_finite w_math_NaN w_math_Abs w_impl_behind w_impl_sine a1 K =
  (w_impl_finite a1 fun y1 =>
  Go.K.ifB (!y1)
    (w_math_NaN fun y2 =>
      Go.K.fitsF Go.FloatKind.f64 Go.FloatKind.f32 y2 = Bool.true ∧ K (Go.K.fconv Go.FloatKind.f64 Go.FloatKind.f32 y2) (Go.K.fconv Go.FloatKind.f64 Go.FloatKind.f32 y2))
    (w_math_Abs a1 fun y3 =>
      Go.K.ifB (Go.K.fge Go.FloatKind.f64 y3 (4841369599423283200 : Nat)) (K (1065353216 : Nat) (0 : Nat))
        (w_impl_behind a1 fun y4 =>
          ∀ (J5 : Nat → Int → Prop),
            (∀ (x6 : Nat) (x7 : Int),
                Go.K.ifB (Go.K.fge Go.FloatKind.f64 x6 (4598175219545276416 : Nat))
                    (J5 (Go.K.farith Go.BinOp.sub Go.FloatKind.f64 x6 (4598175219545276416 : Nat)) (Go.IntKind.wrap Go.IntKind.i64 (x7 + (1 : Int))))
                    (w_impl_sine (Go.K.farith Go.BinOp.sub Go.FloatKind.f64 (4598175219545276416 : Nat) x6) fun y8 =>
                      w_impl_sine x6 fun y9 =>
                        Go.K.ifB (x7 == (1 : Int))
                          (Go.K.fitsF Go.FloatKind.f64 Go.FloatKind.f32 (Go.K.farith Go.BinOp.sub Go.FloatKind.f64 (0 : Nat) y9) = Bool.true ∧
                            Go.K.fitsF Go.FloatKind.f64 Go.FloatKind.f32 y8 = Bool.true ∧
                              K (Go.K.fconv Go.FloatKind.f64 Go.FloatKind.f32 (Go.K.farith Go.BinOp.sub Go.FloatKind.f64 (0 : Nat) y9))
                                (Go.K.fconv Go.FloatKind.f64 Go.FloatKind.f32 y8))
                          (Go.K.ifB (x7 == (2 : Int))
                            (Go.K.fitsF Go.FloatKind.f64 Go.FloatKind.f32 (Go.K.farith Go.BinOp.sub Go.FloatKind.f64 (0 : Nat) y8) = Bool.true ∧
                              Go.K.fitsF Go.FloatKind.f64 Go.FloatKind.f32 (Go.K.farith Go.BinOp.sub Go.FloatKind.f64 (0 : Nat) y9) = Bool.true ∧
                                K (Go.K.fconv Go.FloatKind.f64 Go.FloatKind.f32 (Go.K.farith Go.BinOp.sub Go.FloatKind.f64 (0 : Nat) y8))
                                  (Go.K.fconv Go.FloatKind.f64 Go.FloatKind.f32 (Go.K.farith Go.BinOp.sub Go.FloatKind.f64 (0 : Nat) y9)))
                            (Go.K.ifB (x7 == (3 : Int))
                              (Go.K.fitsF Go.FloatKind.f64 Go.FloatKind.f32 y9 = Bool.true ∧
                                Go.K.fitsF Go.FloatKind.f64 Go.FloatKind.f32 (Go.K.farith Go.BinOp.sub Go.FloatKind.f64 (0 : Nat) y8) = Bool.true ∧
                                  K (Go.K.fconv Go.FloatKind.f64 Go.FloatKind.f32 y9)
                                    (Go.K.fconv Go.FloatKind.f64 Go.FloatKind.f32 (Go.K.farith Go.BinOp.sub Go.FloatKind.f64 (0 : Nat) y8)))
                              (Go.K.fitsF Go.FloatKind.f64 Go.FloatKind.f32 y8 = Bool.true ∧
                                Go.K.fitsF Go.FloatKind.f64 Go.FloatKind.f32 y9 = Bool.true ∧
                                  K (Go.K.fconv Go.FloatKind.f64 Go.FloatKind.f32 y8) (Go.K.fconv Go.FloatKind.f64 Go.FloatKind.f32 y9))))) →
                  J5 x6 x7) →
              J5 y4 (0 : Int)))) := by kernel_rfl
theorem impl_PhasorOf.eq (a1 : Nat) (K : Nat → Nat → Prop) : impl_PhasorOf.wp a1 K =
  (Go.K.melts.impl_finite.wp a1 fun y1 =>
  Go.K.ifB (!y1)
    (Go.K.melts.math_NaN.wp fun y2 =>
      Go.K.fitsF Go.FloatKind.f64 Go.FloatKind.f32 y2 = Bool.true ∧ K (Go.K.fconv Go.FloatKind.f64 Go.FloatKind.f32 y2) (Go.K.fconv Go.FloatKind.f64 Go.FloatKind.f32 y2))
    (Go.K.melts.math_Abs.wp a1 fun y3 =>
      Go.K.ifB (Go.K.fge Go.FloatKind.f64 y3 (4841369599423283200 : Nat)) (K (1065353216 : Nat) (0 : Nat))
        (Go.K.melts.impl_behind.wp a1 fun y4 =>
          ∀ (J5 : Nat → Int → Prop),
            (∀ (x6 : Nat) (x7 : Int),
                Go.K.ifB (Go.K.fge Go.FloatKind.f64 x6 (4598175219545276416 : Nat))
                    (J5 (Go.K.farith Go.BinOp.sub Go.FloatKind.f64 x6 (4598175219545276416 : Nat)) (Go.IntKind.wrap Go.IntKind.i64 (x7 + (1 : Int))))
                    (Go.K.melts.impl_sine.wp (Go.K.farith Go.BinOp.sub Go.FloatKind.f64 (4598175219545276416 : Nat) x6) fun y8 =>
                      Go.K.melts.impl_sine.wp x6 fun y9 =>
                        Go.K.ifB (x7 == (1 : Int))
                          (Go.K.fitsF Go.FloatKind.f64 Go.FloatKind.f32 (Go.K.farith Go.BinOp.sub Go.FloatKind.f64 (0 : Nat) y9) = Bool.true ∧
                            Go.K.fitsF Go.FloatKind.f64 Go.FloatKind.f32 y8 = Bool.true ∧
                              K (Go.K.fconv Go.FloatKind.f64 Go.FloatKind.f32 (Go.K.farith Go.BinOp.sub Go.FloatKind.f64 (0 : Nat) y9))
                                (Go.K.fconv Go.FloatKind.f64 Go.FloatKind.f32 y8))
                          (Go.K.ifB (x7 == (2 : Int))
                            (Go.K.fitsF Go.FloatKind.f64 Go.FloatKind.f32 (Go.K.farith Go.BinOp.sub Go.FloatKind.f64 (0 : Nat) y8) = Bool.true ∧
                              Go.K.fitsF Go.FloatKind.f64 Go.FloatKind.f32 (Go.K.farith Go.BinOp.sub Go.FloatKind.f64 (0 : Nat) y9) = Bool.true ∧
                                K (Go.K.fconv Go.FloatKind.f64 Go.FloatKind.f32 (Go.K.farith Go.BinOp.sub Go.FloatKind.f64 (0 : Nat) y8))
                                  (Go.K.fconv Go.FloatKind.f64 Go.FloatKind.f32 (Go.K.farith Go.BinOp.sub Go.FloatKind.f64 (0 : Nat) y9)))
                            (Go.K.ifB (x7 == (3 : Int))
                              (Go.K.fitsF Go.FloatKind.f64 Go.FloatKind.f32 y9 = Bool.true ∧
                                Go.K.fitsF Go.FloatKind.f64 Go.FloatKind.f32 (Go.K.farith Go.BinOp.sub Go.FloatKind.f64 (0 : Nat) y8) = Bool.true ∧
                                  K (Go.K.fconv Go.FloatKind.f64 Go.FloatKind.f32 y9)
                                    (Go.K.fconv Go.FloatKind.f64 Go.FloatKind.f32 (Go.K.farith Go.BinOp.sub Go.FloatKind.f64 (0 : Nat) y8)))
                              (Go.K.fitsF Go.FloatKind.f64 Go.FloatKind.f32 y8 = Bool.true ∧
                                Go.K.fitsF Go.FloatKind.f64 Go.FloatKind.f32 y9 = Bool.true ∧
                                  K (Go.K.fconv Go.FloatKind.f64 Go.FloatKind.f32 y8) (Go.K.fconv Go.FloatKind.f64 Go.FloatKind.f32 y9))))) →
                  J5 x6 x7) →
              J5 y4 (0 : Int)))) := impl_PhasorOf.tx impl_finite.wp math_NaN.wp math_Abs.wp impl_behind.wp impl_sine.wp a1 K

theorem impl_ScaleComplex.tx  (a1 : Nat) (a2 : Nat) (a3 : Nat) (K : Nat → Nat → Prop) : impl_ScaleComplex.bd  a1 a2 a3 K =
  (K (Go.K.farith Go.BinOp.mul Go.FloatKind.f32 a1 a3) (Go.K.farith Go.BinOp.mul Go.FloatKind.f32 a2 a3)) := by kernel_rfl
theorem impl_ScaleComplex.eq (a1 : Nat) (a2 : Nat) (a3 : Nat) (K : Nat → Nat → Prop) : impl_ScaleComplex.wp a1 a2 a3 K =
  (K (Go.K.farith Go.BinOp.mul Go.FloatKind.f32 a1 a3) (Go.K.farith Go.BinOp.mul Go.FloatKind.f32 a2 a3)) := impl_ScaleComplex.tx  a1 a2 a3 K

theorem impl_plusComplex.tx  (a1 : Nat) (a2 : Nat) (a3 : Nat) (a4 : Nat) (K : Nat → Nat → Prop) : impl_plusComplex.bd  a1 a2 a3 a4 K =
  (K (Go.K.farith Go.BinOp.add Go.FloatKind.f32 a1 a3) (Go.K.farith Go.BinOp.add Go.FloatKind.f32 a2 a4)) := by kernel_rfl
theorem impl_plusComplex.eq (a1 : Nat) (a2 : Nat) (a3 : Nat) (a4 : Nat) (K : Nat → Nat → Prop) : impl_plusComplex.wp a1 a2 a3 a4 K =
  (K (Go.K.farith Go.BinOp.add Go.FloatKind.f32 a1 a3) (Go.K.farith Go.BinOp.add Go.FloatKind.f32 a2 a4)) := impl_plusComplex.tx  a1 a2 a3 a4 K

theorem impl_IsFiniteComplex.tx (w_impl_IsFinite : Nat → (Bool → Prop) → Prop) (a1 : Nat) (a2 : Nat) (K : Bool → Prop) : impl_IsFiniteComplex.bd w_impl_IsFinite a1 a2 K =
  (w_impl_IsFinite a1 fun y1 => Go.K.ifB y1 (w_impl_IsFinite a2 fun y2 => K y2) (K Bool.false)) := by kernel_rfl
theorem impl_IsFiniteComplex.eq (a1 : Nat) (a2 : Nat) (K : Bool → Prop) : impl_IsFiniteComplex.wp a1 a2 K =
  (Go.K.melts.impl_IsFinite.wp a1 fun y1 => Go.K.ifB y1 (Go.K.melts.impl_IsFinite.wp a2 fun y2 => K y2) (K Bool.false)) := impl_IsFiniteComplex.tx impl_IsFinite.wp a1 a2 K

theorem impl_FoldOf.tx (w_impl_ValidMelt : List Nat → List Nat → Int → Int → Bool → Int → Int → Bool → Nat → Nat → Nat → Nat → Nat → Int → (Bool → Prop) → Prop) (w_impl_within : Int → Int → Int → (Bool → Prop) → Prop) (w_impl_AngleTurns : Nat → Nat → (Nat → Prop) → Prop) (w_impl_PhasorOf : Nat → (Nat → Nat → Prop) → Prop) (w_impl_ScaleComplex : Nat → Nat → Nat → (Nat → Nat → Prop) → Prop) (w_impl_plusComplex : Nat → Nat → Nat → Nat → (Nat → Nat → Prop) → Prop) (w_impl_IsFiniteComplex : Nat → Nat → (Bool → Prop) → Prop) (a1 : List
  Nat) (a2 : List
  Nat) (a3 : Int) (a4 : Int) (a5 : Bool) (a6 : Int) (a7 : Int) (a8 : Bool) (a9 : Nat) (a10 : Nat) (a11 : Nat) (a12 : Nat) (a13 : Nat) (a14 : Int) (a15 : Int) (K : Nat →
  Nat → Bool → Prop) : impl_FoldOf.bd w_impl_ValidMelt w_impl_within w_impl_AngleTurns w_impl_PhasorOf w_impl_ScaleComplex w_impl_plusComplex w_impl_IsFiniteComplex a1 a2 a3 a4 a5 a6 a7 a8 a9 a10 a11 a12 a13 a14 a15 K =
  (w_impl_ValidMelt a1 a2 a3 a4 a5 a6 a7 a8 a9 a10 a11 a12 a13 a14 fun y1 =>
  Go.K.ifB (!y1) (K (0 : Nat) (0 : Nat) Bool.false)
    (w_impl_within a15 (1 : Int) (8 : Int) fun y2 =>
      Go.K.ifB (!y2) (K (0 : Nat) (0 : Nat) Bool.false)
        (∀ (J3 : Int → Int → Bool → Int → Int → Bool → Nat → Nat → Nat → Nat → Nat → Int → Nat → Nat → Nat → Int → Int → Prop),
          (∀ (x4 x5 : Int) (x6 : Bool) (x7 x8 : Int) (x9 : Bool) (x10 x11 x12 x13 x14 : Nat) (x15 : Int) (x16 x17 x18 : Nat) (x19 x20 : Int),
              Go.K.ifB (Decidable.decide (x20 < x19))
                  (((0 : Int) ≤ x20 ∧ x20 < (↑(List.length a1) : Int)) ∧
                    x4 ≠ (0 : Int) ∧
                      x4 ≠ (0 : Int) ∧
                        Go.K.ifB
                          (Go.K.feq Go.FloatKind.f32
                            (Go.K.farith Go.BinOp.sub Go.FloatKind.f32 (Go.K.fofint Go.FloatKind.f32 (Int.tmod x20 x4))
                              (Go.K.farith Go.BinOp.quo Go.FloatKind.f32 (Go.K.fofint Go.FloatKind.f32 (Go.IntKind.wrap Go.IntKind.i64 (x4 - (1 : Int)))) (1073741824 : Nat)))
                            (0 : Nat))
                          (Go.K.ifB
                            (Go.K.feq Go.FloatKind.f32
                              (Go.K.farith Go.BinOp.sub Go.FloatKind.f32 (Go.K.fofint Go.FloatKind.f32 (Go.IntKind.wrap Go.IntKind.i64 (Int.tdiv x20 x4)))
                                (Go.K.farith Go.BinOp.quo Go.FloatKind.f32 (Go.K.fofint Go.FloatKind.f32 (Go.IntKind.wrap Go.IntKind.i64 (x5 - (1 : Int)))) (1073741824 : Nat)))
                              (0 : Nat))
                            (J3 x4 x5 x6 x7 x8 x9 x10 x11 x12 x13 x14 x15 x16 x17 x18 x19 (Go.IntKind.wrap Go.IntKind.i64 (x20 + (1 : Int))))
                            (w_impl_AngleTurns
                              (Go.K.farith Go.BinOp.sub Go.FloatKind.f32 (Go.K.fofint Go.FloatKind.f32 (Go.IntKind.wrap Go.IntKind.i64 (Int.tdiv x20 x4)))
                                (Go.K.farith Go.BinOp.quo Go.FloatKind.f32 (Go.K.fofint Go.FloatKind.f32 (Go.IntKind.wrap Go.IntKind.i64 (x5 - (1 : Int)))) (1073741824 : Nat)))
                              (Go.K.farith Go.BinOp.sub Go.FloatKind.f32 (Go.K.fofint Go.FloatKind.f32 (Int.tmod x20 x4))
                                (Go.K.farith Go.BinOp.quo Go.FloatKind.f32 (Go.K.fofint Go.FloatKind.f32 (Go.IntKind.wrap Go.IntKind.i64 (x4 - (1 : Int)))) (1073741824 : Nat)))
                              fun y21 =>
                              w_impl_PhasorOf
                                (Go.K.farith Go.BinOp.mul Go.FloatKind.f64 (Go.K.fofint Go.FloatKind.f64 a15) (Go.K.fconv Go.FloatKind.f32 Go.FloatKind.f64 y21)) fun y22 y23 =>
                                w_impl_ScaleComplex y22 y23 (List.getD a1 (Int.toNat x20) (0 : Nat)) fun y24 y25 =>
                                  w_impl_plusComplex x16 x17 y24 y25 fun y26 y27 =>
                                    J3 x4 x5 x6 x7 x8 x9 x10 x11 x12 x13 x14 x15 y26 y27 (Go.K.farith Go.BinOp.add Go.FloatKind.f32 x18 (List.getD a1 (Int.toNat x20) (0 : Nat)))
                                      x19 (Go.IntKind.wrap Go.IntKind.i64 (x20 + (1 : Int)))))
                          (w_impl_AngleTurns
                            (Go.K.farith Go.BinOp.sub Go.FloatKind.f32 (Go.K.fofint Go.FloatKind.f32 (Go.IntKind.wrap Go.IntKind.i64 (Int.tdiv x20 x4)))
                              (Go.K.farith Go.BinOp.quo Go.FloatKind.f32 (Go.K.fofint Go.FloatKind.f32 (Go.IntKind.wrap Go.IntKind.i64 (x5 - (1 : Int)))) (1073741824 : Nat)))
                            (Go.K.farith Go.BinOp.sub Go.FloatKind.f32 (Go.K.fofint Go.FloatKind.f32 (Int.tmod x20 x4))
                              (Go.K.farith Go.BinOp.quo Go.FloatKind.f32 (Go.K.fofint Go.FloatKind.f32 (Go.IntKind.wrap Go.IntKind.i64 (x4 - (1 : Int)))) (1073741824 : Nat)))
                            fun y28 =>
                            w_impl_PhasorOf
                              (Go.K.farith Go.BinOp.mul Go.FloatKind.f64 (Go.K.fofint Go.FloatKind.f64 a15) (Go.K.fconv Go.FloatKind.f32 Go.FloatKind.f64 y28)) fun y29 y30 =>
                              w_impl_ScaleComplex y29 y30 (List.getD a1 (Int.toNat x20) (0 : Nat)) fun y31 y32 =>
                                w_impl_plusComplex x16 x17 y31 y32 fun y33 y34 =>
                                  J3 x4 x5 x6 x7 x8 x9 x10 x11 x12 x13 x14 x15 y33 y34 (Go.K.farith Go.BinOp.add Go.FloatKind.f32 x18 (List.getD a1 (Int.toNat x20) (0 : Nat))) x19
                                    (Go.IntKind.wrap Go.IntKind.i64 (x20 + (1 : Int)))))
                  (Go.K.ifB (!Go.K.fgt Go.FloatKind.f32 x18 (0 : Nat)) (K (0 : Nat) (0 : Nat) Bool.false)
                    (w_impl_IsFiniteComplex (Go.K.farith Go.BinOp.quo Go.FloatKind.f32 x16 x18) (Go.K.farith Go.BinOp.quo Go.FloatKind.f32 x17 x18) fun y35 =>
                      Go.K.ifB (!y35) (K (0 : Nat) (0 : Nat) Bool.false)
                        (K (Go.K.farith Go.BinOp.quo Go.FloatKind.f32 x16 x18) (Go.K.farith Go.BinOp.quo Go.FloatKind.f32 x17 x18) Bool.true))) →
                J3 x4 x5 x6 x7 x8 x9 x10 x11 x12 x13 x14 x15 x16 x17 x18 x19 x20) →
            J3 a3 a4 a5 a6 a7 a8 a9 a10 a11 a12 a13 a14 (0 : Nat) (0 : Nat) (0 : Nat) (↑(List.length a1) : Int) (0 : Int)))) := by kernel_rfl
theorem impl_FoldOf.eq (a1 : List
  Nat) (a2 : List
  Nat) (a3 : Int) (a4 : Int) (a5 : Bool) (a6 : Int) (a7 : Int) (a8 : Bool) (a9 : Nat) (a10 : Nat) (a11 : Nat) (a12 : Nat) (a13 : Nat) (a14 : Int) (a15 : Int) (K : Nat →
  Nat → Bool → Prop) : impl_FoldOf.wp a1 a2 a3 a4 a5 a6 a7 a8 a9 a10 a11 a12 a13 a14 a15 K =
  (Go.K.melts.impl_ValidMelt.wp a1 a2 a3 a4 a5 a6 a7 a8 a9 a10 a11 a12 a13 a14 fun y1 =>
  Go.K.ifB (!y1) (K (0 : Nat) (0 : Nat) Bool.false)
    (Go.K.melts.impl_within.wp a15 (1 : Int) (8 : Int) fun y2 =>
      Go.K.ifB (!y2) (K (0 : Nat) (0 : Nat) Bool.false)
        (∀ (J3 : Int → Int → Bool → Int → Int → Bool → Nat → Nat → Nat → Nat → Nat → Int → Nat → Nat → Nat → Int → Int → Prop),
          (∀ (x4 x5 : Int) (x6 : Bool) (x7 x8 : Int) (x9 : Bool) (x10 x11 x12 x13 x14 : Nat) (x15 : Int) (x16 x17 x18 : Nat) (x19 x20 : Int),
              Go.K.ifB (Decidable.decide (x20 < x19))
                  (((0 : Int) ≤ x20 ∧ x20 < (↑(List.length a1) : Int)) ∧
                    x4 ≠ (0 : Int) ∧
                      x4 ≠ (0 : Int) ∧
                        Go.K.ifB
                          (Go.K.feq Go.FloatKind.f32
                            (Go.K.farith Go.BinOp.sub Go.FloatKind.f32 (Go.K.fofint Go.FloatKind.f32 (Int.tmod x20 x4))
                              (Go.K.farith Go.BinOp.quo Go.FloatKind.f32 (Go.K.fofint Go.FloatKind.f32 (Go.IntKind.wrap Go.IntKind.i64 (x4 - (1 : Int)))) (1073741824 : Nat)))
                            (0 : Nat))
                          (Go.K.ifB
                            (Go.K.feq Go.FloatKind.f32
                              (Go.K.farith Go.BinOp.sub Go.FloatKind.f32 (Go.K.fofint Go.FloatKind.f32 (Go.IntKind.wrap Go.IntKind.i64 (Int.tdiv x20 x4)))
                                (Go.K.farith Go.BinOp.quo Go.FloatKind.f32 (Go.K.fofint Go.FloatKind.f32 (Go.IntKind.wrap Go.IntKind.i64 (x5 - (1 : Int)))) (1073741824 : Nat)))
                              (0 : Nat))
                            (J3 x4 x5 x6 x7 x8 x9 x10 x11 x12 x13 x14 x15 x16 x17 x18 x19 (Go.IntKind.wrap Go.IntKind.i64 (x20 + (1 : Int))))
                            (Go.K.melts.impl_AngleTurns.wp
                              (Go.K.farith Go.BinOp.sub Go.FloatKind.f32 (Go.K.fofint Go.FloatKind.f32 (Go.IntKind.wrap Go.IntKind.i64 (Int.tdiv x20 x4)))
                                (Go.K.farith Go.BinOp.quo Go.FloatKind.f32 (Go.K.fofint Go.FloatKind.f32 (Go.IntKind.wrap Go.IntKind.i64 (x5 - (1 : Int)))) (1073741824 : Nat)))
                              (Go.K.farith Go.BinOp.sub Go.FloatKind.f32 (Go.K.fofint Go.FloatKind.f32 (Int.tmod x20 x4))
                                (Go.K.farith Go.BinOp.quo Go.FloatKind.f32 (Go.K.fofint Go.FloatKind.f32 (Go.IntKind.wrap Go.IntKind.i64 (x4 - (1 : Int)))) (1073741824 : Nat)))
                              fun y21 =>
                              Go.K.melts.impl_PhasorOf.wp
                                (Go.K.farith Go.BinOp.mul Go.FloatKind.f64 (Go.K.fofint Go.FloatKind.f64 a15) (Go.K.fconv Go.FloatKind.f32 Go.FloatKind.f64 y21)) fun y22 y23 =>
                                Go.K.melts.impl_ScaleComplex.wp y22 y23 (List.getD a1 (Int.toNat x20) (0 : Nat)) fun y24 y25 =>
                                  Go.K.melts.impl_plusComplex.wp x16 x17 y24 y25 fun y26 y27 =>
                                    J3 x4 x5 x6 x7 x8 x9 x10 x11 x12 x13 x14 x15 y26 y27 (Go.K.farith Go.BinOp.add Go.FloatKind.f32 x18 (List.getD a1 (Int.toNat x20) (0 : Nat)))
                                      x19 (Go.IntKind.wrap Go.IntKind.i64 (x20 + (1 : Int)))))
                          (Go.K.melts.impl_AngleTurns.wp
                            (Go.K.farith Go.BinOp.sub Go.FloatKind.f32 (Go.K.fofint Go.FloatKind.f32 (Go.IntKind.wrap Go.IntKind.i64 (Int.tdiv x20 x4)))
                              (Go.K.farith Go.BinOp.quo Go.FloatKind.f32 (Go.K.fofint Go.FloatKind.f32 (Go.IntKind.wrap Go.IntKind.i64 (x5 - (1 : Int)))) (1073741824 : Nat)))
                            (Go.K.farith Go.BinOp.sub Go.FloatKind.f32 (Go.K.fofint Go.FloatKind.f32 (Int.tmod x20 x4))
                              (Go.K.farith Go.BinOp.quo Go.FloatKind.f32 (Go.K.fofint Go.FloatKind.f32 (Go.IntKind.wrap Go.IntKind.i64 (x4 - (1 : Int)))) (1073741824 : Nat)))
                            fun y28 =>
                            Go.K.melts.impl_PhasorOf.wp
                              (Go.K.farith Go.BinOp.mul Go.FloatKind.f64 (Go.K.fofint Go.FloatKind.f64 a15) (Go.K.fconv Go.FloatKind.f32 Go.FloatKind.f64 y28)) fun y29 y30 =>
                              Go.K.melts.impl_ScaleComplex.wp y29 y30 (List.getD a1 (Int.toNat x20) (0 : Nat)) fun y31 y32 =>
                                Go.K.melts.impl_plusComplex.wp x16 x17 y31 y32 fun y33 y34 =>
                                  J3 x4 x5 x6 x7 x8 x9 x10 x11 x12 x13 x14 x15 y33 y34 (Go.K.farith Go.BinOp.add Go.FloatKind.f32 x18 (List.getD a1 (Int.toNat x20) (0 : Nat))) x19
                                    (Go.IntKind.wrap Go.IntKind.i64 (x20 + (1 : Int)))))
                  (Go.K.ifB (!Go.K.fgt Go.FloatKind.f32 x18 (0 : Nat)) (K (0 : Nat) (0 : Nat) Bool.false)
                    (Go.K.melts.impl_IsFiniteComplex.wp (Go.K.farith Go.BinOp.quo Go.FloatKind.f32 x16 x18) (Go.K.farith Go.BinOp.quo Go.FloatKind.f32 x17 x18) fun y35 =>
                      Go.K.ifB (!y35) (K (0 : Nat) (0 : Nat) Bool.false)
                        (K (Go.K.farith Go.BinOp.quo Go.FloatKind.f32 x16 x18) (Go.K.farith Go.BinOp.quo Go.FloatKind.f32 x17 x18) Bool.true))) →
                J3 x4 x5 x6 x7 x8 x9 x10 x11 x12 x13 x14 x15 x16 x17 x18 x19 x20) →
            J3 a3 a4 a5 a6 a7 a8 a9 a10 a11 a12 a13 a14 (0 : Nat) (0 : Nat) (0 : Nat) (↑(List.length a1) : Int) (0 : Int)))) := impl_FoldOf.tx impl_ValidMelt.wp impl_within.wp impl_AngleTurns.wp impl_PhasorOf.wp impl_ScaleComplex.wp impl_plusComplex.wp impl_IsFiniteComplex.wp a1 a2 a3 a4 a5 a6 a7 a8 a9 a10 a11 a12 a13 a14 a15 K

theorem laws_sameComplex.tx (w_laws_sameFloat : Nat → Nat → (Bool → Prop) → Prop) (a1 : Nat) (a2 : Nat) (a3 : Nat) (a4 : Nat) (K : Bool → Prop) : laws_sameComplex.bd w_laws_sameFloat a1 a2 a3 a4 K =
  (w_laws_sameFloat a1 a3 fun y1 => Go.K.ifB y1 (w_laws_sameFloat a2 a4 fun y2 => K y2) (K Bool.false)) := by kernel_rfl
theorem laws_sameComplex.eq (a1 : Nat) (a2 : Nat) (a3 : Nat) (a4 : Nat) (K : Bool → Prop) : laws_sameComplex.wp a1 a2 a3 a4 K =
  (Go.K.melts.laws_sameFloat.wp a1 a3 fun y1 => Go.K.ifB y1 (Go.K.melts.laws_sameFloat.wp a2 a4 fun y2 => K y2) (K Bool.false)) := laws_sameComplex.tx laws_sameFloat.wp a1 a2 a3 a4 K

theorem laws_FnExactFoldOf.tx (w_laws_szMelt : List Nat → List Nat → Int → Int → Bool → Int → Int → Bool → Nat → Nat → Nat → Nat → Nat → Int → Int → (Int → Prop) → Prop) (w_laws_toMelt : List Nat → List Nat → Int → Int → Bool → Int → Int → Bool → Nat → Nat → Nat → Nat → Nat → Int → (List Nat → List Nat → Int → Int → Bool → Int → Int → Bool → Nat → Nat → Nat → Nat → Nat → Int → Prop) → Prop) (w_spec_FoldOf : List Nat → List Nat → Int → Int → Bool → Int → Int → Bool → Nat → Nat → Nat → Nat → Nat → Int → Int → (Nat → Nat → Bool → Prop) → Prop) (w_impl_FoldOf : List Nat → List Nat → Int → Int → Bool → Int → Int → Bool → Nat → Nat → Nat → Nat → Nat → Int → Int → (Nat → Nat → Bool → Prop) → Prop) (w_laws_sameComplex : Nat → Nat → Nat → Nat → (Bool → Prop) → Prop) (w_laws_eqMelt : List Nat → List Nat → List Nat → List Nat → Int → Int → Bool → Int → Int → Bool → Nat → Nat → Nat → Nat → Nat → Int → Int → Int → Bool → Int → Int → Bool → Nat → Nat → Nat → Nat → Nat → Int → (Bool → Prop) → Prop) (a1 : List
  Nat) (a2 : List
  Nat) (a3 : Int) (a4 : Int) (a5 : Bool) (a6 : Int) (a7 : Int) (a8 : Bool) (a9 : Nat) (a10 : Nat) (a11 : Nat) (a12 : Nat) (a13 : Nat) (a14 : Int) (a15 : Int) (K : Bool →
  Prop) : laws_FnExactFoldOf.bd w_laws_szMelt w_laws_toMelt w_spec_FoldOf w_impl_FoldOf w_laws_sameComplex w_laws_eqMelt a1 a2 a3 a4 a5 a6 a7 a8 a9 a10 a11 a12 a13 a14 a15 K =
  (w_laws_szMelt a1 a2 a3 a4 a5 a6 a7 a8 a9 a10 a11 a12 a13 a14 (1048576 : Int) fun y1 =>
  Go.K.ifB (Decidable.decide (y1 < (0 : Int))) (K Bool.true)
    (w_laws_toMelt a1 a2 a3 a4 a5 a6 a7 a8 a9 a10 a11 a12 a13 a14 fun y2 y3 y4 y5 y6 y7 y8 y9 y10 y11 y12 y13 y14 y15 =>
      w_spec_FoldOf y2 y3 y4 y5 y6 y7 y8 y9 y10 y11 y12 y13 y14 y15 a15 fun y16 y17 y18 =>
        w_laws_toMelt a1 a2 a3 a4 a5 a6 a7 a8 a9 a10 a11 a12 a13 a14 fun y19 y20 y21 y22 y23 y24 y25 y26 y27 y28 y29 y30 y31 y32 =>
          w_impl_FoldOf y19 y20 y21 y22 y23 y24 y25 y26 y27 y28 y29 y30 y31 y32 a15 fun y33 y34 y35 =>
            w_laws_sameComplex (Go.K.fconv Go.FloatKind.f32 Go.FloatKind.f64 y33) (Go.K.fconv Go.FloatKind.f32 Go.FloatKind.f64 y34)
              (Go.K.fconv Go.FloatKind.f32 Go.FloatKind.f64 y16) (Go.K.fconv Go.FloatKind.f32 Go.FloatKind.f64 y17) fun y36 =>
              Go.K.ifB (!y36) (K Bool.false)
                (Go.K.ifB (y35 != y18) (K Bool.false)
                  (w_laws_toMelt a1 a2 a3 a4 a5 a6 a7 a8 a9 a10 a11 a12 a13 a14 fun y37 y38 y39 y40 y41 y42 y43 y44 y45 y46 y47 y48 y49 y50 =>
                    w_laws_eqMelt y19 y20 y37 y38 y21 y22 y23 y24 y25 y26 y27 y28 y29 y30 y31 y32 y39 y40 y41 y42 y43 y44 y45 y46 y47 y48 y49 y50 fun y51 =>
                      Go.K.ifB (!y51) (K Bool.false) (K Bool.true))))) := by kernel_rfl
theorem laws_FnExactFoldOf.eq (a1 : List
  Nat) (a2 : List
  Nat) (a3 : Int) (a4 : Int) (a5 : Bool) (a6 : Int) (a7 : Int) (a8 : Bool) (a9 : Nat) (a10 : Nat) (a11 : Nat) (a12 : Nat) (a13 : Nat) (a14 : Int) (a15 : Int) (K : Bool →
  Prop) : laws_FnExactFoldOf.wp a1 a2 a3 a4 a5 a6 a7 a8 a9 a10 a11 a12 a13 a14 a15 K =
  (Go.K.melts.laws_szMelt.wp a1 a2 a3 a4 a5 a6 a7 a8 a9 a10 a11 a12 a13 a14 (1048576 : Int) fun y1 =>
  Go.K.ifB (Decidable.decide (y1 < (0 : Int))) (K Bool.true)
    (Go.K.melts.laws_toMelt.wp a1 a2 a3 a4 a5 a6 a7 a8 a9 a10 a11 a12 a13 a14 fun y2 y3 y4 y5 y6 y7 y8 y9 y10 y11 y12 y13 y14 y15 =>
      Go.K.melts.spec_FoldOf.wp y2 y3 y4 y5 y6 y7 y8 y9 y10 y11 y12 y13 y14 y15 a15 fun y16 y17 y18 =>
        Go.K.melts.laws_toMelt.wp a1 a2 a3 a4 a5 a6 a7 a8 a9 a10 a11 a12 a13 a14 fun y19 y20 y21 y22 y23 y24 y25 y26 y27 y28 y29 y30 y31 y32 =>
          Go.K.melts.impl_FoldOf.wp y19 y20 y21 y22 y23 y24 y25 y26 y27 y28 y29 y30 y31 y32 a15 fun y33 y34 y35 =>
            Go.K.melts.laws_sameComplex.wp (Go.K.fconv Go.FloatKind.f32 Go.FloatKind.f64 y33) (Go.K.fconv Go.FloatKind.f32 Go.FloatKind.f64 y34)
              (Go.K.fconv Go.FloatKind.f32 Go.FloatKind.f64 y16) (Go.K.fconv Go.FloatKind.f32 Go.FloatKind.f64 y17) fun y36 =>
              Go.K.ifB (!y36) (K Bool.false)
                (Go.K.ifB (y35 != y18) (K Bool.false)
                  (Go.K.melts.laws_toMelt.wp a1 a2 a3 a4 a5 a6 a7 a8 a9 a10 a11 a12 a13 a14 fun y37 y38 y39 y40 y41 y42 y43 y44 y45 y46 y47 y48 y49 y50 =>
                    Go.K.melts.laws_eqMelt.wp y19 y20 y37 y38 y21 y22 y23 y24 y25 y26 y27 y28 y29 y30 y31 y32 y39 y40 y41 y42 y43 y44 y45 y46 y47 y48 y49 y50 fun y51 =>
                      Go.K.ifB (!y51) (K Bool.false) (K Bool.true))))) := laws_FnExactFoldOf.tx laws_szMelt.wp laws_toMelt.wp spec_FoldOf.wp impl_FoldOf.wp laws_sameComplex.wp laws_eqMelt.wp a1 a2 a3 a4 a5 a6 a7 a8 a9 a10 a11 a12 a13 a14 a15 K

end Go.K.melts
