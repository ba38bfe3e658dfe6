/- What the functions compute, written out. -/
import Derived.Test.YtajlojldbmfokaaD
import Derived.KernelRfl
set_option maxRecDepth 100000
set_option linter.unusedVariables false
namespace Go.K.melts
open Go.K Go

theorem laws_szFloat32S.tx  (a1 : List Nat) (a2 : Int) (K : Int → Prop) : laws_szFloat32S.bd  a1 a2 K =
  (Go.K.ifB (Decidable.decide (Go.IntKind.wrap Go.IntKind.i64 (a2 - (↑(List.length a1) : Int)) < (0 : Int))) (K (-1 : Int))
  (K (Go.IntKind.wrap Go.IntKind.i64 (a2 - (↑(List.length a1) : Int))))) := by kernel_rfl
theorem laws_szFloat32S.eq (a1 : List Nat) (a2 : Int) (K : Int → Prop) : laws_szFloat32S.wp a1 a2 K =
  (Go.K.ifB (Decidable.decide (Go.IntKind.wrap Go.IntKind.i64 (a2 - (↑(List.length a1) : Int)) < (0 : Int))) (K (-1 : Int))
  (K (Go.IntKind.wrap Go.IntKind.i64 (a2 - (↑(List.length a1) : Int))))) := laws_szFloat32S.tx  a1 a2 K

theorem laws_szField.tx (w_laws_szFloat32S : List Nat → Int → (Int → Prop) → Prop) (a1 : List Nat) (a2 : Int) (a3 : Int) (a4 : Bool) (a5 : Int) (K : Int → Prop) : laws_szField.bd w_laws_szFloat32S a1 a2 a3 a4 a5 K =
  (w_laws_szFloat32S a1 a5 fun y1 => Go.K.ifB (Decidable.decide (y1 < (0 : Int))) (K (-1 : Int)) (K y1)) := by kernel_rfl
theorem laws_szField.eq (a1 : List Nat) (a2 : Int) (a3 : Int) (a4 : Bool) (a5 : Int) (K : Int → Prop) : laws_szField.wp a1 a2 a3 a4 a5 K =
  (Go.K.melts.laws_szFloat32S.wp a1 a5 fun y1 => Go.K.ifB (Decidable.decide (y1 < (0 : Int))) (K (-1 : Int)) (K y1)) := laws_szField.tx laws_szFloat32S.wp a1 a2 a3 a4 a5 K

theorem laws_szMelt.tx (w_laws_szField : List Nat → Int → Int → Bool → Int → (Int → Prop) → Prop) (a1 : List
  Nat) (a2 : List
  Nat) (a3 : Int) (a4 : Int) (a5 : Bool) (a6 : Int) (a7 : Int) (a8 : Bool) (a9 : Nat) (a10 : Nat) (a11 : Nat) (a12 : Nat) (a13 : Nat) (a14 : Int) (a15 : Int) (K : Int →
  Prop) : laws_szMelt.bd w_laws_szField a1 a2 a3 a4 a5 a6 a7 a8 a9 a10 a11 a12 a13 a14 a15 K =
  (w_laws_szField a1 a3 a4 a5 a15 fun y1 =>
  Go.K.ifB (Decidable.decide (y1 < (0 : Int))) (K (-1 : Int))
    (w_laws_szField a2 a6 a7 a8 y1 fun y2 => Go.K.ifB (Decidable.decide (y2 < (0 : Int))) (K (-1 : Int)) (K y2))) := by kernel_rfl
theorem laws_szMelt.eq (a1 : List
  Nat) (a2 : List
  Nat) (a3 : Int) (a4 : Int) (a5 : Bool) (a6 : Int) (a7 : Int) (a8 : Bool) (a9 : Nat) (a10 : Nat) (a11 : Nat) (a12 : Nat) (a13 : Nat) (a14 : Int) (a15 : Int) (K : Int →
  Prop) : laws_szMelt.wp a1 a2 a3 a4 a5 a6 a7 a8 a9 a10 a11 a12 a13 a14 a15 K =
  (Go.K.melts.laws_szField.wp a1 a3 a4 a5 a15 fun y1 =>
  Go.K.ifB (Decidable.decide (y1 < (0 : Int))) (K (-1 : Int))
    (Go.K.melts.laws_szField.wp a2 a6 a7 a8 y1 fun y2 => Go.K.ifB (Decidable.decide (y2 < (0 : Int))) (K (-1 : Int)) (K y2))) := laws_szMelt.tx laws_szField.wp a1 a2 a3 a4 a5 a6 a7 a8 a9 a10 a11 a12 a13 a14 a15 K

theorem laws_toFloat32S.tx  (a1 : List Nat) (K : List Nat → Prop) : laws_toFloat32S.bd  a1 K =
  (((0 : Int) ≤ (↑(List.length a1) : Int) ∧ (↑(List.length a1) : Int) ≤ (↑(List.length a1) : Int) ∧ (↑(List.length a1) : Int) ≤ (1099511627776 : Int)) ∧
  ∀ (J1 : List Nat → Int → Prop),
    (∀ (x2 : List Nat) (x3 : Int),
        Go.K.ifB (Decidable.decide (x3 < (↑(List.length a1) : Int)))
            (((0 : Int) ≤ x3 ∧ x3 < (↑(List.length a1) : Int)) ∧
              ((0 : Int) ≤ x3 ∧ x3 < (↑(List.length x2) : Int)) ∧
                J1 (List.set x2 (Int.toNat x3) (List.getD a1 (Int.toNat x3) (0 : Nat))) (Go.IntKind.wrap Go.IntKind.i64 (x3 + (1 : Int))))
            (K x2) →
          J1 x2 x3) →
      J1 (List.replicate (Int.toNat (↑(List.length a1) : Int)) (0 : Nat)) (0 : Int)) := by kernel_rfl
theorem laws_toFloat32S.eq (a1 : List Nat) (K : List Nat → Prop) : laws_toFloat32S.wp a1 K =
  (((0 : Int) ≤ (↑(List.length a1) : Int) ∧ (↑(List.length a1) : Int) ≤ (↑(List.length a1) : Int) ∧ (↑(List.length a1) : Int) ≤ (1099511627776 : Int)) ∧
  ∀ (J1 : List Nat → Int → Prop),
    (∀ (x2 : List Nat) (x3 : Int),
        Go.K.ifB (Decidable.decide (x3 < (↑(List.length a1) : Int)))
            (((0 : Int) ≤ x3 ∧ x3 < (↑(List.length a1) : Int)) ∧
              ((0 : Int) ≤ x3 ∧ x3 < (↑(List.length x2) : Int)) ∧
                J1 (List.set x2 (Int.toNat x3) (List.getD a1 (Int.toNat x3) (0 : Nat))) (Go.IntKind.wrap Go.IntKind.i64 (x3 + (1 : Int))))
            (K x2) →
          J1 x2 x3) →
      J1 (List.replicate (Int.toNat (↑(List.length a1) : Int)) (0 : Nat)) (0 : Int)) := laws_toFloat32S.tx  a1 K

theorem laws_toField.tx (w_laws_toFloat32S : List Nat → (List Nat → Prop) → Prop) (a1 : List Nat) (a2 : Int) (a3 : Int) (a4 : Bool) (K : List Nat → Int → Int → Bool → Prop) : laws_toField.bd w_laws_toFloat32S a1 a2 a3 a4 K =
  (w_laws_toFloat32S a1 fun y1 => K y1 a2 a3 a4) := by kernel_rfl
theorem laws_toField.eq (a1 : List Nat) (a2 : Int) (a3 : Int) (a4 : Bool) (K : List Nat → Int → Int → Bool → Prop) : laws_toField.wp a1 a2 a3 a4 K =
  (Go.K.melts.laws_toFloat32S.wp a1 fun y1 => K y1 a2 a3 a4) := laws_toField.tx laws_toFloat32S.wp a1 a2 a3 a4 K

theorem laws_toMelt.tx (w_laws_toField : List Nat → Int → Int → Bool → (List Nat → Int → Int → Bool → Prop) → Prop) (a1 : List
  Nat) (a2 : List
  Nat) (a3 : Int) (a4 : Int) (a5 : Bool) (a6 : Int) (a7 : Int) (a8 : Bool) (a9 : Nat) (a10 : Nat) (a11 : Nat) (a12 : Nat) (a13 : Nat) (a14 : Int) (K : List Nat →
  List Nat → Int → Int → Bool → Int → Int → Bool → Nat → Nat → Nat → Nat → Nat → Int → Prop) : laws_toMelt.bd w_laws_toField a1 a2 a3 a4 a5 a6 a7 a8 a9 a10 a11 a12 a13 a14 K =
  (w_laws_toField a1 a3 a4 a5 fun y1 y2 y3 y4 =>
  w_laws_toField a2 a6 a7 a8 fun y5 y6 y7 y8 => K y1 y5 y2 y3 y4 y6 y7 y8 a9 a10 a11 a12 a13 a14) := by kernel_rfl
theorem laws_toMelt.eq (a1 : List
  Nat) (a2 : List
  Nat) (a3 : Int) (a4 : Int) (a5 : Bool) (a6 : Int) (a7 : Int) (a8 : Bool) (a9 : Nat) (a10 : Nat) (a11 : Nat) (a12 : Nat) (a13 : Nat) (a14 : Int) (K : List Nat →
  List Nat → Int → Int → Bool → Int → Int → Bool → Nat → Nat → Nat → Nat → Nat → Int → Prop) : laws_toMelt.wp a1 a2 a3 a4 a5 a6 a7 a8 a9 a10 a11 a12 a13 a14 K =
  (Go.K.melts.laws_toField.wp a1 a3 a4 a5 fun y1 y2 y3 y4 =>
  Go.K.melts.laws_toField.wp a2 a6 a7 a8 fun y5 y6 y7 y8 => K y1 y5 y2 y3 y4 y6 y7 y8 a9 a10 a11 a12 a13 a14) := laws_toMelt.tx laws_toField.wp a1 a2 a3 a4 a5 a6 a7 a8 a9 a10 a11 a12 a13 a14 K

theorem spec_l00In.tx  (a1 : Int) (a2 : Int) (a3 : Int) (K : Bool → Prop) : spec_l00In.bd  a1 a2 a3 K =
  (Go.K.ifB (Decidable.decide (a1 ≥ a2)) (K (Decidable.decide (a1 ≤ a3))) (K Bool.false)) := by kernel_rfl
theorem spec_l00In.eq (a1 : Int) (a2 : Int) (a3 : Int) (K : Bool → Prop) : spec_l00In.wp a1 a2 a3 K =
  (Go.K.ifB (Decidable.decide (a1 ≥ a2)) (K (Decidable.decide (a1 ≤ a3))) (K Bool.false)) := spec_l00In.tx  a1 a2 a3 K

theorem spec_l02Size.tx (w_spec_l00In : Int → Int → Int → (Bool → Prop) → Prop) (a1 : Int) (a2 : Int) (K : Bool → Prop) : spec_l02Size.bd w_spec_l00In a1 a2 K =
  (w_spec_l00In a1 (1 : Int) (16 : Int) fun y1 => Go.K.ifB y1 (w_spec_l00In a2 (1 : Int) (16 : Int) fun y2 => K y2) (K Bool.false)) := by kernel_rfl
theorem spec_l02Size.eq (a1 : Int) (a2 : Int) (K : Bool → Prop) : spec_l02Size.wp a1 a2 K =
  (Go.K.melts.spec_l00In.wp a1 (1 : Int) (16 : Int) fun y1 => Go.K.ifB y1 (Go.K.melts.spec_l00In.wp a2 (1 : Int) (16 : Int) fun y2 => K y2) (K Bool.false)) := spec_l02Size.tx spec_l00In.wp a1 a2 K

theorem spec_l02Is.tx (w_spec_l02Size : Int → Int → (Bool → Prop) → Prop) (a1 : Int) (a2 : Int) (a3 : Bool) (a4 : List Nat) (K : Bool → Prop) : spec_l02Is.bd w_spec_l02Size a1 a2 a3 a4 K =
  (w_spec_l02Size a1 a2 fun y1 => Go.K.ifB y1 (K ((↑(List.length a4) : Int) == Go.IntKind.wrap Go.IntKind.i64 (a1 * a2))) (K Bool.false)) := by kernel_rfl
theorem spec_l02Is.eq (a1 : Int) (a2 : Int) (a3 : Bool) (a4 : List Nat) (K : Bool → Prop) : spec_l02Is.wp a1 a2 a3 a4 K =
  (Go.K.melts.spec_l02Size.wp a1 a2 fun y1 => Go.K.ifB y1 (K ((↑(List.length a4) : Int) == Go.IntKind.wrap Go.IntKind.i64 (a1 * a2))) (K Bool.false)) := spec_l02Is.tx spec_l02Size.wp a1 a2 a3 a4 K

theorem spec_l01Finite.tx  (a1 : Nat) (K : Bool → Prop) : spec_l01Finite.bd  a1 K =
  (K (Go.K.feq Go.FloatKind.f32 (Go.K.farith Go.BinOp.sub Go.FloatKind.f32 a1 a1) (0 : Nat))) := by kernel_rfl
theorem spec_l01Finite.eq (a1 : Nat) (K : Bool → Prop) : spec_l01Finite.wp a1 K =
  (K (Go.K.feq Go.FloatKind.f32 (Go.K.farith Go.BinOp.sub Go.FloatKind.f32 a1 a1) (0 : Nat))) := spec_l01Finite.tx  a1 K

theorem spec_l03Least.tx (w_spec_l01Finite : Nat → (Bool → Prop) → Prop) (a1 : Nat) (K : Bool → Prop) : spec_l03Least.bd w_spec_l01Finite a1 K =
  (w_spec_l01Finite a1 fun y1 => Go.K.ifB y1 (K (Go.K.fge Go.FloatKind.f32 a1 (0 : Nat))) (K Bool.false)) := by kernel_rfl
theorem spec_l03Least.eq (a1 : Nat) (K : Bool → Prop) : spec_l03Least.wp a1 K =
  (Go.K.melts.spec_l01Finite.wp a1 fun y1 => Go.K.ifB y1 (K (Go.K.fge Go.FloatKind.f32 a1 (0 : Nat))) (K Bool.false)) := spec_l03Least.tx spec_l01Finite.wp a1 K

theorem spec_l03Is.tx (w_spec_l02Is : Int → Int → Bool → List Nat → (Bool → Prop) → Prop) (w_spec_l01Finite : Nat → (Bool → Prop) → Prop) (w_spec_l03Least : Nat → (Bool → Prop) → Prop) (w_spec_l00In : Int → Int → Int → (Bool → Prop) → Prop) (a1 : Int) (a2 : Int) (a3 : Bool) (a4 : Int) (a5 : Int) (a6 : Bool) (a7 : Nat) (a8 : Nat) (a9 : Nat) (a10 : Nat) (a11 : Nat) (a12 : Int) (a13 : List
  Nat) (a14 : List Nat) (K : Bool → Prop) : spec_l03Is.bd w_spec_l02Is w_spec_l01Finite w_spec_l03Least w_spec_l00In a1 a2 a3 a4 a5 a6 a7 a8 a9 a10 a11 a12 a13 a14 K =
  (w_spec_l02Is a1 a2 a3 a13 fun y1 =>
  Go.K.ifB (!y1) (K Bool.false)
    (w_spec_l02Is a4 a5 a6 a14 fun y2 =>
      Go.K.ifB (!y2) (K Bool.false)
        (Go.K.ifB (a1 != a4) (K Bool.false)
          (Go.K.ifB (a2 != a5) (K Bool.false)
            (Go.K.ifB (a3 != a6) (K Bool.false)
              (∀ (J3 : Int → Int → Prop),
                (∀ (x4 x5 : Int),
                    Go.K.ifB (Decidable.decide (x5 < x4))
                        (((0 : Int) ≤ x5 ∧ x5 < (↑(List.length a13) : Int)) ∧
                          Go.K.ifB (!Go.K.fge Go.FloatKind.f32 (List.getD a13 (Int.toNat x5) (0 : Nat)) (0 : Nat)) (K Bool.false)
                            (((0 : Int) ≤ x5 ∧ x5 < (↑(List.length a13) : Int)) ∧
                              Go.K.ifB (Go.K.fgt Go.FloatKind.f32 (List.getD a13 (Int.toNat x5) (0 : Nat)) (1065353216 : Nat)) (K Bool.false)
                                (((0 : Int) ≤ x5 ∧ x5 < (↑(List.length a14) : Int)) ∧
                                  w_spec_l01Finite (List.getD a14 (Int.toNat x5) (0 : Nat)) fun y6 =>
                                    Go.K.ifB (!y6) (K Bool.false) (J3 x4 (Go.IntKind.wrap Go.IntKind.i64 (x5 + (1 : Int)))))))
                        (w_spec_l03Least a7 fun y7 =>
                          Go.K.ifB y7
                            (w_spec_l03Least a8 fun y8 =>
                              Go.K.ifB y8
                                (w_spec_l03Least a9 fun y9 =>
                                  Go.K.ifB y9
                                    (w_spec_l03Least a10 fun y10 =>
                                      Go.K.ifB y10
                                        (Go.K.ifB (Go.K.fge Go.FloatKind.f32 a11 (0 : Nat))
                                          (Go.K.ifB (Go.K.flt Go.FloatKind.f32 a11 (1065353216 : Nat)) (w_spec_l00In a12 (1 : Int) (8 : Int) fun y11 => K y11)
                                            (K Bool.false))
                                          (K Bool.false))
                                        (K Bool.false))
                                    (K Bool.false))
                                (K Bool.false))
                            (K Bool.false)) →
                      J3 x4 x5) →
                  J3 (↑(List.length a13) : Int) (0 : Int))))))) := by kernel_rfl
theorem spec_l03Is.eq (a1 : Int) (a2 : Int) (a3 : Bool) (a4 : Int) (a5 : Int) (a6 : Bool) (a7 : Nat) (a8 : Nat) (a9 : Nat) (a10 : Nat) (a11 : Nat) (a12 : Int) (a13 : List
  Nat) (a14 : List Nat) (K : Bool → Prop) : spec_l03Is.wp a1 a2 a3 a4 a5 a6 a7 a8 a9 a10 a11 a12 a13 a14 K =
  (Go.K.melts.spec_l02Is.wp a1 a2 a3 a13 fun y1 =>
  Go.K.ifB (!y1) (K Bool.false)
    (Go.K.melts.spec_l02Is.wp a4 a5 a6 a14 fun y2 =>
      Go.K.ifB (!y2) (K Bool.false)
        (Go.K.ifB (a1 != a4) (K Bool.false)
          (Go.K.ifB (a2 != a5) (K Bool.false)
            (Go.K.ifB (a3 != a6) (K Bool.false)
              (∀ (J3 : Int → Int → Prop),
                (∀ (x4 x5 : Int),
                    Go.K.ifB (Decidable.decide (x5 < x4))
                        (((0 : Int) ≤ x5 ∧ x5 < (↑(List.length a13) : Int)) ∧
                          Go.K.ifB (!Go.K.fge Go.FloatKind.f32 (List.getD a13 (Int.toNat x5) (0 : Nat)) (0 : Nat)) (K Bool.false)
                            (((0 : Int) ≤ x5 ∧ x5 < (↑(List.length a13) : Int)) ∧
                              Go.K.ifB (Go.K.fgt Go.FloatKind.f32 (List.getD a13 (Int.toNat x5) (0 : Nat)) (1065353216 : Nat)) (K Bool.false)
                                (((0 : Int) ≤ x5 ∧ x5 < (↑(List.length a14) : Int)) ∧
                                  Go.K.melts.spec_l01Finite.wp (List.getD a14 (Int.toNat x5) (0 : Nat)) fun y6 =>
                                    Go.K.ifB (!y6) (K Bool.false) (J3 x4 (Go.IntKind.wrap Go.IntKind.i64 (x5 + (1 : Int)))))))
                        (Go.K.melts.spec_l03Least.wp a7 fun y7 =>
                          Go.K.ifB y7
                            (Go.K.melts.spec_l03Least.wp a8 fun y8 =>
                              Go.K.ifB y8
                                (Go.K.melts.spec_l03Least.wp a9 fun y9 =>
                                  Go.K.ifB y9
                                    (Go.K.melts.spec_l03Least.wp a10 fun y10 =>
                                      Go.K.ifB y10
                                        (Go.K.ifB (Go.K.fge Go.FloatKind.f32 a11 (0 : Nat))
                                          (Go.K.ifB (Go.K.flt Go.FloatKind.f32 a11 (1065353216 : Nat)) (Go.K.melts.spec_l00In.wp a12 (1 : Int) (8 : Int) fun y11 => K y11)
                                            (K Bool.false))
                                          (K Bool.false))
                                        (K Bool.false))
                                    (K Bool.false))
                                (K Bool.false))
                            (K Bool.false)) →
                      J3 x4 x5) →
                  J3 (↑(List.length a13) : Int) (0 : Int))))))) := spec_l03Is.tx spec_l02Is.wp spec_l01Finite.wp spec_l03Least.wp spec_l00In.wp a1 a2 a3 a4 a5 a6 a7 a8 a9 a10 a11 a12 a13 a14 K

theorem spec_l03Long.tx  (a1 : Int) (a2 : Bool) (K : Bool → Prop) : spec_l03Long.bd  a1 a2 K =
  (Go.K.ifB (Decidable.decide (a1 ≤ (64 : Int))) (Go.K.ifB (Decidable.decide (a1 ≥ (3 : Int))) (K Bool.true) (Go.K.ifB (a1 == (2 : Int)) (K !a2) (K Bool.false)))
  (K Bool.false)) := by kernel_rfl
theorem spec_l03Long.eq (a1 : Int) (a2 : Bool) (K : Bool → Prop) : spec_l03Long.wp a1 a2 K =
  (Go.K.ifB (Decidable.decide (a1 ≤ (64 : Int))) (Go.K.ifB (Decidable.decide (a1 ≥ (3 : Int))) (K Bool.true) (Go.K.ifB (a1 == (2 : Int)) (K !a2) (K Bool.false)))
  (K Bool.false)) := spec_l03Long.tx  a1 a2 K

theorem spec_l02New.tx  (a1 : Int) (a2 : Int) (a3 : Bool) (K : List Nat → Int → Int → Bool → Prop) : spec_l02New.bd  a1 a2 a3 K =
  (K (List.replicate (0 : Nat) (0 : Nat)) a1 a2 a3) := by kernel_rfl
theorem spec_l02New.eq (a1 : Int) (a2 : Int) (a3 : Bool) (K : List Nat → Int → Int → Bool → Prop) : spec_l02New.wp a1 a2 a3 K =
  (K (List.replicate (0 : Nat) (0 : Nat)) a1 a2 a3) := spec_l02New.tx  a1 a2 a3 K

theorem spec_l02Own.tx (w_spec_l02New : Int → Int → Bool → (List Nat → Int → Int → Bool → Prop) → Prop) (a1 : Int) (a2 : Int) (a3 : Bool) (a4 : List Nat) (K : List Nat → Int → Int → Bool → Prop) : spec_l02Own.bd w_spec_l02New a1 a2 a3 a4 K =
  (w_spec_l02New a1 a2 a3 fun y1 y2 y3 y4 => List.length (y1 ++ a4) ≤ (1099511627776 : Nat) ∧ K (y1 ++ a4) y2 y3 y4) := by kernel_rfl
theorem spec_l02Own.eq (a1 : Int) (a2 : Int) (a3 : Bool) (a4 : List Nat) (K : List Nat → Int → Int → Bool → Prop) : spec_l02Own.wp a1 a2 a3 a4 K =
  (Go.K.melts.spec_l02New.wp a1 a2 a3 fun y1 y2 y3 y4 => List.length (y1 ++ a4) ≤ (1099511627776 : Nat) ∧ K (y1 ++ a4) y2 y3 y4) := spec_l02Own.tx spec_l02New.wp a1 a2 a3 a4 K

theorem spec_l03Own.tx (w_spec_l02Own : Int → Int → Bool → List Nat → (List Nat → Int → Int → Bool → Prop) → Prop) (a1 : Int) (a2 : Int) (a3 : Bool) (a4 : Int) (a5 : Int) (a6 : Bool) (a7 : Nat) (a8 : Nat) (a9 : Nat) (a10 : Nat) (a11 : Nat) (a12 : Int) (a13 : List
  Nat) (a14 : List
  Nat) (K : List Nat →
  List Nat → Int → Int → Bool → Int → Int → Bool → Nat → Nat → Nat → Nat → Nat → Int → Prop) : spec_l03Own.bd w_spec_l02Own a1 a2 a3 a4 a5 a6 a7 a8 a9 a10 a11 a12 a13 a14 K =
  (w_spec_l02Own a1 a2 a3 a13 fun y1 y2 y3 y4 =>
  w_spec_l02Own a4 a5 a6 a14 fun y5 y6 y7 y8 => K y1 y5 y2 y3 y4 y6 y7 y8 a7 a8 a9 a10 a11 a12) := by kernel_rfl
theorem spec_l03Own.eq (a1 : Int) (a2 : Int) (a3 : Bool) (a4 : Int) (a5 : Int) (a6 : Bool) (a7 : Nat) (a8 : Nat) (a9 : Nat) (a10 : Nat) (a11 : Nat) (a12 : Int) (a13 : List
  Nat) (a14 : List
  Nat) (K : List Nat →
  List Nat → Int → Int → Bool → Int → Int → Bool → Nat → Nat → Nat → Nat → Nat → Int → Prop) : spec_l03Own.wp a1 a2 a3 a4 a5 a6 a7 a8 a9 a10 a11 a12 a13 a14 K =
  (Go.K.melts.spec_l02Own.wp a1 a2 a3 a13 fun y1 y2 y3 y4 =>
  Go.K.melts.spec_l02Own.wp a4 a5 a6 a14 fun y5 y6 y7 y8 => K y1 y5 y2 y3 y4 y6 y7 y8 a7 a8 a9 a10 a11 a12) := spec_l03Own.tx spec_l02Own.wp a1 a2 a3 a4 a5 a6 a7 a8 a9 a10 a11 a12 a13 a14 K

theorem spec_l03Sweep.tx  (a1 : List Nat) (a2 : List Nat) (a3 : Nat) (K : List Nat → Prop) : spec_l03Sweep.bd  a1 a2 a3 K =
  (((0 : Int) ≤ (↑(List.length a1) : Int) ∧ (↑(List.length a1) : Int) ≤ (↑(List.length a1) : Int) ∧ (↑(List.length a1) : Int) ≤ (1099511627776 : Int)) ∧
  ((0 : Int) ≤ (↑(List.length a1) : Int) ∧ (↑(List.length a1) : Int) ≤ (↑(List.length a1) : Int) ∧ (↑(List.length a1) : Int) ≤ (1099511627776 : Int)) ∧
    ∀ (J1 : List Nat → List Nat → Int → Int → Prop),
      (∀ (x2 x3 : List Nat) (x4 x5 : Int),
          Go.K.ifB (Decidable.decide (x5 < x4))
              (((0 : Int) ≤ x5 ∧ x5 < (↑(List.length a2) : Int)) ∧
                ((0 : Int) ≤ x5 ∧ x5 < (↑(List.length a1) : Int)) ∧
                  ∀ (J6 : List Nat → List Nat → Int → Int → Nat → Nat → Prop),
                    (∀ (x7 x8 : List Nat) (x9 x10 : Int) (x11 x12 : Nat),
                        ((0 : Int) ≤ x10 ∧ x10 < (↑(List.length x7) : Int)) ∧
                            ((0 : Int) ≤ x10 ∧ x10 < (↑(List.length x8) : Int)) ∧
                              J1 (List.set x7 (Int.toNat x10) (Go.K.farith Go.BinOp.quo Go.FloatKind.f32 a3 x11))
                                (List.set x8 (Int.toNat x10) (Go.K.farith Go.BinOp.quo Go.FloatKind.f32 x12 x11)) x9 (Go.IntKind.wrap Go.IntKind.i64 (x10 + (1 : Int))) →
                          J6 x7 x8 x9 x10 x11 x12) →
                      Go.K.ifB (Decidable.decide (x5 > (0 : Int)))
                        (((0 : Int) ≤ Go.IntKind.wrap Go.IntKind.i64 (x5 - (1 : Int)) ∧ Go.IntKind.wrap Go.IntKind.i64 (x5 - (1 : Int)) < (↑(List.length x2) : Int)) ∧
                          ((0 : Int) ≤ Go.IntKind.wrap Go.IntKind.i64 (x5 - (1 : Int)) ∧ Go.IntKind.wrap Go.IntKind.i64 (x5 - (1 : Int)) < (↑(List.length x3) : Int)) ∧
                            J6 x2 x3 x4 x5
                              (Go.K.farith Go.BinOp.sub Go.FloatKind.f32 (List.getD a2 (Int.toNat x5) (0 : Nat))
                                (Go.K.farith Go.BinOp.mul Go.FloatKind.f32 a3 (List.getD x2 (Int.toNat (Go.IntKind.wrap Go.IntKind.i64 (x5 - (1 : Int)))) (0 : Nat))))
                              (Go.K.farith Go.BinOp.add Go.FloatKind.f32 (List.getD a1 (Int.toNat x5) (0 : Nat))
                                (Go.K.farith Go.BinOp.mul Go.FloatKind.f32 a3 (List.getD x3 (Int.toNat (Go.IntKind.wrap Go.IntKind.i64 (x5 - (1 : Int)))) (0 : Nat)))))
                        (J6 x2 x3 x4 x5 (List.getD a2 (Int.toNat x5) (0 : Nat)) (List.getD a1 (Int.toNat x5) (0 : Nat))))
              (((0 : Int) ≤ x4 ∧ x4 ≤ x4 ∧ x4 ≤ (1099511627776 : Int)) ∧
                ((0 : Int) ≤ Go.IntKind.wrap Go.IntKind.i64 (x4 - (1 : Int)) ∧ Go.IntKind.wrap Go.IntKind.i64 (x4 - (1 : Int)) < (↑(List.length x3) : Int)) ∧
                  ((0 : Int) ≤ Go.IntKind.wrap Go.IntKind.i64 (x4 - (1 : Int)) ∧
                      Go.IntKind.wrap Go.IntKind.i64 (x4 - (1 : Int)) < (↑(List.length (List.replicate (Int.toNat x4) (0 : Nat))) : Int)) ∧
                    ∀ (J15 : List Nat → List Nat → List Nat → Int → Prop),
                      (∀ (x16 x17 x18 : List Nat) (x19 : Int),
                          Go.K.ifB (Decidable.decide (x19 ≥ (0 : Int)))
                              (((0 : Int) ≤ x19 ∧ x19 < (↑(List.length x17) : Int)) ∧
                                ((0 : Int) ≤ x19 ∧ x19 < (↑(List.length x16) : Int)) ∧
                                  ((0 : Int) ≤ Go.IntKind.wrap Go.IntKind.i64 (x19 + (1 : Int)) ∧ Go.IntKind.wrap Go.IntKind.i64 (x19 + (1 : Int)) < (↑(List.length x18) : Int)) ∧
                                    ((0 : Int) ≤ x19 ∧ x19 < (↑(List.length x18) : Int)) ∧
                                      J15 x16 x17
                                        (List.set x18 (Int.toNat x19)
                                          (Go.K.farith Go.BinOp.add Go.FloatKind.f32 (List.getD x17 (Int.toNat x19) (0 : Nat))
                                            (Go.K.farith Go.BinOp.mul Go.FloatKind.f32 (List.getD x16 (Int.toNat x19) (0 : Nat))
                                              (List.getD x18 (Int.toNat (Go.IntKind.wrap Go.IntKind.i64 (x19 + (1 : Int)))) (0 : Nat)))))
                                        (Go.IntKind.wrap Go.IntKind.i64 (x19 - (1 : Int))))
                              (K x18) →
                            J15 x16 x17 x18 x19) →
                        J15 x2 x3
                          (List.set (List.replicate (Int.toNat x4) (0 : Nat)) (Int.toNat (Go.IntKind.wrap Go.IntKind.i64 (x4 - (1 : Int))))
                            (List.getD x3 (Int.toNat (Go.IntKind.wrap Go.IntKind.i64 (x4 - (1 : Int)))) (0 : Nat)))
                          (Go.IntKind.wrap Go.IntKind.i64 (x4 - (2 : Int)))) →
            J1 x2 x3 x4 x5) →
        J1 (List.replicate (Int.toNat (↑(List.length a1) : Int)) (0 : Nat)) (List.replicate (Int.toNat (↑(List.length a1) : Int)) (0 : Nat)) (↑(List.length a1) : Int)
          (0 : Int)) := by kernel_rfl
theorem spec_l03Sweep.eq (a1 : List Nat) (a2 : List Nat) (a3 : Nat) (K : List Nat → Prop) : spec_l03Sweep.wp a1 a2 a3 K =
  (((0 : Int) ≤ (↑(List.length a1) : Int) ∧ (↑(List.length a1) : Int) ≤ (↑(List.length a1) : Int) ∧ (↑(List.length a1) : Int) ≤ (1099511627776 : Int)) ∧
  ((0 : Int) ≤ (↑(List.length a1) : Int) ∧ (↑(List.length a1) : Int) ≤ (↑(List.length a1) : Int) ∧ (↑(List.length a1) : Int) ≤ (1099511627776 : Int)) ∧
    ∀ (J1 : List Nat → List Nat → Int → Int → Prop),
      (∀ (x2 x3 : List Nat) (x4 x5 : Int),
          Go.K.ifB (Decidable.decide (x5 < x4))
              (((0 : Int) ≤ x5 ∧ x5 < (↑(List.length a2) : Int)) ∧
                ((0 : Int) ≤ x5 ∧ x5 < (↑(List.length a1) : Int)) ∧
                  ∀ (J6 : List Nat → List Nat → Int → Int → Nat → Nat → Prop),
                    (∀ (x7 x8 : List Nat) (x9 x10 : Int) (x11 x12 : Nat),
                        ((0 : Int) ≤ x10 ∧ x10 < (↑(List.length x7) : Int)) ∧
                            ((0 : Int) ≤ x10 ∧ x10 < (↑(List.length x8) : Int)) ∧
                              J1 (List.set x7 (Int.toNat x10) (Go.K.farith Go.BinOp.quo Go.FloatKind.f32 a3 x11))
                                (List.set x8 (Int.toNat x10) (Go.K.farith Go.BinOp.quo Go.FloatKind.f32 x12 x11)) x9 (Go.IntKind.wrap Go.IntKind.i64 (x10 + (1 : Int))) →
                          J6 x7 x8 x9 x10 x11 x12) →
                      Go.K.ifB (Decidable.decide (x5 > (0 : Int)))
                        (((0 : Int) ≤ Go.IntKind.wrap Go.IntKind.i64 (x5 - (1 : Int)) ∧ Go.IntKind.wrap Go.IntKind.i64 (x5 - (1 : Int)) < (↑(List.length x2) : Int)) ∧
                          ((0 : Int) ≤ Go.IntKind.wrap Go.IntKind.i64 (x5 - (1 : Int)) ∧ Go.IntKind.wrap Go.IntKind.i64 (x5 - (1 : Int)) < (↑(List.length x3) : Int)) ∧
                            J6 x2 x3 x4 x5
                              (Go.K.farith Go.BinOp.sub Go.FloatKind.f32 (List.getD a2 (Int.toNat x5) (0 : Nat))
                                (Go.K.farith Go.BinOp.mul Go.FloatKind.f32 a3 (List.getD x2 (Int.toNat (Go.IntKind.wrap Go.IntKind.i64 (x5 - (1 : Int)))) (0 : Nat))))
                              (Go.K.farith Go.BinOp.add Go.FloatKind.f32 (List.getD a1 (Int.toNat x5) (0 : Nat))
                                (Go.K.farith Go.BinOp.mul Go.FloatKind.f32 a3 (List.getD x3 (Int.toNat (Go.IntKind.wrap Go.IntKind.i64 (x5 - (1 : Int)))) (0 : Nat)))))
                        (J6 x2 x3 x4 x5 (List.getD a2 (Int.toNat x5) (0 : Nat)) (List.getD a1 (Int.toNat x5) (0 : Nat))))
              (((0 : Int) ≤ x4 ∧ x4 ≤ x4 ∧ x4 ≤ (1099511627776 : Int)) ∧
                ((0 : Int) ≤ Go.IntKind.wrap Go.IntKind.i64 (x4 - (1 : Int)) ∧ Go.IntKind.wrap Go.IntKind.i64 (x4 - (1 : Int)) < (↑(List.length x3) : Int)) ∧
                  ((0 : Int) ≤ Go.IntKind.wrap Go.IntKind.i64 (x4 - (1 : Int)) ∧
                      Go.IntKind.wrap Go.IntKind.i64 (x4 - (1 : Int)) < (↑(List.length (List.replicate (Int.toNat x4) (0 : Nat))) : Int)) ∧
                    ∀ (J15 : List Nat → List Nat → List Nat → Int → Prop),
                      (∀ (x16 x17 x18 : List Nat) (x19 : Int),
                          Go.K.ifB (Decidable.decide (x19 ≥ (0 : Int)))
                              (((0 : Int) ≤ x19 ∧ x19 < (↑(List.length x17) : Int)) ∧
                                ((0 : Int) ≤ x19 ∧ x19 < (↑(List.length x16) : Int)) ∧
                                  ((0 : Int) ≤ Go.IntKind.wrap Go.IntKind.i64 (x19 + (1 : Int)) ∧ Go.IntKind.wrap Go.IntKind.i64 (x19 + (1 : Int)) < (↑(List.length x18) : Int)) ∧
                                    ((0 : Int) ≤ x19 ∧ x19 < (↑(List.length x18) : Int)) ∧
                                      J15 x16 x17
                                        (List.set x18 (Int.toNat x19)
                                          (Go.K.farith Go.BinOp.add Go.FloatKind.f32 (List.getD x17 (Int.toNat x19) (0 : Nat))
                                            (Go.K.farith Go.BinOp.mul Go.FloatKind.f32 (List.getD x16 (Int.toNat x19) (0 : Nat))
                                              (List.getD x18 (Int.toNat (Go.IntKind.wrap Go.IntKind.i64 (x19 + (1 : Int)))) (0 : Nat)))))
                                        (Go.IntKind.wrap Go.IntKind.i64 (x19 - (1 : Int))))
                              (K x18) →
                            J15 x16 x17 x18 x19) →
                        J15 x2 x3
                          (List.set (List.replicate (Int.toNat x4) (0 : Nat)) (Int.toNat (Go.IntKind.wrap Go.IntKind.i64 (x4 - (1 : Int))))
                            (List.getD x3 (Int.toNat (Go.IntKind.wrap Go.IntKind.i64 (x4 - (1 : Int)))) (0 : Nat)))
                          (Go.IntKind.wrap Go.IntKind.i64 (x4 - (2 : Int)))) →
            J1 x2 x3 x4 x5) →
        J1 (List.replicate (Int.toNat (↑(List.length a1) : Int)) (0 : Nat)) (List.replicate (Int.toNat (↑(List.length a1) : Int)) (0 : Nat)) (↑(List.length a1) : Int)
          (0 : Int)) := spec_l03Sweep.tx  a1 a2 a3 K

theorem spec_l03Row.tx (w_spec_l03Sweep : List Nat → List Nat → Nat → (List Nat → Prop) → Prop) (a1 : List Nat) (a2 : Nat) (a3 : Bool) (K : List Nat → Prop) : spec_l03Row.bd w_spec_l03Sweep a1 a2 a3 K =
  (∀ (J1 : List Nat → Int → Int → Int → Prop),
  (∀ (x2 : List Nat) (x3 x4 x5 : Int),
      Go.K.ifB (Decidable.decide (x5 < x4))
          (List.length
                (x2 ++ Go.K.farith Go.BinOp.add Go.FloatKind.f32 (Go.K.farith Go.BinOp.add Go.FloatKind.f32 (1065353216 : Nat) a2) a2 :: List.replicate (0 : Nat) (0 : Nat)) ≤
              (1099511627776 : Nat) ∧
            J1 (x2 ++ Go.K.farith Go.BinOp.add Go.FloatKind.f32 (Go.K.farith Go.BinOp.add Go.FloatKind.f32 (1065353216 : Nat) a2) a2 :: List.replicate (0 : Nat) (0 : Nat)) x3 x4
              (Go.IntKind.wrap Go.IntKind.i64 (x5 + (1 : Int))))
          (Go.K.ifB (!a3)
            (((0 : Int) ≤ (0 : Int) ∧ (0 : Int) < (↑(List.length x2) : Int)) ∧
              ((0 : Int) ≤ Go.IntKind.wrap Go.IntKind.i64 (x3 - (1 : Int)) ∧ Go.IntKind.wrap Go.IntKind.i64 (x3 - (1 : Int)) < (↑(List.length x2) : Int)) ∧
                w_spec_l03Sweep a1
                  (List.set (List.set x2 (Int.toNat (0 : Int)) (Go.K.farith Go.BinOp.add Go.FloatKind.f32 (1065353216 : Nat) a2))
                    (Int.toNat (Go.IntKind.wrap Go.IntKind.i64 (x3 - (1 : Int)))) (Go.K.farith Go.BinOp.add Go.FloatKind.f32 (1065353216 : Nat) a2))
                  a2 fun y6 => K y6)
            (((0 : Int) ≤ (0 : Int) ∧ (0 : Int) < (↑(List.length x2) : Int)) ∧
              ((0 : Int) ≤ (0 : Int) ∧ (0 : Int) < (↑(List.length x2) : Int)) ∧
                ((0 : Int) ≤ Go.IntKind.wrap Go.IntKind.i64 (x3 - (1 : Int)) ∧ Go.IntKind.wrap Go.IntKind.i64 (x3 - (1 : Int)) < (↑(List.length x2) : Int)) ∧
                  ((0 : Int) ≤ Go.IntKind.wrap Go.IntKind.i64 (x3 - (1 : Int)) ∧ Go.IntKind.wrap Go.IntKind.i64 (x3 - (1 : Int)) < (↑(List.length x2) : Int)) ∧
                    w_spec_l03Sweep a1
                      (List.set (List.set x2 (Int.toNat (0 : Int)) (Go.K.farith Go.BinOp.add Go.FloatKind.f32 (List.getD x2 (Int.toNat (0 : Int)) (0 : Nat)) (1065353216 : Nat)))
                        (Int.toNat (Go.IntKind.wrap Go.IntKind.i64 (x3 - (1 : Int))))
                        (Go.K.farith Go.BinOp.add Go.FloatKind.f32
                          (List.getD
                            (List.set x2 (Int.toNat (0 : Int)) (Go.K.farith Go.BinOp.add Go.FloatKind.f32 (List.getD x2 (Int.toNat (0 : Int)) (0 : Nat)) (1065353216 : Nat)))
                            (Int.toNat (Go.IntKind.wrap Go.IntKind.i64 (x3 - (1 : Int)))) (0 : Nat))
                          (Go.K.farith Go.BinOp.mul Go.FloatKind.f32 a2 a2)))
                      a2 fun y7 =>
                      ((0 : Int) ≤ x3 ∧ x3 ≤ x3 ∧ x3 ≤ (1099511627776 : Int)) ∧
                        ((0 : Int) ≤ (0 : Int) ∧ (0 : Int) < (↑(List.length (List.replicate (Int.toNat x3) (0 : Nat))) : Int)) ∧
                          ((0 : Int) ≤ Go.IntKind.wrap Go.IntKind.i64 (x3 - (1 : Int)) ∧
                              Go.IntKind.wrap Go.IntKind.i64 (x3 - (1 : Int)) < (↑(List.length (List.replicate (Int.toNat x3) (0 : Nat))) : Int)) ∧
                            w_spec_l03Sweep
                              (List.set (List.set (List.replicate (Int.toNat x3) (0 : Nat)) (Int.toNat (0 : Int)) (3212836864 : Nat))
                                (Int.toNat (Go.IntKind.wrap Go.IntKind.i64 (x3 - (1 : Int)))) (Go.K.fneg Go.FloatKind.f32 a2))
                              (List.set
                                (List.set x2 (Int.toNat (0 : Int)) (Go.K.farith Go.BinOp.add Go.FloatKind.f32 (List.getD x2 (Int.toNat (0 : Int)) (0 : Nat)) (1065353216 : Nat)))
                                (Int.toNat (Go.IntKind.wrap Go.IntKind.i64 (x3 - (1 : Int))))
                                (Go.K.farith Go.BinOp.add Go.FloatKind.f32
                                  (List.getD
                                    (List.set x2 (Int.toNat (0 : Int))
                                      (Go.K.farith Go.BinOp.add Go.FloatKind.f32 (List.getD x2 (Int.toNat (0 : Int)) (0 : Nat)) (1065353216 : Nat)))
                                    (Int.toNat (Go.IntKind.wrap Go.IntKind.i64 (x3 - (1 : Int)))) (0 : Nat))
                                  (Go.K.farith Go.BinOp.mul Go.FloatKind.f32 a2 a2)))
                              a2 fun y8 =>
                              ((0 : Int) ≤ (0 : Int) ∧ (0 : Int) < (↑(List.length y7) : Int)) ∧
                                ((0 : Int) ≤ Go.IntKind.wrap Go.IntKind.i64 (x3 - (1 : Int)) ∧ Go.IntKind.wrap Go.IntKind.i64 (x3 - (1 : Int)) < (↑(List.length y7) : Int)) ∧
                                  ((0 : Int) ≤ (0 : Int) ∧ (0 : Int) < (↑(List.length y8) : Int)) ∧
                                    ((0 : Int) ≤ Go.IntKind.wrap Go.IntKind.i64 (x3 - (1 : Int)) ∧ Go.IntKind.wrap Go.IntKind.i64 (x3 - (1 : Int)) < (↑(List.length y8) : Int)) ∧
                                      ∀ (J9 : List Nat → List Nat → List Nat → Nat → Int → Int → Prop),
                                        (∀ (x10 x11 x12 : List Nat) (x13 : Nat) (x14 x15 : Int),
                                            Go.K.ifB (Decidable.decide (x15 < x14))
                                                (((0 : Int) ≤ x15 ∧ x15 < (↑(List.length x10) : Int)) ∧
                                                  ((0 : Int) ≤ x15 ∧ x15 < (↑(List.length x11) : Int)) ∧
                                                    List.length
                                                          (x12 ++
                                                            Go.K.farith Go.BinOp.sub Go.FloatKind.f32 (List.getD x10 (Int.toNat x15) (0 : Nat))
                                                                (Go.K.farith Go.BinOp.mul Go.FloatKind.f32 x13 (List.getD x11 (Int.toNat x15) (0 : Nat))) ::
                                                              List.replicate (0 : Nat) (0 : Nat)) ≤
                                                        (1099511627776 : Nat) ∧
                                                      J9 x10 x11
                                                        (x12 ++
                                                          Go.K.farith Go.BinOp.sub Go.FloatKind.f32 (List.getD x10 (Int.toNat x15) (0 : Nat))
                                                              (Go.K.farith Go.BinOp.mul Go.FloatKind.f32 x13 (List.getD x11 (Int.toNat x15) (0 : Nat))) ::
                                                            List.replicate (0 : Nat) (0 : Nat))
                                                        x13 x14 (Go.IntKind.wrap Go.IntKind.i64 (x15 + (1 : Int))))
                                                (K x12) →
                                              J9 x10 x11 x12 x13 x14 x15) →
                                          J9 y7 y8 (List.replicate (0 : Nat) (0 : Nat))
                                            (Go.K.farith Go.BinOp.quo Go.FloatKind.f32
                                              (Go.K.farith Go.BinOp.add Go.FloatKind.f32 (List.getD y7 (Int.toNat (0 : Int)) (0 : Nat))
                                                (Go.K.farith Go.BinOp.mul Go.FloatKind.f32 a2
                                                  (List.getD y7 (Int.toNat (Go.IntKind.wrap Go.IntKind.i64 (x3 - (1 : Int)))) (0 : Nat))))
                                              (Go.K.farith Go.BinOp.add Go.FloatKind.f32
                                                (Go.K.farith Go.BinOp.add Go.FloatKind.f32 (1065353216 : Nat) (List.getD y8 (Int.toNat (0 : Int)) (0 : Nat)))
                                                (Go.K.farith Go.BinOp.mul Go.FloatKind.f32 a2
                                                  (List.getD y8 (Int.toNat (Go.IntKind.wrap Go.IntKind.i64 (x3 - (1 : Int)))) (0 : Nat)))))
                                            (↑(List.length y7) : Int) (0 : Int))) →
        J1 x2 x3 x4 x5) →
    J1 (List.replicate (0 : Nat) (0 : Nat)) (↑(List.length a1) : Int) (↑(List.length a1) : Int) (0 : Int)) := by kernel_rfl
theorem spec_l03Row.eq (a1 : List Nat) (a2 : Nat) (a3 : Bool) (K : List Nat → Prop) : spec_l03Row.wp a1 a2 a3 K =
  (∀ (J1 : List Nat → Int → Int → Int → Prop),
  (∀ (x2 : List Nat) (x3 x4 x5 : Int),
      Go.K.ifB (Decidable.decide (x5 < x4))
          (List.length
                (x2 ++ Go.K.farith Go.BinOp.add Go.FloatKind.f32 (Go.K.farith Go.BinOp.add Go.FloatKind.f32 (1065353216 : Nat) a2) a2 :: List.replicate (0 : Nat) (0 : Nat)) ≤
              (1099511627776 : Nat) ∧
            J1 (x2 ++ Go.K.farith Go.BinOp.add Go.FloatKind.f32 (Go.K.farith Go.BinOp.add Go.FloatKind.f32 (1065353216 : Nat) a2) a2 :: List.replicate (0 : Nat) (0 : Nat)) x3 x4
              (Go.IntKind.wrap Go.IntKind.i64 (x5 + (1 : Int))))
          (Go.K.ifB (!a3)
            (((0 : Int) ≤ (0 : Int) ∧ (0 : Int) < (↑(List.length x2) : Int)) ∧
              ((0 : Int) ≤ Go.IntKind.wrap Go.IntKind.i64 (x3 - (1 : Int)) ∧ Go.IntKind.wrap Go.IntKind.i64 (x3 - (1 : Int)) < (↑(List.length x2) : Int)) ∧
                Go.K.melts.spec_l03Sweep.wp a1
                  (List.set (List.set x2 (Int.toNat (0 : Int)) (Go.K.farith Go.BinOp.add Go.FloatKind.f32 (1065353216 : Nat) a2))
                    (Int.toNat (Go.IntKind.wrap Go.IntKind.i64 (x3 - (1 : Int)))) (Go.K.farith Go.BinOp.add Go.FloatKind.f32 (1065353216 : Nat) a2))
                  a2 fun y6 => K y6)
            (((0 : Int) ≤ (0 : Int) ∧ (0 : Int) < (↑(List.length x2) : Int)) ∧
              ((0 : Int) ≤ (0 : Int) ∧ (0 : Int) < (↑(List.length x2) : Int)) ∧
                ((0 : Int) ≤ Go.IntKind.wrap Go.IntKind.i64 (x3 - (1 : Int)) ∧ Go.IntKind.wrap Go.IntKind.i64 (x3 - (1 : Int)) < (↑(List.length x2) : Int)) ∧
                  ((0 : Int) ≤ Go.IntKind.wrap Go.IntKind.i64 (x3 - (1 : Int)) ∧ Go.IntKind.wrap Go.IntKind.i64 (x3 - (1 : Int)) < (↑(List.length x2) : Int)) ∧
                    Go.K.melts.spec_l03Sweep.wp a1
                      (List.set (List.set x2 (Int.toNat (0 : Int)) (Go.K.farith Go.BinOp.add Go.FloatKind.f32 (List.getD x2 (Int.toNat (0 : Int)) (0 : Nat)) (1065353216 : Nat)))
                        (Int.toNat (Go.IntKind.wrap Go.IntKind.i64 (x3 - (1 : Int))))
                        (Go.K.farith Go.BinOp.add Go.FloatKind.f32
                          (List.getD
                            (List.set x2 (Int.toNat (0 : Int)) (Go.K.farith Go.BinOp.add Go.FloatKind.f32 (List.getD x2 (Int.toNat (0 : Int)) (0 : Nat)) (1065353216 : Nat)))
                            (Int.toNat (Go.IntKind.wrap Go.IntKind.i64 (x3 - (1 : Int)))) (0 : Nat))
                          (Go.K.farith Go.BinOp.mul Go.FloatKind.f32 a2 a2)))
                      a2 fun y7 =>
                      ((0 : Int) ≤ x3 ∧ x3 ≤ x3 ∧ x3 ≤ (1099511627776 : Int)) ∧
                        ((0 : Int) ≤ (0 : Int) ∧ (0 : Int) < (↑(List.length (List.replicate (Int.toNat x3) (0 : Nat))) : Int)) ∧
                          ((0 : Int) ≤ Go.IntKind.wrap Go.IntKind.i64 (x3 - (1 : Int)) ∧
                              Go.IntKind.wrap Go.IntKind.i64 (x3 - (1 : Int)) < (↑(List.length (List.replicate (Int.toNat x3) (0 : Nat))) : Int)) ∧
                            Go.K.melts.spec_l03Sweep.wp
                              (List.set (List.set (List.replicate (Int.toNat x3) (0 : Nat)) (Int.toNat (0 : Int)) (3212836864 : Nat))
                                (Int.toNat (Go.IntKind.wrap Go.IntKind.i64 (x3 - (1 : Int)))) (Go.K.fneg Go.FloatKind.f32 a2))
                              (List.set
                                (List.set x2 (Int.toNat (0 : Int)) (Go.K.farith Go.BinOp.add Go.FloatKind.f32 (List.getD x2 (Int.toNat (0 : Int)) (0 : Nat)) (1065353216 : Nat)))
                                (Int.toNat (Go.IntKind.wrap Go.IntKind.i64 (x3 - (1 : Int))))
                                (Go.K.farith Go.BinOp.add Go.FloatKind.f32
                                  (List.getD
                                    (List.set x2 (Int.toNat (0 : Int))
                                      (Go.K.farith Go.BinOp.add Go.FloatKind.f32 (List.getD x2 (Int.toNat (0 : Int)) (0 : Nat)) (1065353216 : Nat)))
                                    (Int.toNat (Go.IntKind.wrap Go.IntKind.i64 (x3 - (1 : Int)))) (0 : Nat))
                                  (Go.K.farith Go.BinOp.mul Go.FloatKind.f32 a2 a2)))
                              a2 fun y8 =>
                              ((0 : Int) ≤ (0 : Int) ∧ (0 : Int) < (↑(List.length y7) : Int)) ∧
                                ((0 : Int) ≤ Go.IntKind.wrap Go.IntKind.i64 (x3 - (1 : Int)) ∧ Go.IntKind.wrap Go.IntKind.i64 (x3 - (1 : Int)) < (↑(List.length y7) : Int)) ∧
                                  ((0 : Int) ≤ (0 : Int) ∧ (0 : Int) < (↑(List.length y8) : Int)) ∧
                                    ((0 : Int) ≤ Go.IntKind.wrap Go.IntKind.i64 (x3 - (1 : Int)) ∧ Go.IntKind.wrap Go.IntKind.i64 (x3 - (1 : Int)) < (↑(List.length y8) : Int)) ∧
                                      ∀ (J9 : List Nat → List Nat → List Nat → Nat → Int → Int → Prop),
                                        (∀ (x10 x11 x12 : List Nat) (x13 : Nat) (x14 x15 : Int),
                                            Go.K.ifB (Decidable.decide (x15 < x14))
                                                (((0 : Int) ≤ x15 ∧ x15 < (↑(List.length x10) : Int)) ∧
                                                  ((0 : Int) ≤ x15 ∧ x15 < (↑(List.length x11) : Int)) ∧
                                                    List.length
                                                          (x12 ++
                                                            Go.K.farith Go.BinOp.sub Go.FloatKind.f32 (List.getD x10 (Int.toNat x15) (0 : Nat))
                                                                (Go.K.farith Go.BinOp.mul Go.FloatKind.f32 x13 (List.getD x11 (Int.toNat x15) (0 : Nat))) ::
                                                              List.replicate (0 : Nat) (0 : Nat)) ≤
                                                        (1099511627776 : Nat) ∧
                                                      J9 x10 x11
                                                        (x12 ++
                                                          Go.K.farith Go.BinOp.sub Go.FloatKind.f32 (List.getD x10 (Int.toNat x15) (0 : Nat))
                                                              (Go.K.farith Go.BinOp.mul Go.FloatKind.f32 x13 (List.getD x11 (Int.toNat x15) (0 : Nat))) ::
                                                            List.replicate (0 : Nat) (0 : Nat))
                                                        x13 x14 (Go.IntKind.wrap Go.IntKind.i64 (x15 + (1 : Int))))
                                                (K x12) →
                                              J9 x10 x11 x12 x13 x14 x15) →
                                          J9 y7 y8 (List.replicate (0 : Nat) (0 : Nat))
                                            (Go.K.farith Go.BinOp.quo Go.FloatKind.f32
                                              (Go.K.farith Go.BinOp.add Go.FloatKind.f32 (List.getD y7 (Int.toNat (0 : Int)) (0 : Nat))
                                                (Go.K.farith Go.BinOp.mul Go.FloatKind.f32 a2
                                                  (List.getD y7 (Int.toNat (Go.IntKind.wrap Go.IntKind.i64 (x3 - (1 : Int)))) (0 : Nat))))
                                              (Go.K.farith Go.BinOp.add Go.FloatKind.f32
                                                (Go.K.farith Go.BinOp.add Go.FloatKind.f32 (1065353216 : Nat) (List.getD y8 (Int.toNat (0 : Int)) (0 : Nat)))
                                                (Go.K.farith Go.BinOp.mul Go.FloatKind.f32 a2
                                                  (List.getD y8 (Int.toNat (Go.IntKind.wrap Go.IntKind.i64 (x3 - (1 : Int)))) (0 : Nat)))))
                                            (↑(List.length y7) : Int) (0 : Int))) →
        J1 x2 x3 x4 x5) →
    J1 (List.replicate (0 : Nat) (0 : Nat)) (↑(List.length a1) : Int) (↑(List.length a1) : Int) (0 : Int)) := spec_l03Row.tx spec_l03Sweep.wp a1 a2 a3 K

theorem spec_l03Give.tx (w_spec_l03Is : Int → Int → Bool → Int → Int → Bool → Nat → Nat → Nat → Nat → Nat → Int → List Nat → List Nat → (Bool → Prop) → Prop) (a1 : List
  Nat) (a2 : List
  Nat) (a3 : Int) (a4 : Int) (a5 : Bool) (a6 : Int) (a7 : Int) (a8 : Bool) (a9 : Nat) (a10 : Nat) (a11 : Nat) (a12 : Nat) (a13 : Nat) (a14 : Int) (K : List Nat →
  List Nat → Int → Int → Bool → Int → Int → Bool → Nat → Nat → Nat → Nat → Nat → Int → Bool → Prop) : spec_l03Give.bd w_spec_l03Is a1 a2 a3 a4 a5 a6 a7 a8 a9 a10 a11 a12 a13 a14 K =
  (w_spec_l03Is a3 a4 a5 a6 a7 a8 a9 a10 a11 a12 a13 a14 a1 a2 fun y1 =>
  Go.K.ifB (!y1) (K [] [] (0 : Int) (0 : Int) Bool.false (0 : Int) (0 : Int) Bool.false (0 : Nat) (0 : Nat) (0 : Nat) (0 : Nat) (0 : Nat) (0 : Int) Bool.false)
    (K a1 a2 a3 a4 a5 a6 a7 a8 a9 a10 a11 a12 a13 a14 Bool.true)) := by kernel_rfl
theorem spec_l03Give.eq (a1 : List
  Nat) (a2 : List
  Nat) (a3 : Int) (a4 : Int) (a5 : Bool) (a6 : Int) (a7 : Int) (a8 : Bool) (a9 : Nat) (a10 : Nat) (a11 : Nat) (a12 : Nat) (a13 : Nat) (a14 : Int) (K : List Nat →
  List Nat → Int → Int → Bool → Int → Int → Bool → Nat → Nat → Nat → Nat → Nat → Int → Bool → Prop) : spec_l03Give.wp a1 a2 a3 a4 a5 a6 a7 a8 a9 a10 a11 a12 a13 a14 K =
  (Go.K.melts.spec_l03Is.wp a3 a4 a5 a6 a7 a8 a9 a10 a11 a12 a13 a14 a1 a2 fun y1 =>
  Go.K.ifB (!y1) (K [] [] (0 : Int) (0 : Int) Bool.false (0 : Int) (0 : Int) Bool.false (0 : Nat) (0 : Nat) (0 : Nat) (0 : Nat) (0 : Nat) (0 : Int) Bool.false)
    (K a1 a2 a3 a4 a5 a6 a7 a8 a9 a10 a11 a12 a13 a14 Bool.true)) := spec_l03Give.tx spec_l03Is.wp a1 a2 a3 a4 a5 a6 a7 a8 a9 a10 a11 a12 a13 a14 K

theorem spec_SpreadHeat.tx (w_spec_l03Is : Int → Int → Bool → Int → Int → Bool → Nat → Nat → Nat → Nat → Nat → Int → List Nat → List Nat → (Bool → Prop) → Prop) (w_spec_l03Least : Nat → (Bool → Prop) → Prop) (w_spec_l03Long : Int → Bool → (Bool → Prop) → Prop) (w_spec_l03Own : Int → Int → Bool → Int → Int → Bool → Nat → Nat → Nat → Nat → Nat → Int → List Nat → List Nat → (List Nat → List Nat → Int → Int → Bool → Int → Int → Bool → Nat → Nat → Nat → Nat → Nat → Int → Prop) → Prop) (w_spec_l03Row : List Nat → Nat → Bool → (List Nat → Prop) → Prop) (w_spec_l03Give : List Nat → List Nat → Int → Int → Bool → Int → Int → Bool → Nat → Nat → Nat → Nat → Nat → Int → (List Nat → List Nat → Int → Int → Bool → Int → Int → Bool → Nat → Nat → Nat → Nat → Nat → Int → Bool → Prop) → Prop) (a1 : List
  Nat) (a2 : List
  Nat) (a3 : Int) (a4 : Int) (a5 : Bool) (a6 : Int) (a7 : Int) (a8 : Bool) (a9 : Nat) (a10 : Nat) (a11 : Nat) (a12 : Nat) (a13 : Nat) (a14 : Int) (a15 : Nat) (K : List Nat →
  List Nat → Int → Int → Bool → Int → Int → Bool → Nat → Nat → Nat → Nat → Nat → Int → Bool → Prop) : spec_SpreadHeat.bd w_spec_l03Is w_spec_l03Least w_spec_l03Long w_spec_l03Own w_spec_l03Row w_spec_l03Give a1 a2 a3 a4 a5 a6 a7 a8 a9 a10 a11 a12 a13 a14 a15 K =
  (w_spec_l03Is a3 a4 a5 a6 a7 a8 a9 a10 a11 a12 a13 a14 a1 a2 fun y1 =>
  Go.K.ifB (!y1) (K [] [] (0 : Int) (0 : Int) Bool.false (0 : Int) (0 : Int) Bool.false (0 : Nat) (0 : Nat) (0 : Nat) (0 : Nat) (0 : Nat) (0 : Int) Bool.false)
    (w_spec_l03Least a15 fun y2 =>
      Go.K.ifB (!y2) (K [] [] (0 : Int) (0 : Int) Bool.false (0 : Int) (0 : Int) Bool.false (0 : Nat) (0 : Nat) (0 : Nat) (0 : Nat) (0 : Nat) (0 : Int) Bool.false)
        (w_spec_l03Least (Go.K.farith Go.BinOp.mul Go.FloatKind.f32 a15 a10) fun y3 =>
          Go.K.ifB (!y3) (K [] [] (0 : Int) (0 : Int) Bool.false (0 : Int) (0 : Int) Bool.false (0 : Nat) (0 : Nat) (0 : Nat) (0 : Nat) (0 : Nat) (0 : Int) Bool.false)
            (w_spec_l03Long a6 a8 fun y4 =>
              Go.K.ifB (!y4) (K [] [] (0 : Int) (0 : Int) Bool.false (0 : Int) (0 : Int) Bool.false (0 : Nat) (0 : Nat) (0 : Nat) (0 : Nat) (0 : Nat) (0 : Int) Bool.false)
                (w_spec_l03Long a7 a8 fun y5 =>
                  Go.K.ifB (!y5) (K [] [] (0 : Int) (0 : Int) Bool.false (0 : Int) (0 : Int) Bool.false (0 : Nat) (0 : Nat) (0 : Nat) (0 : Nat) (0 : Nat) (0 : Int) Bool.false)
                    (w_spec_l03Own a3 a4 a5 a6 a7 a8 a9 a10 a11 a12 a13 a14 a1 a2 fun y6 y7 y8 y9 y10 y11 y12 y13 y14 y15 y16 y17 y18 y19 =>
                      ∀
                        (J20 :
                          Int →
                            Int →
                              Bool →
                                Int →
                                  Int →
                                    Bool →
                                      Nat →
                                        Nat →
                                          Nat →
                                            Nat →
                                              Nat →
                                                Int →
                                                  Int →
                                                    Int →
                                                      Bool →
                                                        Int →
                                                          Int →
                                                            Bool →
                                                              Nat →
                                                                Nat →
                                                                  Nat →
                                                                    Nat →
                                                                      Nat →
                                                                        Int →
                                                                          Int →
                                                                            Int →
                                                                              Bool →
                                                                                Int →
                                                                                  Int →
                                                                                    Bool →
                                                                                      Nat →
                                                                                        Nat →
                                                                                          Nat →
                                                                                            Nat →
                                                                                              Nat → Int → List Nat → List Nat → List Nat → List Nat → Nat → Int → Int → Int → Prop),
                        (∀ (x21 x22 : Int) (x23 : Bool) (x24 x25 : Int) (x26 : Bool) (x27 x28 x29 x30 x31 : Nat) (x32 x33 x34 : Int) (x35 : Bool) (x36 x37 : Int) (x38 : Bool)
                            (x39 x40 x41 x42 x43 : Nat) (x44 x45 x46 : Int) (x47 : Bool) (x48 x49 : Int) (x50 : Bool) (x51 x52 x53 x54 x55 : Nat) (x56 : Int)
                            (x57 x58 x59 x60 : List Nat) (x61 : Nat) (x62 x63 x64 : Int),
                            Go.K.ifB (Decidable.decide (x64 < x63))
                                (((0 : Int) ≤ Go.IntKind.wrap Go.IntKind.i64 (x64 * x62) ∧
                                    Go.IntKind.wrap Go.IntKind.i64 (x64 * x62) ≤ Go.IntKind.wrap Go.IntKind.i64 (Go.IntKind.wrap Go.IntKind.i64 (x64 * x62) + x62) ∧
                                      Go.IntKind.wrap Go.IntKind.i64 (Go.IntKind.wrap Go.IntKind.i64 (x64 * x62) + x62) ≤ (↑(List.length x60) : Int)) ∧
                                  List.length
                                        (List.replicate (0 : Nat) (0 : Nat) ++
                                          List.take
                                            (Int.toNat (Go.IntKind.wrap Go.IntKind.i64 (Go.IntKind.wrap Go.IntKind.i64 (x64 * x62) + x62)) -
                                              Int.toNat (Go.IntKind.wrap Go.IntKind.i64 (x64 * x62)))
                                            (List.drop (Int.toNat (Go.IntKind.wrap Go.IntKind.i64 (x64 * x62))) x60)) ≤
                                      (1099511627776 : Nat) ∧
                                    w_spec_l03Row
                                      (List.replicate (0 : Nat) (0 : Nat) ++
                                        List.take
                                          (Int.toNat (Go.IntKind.wrap Go.IntKind.i64 (Go.IntKind.wrap Go.IntKind.i64 (x64 * x62) + x62)) -
                                            Int.toNat (Go.IntKind.wrap Go.IntKind.i64 (x64 * x62)))
                                          (List.drop (Int.toNat (Go.IntKind.wrap Go.IntKind.i64 (x64 * x62))) x60))
                                      x61 x26 fun y65 =>
                                      ∀
                                        (J66 :
                                          Int →
                                            Int →
                                              Bool →
                                                Int →
                                                  Int →
                                                    Bool →
                                                      Nat →
                                                        Nat →
                                                          Nat →
                                                            Nat →
                                                              Nat →
                                                                Int →
                                                                  Int →
                                                                    Int →
                                                                      Bool →
                                                                        Int →
                                                                          Int →
                                                                            Bool →
                                                                              Nat →
                                                                                Nat →
                                                                                  Nat →
                                                                                    Nat →
                                                                                      Nat →
                                                                                        Int →
                                                                                          Int →
                                                                                            Int →
                                                                                              Bool →
                                                                                                Int →
                                                                                                  Int →
                                                                                                    Bool →
                                                                                                      Nat →
                                                                                                        Nat →
                                                                                                          Nat →
                                                                                                            Nat →
                                                                                                              Nat →
                                                                                                                Int →
                                                                                                                  List Nat →
                                                                                                                    List Nat →
                                                                                                                      List Nat →
                                                                                                                        List Nat → List Nat → Nat → Int → Int → Int → Int → Prop),
                                        (∀ (x67 x68 : Int) (x69 : Bool) (x70 x71 : Int) (x72 : Bool) (x73 x74 x75 x76 x77 : Nat) (x78 x79 x80 : Int) (x81 : Bool) (x82 x83 : Int)
                                            (x84 : Bool) (x85 x86 x87 x88 x89 : Nat) (x90 x91 x92 : Int) (x93 : Bool) (x94 x95 : Int) (x96 : Bool) (x97 x98 x99 x100 x101 : Nat)
                                            (x102 : Int) (x103 x104 x105 x106 x107 : List Nat) (x108 : Nat) (x109 x110 x111 x112 : Int),
                                            Go.K.ifB (Decidable.decide (x112 < x109))
                                                (((0 : Int) ≤ x112 ∧ x112 < (↑(List.length x103) : Int)) ∧
                                                  ((0 : Int) ≤ Go.IntKind.wrap Go.IntKind.i64 (Go.IntKind.wrap Go.IntKind.i64 (x111 * x109) + x112) ∧
                                                      Go.IntKind.wrap Go.IntKind.i64 (Go.IntKind.wrap Go.IntKind.i64 (x111 * x109) + x112) < (↑(List.length x107) : Int)) ∧
                                                    J66 x67 x68 x69 x70 x71 x72 x73 x74 x75 x76 x77 x78 x79 x80 x81 x82 x83 x84 x85 x86 x87 x88 x89 x90 x91 x92 x93 x94 x95 x96 x97
                                                      x98 x99 x100 x101 x102 x103 x104 x105 x106
                                                      (List.set x107 (Int.toNat (Go.IntKind.wrap Go.IntKind.i64 (Go.IntKind.wrap Go.IntKind.i64 (x111 * x109) + x112)))
                                                        (List.getD x103 (Int.toNat x112) (0 : Nat)))
                                                      x108 x109 x110 x111 (Go.IntKind.wrap Go.IntKind.i64 (x112 + (1 : Int))))
                                                (J20 x67 x68 x69 x70 x71 x72 x73 x74 x75 x76 x77 x78 x79 x80 x81 x82 x83 x84 x85 x86 x87 x88 x89 x90 x91 x92 x93 x94 x95 x96 x97 x98
                                                  x99 x100 x101 x102 x104 x105 x106 x107 x108 x109 x110 (Go.IntKind.wrap Go.IntKind.i64 (x111 + (1 : Int)))) →
                                              J66 x67 x68 x69 x70 x71 x72 x73 x74 x75 x76 x77 x78 x79 x80 x81 x82 x83 x84 x85 x86 x87 x88 x89 x90 x91 x92 x93 x94 x95 x96 x97 x98
                                                x99 x100 x101 x102 x103 x104 x105 x106 x107 x108 x109 x110 x111 x112) →
                                          J66 x21 x22 x23 x24 x25 x26 x27 x28 x29 x30 x31 x32 x33 x34 x35 x36 x37 x38 x39 x40 x41 x42 x43 x44 x45 x46 x47 x48 x49 x50 x51 x52 x53
                                            x54 x55 x56 y65 x57 x58 x59 x60 x61 x62 x63 x64 (0 : Int))
                                (∀
                                  (J115 :
                                    Int →
                                      Int →
                                        Bool →
                                          Int →
                                            Int →
                                              Bool →
                                                Nat →
                                                  Nat →
                                                    Nat →
                                                      Nat →
                                                        Nat →
                                                          Int →
                                                            Int →
                                                              Int →
                                                                Bool →
                                                                  Int →
                                                                    Int →
                                                                      Bool →
                                                                        Nat →
                                                                          Nat →
                                                                            Nat →
                                                                              Nat →
                                                                                Nat →
                                                                                  Int →
                                                                                    Int →
                                                                                      Int →
                                                                                        Bool →
                                                                                          Int →
                                                                                            Int →
                                                                                              Bool →
                                                                                                Nat →
                                                                                                  Nat →
                                                                                                    Nat →
                                                                                                      Nat →
                                                                                                        Nat →
                                                                                                          Int →
                                                                                                            List Nat →
                                                                                                              List Nat → List Nat → List Nat → Nat → Int → Int → Int → Prop),
                                  (∀ (x116 x117 : Int) (x118 : Bool) (x119 x120 : Int) (x121 : Bool) (x122 x123 x124 x125 x126 : Nat) (x127 x128 x129 : Int) (x130 : Bool)
                                      (x131 x132 : Int) (x133 : Bool) (x134 x135 x136 x137 x138 : Nat) (x139 x140 x141 : Int) (x142 : Bool) (x143 x144 : Int) (x145 : Bool)
                                      (x146 x147 x148 x149 x150 : Nat) (x151 : Int) (x152 x153 x154 x155 : List Nat) (x156 : Nat) (x157 x158 x159 : Int),
                                      Go.K.ifB (Decidable.decide (x159 < x157))
                                          (∀
                                            (J160 :
                                              Int →
                                                Int →
                                                  Bool →
                                                    Int →
                                                      Int →
                                                        Bool →
                                                          Nat →
                                                            Nat →
                                                              Nat →
                                                                Nat →
                                                                  Nat →
                                                                    Int →
                                                                      Int →
                                                                        Int →
                                                                          Bool →
                                                                            Int →
                                                                              Int →
                                                                                Bool →
                                                                                  Nat →
                                                                                    Nat →
                                                                                      Nat →
                                                                                        Nat →
                                                                                          Nat →
                                                                                            Int →
                                                                                              Int →
                                                                                                Int →
                                                                                                  Bool →
                                                                                                    Int →
                                                                                                      Int →
                                                                                                        Bool →
                                                                                                          Nat →
                                                                                                            Nat →
                                                                                                              Nat →
                                                                                                                Nat →
                                                                                                                  Nat →
                                                                                                                    Int →
                                                                                                                      List Nat →
                                                                                                                        List Nat →
                                                                                                                          List Nat →
                                                                                                                            List Nat →
                                                                                                                              List Nat → Nat → Int → Int → Int → Int → Prop),
                                            (∀ (x161 x162 : Int) (x163 : Bool) (x164 x165 : Int) (x166 : Bool) (x167 x168 x169 x170 x171 : Nat) (x172 x173 x174 : Int) (x175 : Bool)
                                                (x176 x177 : Int) (x178 : Bool) (x179 x180 x181 x182 x183 : Nat) (x184 x185 x186 : Int) (x187 : Bool) (x188 x189 : Int)
                                                (x190 : Bool) (x191 x192 x193 x194 x195 : Nat) (x196 : Int) (x197 x198 x199 x200 x201 : List Nat) (x202 : Nat)
                                                (x203 x204 x205 x206 : Int),
                                                Go.K.ifB (Decidable.decide (x206 < x204))
                                                    (((0 : Int) ≤ Go.IntKind.wrap Go.IntKind.i64 (Go.IntKind.wrap Go.IntKind.i64 (x206 * x203) + x205) ∧
                                                        Go.IntKind.wrap Go.IntKind.i64 (Go.IntKind.wrap Go.IntKind.i64 (x206 * x203) + x205) < (↑(List.length x201) : Int)) ∧
                                                      List.length
                                                            (x197 ++
                                                              List.getD x201 (Int.toNat (Go.IntKind.wrap Go.IntKind.i64 (Go.IntKind.wrap Go.IntKind.i64 (x206 * x203) + x205)))
                                                                  (0 : Nat) ::
                                                                List.replicate (0 : Nat) (0 : Nat)) ≤
                                                          (1099511627776 : Nat) ∧
                                                        J160 x161 x162 x163 x164 x165 x166 x167 x168 x169 x170 x171 x172 x173 x174 x175 x176 x177 x178 x179 x180 x181 x182 x183 x184
                                                          x185 x186 x187 x188 x189 x190 x191 x192 x193 x194 x195 x196
                                                          (x197 ++
                                                            List.getD x201 (Int.toNat (Go.IntKind.wrap Go.IntKind.i64 (Go.IntKind.wrap Go.IntKind.i64 (x206 * x203) + x205)))
                                                                (0 : Nat) ::
                                                              List.replicate (0 : Nat) (0 : Nat))
                                                          x198 x199 x200 x201 x202 x203 x204 x205 (Go.IntKind.wrap Go.IntKind.i64 (x206 + (1 : Int))))
                                                    (w_spec_l03Row x197 x202 x166 fun y207 =>
                                                      ∀
                                                        (J208 :
                                                          Int →
                                                            Int →
                                                              Bool →
                                                                Int →
                                                                  Int →
                                                                    Bool →
                                                                      Nat →
                                                                        Nat →
                                                                          Nat →
                                                                            Nat →
                                                                              Nat →
                                                                                Int →
                                                                                  Int →
                                                                                    Int →
                                                                                      Bool →
                                                                                        Int →
                                                                                          Int →
                                                                                            Bool →
                                                                                              Nat →
                                                                                                Nat →
                                                                                                  Nat →
                                                                                                    Nat →
                                                                                                      Nat →
                                                                                                        Int →
                                                                                                          Int →
                                                                                                            Int →
                                                                                                              Bool →
                                                                                                                Int →
                                                                                                                  Int →
                                                                                                                    Bool →
                                                                                                                      Nat →
                                                                                                                        Nat →
                                                                                                                          Nat →
                                                                                                                            Nat →
                                                                                                                              Nat →
                                                                                                                                Int →
                                                                                                                                  List Nat →
                                                                                                                                    List Nat →
                                                                                                                                      List Nat →
                                                                                                                                        List Nat →
                                                                                                                                          List Nat →
                                                                                                                                            Nat → Int → Int → Int → Int → Prop),
                                                        (∀ (x209 x210 : Int) (x211 : Bool) (x212 x213 : Int) (x214 : Bool) (x215 x216 x217 x218 x219 : Nat) (x220 x221 x222 : Int)
                                                            (x223 : Bool) (x224 x225 : Int) (x226 : Bool) (x227 x228 x229 x230 x231 : Nat) (x232 x233 x234 : Int) (x235 : Bool)
                                                            (x236 x237 : Int) (x238 : Bool) (x239 x240 x241 x242 x243 : Nat) (x244 : Int) (x245 x246 x247 x248 x249 : List Nat)
                                                            (x250 : Nat) (x251 x252 x253 x254 : Int),
                                                            Go.K.ifB (Decidable.decide (x254 < x252))
                                                                (((0 : Int) ≤ x254 ∧ x254 < (↑(List.length x245) : Int)) ∧
                                                                  ((0 : Int) ≤ Go.IntKind.wrap Go.IntKind.i64 (Go.IntKind.wrap Go.IntKind.i64 (x254 * x251) + x253) ∧
                                                                      Go.IntKind.wrap Go.IntKind.i64 (Go.IntKind.wrap Go.IntKind.i64 (x254 * x251) + x253) <
                                                                        (↑(List.length x249) : Int)) ∧
                                                                    J208 x209 x210 x211 x212 x213 x214 x215 x216 x217 x218 x219 x220 x221 x222 x223 x224 x225 x226 x227 x228 x229
                                                                      x230 x231 x232 x233 x234 x235 x236 x237 x238 x239 x240 x241 x242 x243 x244 x245 x246 x247 x248
                                                                      (List.set x249
                                                                        (Int.toNat (Go.IntKind.wrap Go.IntKind.i64 (Go.IntKind.wrap Go.IntKind.i64 (x254 * x251) + x253)))
                                                                        (List.getD x245 (Int.toNat x254) (0 : Nat)))
                                                                      x250 x251 x252 x253 (Go.IntKind.wrap Go.IntKind.i64 (x254 + (1 : Int))))
                                                                (J115 x209 x210 x211 x212 x213 x214 x215 x216 x217 x218 x219 x220 x221 x222 x223 x224 x225 x226 x227 x228 x229 x230
                                                                  x231 x232 x233 x234 x235 x236 x237 x238 x239 x240 x241 x242 x243 x244 x246 x247 x248 x249 x250 x251 x252
                                                                  (Go.IntKind.wrap Go.IntKind.i64 (x253 + (1 : Int)))) →
                                                              J208 x209 x210 x211 x212 x213 x214 x215 x216 x217 x218 x219 x220 x221 x222 x223 x224 x225 x226 x227 x228 x229 x230
                                                                x231 x232 x233 x234 x235 x236 x237 x238 x239 x240 x241 x242 x243 x244 x245 x246 x247 x248 x249 x250 x251 x252 x253
                                                                x254) →
                                                          J208 x161 x162 x163 x164 x165 x166 x167 x168 x169 x170 x171 x172 x173 x174 x175 x176 x177 x178 x179 x180 x181 x182 x183
                                                            x184 x185 x186 x187 x188 x189 x190 x191 x192 x193 x194 x195 x196 y207 x198 x199 x200 x201 x202 x203 x204 x205
                                                            (0 : Int)) →
                                                  J160 x161 x162 x163 x164 x165 x166 x167 x168 x169 x170 x171 x172 x173 x174 x175 x176 x177 x178 x179 x180 x181 x182 x183 x184 x185
                                                    x186 x187 x188 x189 x190 x191 x192 x193 x194 x195 x196 x197 x198 x199 x200 x201 x202 x203 x204 x205 x206) →
                                              J160 x116 x117 x118 x119 x120 x121 x122 x123 x124 x125 x126 x127 x128 x129 x130 x131 x132 x133 x134 x135 x136 x137 x138 x139 x140 x141
                                                x142 x143 x144 x145 x146 x147 x148 x149 x150 x151 (List.replicate (0 : Nat) (0 : Nat)) x152 x153 x154 x155 x156 x157 x158 x159
                                                (0 : Int))
                                          (w_spec_l03Give x154 x155 x140 x141 x142 x143 x144 x145 x146 x147 x148 x149 x150 x151
                                            fun y259 y260 y261 y262 y263 y264 y265 y266 y267 y268 y269 y270 y271 y272 y273 =>
                                            K y259 y260 y261 y262 y263 y264 y265 y266 y267 y268 y269 y270 y271 y272 y273) →
                                        J115 x116 x117 x118 x119 x120 x121 x122 x123 x124 x125 x126 x127 x128 x129 x130 x131 x132 x133 x134 x135 x136 x137 x138 x139 x140 x141 x142
                                          x143 x144 x145 x146 x147 x148 x149 x150 x151 x152 x153 x154 x155 x156 x157 x158 x159) →
                                    J115 x21 x22 x23 x24 x25 x26 x27 x28 x29 x30 x31 x32 x33 x34 x35 x36 x37 x38 x39 x40 x41 x42 x43 x44 x45 x46 x47 x48 x49 x50 x51 x52 x53 x54 x55
                                      x56 x57 x58 x59 x60 x61 x62 x63 (0 : Int)) →
                              J20 x21 x22 x23 x24 x25 x26 x27 x28 x29 x30 x31 x32 x33 x34 x35 x36 x37 x38 x39 x40 x41 x42 x43 x44 x45 x46 x47 x48 x49 x50 x51 x52 x53 x54 x55 x56
                                x57 x58 x59 x60 x61 x62 x63 x64) →
                          J20 a3 a4 a5 a6 a7 a8 a9 a10 a11 a12 a13 a14 (0 : Int) (0 : Int) Bool.false (0 : Int) (0 : Int) Bool.false (0 : Nat) (0 : Nat) (0 : Nat) (0 : Nat)
                            (0 : Nat) (0 : Int) y8 y9 y10 y11 y12 y13 y14 y15 y16 y17 y18 y19 [] [] y6 y7 (Go.K.farith Go.BinOp.mul Go.FloatKind.f32 a15 a10) a6 a7
                            (0 : Int))))))) := by kernel_rfl
theorem spec_SpreadHeat.eq (a1 : List
  Nat) (a2 : List
  Nat) (a3 : Int) (a4 : Int) (a5 : Bool) (a6 : Int) (a7 : Int) (a8 : Bool) (a9 : Nat) (a10 : Nat) (a11 : Nat) (a12 : Nat) (a13 : Nat) (a14 : Int) (a15 : Nat) (K : List Nat →
  List Nat → Int → Int → Bool → Int → Int → Bool → Nat → Nat → Nat → Nat → Nat → Int → Bool → Prop) : spec_SpreadHeat.wp a1 a2 a3 a4 a5 a6 a7 a8 a9 a10 a11 a12 a13 a14 a15 K =
  (Go.K.melts.spec_l03Is.wp a3 a4 a5 a6 a7 a8 a9 a10 a11 a12 a13 a14 a1 a2 fun y1 =>
  Go.K.ifB (!y1) (K [] [] (0 : Int) (0 : Int) Bool.false (0 : Int) (0 : Int) Bool.false (0 : Nat) (0 : Nat) (0 : Nat) (0 : Nat) (0 : Nat) (0 : Int) Bool.false)
    (Go.K.melts.spec_l03Least.wp a15 fun y2 =>
      Go.K.ifB (!y2) (K [] [] (0 : Int) (0 : Int) Bool.false (0 : Int) (0 : Int) Bool.false (0 : Nat) (0 : Nat) (0 : Nat) (0 : Nat) (0 : Nat) (0 : Int) Bool.false)
        (Go.K.melts.spec_l03Least.wp (Go.K.farith Go.BinOp.mul Go.FloatKind.f32 a15 a10) fun y3 =>
          Go.K.ifB (!y3) (K [] [] (0 : Int) (0 : Int) Bool.false (0 : Int) (0 : Int) Bool.false (0 : Nat) (0 : Nat) (0 : Nat) (0 : Nat) (0 : Nat) (0 : Int) Bool.false)
            (Go.K.melts.spec_l03Long.wp a6 a8 fun y4 =>
              Go.K.ifB (!y4) (K [] [] (0 : Int) (0 : Int) Bool.false (0 : Int) (0 : Int) Bool.false (0 : Nat) (0 : Nat) (0 : Nat) (0 : Nat) (0 : Nat) (0 : Int) Bool.false)
                (Go.K.melts.spec_l03Long.wp a7 a8 fun y5 =>
                  Go.K.ifB (!y5) (K [] [] (0 : Int) (0 : Int) Bool.false (0 : Int) (0 : Int) Bool.false (0 : Nat) (0 : Nat) (0 : Nat) (0 : Nat) (0 : Nat) (0 : Int) Bool.false)
                    (Go.K.melts.spec_l03Own.wp a3 a4 a5 a6 a7 a8 a9 a10 a11 a12 a13 a14 a1 a2 fun y6 y7 y8 y9 y10 y11 y12 y13 y14 y15 y16 y17 y18 y19 =>
                      ∀
                        (J20 :
                          Int →
                            Int →
                              Bool →
                                Int →
                                  Int →
                                    Bool →
                                      Nat →
                                        Nat →
                                          Nat →
                                            Nat →
                                              Nat →
                                                Int →
                                                  Int →
                                                    Int →
                                                      Bool →
                                                        Int →
                                                          Int →
                                                            Bool →
                                                              Nat →
                                                                Nat →
                                                                  Nat →
                                                                    Nat →
                                                                      Nat →
                                                                        Int →
                                                                          Int →
                                                                            Int →
                                                                              Bool →
                                                                                Int →
                                                                                  Int →
                                                                                    Bool →
                                                                                      Nat →
                                                                                        Nat →
                                                                                          Nat →
                                                                                            Nat →
                                                                                              Nat → Int → List Nat → List Nat → List Nat → List Nat → Nat → Int → Int → Int → Prop),
                        (∀ (x21 x22 : Int) (x23 : Bool) (x24 x25 : Int) (x26 : Bool) (x27 x28 x29 x30 x31 : Nat) (x32 x33 x34 : Int) (x35 : Bool) (x36 x37 : Int) (x38 : Bool)
                            (x39 x40 x41 x42 x43 : Nat) (x44 x45 x46 : Int) (x47 : Bool) (x48 x49 : Int) (x50 : Bool) (x51 x52 x53 x54 x55 : Nat) (x56 : Int)
                            (x57 x58 x59 x60 : List Nat) (x61 : Nat) (x62 x63 x64 : Int),
                            Go.K.ifB (Decidable.decide (x64 < x63))
                                (((0 : Int) ≤ Go.IntKind.wrap Go.IntKind.i64 (x64 * x62) ∧
                                    Go.IntKind.wrap Go.IntKind.i64 (x64 * x62) ≤ Go.IntKind.wrap Go.IntKind.i64 (Go.IntKind.wrap Go.IntKind.i64 (x64 * x62) + x62) ∧
                                      Go.IntKind.wrap Go.IntKind.i64 (Go.IntKind.wrap Go.IntKind.i64 (x64 * x62) + x62) ≤ (↑(List.length x60) : Int)) ∧
                                  List.length
                                        (List.replicate (0 : Nat) (0 : Nat) ++
                                          List.take
                                            (Int.toNat (Go.IntKind.wrap Go.IntKind.i64 (Go.IntKind.wrap Go.IntKind.i64 (x64 * x62) + x62)) -
                                              Int.toNat (Go.IntKind.wrap Go.IntKind.i64 (x64 * x62)))
                                            (List.drop (Int.toNat (Go.IntKind.wrap Go.IntKind.i64 (x64 * x62))) x60)) ≤
                                      (1099511627776 : Nat) ∧
                                    Go.K.melts.spec_l03Row.wp
                                      (List.replicate (0 : Nat) (0 : Nat) ++
                                        List.take
                                          (Int.toNat (Go.IntKind.wrap Go.IntKind.i64 (Go.IntKind.wrap Go.IntKind.i64 (x64 * x62) + x62)) -
                                            Int.toNat (Go.IntKind.wrap Go.IntKind.i64 (x64 * x62)))
                                          (List.drop (Int.toNat (Go.IntKind.wrap Go.IntKind.i64 (x64 * x62))) x60))
                                      x61 x26 fun y65 =>
                                      ∀
                                        (J66 :
                                          Int →
                                            Int →
                                              Bool →
                                                Int →
                                                  Int →
                                                    Bool →
                                                      Nat →
                                                        Nat →
                                                          Nat →
                                                            Nat →
                                                              Nat →
                                                                Int →
                                                                  Int →
                                                                    Int →
                                                                      Bool →
                                                                        Int →
                                                                          Int →
                                                                            Bool →
                                                                              Nat →
                                                                                Nat →
                                                                                  Nat →
                                                                                    Nat →
                                                                                      Nat →
                                                                                        Int →
                                                                                          Int →
                                                                                            Int →
                                                                                              Bool →
                                                                                                Int →
                                                                                                  Int →
                                                                                                    Bool →
                                                                                                      Nat →
                                                                                                        Nat →
                                                                                                          Nat →
                                                                                                            Nat →
                                                                                                              Nat →
                                                                                                                Int →
                                                                                                                  List Nat →
                                                                                                                    List Nat →
                                                                                                                      List Nat →
                                                                                                                        List Nat → List Nat → Nat → Int → Int → Int → Int → Prop),
                                        (∀ (x67 x68 : Int) (x69 : Bool) (x70 x71 : Int) (x72 : Bool) (x73 x74 x75 x76 x77 : Nat) (x78 x79 x80 : Int) (x81 : Bool) (x82 x83 : Int)
                                            (x84 : Bool) (x85 x86 x87 x88 x89 : Nat) (x90 x91 x92 : Int) (x93 : Bool) (x94 x95 : Int) (x96 : Bool) (x97 x98 x99 x100 x101 : Nat)
                                            (x102 : Int) (x103 x104 x105 x106 x107 : List Nat) (x108 : Nat) (x109 x110 x111 x112 : Int),
                                            Go.K.ifB (Decidable.decide (x112 < x109))
                                                (((0 : Int) ≤ x112 ∧ x112 < (↑(List.length x103) : Int)) ∧
                                                  ((0 : Int) ≤ Go.IntKind.wrap Go.IntKind.i64 (Go.IntKind.wrap Go.IntKind.i64 (x111 * x109) + x112) ∧
                                                      Go.IntKind.wrap Go.IntKind.i64 (Go.IntKind.wrap Go.IntKind.i64 (x111 * x109) + x112) < (↑(List.length x107) : Int)) ∧
                                                    J66 x67 x68 x69 x70 x71 x72 x73 x74 x75 x76 x77 x78 x79 x80 x81 x82 x83 x84 x85 x86 x87 x88 x89 x90 x91 x92 x93 x94 x95 x96 x97
                                                      x98 x99 x100 x101 x102 x103 x104 x105 x106
                                                      (List.set x107 (Int.toNat (Go.IntKind.wrap Go.IntKind.i64 (Go.IntKind.wrap Go.IntKind.i64 (x111 * x109) + x112)))
                                                        (List.getD x103 (Int.toNat x112) (0 : Nat)))
                                                      x108 x109 x110 x111 (Go.IntKind.wrap Go.IntKind.i64 (x112 + (1 : Int))))
                                                (J20 x67 x68 x69 x70 x71 x72 x73 x74 x75 x76 x77 x78 x79 x80 x81 x82 x83 x84 x85 x86 x87 x88 x89 x90 x91 x92 x93 x94 x95 x96 x97 x98
                                                  x99 x100 x101 x102 x104 x105 x106 x107 x108 x109 x110 (Go.IntKind.wrap Go.IntKind.i64 (x111 + (1 : Int)))) →
                                              J66 x67 x68 x69 x70 x71 x72 x73 x74 x75 x76 x77 x78 x79 x80 x81 x82 x83 x84 x85 x86 x87 x88 x89 x90 x91 x92 x93 x94 x95 x96 x97 x98
                                                x99 x100 x101 x102 x103 x104 x105 x106 x107 x108 x109 x110 x111 x112) →
                                          J66 x21 x22 x23 x24 x25 x26 x27 x28 x29 x30 x31 x32 x33 x34 x35 x36 x37 x38 x39 x40 x41 x42 x43 x44 x45 x46 x47 x48 x49 x50 x51 x52 x53
                                            x54 x55 x56 y65 x57 x58 x59 x60 x61 x62 x63 x64 (0 : Int))
                                (∀
                                  (J115 :
                                    Int →
                                      Int →
                                        Bool →
                                          Int →
                                            Int →
                                              Bool →
                                                Nat →
                                                  Nat →
                                                    Nat →
                                                      Nat →
                                                        Nat →
                                                          Int →
                                                            Int →
                                                              Int →
                                                                Bool →
                                                                  Int →
                                                                    Int →
                                                                      Bool →
                                                                        Nat →
                                                                          Nat →
                                                                            Nat →
                                                                              Nat →
                                                                                Nat →
                                                                                  Int →
                                                                                    Int →
                                                                                      Int →
                                                                                        Bool →
                                                                                          Int →
                                                                                            Int →
                                                                                              Bool →
                                                                                                Nat →
                                                                                                  Nat →
                                                                                                    Nat →
                                                                                                      Nat →
                                                                                                        Nat →
                                                                                                          Int →
                                                                                                            List Nat →
                                                                                                              List Nat → List Nat → List Nat → Nat → Int → Int → Int → Prop),
                                  (∀ (x116 x117 : Int) (x118 : Bool) (x119 x120 : Int) (x121 : Bool) (x122 x123 x124 x125 x126 : Nat) (x127 x128 x129 : Int) (x130 : Bool)
                                      (x131 x132 : Int) (x133 : Bool) (x134 x135 x136 x137 x138 : Nat) (x139 x140 x141 : Int) (x142 : Bool) (x143 x144 : Int) (x145 : Bool)
                                      (x146 x147 x148 x149 x150 : Nat) (x151 : Int) (x152 x153 x154 x155 : List Nat) (x156 : Nat) (x157 x158 x159 : Int),
                                      Go.K.ifB (Decidable.decide (x159 < x157))
                                          (∀
                                            (J160 :
                                              Int →
                                                Int →
                                                  Bool →
                                                    Int →
                                                      Int →
                                                        Bool →
                                                          Nat →
                                                            Nat →
                                                              Nat →
                                                                Nat →
                                                                  Nat →
                                                                    Int →
                                                                      Int →
                                                                        Int →
                                                                          Bool →
                                                                            Int →
                                                                              Int →
                                                                                Bool →
                                                                                  Nat →
                                                                                    Nat →
                                                                                      Nat →
                                                                                        Nat →
                                                                                          Nat →
                                                                                            Int →
                                                                                              Int →
                                                                                                Int →
                                                                                                  Bool →
                                                                                                    Int →
                                                                                                      Int →
                                                                                                        Bool →
                                                                                                          Nat →
                                                                                                            Nat →
                                                                                                              Nat →
                                                                                                                Nat →
                                                                                                                  Nat →
                                                                                                                    Int →
                                                                                                                      List Nat →
                                                                                                                        List Nat →
                                                                                                                          List Nat →
                                                                                                                            List Nat →
                                                                                                                              List Nat → Nat → Int → Int → Int → Int → Prop),
                                            (∀ (x161 x162 : Int) (x163 : Bool) (x164 x165 : Int) (x166 : Bool) (x167 x168 x169 x170 x171 : Nat) (x172 x173 x174 : Int) (x175 : Bool)
                                                (x176 x177 : Int) (x178 : Bool) (x179 x180 x181 x182 x183 : Nat) (x184 x185 x186 : Int) (x187 : Bool) (x188 x189 : Int)
                                                (x190 : Bool) (x191 x192 x193 x194 x195 : Nat) (x196 : Int) (x197 x198 x199 x200 x201 : List Nat) (x202 : Nat)
                                                (x203 x204 x205 x206 : Int),
                                                Go.K.ifB (Decidable.decide (x206 < x204))
                                                    (((0 : Int) ≤ Go.IntKind.wrap Go.IntKind.i64 (Go.IntKind.wrap Go.IntKind.i64 (x206 * x203) + x205) ∧
                                                        Go.IntKind.wrap Go.IntKind.i64 (Go.IntKind.wrap Go.IntKind.i64 (x206 * x203) + x205) < (↑(List.length x201) : Int)) ∧
                                                      List.length
                                                            (x197 ++
                                                              List.getD x201 (Int.toNat (Go.IntKind.wrap Go.IntKind.i64 (Go.IntKind.wrap Go.IntKind.i64 (x206 * x203) + x205)))
                                                                  (0 : Nat) ::
                                                                List.replicate (0 : Nat) (0 : Nat)) ≤
                                                          (1099511627776 : Nat) ∧
                                                        J160 x161 x162 x163 x164 x165 x166 x167 x168 x169 x170 x171 x172 x173 x174 x175 x176 x177 x178 x179 x180 x181 x182 x183 x184
                                                          x185 x186 x187 x188 x189 x190 x191 x192 x193 x194 x195 x196
                                                          (x197 ++
                                                            List.getD x201 (Int.toNat (Go.IntKind.wrap Go.IntKind.i64 (Go.IntKind.wrap Go.IntKind.i64 (x206 * x203) + x205)))
                                                                (0 : Nat) ::
                                                              List.replicate (0 : Nat) (0 : Nat))
                                                          x198 x199 x200 x201 x202 x203 x204 x205 (Go.IntKind.wrap Go.IntKind.i64 (x206 + (1 : Int))))
                                                    (Go.K.melts.spec_l03Row.wp x197 x202 x166 fun y207 =>
                                                      ∀
                                                        (J208 :
                                                          Int →
                                                            Int →
                                                              Bool →
                                                                Int →
                                                                  Int →
                                                                    Bool →
                                                                      Nat →
                                                                        Nat →
                                                                          Nat →
                                                                            Nat →
                                                                              Nat →
                                                                                Int →
                                                                                  Int →
                                                                                    Int →
                                                                                      Bool →
                                                                                        Int →
                                                                                          Int →
                                                                                            Bool →
                                                                                              Nat →
                                                                                                Nat →
                                                                                                  Nat →
                                                                                                    Nat →
                                                                                                      Nat →
                                                                                                        Int →
                                                                                                          Int →
                                                                                                            Int →
                                                                                                              Bool →
                                                                                                                Int →
                                                                                                                  Int →
                                                                                                                    Bool →
                                                                                                                      Nat →
                                                                                                                        Nat →
                                                                                                                          Nat →
                                                                                                                            Nat →
                                                                                                                              Nat →
                                                                                                                                Int →
                                                                                                                                  List Nat →
                                                                                                                                    List Nat →
                                                                                                                                      List Nat →
                                                                                                                                        List Nat →
                                                                                                                                          List Nat →
                                                                                                                                            Nat → Int → Int → Int → Int → Prop),
                                                        (∀ (x209 x210 : Int) (x211 : Bool) (x212 x213 : Int) (x214 : Bool) (x215 x216 x217 x218 x219 : Nat) (x220 x221 x222 : Int)
                                                            (x223 : Bool) (x224 x225 : Int) (x226 : Bool) (x227 x228 x229 x230 x231 : Nat) (x232 x233 x234 : Int) (x235 : Bool)
                                                            (x236 x237 : Int) (x238 : Bool) (x239 x240 x241 x242 x243 : Nat) (x244 : Int) (x245 x246 x247 x248 x249 : List Nat)
                                                            (x250 : Nat) (x251 x252 x253 x254 : Int),
                                                            Go.K.ifB (Decidable.decide (x254 < x252))
                                                                (((0 : Int) ≤ x254 ∧ x254 < (↑(List.length x245) : Int)) ∧
                                                                  ((0 : Int) ≤ Go.IntKind.wrap Go.IntKind.i64 (Go.IntKind.wrap Go.IntKind.i64 (x254 * x251) + x253) ∧
                                                                      Go.IntKind.wrap Go.IntKind.i64 (Go.IntKind.wrap Go.IntKind.i64 (x254 * x251) + x253) <
                                                                        (↑(List.length x249) : Int)) ∧
                                                                    J208 x209 x210 x211 x212 x213 x214 x215 x216 x217 x218 x219 x220 x221 x222 x223 x224 x225 x226 x227 x228 x229
                                                                      x230 x231 x232 x233 x234 x235 x236 x237 x238 x239 x240 x241 x242 x243 x244 x245 x246 x247 x248
                                                                      (List.set x249
                                                                        (Int.toNat (Go.IntKind.wrap Go.IntKind.i64 (Go.IntKind.wrap Go.IntKind.i64 (x254 * x251) + x253)))
                                                                        (List.getD x245 (Int.toNat x254) (0 : Nat)))
                                                                      x250 x251 x252 x253 (Go.IntKind.wrap Go.IntKind.i64 (x254 + (1 : Int))))
                                                                (J115 x209 x210 x211 x212 x213 x214 x215 x216 x217 x218 x219 x220 x221 x222 x223 x224 x225 x226 x227 x228 x229 x230
                                                                  x231 x232 x233 x234 x235 x236 x237 x238 x239 x240 x241 x242 x243 x244 x246 x247 x248 x249 x250 x251 x252
                                                                  (Go.IntKind.wrap Go.IntKind.i64 (x253 + (1 : Int)))) →
                                                              J208 x209 x210 x211 x212 x213 x214 x215 x216 x217 x218 x219 x220 x221 x222 x223 x224 x225 x226 x227 x228 x229 x230
                                                                x231 x232 x233 x234 x235 x236 x237 x238 x239 x240 x241 x242 x243 x244 x245 x246 x247 x248 x249 x250 x251 x252 x253
                                                                x254) →
                                                          J208 x161 x162 x163 x164 x165 x166 x167 x168 x169 x170 x171 x172 x173 x174 x175 x176 x177 x178 x179 x180 x181 x182 x183
                                                            x184 x185 x186 x187 x188 x189 x190 x191 x192 x193 x194 x195 x196 y207 x198 x199 x200 x201 x202 x203 x204 x205
                                                            (0 : Int)) →
                                                  J160 x161 x162 x163 x164 x165 x166 x167 x168 x169 x170 x171 x172 x173 x174 x175 x176 x177 x178 x179 x180 x181 x182 x183 x184 x185
                                                    x186 x187 x188 x189 x190 x191 x192 x193 x194 x195 x196 x197 x198 x199 x200 x201 x202 x203 x204 x205 x206) →
                                              J160 x116 x117 x118 x119 x120 x121 x122 x123 x124 x125 x126 x127 x128 x129 x130 x131 x132 x133 x134 x135 x136 x137 x138 x139 x140 x141
                                                x142 x143 x144 x145 x146 x147 x148 x149 x150 x151 (List.replicate (0 : Nat) (0 : Nat)) x152 x153 x154 x155 x156 x157 x158 x159
                                                (0 : Int))
                                          (Go.K.melts.spec_l03Give.wp x154 x155 x140 x141 x142 x143 x144 x145 x146 x147 x148 x149 x150 x151
                                            fun y259 y260 y261 y262 y263 y264 y265 y266 y267 y268 y269 y270 y271 y272 y273 =>
                                            K y259 y260 y261 y262 y263 y264 y265 y266 y267 y268 y269 y270 y271 y272 y273) →
                                        J115 x116 x117 x118 x119 x120 x121 x122 x123 x124 x125 x126 x127 x128 x129 x130 x131 x132 x133 x134 x135 x136 x137 x138 x139 x140 x141 x142
                                          x143 x144 x145 x146 x147 x148 x149 x150 x151 x152 x153 x154 x155 x156 x157 x158 x159) →
                                    J115 x21 x22 x23 x24 x25 x26 x27 x28 x29 x30 x31 x32 x33 x34 x35 x36 x37 x38 x39 x40 x41 x42 x43 x44 x45 x46 x47 x48 x49 x50 x51 x52 x53 x54 x55
                                      x56 x57 x58 x59 x60 x61 x62 x63 (0 : Int)) →
                              J20 x21 x22 x23 x24 x25 x26 x27 x28 x29 x30 x31 x32 x33 x34 x35 x36 x37 x38 x39 x40 x41 x42 x43 x44 x45 x46 x47 x48 x49 x50 x51 x52 x53 x54 x55 x56
                                x57 x58 x59 x60 x61 x62 x63 x64) →
                          J20 a3 a4 a5 a6 a7 a8 a9 a10 a11 a12 a13 a14 (0 : Int) (0 : Int) Bool.false (0 : Int) (0 : Int) Bool.false (0 : Nat) (0 : Nat) (0 : Nat) (0 : Nat)
                            (0 : Nat) (0 : Int) y8 y9 y10 y11 y12 y13 y14 y15 y16 y17 y18 y19 [] [] y6 y7 (Go.K.farith Go.BinOp.mul Go.FloatKind.f32 a15 a10) a6 a7
                            (0 : Int))))))) := spec_SpreadHeat.tx spec_l03Is.wp spec_l03Least.wp spec_l03Long.wp spec_l03Own.wp spec_l03Row.wp spec_l03Give.wp a1 a2 a3 a4 a5 a6 a7 a8 a9 a10 a11 a12 a13 a14 a15 K

theorem impl_within.tx  (a1 : Int) (a2 : Int) (a3 : Int) (K : Bool → Prop) : impl_within.bd  a1 a2 a3 K =
  (Go.K.ifB (Decidable.decide (a2 ≤ a1)) (K (Decidable.decide (a1 ≤ a3))) (K Bool.false)) := by kernel_rfl
theorem impl_within.eq (a1 : Int) (a2 : Int) (a3 : Int) (K : Bool → Prop) : impl_within.wp a1 a2 a3 K =
  (Go.K.ifB (Decidable.decide (a2 ≤ a1)) (K (Decidable.decide (a1 ≤ a3))) (K Bool.false)) := impl_within.tx  a1 a2 a3 K

theorem impl_areWithin_1.tx (w_impl_within : Int → Int → Int → (Bool → Prop) → Prop) (a1 : Int) (a2 : Int) (a3 : Int) (K : Bool → Prop) : impl_areWithin_1.bd w_impl_within a1 a2 a3 K =
  (w_impl_within a3 a1 a2 fun y1 => K !y1) := by kernel_rfl
theorem impl_areWithin_1.eq (a1 : Int) (a2 : Int) (a3 : Int) (K : Bool → Prop) : impl_areWithin_1.wp a1 a2 a3 K =
  (Go.K.melts.impl_within.wp a3 a1 a2 fun y1 => K !y1) := impl_areWithin_1.tx impl_within.wp a1 a2 a3 K

theorem slices_IndexFunc_int64_int64__areWithin_1.tx (w_impl_areWithin_1 : Int → Int → Int → (Bool → Prop) → Prop) (a1 : List Int) (a2 : Int) (a3 : Int) (K : Int → Prop) : slices_IndexFunc_int64_int64__areWithin_1.bd w_impl_areWithin_1 a1 a2 a3 K =
  (∀ (J1 : Int → Int → Prop),
  (∀ (x2 x3 : Int),
      Go.K.ifB (Decidable.decide (x3 < x2))
          (((0 : Int) ≤ x3 ∧ x3 < (↑(List.length a1) : Int)) ∧
            w_impl_areWithin_1 a2 a3 (List.getD a1 (Int.toNat x3) (0 : Int)) fun y4 => Go.K.ifB y4 (K x3) (J1 x2 (Go.IntKind.wrap Go.IntKind.i64 (x3 + (1 : Int)))))
          (K (-1 : Int)) →
        J1 x2 x3) →
    J1 (↑(List.length a1) : Int) (0 : Int)) := by kernel_rfl
theorem slices_IndexFunc_int64_int64__areWithin_1.eq (a1 : List Int) (a2 : Int) (a3 : Int) (K : Int → Prop) : slices_IndexFunc_int64_int64__areWithin_1.wp a1 a2 a3 K =
  (∀ (J1 : Int → Int → Prop),
  (∀ (x2 x3 : Int),
      Go.K.ifB (Decidable.decide (x3 < x2))
          (((0 : Int) ≤ x3 ∧ x3 < (↑(List.length a1) : Int)) ∧
            Go.K.melts.impl_areWithin_1.wp a2 a3 (List.getD a1 (Int.toNat x3) (0 : Int)) fun y4 => Go.K.ifB y4 (K x3) (J1 x2 (Go.IntKind.wrap Go.IntKind.i64 (x3 + (1 : Int)))))
          (K (-1 : Int)) →
        J1 x2 x3) →
    J1 (↑(List.length a1) : Int) (0 : Int)) := slices_IndexFunc_int64_int64__areWithin_1.tx impl_areWithin_1.wp a1 a2 a3 K

theorem slices_ContainsFunc_int64_int64__areWithin_1.tx (w_slices_IndexFunc_int64_int64__areWithin_1 : List Int → Int → Int → (Int → Prop) → Prop) (a1 : List Int) (a2 : Int) (a3 : Int) (K : Bool → Prop) : slices_ContainsFunc_int64_int64__areWithin_1.bd w_slices_IndexFunc_int64_int64__areWithin_1 a1 a2 a3 K =
  (w_slices_IndexFunc_int64_int64__areWithin_1 a1 a2 a3 fun y1 => K (Decidable.decide (y1 ≥ (0 : Int)))) := by kernel_rfl
theorem slices_ContainsFunc_int64_int64__areWithin_1.eq (a1 : List Int) (a2 : Int) (a3 : Int) (K : Bool → Prop) : slices_ContainsFunc_int64_int64__areWithin_1.wp a1 a2 a3 K =
  (Go.K.melts.slices_IndexFunc_int64_int64__areWithin_1.wp a1 a2 a3 fun y1 => K (Decidable.decide (y1 ≥ (0 : Int)))) := slices_ContainsFunc_int64_int64__areWithin_1.tx slices_IndexFunc_int64_int64__areWithin_1.wp a1 a2 a3 K

theorem impl_areWithin.tx (w_slices_ContainsFunc_int64_int64__areWithin_1 : List Int → Int → Int → (Bool → Prop) → Prop) (a1 : List Int) (a2 : Int) (a3 : Int) (K : Bool → Prop) : impl_areWithin.bd w_slices_ContainsFunc_int64_int64__areWithin_1 a1 a2 a3 K =
  (w_slices_ContainsFunc_int64_int64__areWithin_1 a1 a2 a3 fun y1 => K !y1) := by kernel_rfl
theorem impl_areWithin.eq (a1 : List Int) (a2 : Int) (a3 : Int) (K : Bool → Prop) : impl_areWithin.wp a1 a2 a3 K =
  (Go.K.melts.slices_ContainsFunc_int64_int64__areWithin_1.wp a1 a2 a3 fun y1 => K !y1) := impl_areWithin.tx slices_ContainsFunc_int64_int64__areWithin_1.wp a1 a2 a3 K

theorem impl_ValidField.tx (w_impl_areWithin : List Int → Int → Int → (Bool → Prop) → Prop) (a1 : List Nat) (a2 : Int) (a3 : Int) (a4 : Bool) (K : Bool → Prop) : impl_ValidField.bd w_impl_areWithin a1 a2 a3 a4 K =
  (w_impl_areWithin (a2 :: a3 :: List.replicate (0 : Nat) (0 : Int)) (1 : Int) (16 : Int) fun y1 =>
  Go.K.ifB y1 (K ((↑(List.length a1) : Int) == Go.IntKind.wrap Go.IntKind.i64 (a2 * a3))) (K Bool.false)) := by kernel_rfl
theorem impl_ValidField.eq (a1 : List Nat) (a2 : Int) (a3 : Int) (a4 : Bool) (K : Bool → Prop) : impl_ValidField.wp a1 a2 a3 a4 K =
  (Go.K.melts.impl_areWithin.wp (a2 :: a3 :: List.replicate (0 : Nat) (0 : Int)) (1 : Int) (16 : Int) fun y1 =>
  Go.K.ifB y1 (K ((↑(List.length a1) : Int) == Go.IntKind.wrap Go.IntKind.i64 (a2 * a3))) (K Bool.false)) := impl_ValidField.tx impl_areWithin.wp a1 a2 a3 a4 K

theorem impl_alike.tx  (a1 : List
  Nat) (a2 : List Nat) (a3 : Int) (a4 : Int) (a5 : Bool) (a6 : Int) (a7 : Int) (a8 : Bool) (K : Bool → Prop) : impl_alike.bd  a1 a2 a3 a4 a5 a6 a7 a8 K =
  (Go.K.ifB (a3 == a6) (Go.K.ifB (a4 == a7) (K (a5 == a8)) (K Bool.false)) (K Bool.false)) := by kernel_rfl
theorem impl_alike.eq (a1 : List
  Nat) (a2 : List Nat) (a3 : Int) (a4 : Int) (a5 : Bool) (a6 : Int) (a7 : Int) (a8 : Bool) (K : Bool → Prop) : impl_alike.wp a1 a2 a3 a4 a5 a6 a7 a8 K =
  (Go.K.ifB (a3 == a6) (Go.K.ifB (a4 == a7) (K (a5 == a8)) (K Bool.false)) (K Bool.false)) := impl_alike.tx  a1 a2 a3 a4 a5 a6 a7 a8 K

theorem math_IsNaN.tx  (a1 : Nat) (K : Bool → Prop) : math_IsNaN.bd  a1 K =
  (K (Go.K.fne Go.FloatKind.f64 a1 a1)) := by kernel_rfl
theorem math_IsNaN.eq (a1 : Nat) (K : Bool → Prop) : math_IsNaN.wp a1 K =
  (K (Go.K.fne Go.FloatKind.f64 a1 a1)) := math_IsNaN.tx  a1 K

theorem math_Abs.tx  (a1 : Nat) (K : Nat → Prop) : math_Abs.bd  a1 K =
  (Go.K.isNaNW Go.FloatKind.f64 a1 = Bool.false ∧
  K (Go.K.cF Go.FloatKind.f64 (Int.toNat (Go.K.ibits Go.BinOp.andNot Go.IntKind.u64 (↑a1 : Int) (9223372036854775808 : Int))))) := by kernel_rfl
theorem math_Abs.eq (a1 : Nat) (K : Nat → Prop) : math_Abs.wp a1 K =
  (Go.K.isNaNW Go.FloatKind.f64 a1 = Bool.false ∧
  K (Go.K.cF Go.FloatKind.f64 (Int.toNat (Go.K.ibits Go.BinOp.andNot Go.IntKind.u64 (↑a1 : Int) (9223372036854775808 : Int))))) := math_Abs.tx  a1 K

theorem math_IsInf.tx (w_math_Abs : Nat → (Nat → Prop) → Prop) (a1 : Nat) (a2 : Int) (K : Bool → Prop) : math_IsInf.bd w_math_Abs a1 a2 K =
  (Go.K.ifB (a2 == (0 : Int)) (w_math_Abs a1 fun y1 => K (Go.K.fgt Go.FloatKind.f64 y1 (9218868437227405311 : Nat)))
  (Go.K.ifB (Decidable.decide (a2 < (0 : Int))) (K (Go.K.fgt Go.FloatKind.f64 (Go.K.fneg Go.FloatKind.f64 a1) (9218868437227405311 : Nat)))
    (K (Go.K.fgt Go.FloatKind.f64 a1 (9218868437227405311 : Nat))))) := by kernel_rfl
theorem math_IsInf.eq (a1 : Nat) (a2 : Int) (K : Bool → Prop) : math_IsInf.wp a1 a2 K =
  (Go.K.ifB (a2 == (0 : Int)) (Go.K.melts.math_Abs.wp a1 fun y1 => K (Go.K.fgt Go.FloatKind.f64 y1 (9218868437227405311 : Nat)))
  (Go.K.ifB (Decidable.decide (a2 < (0 : Int))) (K (Go.K.fgt Go.FloatKind.f64 (Go.K.fneg Go.FloatKind.f64 a1) (9218868437227405311 : Nat)))
    (K (Go.K.fgt Go.FloatKind.f64 a1 (9218868437227405311 : Nat))))) := math_IsInf.tx math_Abs.wp a1 a2 K

theorem impl_finite.tx (w_math_IsNaN : Nat → (Bool → Prop) → Prop) (w_math_IsInf : Nat → Int → (Bool → Prop) → Prop) (a1 : Nat) (K : Bool → Prop) : impl_finite.bd w_math_IsNaN w_math_IsInf a1 K =
  (w_math_IsNaN a1 fun y1 => Go.K.ifB (!y1) (w_math_IsInf a1 (0 : Int) fun y2 => K !y2) (K Bool.false)) := by kernel_rfl
theorem impl_finite.eq (a1 : Nat) (K : Bool → Prop) : impl_finite.wp a1 K =
  (Go.K.melts.math_IsNaN.wp a1 fun y1 => Go.K.ifB (!y1) (Go.K.melts.math_IsInf.wp a1 (0 : Int) fun y2 => K !y2) (K Bool.false)) := impl_finite.tx math_IsNaN.wp math_IsInf.wp a1 K

theorem impl_IsFinite.tx (w_impl_finite : Nat → (Bool → Prop) → Prop) (a1 : Nat) (K : Bool → Prop) : impl_IsFinite.bd w_impl_finite a1 K =
  (w_impl_finite (Go.K.fconv Go.FloatKind.f32 Go.FloatKind.f64 a1) fun y1 => K y1) := by kernel_rfl
theorem impl_IsFinite.eq (a1 : Nat) (K : Bool → Prop) : impl_IsFinite.wp a1 K =
  (Go.K.melts.impl_finite.wp (Go.K.fconv Go.FloatKind.f32 Go.FloatKind.f64 a1) fun y1 => K y1) := impl_IsFinite.tx impl_finite.wp a1 K

theorem impl_areFinite_1.tx (w_impl_IsFinite : Nat → (Bool → Prop) → Prop) (a1 : Nat) (K : Bool → Prop) : impl_areFinite_1.bd w_impl_IsFinite a1 K =
  (w_impl_IsFinite a1 fun y1 => K !y1) := by kernel_rfl
theorem impl_areFinite_1.eq (a1 : Nat) (K : Bool → Prop) : impl_areFinite_1.wp a1 K =
  (Go.K.melts.impl_IsFinite.wp a1 fun y1 => K !y1) := impl_areFinite_1.tx impl_IsFinite.wp a1 K

theorem slices_IndexFunc_float32_float32__areFinite_1.tx (w_impl_areFinite_1 : Nat → (Bool → Prop) → Prop) (a1 : List Nat) (K : Int → Prop) : slices_IndexFunc_float32_float32__areFinite_1.bd w_impl_areFinite_1 a1 K =
  (∀ (J1 : Int → Int → Prop),
  (∀ (x2 x3 : Int),
      Go.K.ifB (Decidable.decide (x3 < x2))
          (((0 : Int) ≤ x3 ∧ x3 < (↑(List.length a1) : Int)) ∧
            w_impl_areFinite_1 (List.getD a1 (Int.toNat x3) (0 : Nat)) fun y4 => Go.K.ifB y4 (K x3) (J1 x2 (Go.IntKind.wrap Go.IntKind.i64 (x3 + (1 : Int)))))
          (K (-1 : Int)) →
        J1 x2 x3) →
    J1 (↑(List.length a1) : Int) (0 : Int)) := by kernel_rfl
theorem slices_IndexFunc_float32_float32__areFinite_1.eq (a1 : List Nat) (K : Int → Prop) : slices_IndexFunc_float32_float32__areFinite_1.wp a1 K =
  (∀ (J1 : Int → Int → Prop),
  (∀ (x2 x3 : Int),
      Go.K.ifB (Decidable.decide (x3 < x2))
          (((0 : Int) ≤ x3 ∧ x3 < (↑(List.length a1) : Int)) ∧
            Go.K.melts.impl_areFinite_1.wp (List.getD a1 (Int.toNat x3) (0 : Nat)) fun y4 => Go.K.ifB y4 (K x3) (J1 x2 (Go.IntKind.wrap Go.IntKind.i64 (x3 + (1 : Int)))))
          (K (-1 : Int)) →
        J1 x2 x3) →
    J1 (↑(List.length a1) : Int) (0 : Int)) := slices_IndexFunc_float32_float32__areFinite_1.tx impl_areFinite_1.wp a1 K

theorem slices_ContainsFunc_float32_float32__areFinite_1.tx (w_slices_IndexFunc_float32_float32__areFinite_1 : List Nat → (Int → Prop) → Prop) (a1 : List Nat) (K : Bool → Prop) : slices_ContainsFunc_float32_float32__areFinite_1.bd w_slices_IndexFunc_float32_float32__areFinite_1 a1 K =
  (w_slices_IndexFunc_float32_float32__areFinite_1 a1 fun y1 => K (Decidable.decide (y1 ≥ (0 : Int)))) := by kernel_rfl
theorem slices_ContainsFunc_float32_float32__areFinite_1.eq (a1 : List Nat) (K : Bool → Prop) : slices_ContainsFunc_float32_float32__areFinite_1.wp a1 K =
  (Go.K.melts.slices_IndexFunc_float32_float32__areFinite_1.wp a1 fun y1 => K (Decidable.decide (y1 ≥ (0 : Int)))) := slices_ContainsFunc_float32_float32__areFinite_1.tx slices_IndexFunc_float32_float32__areFinite_1.wp a1 K

theorem impl_areFinite.tx (w_slices_ContainsFunc_float32_float32__areFinite_1 : List Nat → (Bool → Prop) → Prop) (a1 : List Nat) (K : Bool → Prop) : impl_areFinite.bd w_slices_ContainsFunc_float32_float32__areFinite_1 a1 K =
  (w_slices_ContainsFunc_float32_float32__areFinite_1 a1 fun y1 => K !y1) := by kernel_rfl
theorem impl_areFinite.eq (a1 : List Nat) (K : Bool → Prop) : impl_areFinite.wp a1 K =
  (Go.K.melts.slices_ContainsFunc_float32_float32__areFinite_1.wp a1 fun y1 => K !y1) := impl_areFinite.tx slices_ContainsFunc_float32_float32__areFinite_1.wp a1 K

theorem impl_finiteField.tx (w_impl_areFinite : List Nat → (Bool → Prop) → Prop) (a1 : List Nat) (a2 : Int) (a3 : Int) (a4 : Bool) (K : Bool → Prop) : impl_finiteField.bd w_impl_areFinite a1 a2 a3 a4 K =
  (w_impl_areFinite a1 fun y1 => K y1) := by kernel_rfl
theorem impl_finiteField.eq (a1 : List Nat) (a2 : Int) (a3 : Int) (a4 : Bool) (K : Bool → Prop) : impl_finiteField.wp a1 a2 a3 a4 K =
  (Go.K.melts.impl_areFinite.wp a1 fun y1 => K y1) := impl_finiteField.tx impl_areFinite.wp a1 a2 a3 a4 K

theorem impl_ValidMelt_1.tx  (a1 : Nat) (K : Bool → Prop) : impl_ValidMelt_1.bd  a1 K =
  (Go.K.ifB (Go.K.fge Go.FloatKind.f32 a1 (0 : Nat)) (K !Go.K.fle Go.FloatKind.f32 a1 (1065353216 : Nat)) (K Bool.true)) := by kernel_rfl
theorem impl_ValidMelt_1.eq (a1 : Nat) (K : Bool → Prop) : impl_ValidMelt_1.wp a1 K =
  (Go.K.ifB (Go.K.fge Go.FloatKind.f32 a1 (0 : Nat)) (K !Go.K.fle Go.FloatKind.f32 a1 (1065353216 : Nat)) (K Bool.true)) := impl_ValidMelt_1.tx  a1 K

theorem slices_IndexFunc_float32_float32__ValidMelt_1.tx (w_impl_ValidMelt_1 : Nat → (Bool → Prop) → Prop) (a1 : List Nat) (K : Int → Prop) : slices_IndexFunc_float32_float32__ValidMelt_1.bd w_impl_ValidMelt_1 a1 K =
  (∀ (J1 : Int → Int → Prop),
  (∀ (x2 x3 : Int),
      Go.K.ifB (Decidable.decide (x3 < x2))
          (((0 : Int) ≤ x3 ∧ x3 < (↑(List.length a1) : Int)) ∧
            w_impl_ValidMelt_1 (List.getD a1 (Int.toNat x3) (0 : Nat)) fun y4 => Go.K.ifB y4 (K x3) (J1 x2 (Go.IntKind.wrap Go.IntKind.i64 (x3 + (1 : Int)))))
          (K (-1 : Int)) →
        J1 x2 x3) →
    J1 (↑(List.length a1) : Int) (0 : Int)) := by kernel_rfl
theorem slices_IndexFunc_float32_float32__ValidMelt_1.eq (a1 : List Nat) (K : Int → Prop) : slices_IndexFunc_float32_float32__ValidMelt_1.wp a1 K =
  (∀ (J1 : Int → Int → Prop),
  (∀ (x2 x3 : Int),
      Go.K.ifB (Decidable.decide (x3 < x2))
          (((0 : Int) ≤ x3 ∧ x3 < (↑(List.length a1) : Int)) ∧
            Go.K.melts.impl_ValidMelt_1.wp (List.getD a1 (Int.toNat x3) (0 : Nat)) fun y4 => Go.K.ifB y4 (K x3) (J1 x2 (Go.IntKind.wrap Go.IntKind.i64 (x3 + (1 : Int)))))
          (K (-1 : Int)) →
        J1 x2 x3) →
    J1 (↑(List.length a1) : Int) (0 : Int)) := slices_IndexFunc_float32_float32__ValidMelt_1.tx impl_ValidMelt_1.wp a1 K

theorem slices_ContainsFunc_float32_float32__ValidMelt_1.tx (w_slices_IndexFunc_float32_float32__ValidMelt_1 : List Nat → (Int → Prop) → Prop) (a1 : List Nat) (K : Bool → Prop) : slices_ContainsFunc_float32_float32__ValidMelt_1.bd w_slices_IndexFunc_float32_float32__ValidMelt_1 a1 K =
  (w_slices_IndexFunc_float32_float32__ValidMelt_1 a1 fun y1 => K (Decidable.decide (y1 ≥ (0 : Int)))) := by kernel_rfl
theorem slices_ContainsFunc_float32_float32__ValidMelt_1.eq (a1 : List Nat) (K : Bool → Prop) : slices_ContainsFunc_float32_float32__ValidMelt_1.wp a1 K =
  (Go.K.melts.slices_IndexFunc_float32_float32__ValidMelt_1.wp a1 fun y1 => K (Decidable.decide (y1 ≥ (0 : Int)))) := slices_ContainsFunc_float32_float32__ValidMelt_1.tx slices_IndexFunc_float32_float32__ValidMelt_1.wp a1 K

theorem impl_aMass.tx (w_impl_IsFinite : Nat → (Bool → Prop) → Prop) (a1 : Nat) (K : Bool → Prop) : impl_aMass.bd w_impl_IsFinite a1 K =
  (w_impl_IsFinite a1 fun y1 => Go.K.ifB y1 (K (Go.K.fge Go.FloatKind.f32 a1 (0 : Nat))) (K Bool.false)) := by kernel_rfl
theorem impl_aMass.eq (a1 : Nat) (K : Bool → Prop) : impl_aMass.wp a1 K =
  (Go.K.melts.impl_IsFinite.wp a1 fun y1 => Go.K.ifB y1 (K (Go.K.fge Go.FloatKind.f32 a1 (0 : Nat))) (K Bool.false)) := impl_aMass.tx impl_IsFinite.wp a1 K

theorem impl_ValidMelt.tx (w_impl_ValidField : List Nat → Int → Int → Bool → (Bool → Prop) → Prop) (w_impl_alike : List Nat → List Nat → Int → Int → Bool → Int → Int → Bool → (Bool → Prop) → Prop) (w_impl_finiteField : List Nat → Int → Int → Bool → (Bool → Prop) → Prop) (w_slices_ContainsFunc_float32_float32__ValidMelt_1 : List Nat → (Bool → Prop) → Prop) (w_impl_aMass : Nat → (Bool → Prop) → Prop) (w_impl_within : Int → Int → Int → (Bool → Prop) → Prop) (a1 : List
  Nat) (a2 : List
  Nat) (a3 : Int) (a4 : Int) (a5 : Bool) (a6 : Int) (a7 : Int) (a8 : Bool) (a9 : Nat) (a10 : Nat) (a11 : Nat) (a12 : Nat) (a13 : Nat) (a14 : Int) (K : Bool →
  Prop) : impl_ValidMelt.bd w_impl_ValidField w_impl_alike w_impl_finiteField w_slices_ContainsFunc_float32_float32__ValidMelt_1 w_impl_aMass w_impl_within a1 a2 a3 a4 a5 a6 a7 a8 a9 a10 a11 a12 a13 a14 K =
  (w_impl_ValidField a1 a3 a4 a5 fun y1 =>
  Go.K.ifB (!y1) (K Bool.false)
    (w_impl_ValidField a2 a6 a7 a8 fun y2 =>
      Go.K.ifB (!y2) (K Bool.false)
        (w_impl_alike a1 a2 a3 a4 a5 a6 a7 a8 fun y3 =>
          Go.K.ifB (!y3) (K Bool.false)
            (w_impl_finiteField a2 a6 a7 a8 fun y4 =>
              Go.K.ifB (!y4) (K Bool.false)
                (w_slices_ContainsFunc_float32_float32__ValidMelt_1 a1 fun y5 =>
                  Go.K.ifB y5 (K Bool.false)
                    (∀ (J6 : Int → Int → Bool → Int → Int → Bool → Nat → Nat → Nat → Nat → Nat → Int → List Nat → Int → Int → Prop),
                      (∀ (x7 x8 : Int) (x9 : Bool) (x10 x11 : Int) (x12 : Bool) (x13 x14 x15 x16 x17 : Nat) (x18 : Int) (x19 : List Nat) (x20 x21 : Int),
                          Go.K.ifB (Decidable.decide (x21 < x20))
                              (((0 : Int) ≤ x21 ∧ x21 < (↑(List.length x19) : Int)) ∧
                                w_impl_aMass (List.getD x19 (Int.toNat x21) (0 : Nat)) fun y22 =>
                                  Go.K.ifB (!y22) (K Bool.false) (J6 x7 x8 x9 x10 x11 x12 x13 x14 x15 x16 x17 x18 x19 x20 (Go.IntKind.wrap Go.IntKind.i64 (x21 + (1 : Int)))))
                              (Go.K.ifB (Go.K.fge Go.FloatKind.f32 x17 (0 : Nat))
                                (Go.K.ifB (Go.K.flt Go.FloatKind.f32 x17 (1065353216 : Nat)) (w_impl_within x18 (1 : Int) (8 : Int) fun y23 => K y23) (K Bool.false))
                                (K Bool.false)) →
                            J6 x7 x8 x9 x10 x11 x12 x13 x14 x15 x16 x17 x18 x19 x20 x21) →
                        J6 a3 a4 a5 a6 a7 a8 a9 a10 a11 a12 a13 a14 (a9 :: a10 :: a11 :: a12 :: List.replicate (0 : Nat) (0 : Nat)) (4 : Int) (0 : Int))))))) := by kernel_rfl
theorem impl_ValidMelt.eq (a1 : List
  Nat) (a2 : List
  Nat) (a3 : Int) (a4 : Int) (a5 : Bool) (a6 : Int) (a7 : Int) (a8 : Bool) (a9 : Nat) (a10 : Nat) (a11 : Nat) (a12 : Nat) (a13 : Nat) (a14 : Int) (K : Bool →
  Prop) : impl_ValidMelt.wp a1 a2 a3 a4 a5 a6 a7 a8 a9 a10 a11 a12 a13 a14 K =
  (Go.K.melts.impl_ValidField.wp a1 a3 a4 a5 fun y1 =>
  Go.K.ifB (!y1) (K Bool.false)
    (Go.K.melts.impl_ValidField.wp a2 a6 a7 a8 fun y2 =>
      Go.K.ifB (!y2) (K Bool.false)
        (Go.K.melts.impl_alike.wp a1 a2 a3 a4 a5 a6 a7 a8 fun y3 =>
          Go.K.ifB (!y3) (K Bool.false)
            (Go.K.melts.impl_finiteField.wp a2 a6 a7 a8 fun y4 =>
              Go.K.ifB (!y4) (K Bool.false)
                (Go.K.melts.slices_ContainsFunc_float32_float32__ValidMelt_1.wp a1 fun y5 =>
                  Go.K.ifB y5 (K Bool.false)
                    (∀ (J6 : Int → Int → Bool → Int → Int → Bool → Nat → Nat → Nat → Nat → Nat → Int → List Nat → Int → Int → Prop),
                      (∀ (x7 x8 : Int) (x9 : Bool) (x10 x11 : Int) (x12 : Bool) (x13 x14 x15 x16 x17 : Nat) (x18 : Int) (x19 : List Nat) (x20 x21 : Int),
                          Go.K.ifB (Decidable.decide (x21 < x20))
                              (((0 : Int) ≤ x21 ∧ x21 < (↑(List.length x19) : Int)) ∧
                                Go.K.melts.impl_aMass.wp (List.getD x19 (Int.toNat x21) (0 : Nat)) fun y22 =>
                                  Go.K.ifB (!y22) (K Bool.false) (J6 x7 x8 x9 x10 x11 x12 x13 x14 x15 x16 x17 x18 x19 x20 (Go.IntKind.wrap Go.IntKind.i64 (x21 + (1 : Int)))))
                              (Go.K.ifB (Go.K.fge Go.FloatKind.f32 x17 (0 : Nat))
                                (Go.K.ifB (Go.K.flt Go.FloatKind.f32 x17 (1065353216 : Nat)) (Go.K.melts.impl_within.wp x18 (1 : Int) (8 : Int) fun y23 => K y23) (K Bool.false))
                                (K Bool.false)) →
                            J6 x7 x8 x9 x10 x11 x12 x13 x14 x15 x16 x17 x18 x19 x20 x21) →
                        J6 a3 a4 a5 a6 a7 a8 a9 a10 a11 a12 a13 a14 (a9 :: a10 :: a11 :: a12 :: List.replicate (0 : Nat) (0 : Nat)) (4 : Int) (0 : Int))))))) := impl_ValidMelt.tx impl_ValidField.wp impl_alike.wp impl_finiteField.wp slices_ContainsFunc_float32_float32__ValidMelt_1.wp impl_aMass.wp impl_within.wp a1 a2 a3 a4 a5 a6 a7 a8 a9 a10 a11 a12 a13 a14 K

theorem slices_Clone_float32_float32.tx  (a1 : List Nat) (K : List Nat → Prop) : slices_Clone_float32_float32.bd  a1 K =
  (List.length a1 ≠ (0 : Nat) ∧ List.length (List.replicate (0 : Nat) (0 : Nat) ++ a1) ≤ (1099511627776 : Nat) ∧ K (List.replicate (0 : Nat) (0 : Nat) ++ a1)) := by kernel_rfl
theorem slices_Clone_float32_float32.eq (a1 : List Nat) (K : List Nat → Prop) : slices_Clone_float32_float32.wp a1 K =
  (List.length a1 ≠ (0 : Nat) ∧ List.length (List.replicate (0 : Nat) (0 : Nat) ++ a1) ≤ (1099511627776 : Nat) ∧ K (List.replicate (0 : Nat) (0 : Nat) ++ a1)) := slices_Clone_float32_float32.tx  a1 K

theorem impl_Melt_cloned.tx (w_impl_ValidMelt : List Nat → List Nat → Int → Int → Bool → Int → Int → Bool → Nat → Nat → Nat → Nat → Nat → Int → (Bool → Prop) → Prop) (w_slices_Clone_float32_float32 : List Nat → (List Nat → Prop) → Prop) (a1 : List
  Nat) (a2 : List
  Nat) (a3 : Int) (a4 : Int) (a5 : Bool) (a6 : Int) (a7 : Int) (a8 : Bool) (a9 : Nat) (a10 : Nat) (a11 : Nat) (a12 : Nat) (a13 : Nat) (a14 : Int) (K : List Nat →
  List Nat → Int → Int → Bool → Int → Int → Bool → Nat → Nat → Nat → Nat → Nat → Int → Bool → Prop) : impl_Melt_cloned.bd w_impl_ValidMelt w_slices_Clone_float32_float32 a1 a2 a3 a4 a5 a6 a7 a8 a9 a10 a11 a12 a13 a14 K =
  (w_impl_ValidMelt a1 a2 a3 a4 a5 a6 a7 a8 a9 a10 a11 a12 a13 a14 fun y1 =>
  Go.K.ifB (!y1) (K [] [] (0 : Int) (0 : Int) Bool.false (0 : Int) (0 : Int) Bool.false (0 : Nat) (0 : Nat) (0 : Nat) (0 : Nat) (0 : Nat) (0 : Int) Bool.false)
    (w_slices_Clone_float32_float32 a1 fun y2 =>
      w_slices_Clone_float32_float32 a2 fun y3 => K y2 y3 a3 a4 a5 a6 a7 a8 a9 a10 a11 a12 a13 a14 Bool.true)) := by kernel_rfl
theorem impl_Melt_cloned.eq (a1 : List
  Nat) (a2 : List
  Nat) (a3 : Int) (a4 : Int) (a5 : Bool) (a6 : Int) (a7 : Int) (a8 : Bool) (a9 : Nat) (a10 : Nat) (a11 : Nat) (a12 : Nat) (a13 : Nat) (a14 : Int) (K : List Nat →
  List Nat → Int → Int → Bool → Int → Int → Bool → Nat → Nat → Nat → Nat → Nat → Int → Bool → Prop) : impl_Melt_cloned.wp a1 a2 a3 a4 a5 a6 a7 a8 a9 a10 a11 a12 a13 a14 K =
  (Go.K.melts.impl_ValidMelt.wp a1 a2 a3 a4 a5 a6 a7 a8 a9 a10 a11 a12 a13 a14 fun y1 =>
  Go.K.ifB (!y1) (K [] [] (0 : Int) (0 : Int) Bool.false (0 : Int) (0 : Int) Bool.false (0 : Nat) (0 : Nat) (0 : Nat) (0 : Nat) (0 : Nat) (0 : Int) Bool.false)
    (Go.K.melts.slices_Clone_float32_float32.wp a1 fun y2 =>
      Go.K.melts.slices_Clone_float32_float32.wp a2 fun y3 => K y2 y3 a3 a4 a5 a6 a7 a8 a9 a10 a11 a12 a13 a14 Bool.true)) := impl_Melt_cloned.tx impl_ValidMelt.wp slices_Clone_float32_float32.wp a1 a2 a3 a4 a5 a6 a7 a8 a9 a10 a11 a12 a13 a14 K

theorem impl_swept.tx (w_slices_Clone_float32_float32 : List Nat → (List Nat → Prop) → Prop) (a1 : List Nat) (a2 : List Nat) (a3 : Nat) (K : List Nat → Prop) : impl_swept.bd w_slices_Clone_float32_float32 a1 a2 a3 K =
  (((0 : Int) ≤ (↑(List.length a1) : Int) ∧ (↑(List.length a1) : Int) ≤ (↑(List.length a1) : Int) ∧ (↑(List.length a1) : Int) ≤ (1099511627776 : Int)) ∧
  w_slices_Clone_float32_float32 a1 fun y1 =>
    ∀ (J2 : List Nat → List Nat → Int → Int → Prop),
      (∀ (x3 x4 : List Nat) (x5 x6 : Int),
          Go.K.ifB (Decidable.decide (x6 < x5))
              (((0 : Int) ≤ x6 ∧ x6 < (↑(List.length a2) : Int)) ∧
                ∀ (J7 : List Nat → List Nat → Int → Nat → Int → Int → Prop),
                  (∀ (x8 x9 : List Nat) (x10 : Int) (x11 : Nat) (x12 x13 : Int),
                      ((0 : Int) ≤ x10 ∧ x10 < (↑(List.length x9) : Int)) ∧
                          ((0 : Int) ≤ x10 ∧ x10 < (↑(List.length x8) : Int)) ∧
                            ((0 : Int) ≤ x10 ∧ x10 < (↑(List.length x8) : Int)) ∧
                              J2 (List.set x8 (Int.toNat x10) (Go.K.farith Go.BinOp.quo Go.FloatKind.f32 (List.getD x8 (Int.toNat x10) (0 : Nat)) x11))
                                (List.set x9 (Int.toNat x10) (Go.K.farith Go.BinOp.quo Go.FloatKind.f32 a3 x11)) x12 (Go.IntKind.wrap Go.IntKind.i64 (x13 + (1 : Int))) →
                        J7 x8 x9 x10 x11 x12 x13) →
                    Go.K.ifB (Decidable.decide (x6 > (0 : Int)))
                      (((0 : Int) ≤ Go.IntKind.wrap Go.IntKind.i64 (x6 - (1 : Int)) ∧ Go.IntKind.wrap Go.IntKind.i64 (x6 - (1 : Int)) < (↑(List.length x4) : Int)) ∧
                        ((0 : Int) ≤ x6 ∧ x6 < (↑(List.length x3) : Int)) ∧
                          ((0 : Int) ≤ Go.IntKind.wrap Go.IntKind.i64 (x6 - (1 : Int)) ∧ Go.IntKind.wrap Go.IntKind.i64 (x6 - (1 : Int)) < (↑(List.length x3) : Int)) ∧
                            ((0 : Int) ≤ x6 ∧ x6 < (↑(List.length x3) : Int)) ∧
                              J7
                                (List.set x3 (Int.toNat x6)
                                  (Go.K.farith Go.BinOp.add Go.FloatKind.f32 (List.getD x3 (Int.toNat x6) (0 : Nat))
                                    (Go.K.farith Go.BinOp.mul Go.FloatKind.f32 a3 (List.getD x3 (Int.toNat (Go.IntKind.wrap Go.IntKind.i64 (x6 - (1 : Int)))) (0 : Nat)))))
                                x4 x6
                                (Go.K.farith Go.BinOp.sub Go.FloatKind.f32 (List.getD a2 (Int.toNat x6) (0 : Nat))
                                  (Go.K.farith Go.BinOp.mul Go.FloatKind.f32 a3 (List.getD x4 (Int.toNat (Go.IntKind.wrap Go.IntKind.i64 (x6 - (1 : Int)))) (0 : Nat))))
                                x5 x6)
                      (J7 x3 x4 x6 (List.getD a2 (Int.toNat x6) (0 : Nat)) x5 x6))
              (∀ (J16 : List Nat → List Nat → Int → Prop),
                (∀ (x17 x18 : List Nat) (x19 : Int),
                    Go.K.ifB (Decidable.decide (x19 ≥ (0 : Int)))
                        (((0 : Int) ≤ x19 ∧ x19 < (↑(List.length x17) : Int)) ∧
                          ((0 : Int) ≤ x19 ∧ x19 < (↑(List.length x18) : Int)) ∧
                            ((0 : Int) ≤ Go.IntKind.wrap Go.IntKind.i64 (x19 + (1 : Int)) ∧ Go.IntKind.wrap Go.IntKind.i64 (x19 + (1 : Int)) < (↑(List.length x17) : Int)) ∧
                              ((0 : Int) ≤ x19 ∧ x19 < (↑(List.length x17) : Int)) ∧
                                J16
                                  (List.set x17 (Int.toNat x19)
                                    (Go.K.farith Go.BinOp.add Go.FloatKind.f32 (List.getD x17 (Int.toNat x19) (0 : Nat))
                                      (Go.K.farith Go.BinOp.mul Go.FloatKind.f32 (List.getD x18 (Int.toNat x19) (0 : Nat))
                                        (List.getD x17 (Int.toNat (Go.IntKind.wrap Go.IntKind.i64 (x19 + (1 : Int)))) (0 : Nat)))))
                                  x18 (Go.IntKind.wrap Go.IntKind.i64 (x19 - (1 : Int))))
                        (K x17) →
                      J16 x17 x18 x19) →
                  J16 x3 x4 (Go.IntKind.wrap Go.IntKind.i64 ((↑(List.length x3) : Int) - (2 : Int)))) →
            J2 x3 x4 x5 x6) →
        J2 y1 (List.replicate (Int.toNat (↑(List.length a1) : Int)) (0 : Nat)) (↑(List.length a2) : Int) (0 : Int)) := by kernel_rfl
theorem impl_swept.eq (a1 : List Nat) (a2 : List Nat) (a3 : Nat) (K : List Nat → Prop) : impl_swept.wp a1 a2 a3 K =
  (((0 : Int) ≤ (↑(List.length a1) : Int) ∧ (↑(List.length a1) : Int) ≤ (↑(List.length a1) : Int) ∧ (↑(List.length a1) : Int) ≤ (1099511627776 : Int)) ∧
  Go.K.melts.slices_Clone_float32_float32.wp a1 fun y1 =>
    ∀ (J2 : List Nat → List Nat → Int → Int → Prop),
      (∀ (x3 x4 : List Nat) (x5 x6 : Int),
          Go.K.ifB (Decidable.decide (x6 < x5))
              (((0 : Int) ≤ x6 ∧ x6 < (↑(List.length a2) : Int)) ∧
                ∀ (J7 : List Nat → List Nat → Int → Nat → Int → Int → Prop),
                  (∀ (x8 x9 : List Nat) (x10 : Int) (x11 : Nat) (x12 x13 : Int),
                      ((0 : Int) ≤ x10 ∧ x10 < (↑(List.length x9) : Int)) ∧
                          ((0 : Int) ≤ x10 ∧ x10 < (↑(List.length x8) : Int)) ∧
                            ((0 : Int) ≤ x10 ∧ x10 < (↑(List.length x8) : Int)) ∧
                              J2 (List.set x8 (Int.toNat x10) (Go.K.farith Go.BinOp.quo Go.FloatKind.f32 (List.getD x8 (Int.toNat x10) (0 : Nat)) x11))
                                (List.set x9 (Int.toNat x10) (Go.K.farith Go.BinOp.quo Go.FloatKind.f32 a3 x11)) x12 (Go.IntKind.wrap Go.IntKind.i64 (x13 + (1 : Int))) →
                        J7 x8 x9 x10 x11 x12 x13) →
                    Go.K.ifB (Decidable.decide (x6 > (0 : Int)))
                      (((0 : Int) ≤ Go.IntKind.wrap Go.IntKind.i64 (x6 - (1 : Int)) ∧ Go.IntKind.wrap Go.IntKind.i64 (x6 - (1 : Int)) < (↑(List.length x4) : Int)) ∧
                        ((0 : Int) ≤ x6 ∧ x6 < (↑(List.length x3) : Int)) ∧
                          ((0 : Int) ≤ Go.IntKind.wrap Go.IntKind.i64 (x6 - (1 : Int)) ∧ Go.IntKind.wrap Go.IntKind.i64 (x6 - (1 : Int)) < (↑(List.length x3) : Int)) ∧
                            ((0 : Int) ≤ x6 ∧ x6 < (↑(List.length x3) : Int)) ∧
                              J7
                                (List.set x3 (Int.toNat x6)
                                  (Go.K.farith Go.BinOp.add Go.FloatKind.f32 (List.getD x3 (Int.toNat x6) (0 : Nat))
                                    (Go.K.farith Go.BinOp.mul Go.FloatKind.f32 a3 (List.getD x3 (Int.toNat (Go.IntKind.wrap Go.IntKind.i64 (x6 - (1 : Int)))) (0 : Nat)))))
                                x4 x6
                                (Go.K.farith Go.BinOp.sub Go.FloatKind.f32 (List.getD a2 (Int.toNat x6) (0 : Nat))
                                  (Go.K.farith Go.BinOp.mul Go.FloatKind.f32 a3 (List.getD x4 (Int.toNat (Go.IntKind.wrap Go.IntKind.i64 (x6 - (1 : Int)))) (0 : Nat))))
                                x5 x6)
                      (J7 x3 x4 x6 (List.getD a2 (Int.toNat x6) (0 : Nat)) x5 x6))
              (∀ (J16 : List Nat → List Nat → Int → Prop),
                (∀ (x17 x18 : List Nat) (x19 : Int),
                    Go.K.ifB (Decidable.decide (x19 ≥ (0 : Int)))
                        (((0 : Int) ≤ x19 ∧ x19 < (↑(List.length x17) : Int)) ∧
                          ((0 : Int) ≤ x19 ∧ x19 < (↑(List.length x18) : Int)) ∧
                            ((0 : Int) ≤ Go.IntKind.wrap Go.IntKind.i64 (x19 + (1 : Int)) ∧ Go.IntKind.wrap Go.IntKind.i64 (x19 + (1 : Int)) < (↑(List.length x17) : Int)) ∧
                              ((0 : Int) ≤ x19 ∧ x19 < (↑(List.length x17) : Int)) ∧
                                J16
                                  (List.set x17 (Int.toNat x19)
                                    (Go.K.farith Go.BinOp.add Go.FloatKind.f32 (List.getD x17 (Int.toNat x19) (0 : Nat))
                                      (Go.K.farith Go.BinOp.mul Go.FloatKind.f32 (List.getD x18 (Int.toNat x19) (0 : Nat))
                                        (List.getD x17 (Int.toNat (Go.IntKind.wrap Go.IntKind.i64 (x19 + (1 : Int)))) (0 : Nat)))))
                                  x18 (Go.IntKind.wrap Go.IntKind.i64 (x19 - (1 : Int))))
                        (K x17) →
                      J16 x17 x18 x19) →
                  J16 x3 x4 (Go.IntKind.wrap Go.IntKind.i64 ((↑(List.length x3) : Int) - (2 : Int)))) →
            J2 x3 x4 x5 x6) →
        J2 y1 (List.replicate (Int.toNat (↑(List.length a1) : Int)) (0 : Nat)) (↑(List.length a2) : Int) (0 : Int)) := impl_swept.tx slices_Clone_float32_float32.wp a1 a2 a3 K

theorem impl_solved.tx (w_impl_within : Int → Int → Int → (Bool → Prop) → Prop) (w_impl_aMass : Nat → (Bool → Prop) → Prop) (w_impl_swept : List Nat → List Nat → Nat → (List Nat → Prop) → Prop) (a1 : List Nat) (a2 : Nat) (a3 : Bool) (K : List Nat → Bool → Prop) : impl_solved.bd w_impl_within w_impl_aMass w_impl_swept a1 a2 a3 K =
  (w_impl_within (↑(List.length a1) : Int) (2 : Int) (64 : Int) fun y1 =>
  Go.K.ifB (!y1) (K [] Bool.false)
    (Go.K.ifB a3
      (Go.K.ifB (Decidable.decide ((↑(List.length a1) : Int) < (3 : Int))) (K [] Bool.false)
        (w_impl_aMass a2 fun y2 =>
          Go.K.ifB (!y2) (K [] Bool.false)
            (∀ (J3 : List Nat → Int → Int → Int → Prop),
              (∀ (x4 : List Nat) (x5 x6 x7 : Int),
                  Go.K.ifB (Decidable.decide (x7 < x6))
                      (List.length
                            (x4 ++
                              Go.K.farith Go.BinOp.add Go.FloatKind.f32 (Go.K.farith Go.BinOp.add Go.FloatKind.f32 (1065353216 : Nat) a2) a2 ::
                                List.replicate (0 : Nat) (0 : Nat)) ≤
                          (1099511627776 : Nat) ∧
                        J3
                          (x4 ++
                            Go.K.farith Go.BinOp.add Go.FloatKind.f32 (Go.K.farith Go.BinOp.add Go.FloatKind.f32 (1065353216 : Nat) a2) a2 :: List.replicate (0 : Nat) (0 : Nat))
                          x5 x6 (Go.IntKind.wrap Go.IntKind.i64 (x7 + (1 : Int))))
                      (Go.K.ifB (!a3)
                        (((0 : Int) ≤ (0 : Int) ∧ (0 : Int) < (↑(List.length x4) : Int)) ∧
                          ((0 : Int) ≤ Go.IntKind.wrap Go.IntKind.i64 (x5 - (1 : Int)) ∧ Go.IntKind.wrap Go.IntKind.i64 (x5 - (1 : Int)) < (↑(List.length x4) : Int)) ∧
                            w_impl_swept a1
                              (List.set (List.set x4 (Int.toNat (0 : Int)) (Go.K.farith Go.BinOp.add Go.FloatKind.f32 (1065353216 : Nat) a2))
                                (Int.toNat (Go.IntKind.wrap Go.IntKind.i64 (x5 - (1 : Int)))) (Go.K.farith Go.BinOp.add Go.FloatKind.f32 (1065353216 : Nat) a2))
                              a2 fun y8 => K y8 Bool.true)
                        (((0 : Int) ≤ (0 : Int) ∧ (0 : Int) < (↑(List.length x4) : Int)) ∧
                          ((0 : Int) ≤ Go.IntKind.wrap Go.IntKind.i64 (x5 - (1 : Int)) ∧ Go.IntKind.wrap Go.IntKind.i64 (x5 - (1 : Int)) < (↑(List.length x4) : Int)) ∧
                            ((0 : Int) ≤ (0 : Int) ∧ (0 : Int) < (↑(List.length x4) : Int)) ∧
                              ((0 : Int) ≤ Go.IntKind.wrap Go.IntKind.i64 (x5 - (1 : Int)) ∧ Go.IntKind.wrap Go.IntKind.i64 (x5 - (1 : Int)) < (↑(List.length x4) : Int)) ∧
                                w_impl_swept a1
                                  (List.set
                                    (List.set x4 (Int.toNat (0 : Int))
                                      (Go.K.farith Go.BinOp.add Go.FloatKind.f32 (List.getD x4 (Int.toNat (0 : Int)) (0 : Nat)) (1065353216 : Nat)))
                                    (Int.toNat (Go.IntKind.wrap Go.IntKind.i64 (x5 - (1 : Int))))
                                    (Go.K.farith Go.BinOp.add Go.FloatKind.f32 (List.getD x4 (Int.toNat (Go.IntKind.wrap Go.IntKind.i64 (x5 - (1 : Int)))) (0 : Nat))
                                      (Go.K.farith Go.BinOp.mul Go.FloatKind.f32 a2 a2)))
                                  a2 fun y9 =>
                                  ((0 : Int) ≤ x5 ∧ x5 ≤ x5 ∧ x5 ≤ (1099511627776 : Int)) ∧
                                    ((0 : Int) ≤ (0 : Int) ∧ (0 : Int) < (↑(List.length (List.replicate (Int.toNat x5) (0 : Nat))) : Int)) ∧
                                      ((0 : Int) ≤ Go.IntKind.wrap Go.IntKind.i64 (x5 - (1 : Int)) ∧
                                          Go.IntKind.wrap Go.IntKind.i64 (x5 - (1 : Int)) < (↑(List.length (List.replicate (Int.toNat x5) (0 : Nat))) : Int)) ∧
                                        w_impl_swept
                                          (List.set (List.set (List.replicate (Int.toNat x5) (0 : Nat)) (Int.toNat (0 : Int)) (3212836864 : Nat))
                                            (Int.toNat (Go.IntKind.wrap Go.IntKind.i64 (x5 - (1 : Int)))) (Go.K.fneg Go.FloatKind.f32 a2))
                                          (List.set
                                            (List.set x4 (Int.toNat (0 : Int))
                                              (Go.K.farith Go.BinOp.add Go.FloatKind.f32 (List.getD x4 (Int.toNat (0 : Int)) (0 : Nat)) (1065353216 : Nat)))
                                            (Int.toNat (Go.IntKind.wrap Go.IntKind.i64 (x5 - (1 : Int))))
                                            (Go.K.farith Go.BinOp.add Go.FloatKind.f32 (List.getD x4 (Int.toNat (Go.IntKind.wrap Go.IntKind.i64 (x5 - (1 : Int)))) (0 : Nat))
                                              (Go.K.farith Go.BinOp.mul Go.FloatKind.f32 a2 a2)))
                                          a2 fun y10 =>
                                          ((0 : Int) ≤ (0 : Int) ∧ (0 : Int) < (↑(List.length y9) : Int)) ∧
                                            ((0 : Int) ≤ Go.IntKind.wrap Go.IntKind.i64 (x5 - (1 : Int)) ∧
                                                Go.IntKind.wrap Go.IntKind.i64 (x5 - (1 : Int)) < (↑(List.length y9) : Int)) ∧
                                              ((0 : Int) ≤ (0 : Int) ∧ (0 : Int) < (↑(List.length y10) : Int)) ∧
                                                ((0 : Int) ≤ Go.IntKind.wrap Go.IntKind.i64 (x5 - (1 : Int)) ∧
                                                    Go.IntKind.wrap Go.IntKind.i64 (x5 - (1 : Int)) < (↑(List.length y10) : Int)) ∧
                                                  ∀ (J11 : List Nat → List Nat → Nat → Int → Int → Prop),
                                                    (∀ (x12 x13 : List Nat) (x14 : Nat) (x15 x16 : Int),
                                                        Go.K.ifB (Decidable.decide (x16 < x15))
                                                            (((0 : Int) ≤ x16 ∧ x16 < (↑(List.length x12) : Int)) ∧
                                                              ((0 : Int) ≤ x16 ∧ x16 < (↑(List.length x13) : Int)) ∧
                                                                ((0 : Int) ≤ x16 ∧ x16 < (↑(List.length x12) : Int)) ∧
                                                                  J11
                                                                    (List.set x12 (Int.toNat x16)
                                                                      (Go.K.farith Go.BinOp.sub Go.FloatKind.f32 (List.getD x12 (Int.toNat x16) (0 : Nat))
                                                                        (Go.K.farith Go.BinOp.mul Go.FloatKind.f32 x14 (List.getD x13 (Int.toNat x16) (0 : Nat)))))
                                                                    x13 x14 x15 (Go.IntKind.wrap Go.IntKind.i64 (x16 + (1 : Int))))
                                                            (K x12 Bool.true) →
                                                          J11 x12 x13 x14 x15 x16) →
                                                      J11 y9 y10
                                                        (Go.K.farith Go.BinOp.quo Go.FloatKind.f32
                                                          (Go.K.farith Go.BinOp.add Go.FloatKind.f32 (List.getD y9 (Int.toNat (0 : Int)) (0 : Nat))
                                                            (Go.K.farith Go.BinOp.mul Go.FloatKind.f32 a2
                                                              (List.getD y9 (Int.toNat (Go.IntKind.wrap Go.IntKind.i64 (x5 - (1 : Int)))) (0 : Nat))))
                                                          (Go.K.farith Go.BinOp.add Go.FloatKind.f32
                                                            (Go.K.farith Go.BinOp.add Go.FloatKind.f32 (1065353216 : Nat) (List.getD y10 (Int.toNat (0 : Int)) (0 : Nat)))
                                                            (Go.K.farith Go.BinOp.mul Go.FloatKind.f32 a2
                                                              (List.getD y10 (Int.toNat (Go.IntKind.wrap Go.IntKind.i64 (x5 - (1 : Int)))) (0 : Nat)))))
                                                        (↑(List.length y9) : Int) (0 : Int))) →
                    J3 x4 x5 x6 x7) →
                J3 (List.replicate (0 : Nat) (0 : Nat)) (↑(List.length a1) : Int) (↑(List.length a1) : Int) (0 : Int))))
      (w_impl_aMass a2 fun y21 =>
        Go.K.ifB (!y21) (K [] Bool.false)
          (∀ (J22 : List Nat → Int → Int → Int → Prop),
            (∀ (x23 : List Nat) (x24 x25 x26 : Int),
                Go.K.ifB (Decidable.decide (x26 < x25))
                    (List.length
                          (x23 ++
                            Go.K.farith Go.BinOp.add Go.FloatKind.f32 (Go.K.farith Go.BinOp.add Go.FloatKind.f32 (1065353216 : Nat) a2) a2 :: List.replicate (0 : Nat) (0 : Nat)) ≤
                        (1099511627776 : Nat) ∧
                      J22
                        (x23 ++
                          Go.K.farith Go.BinOp.add Go.FloatKind.f32 (Go.K.farith Go.BinOp.add Go.FloatKind.f32 (1065353216 : Nat) a2) a2 :: List.replicate (0 : Nat) (0 : Nat))
                        x24 x25 (Go.IntKind.wrap Go.IntKind.i64 (x26 + (1 : Int))))
                    (Go.K.ifB (!a3)
                      (((0 : Int) ≤ (0 : Int) ∧ (0 : Int) < (↑(List.length x23) : Int)) ∧
                        ((0 : Int) ≤ Go.IntKind.wrap Go.IntKind.i64 (x24 - (1 : Int)) ∧ Go.IntKind.wrap Go.IntKind.i64 (x24 - (1 : Int)) < (↑(List.length x23) : Int)) ∧
                          w_impl_swept a1
                            (List.set (List.set x23 (Int.toNat (0 : Int)) (Go.K.farith Go.BinOp.add Go.FloatKind.f32 (1065353216 : Nat) a2))
                              (Int.toNat (Go.IntKind.wrap Go.IntKind.i64 (x24 - (1 : Int)))) (Go.K.farith Go.BinOp.add Go.FloatKind.f32 (1065353216 : Nat) a2))
                            a2 fun y27 => K y27 Bool.true)
                      (((0 : Int) ≤ (0 : Int) ∧ (0 : Int) < (↑(List.length x23) : Int)) ∧
                        ((0 : Int) ≤ Go.IntKind.wrap Go.IntKind.i64 (x24 - (1 : Int)) ∧ Go.IntKind.wrap Go.IntKind.i64 (x24 - (1 : Int)) < (↑(List.length x23) : Int)) ∧
                          ((0 : Int) ≤ (0 : Int) ∧ (0 : Int) < (↑(List.length x23) : Int)) ∧
                            ((0 : Int) ≤ Go.IntKind.wrap Go.IntKind.i64 (x24 - (1 : Int)) ∧ Go.IntKind.wrap Go.IntKind.i64 (x24 - (1 : Int)) < (↑(List.length x23) : Int)) ∧
                              w_impl_swept a1
                                (List.set
                                  (List.set x23 (Int.toNat (0 : Int))
                                    (Go.K.farith Go.BinOp.add Go.FloatKind.f32 (List.getD x23 (Int.toNat (0 : Int)) (0 : Nat)) (1065353216 : Nat)))
                                  (Int.toNat (Go.IntKind.wrap Go.IntKind.i64 (x24 - (1 : Int))))
                                  (Go.K.farith Go.BinOp.add Go.FloatKind.f32 (List.getD x23 (Int.toNat (Go.IntKind.wrap Go.IntKind.i64 (x24 - (1 : Int)))) (0 : Nat))
                                    (Go.K.farith Go.BinOp.mul Go.FloatKind.f32 a2 a2)))
                                a2 fun y28 =>
                                ((0 : Int) ≤ x24 ∧ x24 ≤ x24 ∧ x24 ≤ (1099511627776 : Int)) ∧
                                  ((0 : Int) ≤ (0 : Int) ∧ (0 : Int) < (↑(List.length (List.replicate (Int.toNat x24) (0 : Nat))) : Int)) ∧
                                    ((0 : Int) ≤ Go.IntKind.wrap Go.IntKind.i64 (x24 - (1 : Int)) ∧
                                        Go.IntKind.wrap Go.IntKind.i64 (x24 - (1 : Int)) < (↑(List.length (List.replicate (Int.toNat x24) (0 : Nat))) : Int)) ∧
                                      w_impl_swept
                                        (List.set (List.set (List.replicate (Int.toNat x24) (0 : Nat)) (Int.toNat (0 : Int)) (3212836864 : Nat))
                                          (Int.toNat (Go.IntKind.wrap Go.IntKind.i64 (x24 - (1 : Int)))) (Go.K.fneg Go.FloatKind.f32 a2))
                                        (List.set
                                          (List.set x23 (Int.toNat (0 : Int))
                                            (Go.K.farith Go.BinOp.add Go.FloatKind.f32 (List.getD x23 (Int.toNat (0 : Int)) (0 : Nat)) (1065353216 : Nat)))
                                          (Int.toNat (Go.IntKind.wrap Go.IntKind.i64 (x24 - (1 : Int))))
                                          (Go.K.farith Go.BinOp.add Go.FloatKind.f32 (List.getD x23 (Int.toNat (Go.IntKind.wrap Go.IntKind.i64 (x24 - (1 : Int)))) (0 : Nat))
                                            (Go.K.farith Go.BinOp.mul Go.FloatKind.f32 a2 a2)))
                                        a2 fun y29 =>
                                        ((0 : Int) ≤ (0 : Int) ∧ (0 : Int) < (↑(List.length y28) : Int)) ∧
                                          ((0 : Int) ≤ Go.IntKind.wrap Go.IntKind.i64 (x24 - (1 : Int)) ∧
                                              Go.IntKind.wrap Go.IntKind.i64 (x24 - (1 : Int)) < (↑(List.length y28) : Int)) ∧
                                            ((0 : Int) ≤ (0 : Int) ∧ (0 : Int) < (↑(List.length y29) : Int)) ∧
                                              ((0 : Int) ≤ Go.IntKind.wrap Go.IntKind.i64 (x24 - (1 : Int)) ∧
                                                  Go.IntKind.wrap Go.IntKind.i64 (x24 - (1 : Int)) < (↑(List.length y29) : Int)) ∧
                                                ∀ (J30 : List Nat → List Nat → Nat → Int → Int → Prop),
                                                  (∀ (x31 x32 : List Nat) (x33 : Nat) (x34 x35 : Int),
                                                      Go.K.ifB (Decidable.decide (x35 < x34))
                                                          (((0 : Int) ≤ x35 ∧ x35 < (↑(List.length x31) : Int)) ∧
                                                            ((0 : Int) ≤ x35 ∧ x35 < (↑(List.length x32) : Int)) ∧
                                                              ((0 : Int) ≤ x35 ∧ x35 < (↑(List.length x31) : Int)) ∧
                                                                J30
                                                                  (List.set x31 (Int.toNat x35)
                                                                    (Go.K.farith Go.BinOp.sub Go.FloatKind.f32 (List.getD x31 (Int.toNat x35) (0 : Nat))
                                                                      (Go.K.farith Go.BinOp.mul Go.FloatKind.f32 x33 (List.getD x32 (Int.toNat x35) (0 : Nat)))))
                                                                  x32 x33 x34 (Go.IntKind.wrap Go.IntKind.i64 (x35 + (1 : Int))))
                                                          (K x31 Bool.true) →
                                                        J30 x31 x32 x33 x34 x35) →
                                                    J30 y28 y29
                                                      (Go.K.farith Go.BinOp.quo Go.FloatKind.f32
                                                        (Go.K.farith Go.BinOp.add Go.FloatKind.f32 (List.getD y28 (Int.toNat (0 : Int)) (0 : Nat))
                                                          (Go.K.farith Go.BinOp.mul Go.FloatKind.f32 a2
                                                            (List.getD y28 (Int.toNat (Go.IntKind.wrap Go.IntKind.i64 (x24 - (1 : Int)))) (0 : Nat))))
                                                        (Go.K.farith Go.BinOp.add Go.FloatKind.f32
                                                          (Go.K.farith Go.BinOp.add Go.FloatKind.f32 (1065353216 : Nat) (List.getD y29 (Int.toNat (0 : Int)) (0 : Nat)))
                                                          (Go.K.farith Go.BinOp.mul Go.FloatKind.f32 a2
                                                            (List.getD y29 (Int.toNat (Go.IntKind.wrap Go.IntKind.i64 (x24 - (1 : Int)))) (0 : Nat)))))
                                                      (↑(List.length y28) : Int) (0 : Int))) →
                  J22 x23 x24 x25 x26) →
              J22 (List.replicate (0 : Nat) (0 : Nat)) (↑(List.length a1) : Int) (↑(List.length a1) : Int) (0 : Int))))) := by kernel_rfl
theorem impl_solved.eq (a1 : List Nat) (a2 : Nat) (a3 : Bool) (K : List Nat → Bool → Prop) : impl_solved.wp a1 a2 a3 K =
  (Go.K.melts.impl_within.wp (↑(List.length a1) : Int) (2 : Int) (64 : Int) fun y1 =>
  Go.K.ifB (!y1) (K [] Bool.false)
    (Go.K.ifB a3
      (Go.K.ifB (Decidable.decide ((↑(List.length a1) : Int) < (3 : Int))) (K [] Bool.false)
        (Go.K.melts.impl_aMass.wp a2 fun y2 =>
          Go.K.ifB (!y2) (K [] Bool.false)
            (∀ (J3 : List Nat → Int → Int → Int → Prop),
              (∀ (x4 : List Nat) (x5 x6 x7 : Int),
                  Go.K.ifB (Decidable.decide (x7 < x6))
                      (List.length
                            (x4 ++
                              Go.K.farith Go.BinOp.add Go.FloatKind.f32 (Go.K.farith Go.BinOp.add Go.FloatKind.f32 (1065353216 : Nat) a2) a2 ::
                                List.replicate (0 : Nat) (0 : Nat)) ≤
                          (1099511627776 : Nat) ∧
                        J3
                          (x4 ++
                            Go.K.farith Go.BinOp.add Go.FloatKind.f32 (Go.K.farith Go.BinOp.add Go.FloatKind.f32 (1065353216 : Nat) a2) a2 :: List.replicate (0 : Nat) (0 : Nat))
                          x5 x6 (Go.IntKind.wrap Go.IntKind.i64 (x7 + (1 : Int))))
                      (Go.K.ifB (!a3)
                        (((0 : Int) ≤ (0 : Int) ∧ (0 : Int) < (↑(List.length x4) : Int)) ∧
                          ((0 : Int) ≤ Go.IntKind.wrap Go.IntKind.i64 (x5 - (1 : Int)) ∧ Go.IntKind.wrap Go.IntKind.i64 (x5 - (1 : Int)) < (↑(List.length x4) : Int)) ∧
                            Go.K.melts.impl_swept.wp a1
                              (List.set (List.set x4 (Int.toNat (0 : Int)) (Go.K.farith Go.BinOp.add Go.FloatKind.f32 (1065353216 : Nat) a2))
                                (Int.toNat (Go.IntKind.wrap Go.IntKind.i64 (x5 - (1 : Int)))) (Go.K.farith Go.BinOp.add Go.FloatKind.f32 (1065353216 : Nat) a2))
                              a2 fun y8 => K y8 Bool.true)
                        (((0 : Int) ≤ (0 : Int) ∧ (0 : Int) < (↑(List.length x4) : Int)) ∧
                          ((0 : Int) ≤ Go.IntKind.wrap Go.IntKind.i64 (x5 - (1 : Int)) ∧ Go.IntKind.wrap Go.IntKind.i64 (x5 - (1 : Int)) < (↑(List.length x4) : Int)) ∧
                            ((0 : Int) ≤ (0 : Int) ∧ (0 : Int) < (↑(List.length x4) : Int)) ∧
                              ((0 : Int) ≤ Go.IntKind.wrap Go.IntKind.i64 (x5 - (1 : Int)) ∧ Go.IntKind.wrap Go.IntKind.i64 (x5 - (1 : Int)) < (↑(List.length x4) : Int)) ∧
                                Go.K.melts.impl_swept.wp a1
                                  (List.set
                                    (List.set x4 (Int.toNat (0 : Int))
                                      (Go.K.farith Go.BinOp.add Go.FloatKind.f32 (List.getD x4 (Int.toNat (0 : Int)) (0 : Nat)) (1065353216 : Nat)))
                                    (Int.toNat (Go.IntKind.wrap Go.IntKind.i64 (x5 - (1 : Int))))
                                    (Go.K.farith Go.BinOp.add Go.FloatKind.f32 (List.getD x4 (Int.toNat (Go.IntKind.wrap Go.IntKind.i64 (x5 - (1 : Int)))) (0 : Nat))
                                      (Go.K.farith Go.BinOp.mul Go.FloatKind.f32 a2 a2)))
                                  a2 fun y9 =>
                                  ((0 : Int) ≤ x5 ∧ x5 ≤ x5 ∧ x5 ≤ (1099511627776 : Int)) ∧
                                    ((0 : Int) ≤ (0 : Int) ∧ (0 : Int) < (↑(List.length (List.replicate (Int.toNat x5) (0 : Nat))) : Int)) ∧
                                      ((0 : Int) ≤ Go.IntKind.wrap Go.IntKind.i64 (x5 - (1 : Int)) ∧
                                          Go.IntKind.wrap Go.IntKind.i64 (x5 - (1 : Int)) < (↑(List.length (List.replicate (Int.toNat x5) (0 : Nat))) : Int)) ∧
                                        Go.K.melts.impl_swept.wp
                                          (List.set (List.set (List.replicate (Int.toNat x5) (0 : Nat)) (Int.toNat (0 : Int)) (3212836864 : Nat))
                                            (Int.toNat (Go.IntKind.wrap Go.IntKind.i64 (x5 - (1 : Int)))) (Go.K.fneg Go.FloatKind.f32 a2))
                                          (List.set
                                            (List.set x4 (Int.toNat (0 : Int))
                                              (Go.K.farith Go.BinOp.add Go.FloatKind.f32 (List.getD x4 (Int.toNat (0 : Int)) (0 : Nat)) (1065353216 : Nat)))
                                            (Int.toNat (Go.IntKind.wrap Go.IntKind.i64 (x5 - (1 : Int))))
                                            (Go.K.farith Go.BinOp.add Go.FloatKind.f32 (List.getD x4 (Int.toNat (Go.IntKind.wrap Go.IntKind.i64 (x5 - (1 : Int)))) (0 : Nat))
                                              (Go.K.farith Go.BinOp.mul Go.FloatKind.f32 a2 a2)))
                                          a2 fun y10 =>
                                          ((0 : Int) ≤ (0 : Int) ∧ (0 : Int) < (↑(List.length y9) : Int)) ∧
                                            ((0 : Int) ≤ Go.IntKind.wrap Go.IntKind.i64 (x5 - (1 : Int)) ∧
                                                Go.IntKind.wrap Go.IntKind.i64 (x5 - (1 : Int)) < (↑(List.length y9) : Int)) ∧
                                              ((0 : Int) ≤ (0 : Int) ∧ (0 : Int) < (↑(List.length y10) : Int)) ∧
                                                ((0 : Int) ≤ Go.IntKind.wrap Go.IntKind.i64 (x5 - (1 : Int)) ∧
                                                    Go.IntKind.wrap Go.IntKind.i64 (x5 - (1 : Int)) < (↑(List.length y10) : Int)) ∧
                                                  ∀ (J11 : List Nat → List Nat → Nat → Int → Int → Prop),
                                                    (∀ (x12 x13 : List Nat) (x14 : Nat) (x15 x16 : Int),
                                                        Go.K.ifB (Decidable.decide (x16 < x15))
                                                            (((0 : Int) ≤ x16 ∧ x16 < (↑(List.length x12) : Int)) ∧
                                                              ((0 : Int) ≤ x16 ∧ x16 < (↑(List.length x13) : Int)) ∧
                                                                ((0 : Int) ≤ x16 ∧ x16 < (↑(List.length x12) : Int)) ∧
                                                                  J11
                                                                    (List.set x12 (Int.toNat x16)
                                                                      (Go.K.farith Go.BinOp.sub Go.FloatKind.f32 (List.getD x12 (Int.toNat x16) (0 : Nat))
                                                                        (Go.K.farith Go.BinOp.mul Go.FloatKind.f32 x14 (List.getD x13 (Int.toNat x16) (0 : Nat)))))
                                                                    x13 x14 x15 (Go.IntKind.wrap Go.IntKind.i64 (x16 + (1 : Int))))
                                                            (K x12 Bool.true) →
                                                          J11 x12 x13 x14 x15 x16) →
                                                      J11 y9 y10
                                                        (Go.K.farith Go.BinOp.quo Go.FloatKind.f32
                                                          (Go.K.farith Go.BinOp.add Go.FloatKind.f32 (List.getD y9 (Int.toNat (0 : Int)) (0 : Nat))
                                                            (Go.K.farith Go.BinOp.mul Go.FloatKind.f32 a2
                                                              (List.getD y9 (Int.toNat (Go.IntKind.wrap Go.IntKind.i64 (x5 - (1 : Int)))) (0 : Nat))))
                                                          (Go.K.farith Go.BinOp.add Go.FloatKind.f32
                                                            (Go.K.farith Go.BinOp.add Go.FloatKind.f32 (1065353216 : Nat) (List.getD y10 (Int.toNat (0 : Int)) (0 : Nat)))
                                                            (Go.K.farith Go.BinOp.mul Go.FloatKind.f32 a2
                                                              (List.getD y10 (Int.toNat (Go.IntKind.wrap Go.IntKind.i64 (x5 - (1 : Int)))) (0 : Nat)))))
                                                        (↑(List.length y9) : Int) (0 : Int))) →
                    J3 x4 x5 x6 x7) →
                J3 (List.replicate (0 : Nat) (0 : Nat)) (↑(List.length a1) : Int) (↑(List.length a1) : Int) (0 : Int))))
      (Go.K.melts.impl_aMass.wp a2 fun y21 =>
        Go.K.ifB (!y21) (K [] Bool.false)
          (∀ (J22 : List Nat → Int → Int → Int → Prop),
            (∀ (x23 : List Nat) (x24 x25 x26 : Int),
                Go.K.ifB (Decidable.decide (x26 < x25))
                    (List.length
                          (x23 ++
                            Go.K.farith Go.BinOp.add Go.FloatKind.f32 (Go.K.farith Go.BinOp.add Go.FloatKind.f32 (1065353216 : Nat) a2) a2 :: List.replicate (0 : Nat) (0 : Nat)) ≤
                        (1099511627776 : Nat) ∧
                      J22
                        (x23 ++
                          Go.K.farith Go.BinOp.add Go.FloatKind.f32 (Go.K.farith Go.BinOp.add Go.FloatKind.f32 (1065353216 : Nat) a2) a2 :: List.replicate (0 : Nat) (0 : Nat))
                        x24 x25 (Go.IntKind.wrap Go.IntKind.i64 (x26 + (1 : Int))))
                    (Go.K.ifB (!a3)
                      (((0 : Int) ≤ (0 : Int) ∧ (0 : Int) < (↑(List.length x23) : Int)) ∧
                        ((0 : Int) ≤ Go.IntKind.wrap Go.IntKind.i64 (x24 - (1 : Int)) ∧ Go.IntKind.wrap Go.IntKind.i64 (x24 - (1 : Int)) < (↑(List.length x23) : Int)) ∧
                          Go.K.melts.impl_swept.wp a1
                            (List.set (List.set x23 (Int.toNat (0 : Int)) (Go.K.farith Go.BinOp.add Go.FloatKind.f32 (1065353216 : Nat) a2))
                              (Int.toNat (Go.IntKind.wrap Go.IntKind.i64 (x24 - (1 : Int)))) (Go.K.farith Go.BinOp.add Go.FloatKind.f32 (1065353216 : Nat) a2))
                            a2 fun y27 => K y27 Bool.true)
                      (((0 : Int) ≤ (0 : Int) ∧ (0 : Int) < (↑(List.length x23) : Int)) ∧
                        ((0 : Int) ≤ Go.IntKind.wrap Go.IntKind.i64 (x24 - (1 : Int)) ∧ Go.IntKind.wrap Go.IntKind.i64 (x24 - (1 : Int)) < (↑(List.length x23) : Int)) ∧
                          ((0 : Int) ≤ (0 : Int) ∧ (0 : Int) < (↑(List.length x23) : Int)) ∧
                            ((0 : Int) ≤ Go.IntKind.wrap Go.IntKind.i64 (x24 - (1 : Int)) ∧ Go.IntKind.wrap Go.IntKind.i64 (x24 - (1 : Int)) < (↑(List.length x23) : Int)) ∧
                              Go.K.melts.impl_swept.wp a1
                                (List.set
                                  (List.set x23 (Int.toNat (0 : Int))
                                    (Go.K.farith Go.BinOp.add Go.FloatKind.f32 (List.getD x23 (Int.toNat (0 : Int)) (0 : Nat)) (1065353216 : Nat)))
                                  (Int.toNat (Go.IntKind.wrap Go.IntKind.i64 (x24 - (1 : Int))))
                                  (Go.K.farith Go.BinOp.add Go.FloatKind.f32 (List.getD x23 (Int.toNat (Go.IntKind.wrap Go.IntKind.i64 (x24 - (1 : Int)))) (0 : Nat))
                                    (Go.K.farith Go.BinOp.mul Go.FloatKind.f32 a2 a2)))
                                a2 fun y28 =>
                                ((0 : Int) ≤ x24 ∧ x24 ≤ x24 ∧ x24 ≤ (1099511627776 : Int)) ∧
                                  ((0 : Int) ≤ (0 : Int) ∧ (0 : Int) < (↑(List.length (List.replicate (Int.toNat x24) (0 : Nat))) : Int)) ∧
                                    ((0 : Int) ≤ Go.IntKind.wrap Go.IntKind.i64 (x24 - (1 : Int)) ∧
                                        Go.IntKind.wrap Go.IntKind.i64 (x24 - (1 : Int)) < (↑(List.length (List.replicate (Int.toNat x24) (0 : Nat))) : Int)) ∧
                                      Go.K.melts.impl_swept.wp
                                        (List.set (List.set (List.replicate (Int.toNat x24) (0 : Nat)) (Int.toNat (0 : Int)) (3212836864 : Nat))
                                          (Int.toNat (Go.IntKind.wrap Go.IntKind.i64 (x24 - (1 : Int)))) (Go.K.fneg Go.FloatKind.f32 a2))
                                        (List.set
                                          (List.set x23 (Int.toNat (0 : Int))
                                            (Go.K.farith Go.BinOp.add Go.FloatKind.f32 (List.getD x23 (Int.toNat (0 : Int)) (0 : Nat)) (1065353216 : Nat)))
                                          (Int.toNat (Go.IntKind.wrap Go.IntKind.i64 (x24 - (1 : Int))))
                                          (Go.K.farith Go.BinOp.add Go.FloatKind.f32 (List.getD x23 (Int.toNat (Go.IntKind.wrap Go.IntKind.i64 (x24 - (1 : Int)))) (0 : Nat))
                                            (Go.K.farith Go.BinOp.mul Go.FloatKind.f32 a2 a2)))
                                        a2 fun y29 =>
                                        ((0 : Int) ≤ (0 : Int) ∧ (0 : Int) < (↑(List.length y28) : Int)) ∧
                                          ((0 : Int) ≤ Go.IntKind.wrap Go.IntKind.i64 (x24 - (1 : Int)) ∧
                                              Go.IntKind.wrap Go.IntKind.i64 (x24 - (1 : Int)) < (↑(List.length y28) : Int)) ∧
                                            ((0 : Int) ≤ (0 : Int) ∧ (0 : Int) < (↑(List.length y29) : Int)) ∧
                                              ((0 : Int) ≤ Go.IntKind.wrap Go.IntKind.i64 (x24 - (1 : Int)) ∧
                                                  Go.IntKind.wrap Go.IntKind.i64 (x24 - (1 : Int)) < (↑(List.length y29) : Int)) ∧
                                                ∀ (J30 : List Nat → List Nat → Nat → Int → Int → Prop),
                                                  (∀ (x31 x32 : List Nat) (x33 : Nat) (x34 x35 : Int),
                                                      Go.K.ifB (Decidable.decide (x35 < x34))
                                                          (((0 : Int) ≤ x35 ∧ x35 < (↑(List.length x31) : Int)) ∧
                                                            ((0 : Int) ≤ x35 ∧ x35 < (↑(List.length x32) : Int)) ∧
                                                              ((0 : Int) ≤ x35 ∧ x35 < (↑(List.length x31) : Int)) ∧
                                                                J30
                                                                  (List.set x31 (Int.toNat x35)
                                                                    (Go.K.farith Go.BinOp.sub Go.FloatKind.f32 (List.getD x31 (Int.toNat x35) (0 : Nat))
                                                                      (Go.K.farith Go.BinOp.mul Go.FloatKind.f32 x33 (List.getD x32 (Int.toNat x35) (0 : Nat)))))
                                                                  x32 x33 x34 (Go.IntKind.wrap Go.IntKind.i64 (x35 + (1 : Int))))
                                                          (K x31 Bool.true) →
                                                        J30 x31 x32 x33 x34 x35) →
                                                    J30 y28 y29
                                                      (Go.K.farith Go.BinOp.quo Go.FloatKind.f32
                                                        (Go.K.farith Go.BinOp.add Go.FloatKind.f32 (List.getD y28 (Int.toNat (0 : Int)) (0 : Nat))
                                                          (Go.K.farith Go.BinOp.mul Go.FloatKind.f32 a2
                                                            (List.getD y28 (Int.toNat (Go.IntKind.wrap Go.IntKind.i64 (x24 - (1 : Int)))) (0 : Nat))))
                                                        (Go.K.farith Go.BinOp.add Go.FloatKind.f32
                                                          (Go.K.farith Go.BinOp.add Go.FloatKind.f32 (1065353216 : Nat) (List.getD y29 (Int.toNat (0 : Int)) (0 : Nat)))
                                                          (Go.K.farith Go.BinOp.mul Go.FloatKind.f32 a2
                                                            (List.getD y29 (Int.toNat (Go.IntKind.wrap Go.IntKind.i64 (x24 - (1 : Int)))) (0 : Nat)))))
                                                      (↑(List.length y28) : Int) (0 : Int))) →
                  J22 x23 x24 x25 x26) →
              J22 (List.replicate (0 : Nat) (0 : Nat)) (↑(List.length a1) : Int) (↑(List.length a1) : Int) (0 : Int))))) := impl_solved.tx impl_within.wp impl_aMass.wp impl_swept.wp a1 a2 a3 K

theorem impl_SolveRow.tx (w_impl_solved : List Nat → Nat → Bool → (List Nat → Bool → Prop) → Prop) (w_impl_areFinite : List Nat → (Bool → Prop) → Prop) (a1 : List Nat) (a2 : Nat) (a3 : Bool) (K : List Nat → Bool → Prop) : impl_SolveRow.bd w_impl_solved w_impl_areFinite a1 a2 a3 K =
  (w_impl_solved a1 a2 a3 fun y1 y2 =>
  Go.K.ifB (!y2) (K [] Bool.false)
    (w_impl_areFinite a1 fun y3 =>
      Go.K.ifB (!y3) (K [] Bool.false) (w_impl_areFinite y1 fun y4 => Go.K.ifB (!y4) (K [] Bool.false) (K y1 Bool.true)))) := by kernel_rfl
theorem impl_SolveRow.eq (a1 : List Nat) (a2 : Nat) (a3 : Bool) (K : List Nat → Bool → Prop) : impl_SolveRow.wp a1 a2 a3 K =
  (Go.K.melts.impl_solved.wp a1 a2 a3 fun y1 y2 =>
  Go.K.ifB (!y2) (K [] Bool.false)
    (Go.K.melts.impl_areFinite.wp a1 fun y3 =>
      Go.K.ifB (!y3) (K [] Bool.false) (Go.K.melts.impl_areFinite.wp y1 fun y4 => Go.K.ifB (!y4) (K [] Bool.false) (K y1 Bool.true)))) := impl_SolveRow.tx impl_solved.wp impl_areFinite.wp a1 a2 a3 K

theorem impl_Field_at.tx  (a1 : List Nat) (a2 : Int) (a3 : Int) (a4 : Bool) (a5 : Int) (a6 : Int) (K : Nat → Prop) : impl_Field_at.bd  a1 a2 a3 a4 a5 a6 K =
  (((0 : Int) ≤ Go.IntKind.wrap Go.IntKind.i64 (a5 + Go.IntKind.wrap Go.IntKind.i64 (a2 * a6)) ∧
    Go.IntKind.wrap Go.IntKind.i64 (a5 + Go.IntKind.wrap Go.IntKind.i64 (a2 * a6)) < (↑(List.length a1) : Int)) ∧
  K (List.getD a1 (Int.toNat (Go.IntKind.wrap Go.IntKind.i64 (a5 + Go.IntKind.wrap Go.IntKind.i64 (a2 * a6)))) (0 : Nat))) := by kernel_rfl
theorem impl_Field_at.eq (a1 : List Nat) (a2 : Int) (a3 : Int) (a4 : Bool) (a5 : Int) (a6 : Int) (K : Nat → Prop) : impl_Field_at.wp a1 a2 a3 a4 a5 a6 K =
  (((0 : Int) ≤ Go.IntKind.wrap Go.IntKind.i64 (a5 + Go.IntKind.wrap Go.IntKind.i64 (a2 * a6)) ∧
    Go.IntKind.wrap Go.IntKind.i64 (a5 + Go.IntKind.wrap Go.IntKind.i64 (a2 * a6)) < (↑(List.length a1) : Int)) ∧
  K (List.getD a1 (Int.toNat (Go.IntKind.wrap Go.IntKind.i64 (a5 + Go.IntKind.wrap Go.IntKind.i64 (a2 * a6)))) (0 : Nat))) := impl_Field_at.tx  a1 a2 a3 a4 a5 a6 K

theorem impl_SpreadHeat.tx (w_impl_Melt_cloned : List Nat → List Nat → Int → Int → Bool → Int → Int → Bool → Nat → Nat → Nat → Nat → Nat → Int → (List Nat → List Nat → Int → Int → Bool → Int → Int → Bool → Nat → Nat → Nat → Nat → Nat → Int → Bool → Prop) → Prop) (w_impl_aMass : Nat → (Bool → Prop) → Prop) (w_impl_SolveRow : List Nat → Nat → Bool → (List Nat → Bool → Prop) → Prop) (w_impl_Field_at : List Nat → Int → Int → Bool → Int → Int → (Nat → Prop) → Prop) (a1 : List
  Nat) (a2 : List
  Nat) (a3 : Int) (a4 : Int) (a5 : Bool) (a6 : Int) (a7 : Int) (a8 : Bool) (a9 : Nat) (a10 : Nat) (a11 : Nat) (a12 : Nat) (a13 : Nat) (a14 : Int) (a15 : Nat) (K : List Nat →
  List Nat → Int → Int → Bool → Int → Int → Bool → Nat → Nat → Nat → Nat → Nat → Int → Bool → Prop) : impl_SpreadHeat.bd w_impl_Melt_cloned w_impl_aMass w_impl_SolveRow w_impl_Field_at a1 a2 a3 a4 a5 a6 a7 a8 a9 a10 a11 a12 a13 a14 a15 K =
  (w_impl_Melt_cloned a1 a2 a3 a4 a5 a6 a7 a8 a9 a10 a11 a12 a13 a14 fun y1 y2 y3 y4 y5 y6 y7 y8 y9 y10 y11 y12 y13 y14 y15 =>
  Go.K.ifB (!y15) (K [] [] (0 : Int) (0 : Int) Bool.false (0 : Int) (0 : Int) Bool.false (0 : Nat) (0 : Nat) (0 : Nat) (0 : Nat) (0 : Nat) (0 : Int) Bool.false)
    (w_impl_aMass a15 fun y16 =>
      Go.K.ifB (!y16) (K [] [] (0 : Int) (0 : Int) Bool.false (0 : Int) (0 : Int) Bool.false (0 : Nat) (0 : Nat) (0 : Nat) (0 : Nat) (0 : Nat) (0 : Int) Bool.false)
        (∀
          (J17 :
            Int →
              Int →
                Bool →
                  Int →
                    Int →
                      Bool →
                        Nat →
                          Nat →
                            Nat →
                              Nat →
                                Nat →
                                  Int →
                                    Int →
                                      Int →
                                        Bool →
                                          Int →
                                            Int → Bool → Nat → Nat → Nat → Nat → Nat → Int → Int → Int → Bool → List Nat → List Nat → List Nat → List Nat → Nat → Int → Int → Prop),
          (∀ (x18 x19 : Int) (x20 : Bool) (x21 x22 : Int) (x23 : Bool) (x24 x25 x26 x27 x28 : Nat) (x29 x30 x31 : Int) (x32 : Bool) (x33 x34 : Int) (x35 : Bool)
              (x36 x37 x38 x39 x40 : Nat) (x41 x42 x43 : Int) (x44 : Bool) (x45 x46 x47 x48 : List Nat) (x49 : Nat) (x50 x51 : Int),
              Go.K.ifB (Decidable.decide (x51 < x50))
                  (((0 : Int) ≤ Go.IntKind.wrap Go.IntKind.i64 (x51 * x42) ∧
                      Go.IntKind.wrap Go.IntKind.i64 (x51 * x42) ≤ Go.IntKind.wrap Go.IntKind.i64 (Go.IntKind.wrap Go.IntKind.i64 (x51 + (1 : Int)) * x42) ∧
                        Go.IntKind.wrap Go.IntKind.i64 (Go.IntKind.wrap Go.IntKind.i64 (x51 + (1 : Int)) * x42) ≤ (↑(List.length x48) : Int)) ∧
                    w_impl_SolveRow
                      (List.take
                        (Int.toNat (Go.IntKind.wrap Go.IntKind.i64 (Go.IntKind.wrap Go.IntKind.i64 (x51 + (1 : Int)) * x42)) -
                          Int.toNat (Go.IntKind.wrap Go.IntKind.i64 (x51 * x42)))
                        (List.drop (Int.toNat (Go.IntKind.wrap Go.IntKind.i64 (x51 * x42))) x48))
                      x49 x44 fun y52 y53 =>
                      Go.K.ifB (!y53) (K [] [] (0 : Int) (0 : Int) Bool.false (0 : Int) (0 : Int) Bool.false (0 : Nat) (0 : Nat) (0 : Nat) (0 : Nat) (0 : Nat) (0 : Int) Bool.false)
                        (((0 : Int) ≤ Go.IntKind.wrap Go.IntKind.i64 (x51 * x42) ∧ Go.IntKind.wrap Go.IntKind.i64 (x51 * x42) ≤ (↑(List.length x48) : Int)) ∧
                          ((0 : Nat) < List.length y52 ∧ List.length y52 ≤ List.length x48 - Int.toNat (Go.IntKind.wrap Go.IntKind.i64 (x51 * x42))) ∧
                            J17 x18 x19 x20 x21 x22 x23 x24 x25 x26 x27 x28 x29 x30 x31 x32 x33 x34 x35 x36 x37 x38 x39 x40 x41 x42 x43 x44 x45 x46 x47
                              (List.take (Int.toNat (Go.IntKind.wrap Go.IntKind.i64 (x51 * x42))) x48 ++ y52 ++
                                List.drop (Int.toNat (Go.IntKind.wrap Go.IntKind.i64 (x51 * x42)) + List.length y52) x48)
                              x49 x50 (Go.IntKind.wrap Go.IntKind.i64 (x51 + (1 : Int)))))
                  (∀
                    (J54 :
                      Int →
                        Int →
                          Bool →
                            Int →
                              Int →
                                Bool →
                                  Nat →
                                    Nat →
                                      Nat →
                                        Nat →
                                          Nat →
                                            Int →
                                              Int →
                                                Int →
                                                  Bool →
                                                    Int →
                                                      Int →
                                                        Bool →
                                                          Nat →
                                                            Nat → Nat → Nat → Nat → Int → Int → Int → Bool → List Nat → List Nat → List Nat → List Nat → Nat → Int → Int → Prop),
                    (∀ (x55 x56 : Int) (x57 : Bool) (x58 x59 : Int) (x60 : Bool) (x61 x62 x63 x64 x65 : Nat) (x66 x67 x68 : Int) (x69 : Bool) (x70 x71 : Int) (x72 : Bool)
                        (x73 x74 x75 x76 x77 : Nat) (x78 x79 x80 : Int) (x81 : Bool) (x82 x83 x84 x85 : List Nat) (x86 : Nat) (x87 x88 : Int),
                        Go.K.ifB (Decidable.decide (x88 < x87))
                            (∀
                              (J89 :
                                Int →
                                  Int →
                                    Bool →
                                      Int →
                                        Int →
                                          Bool →
                                            Nat →
                                              Nat →
                                                Nat →
                                                  Nat →
                                                    Nat →
                                                      Int →
                                                        Int →
                                                          Int →
                                                            Bool →
                                                              Int →
                                                                Int →
                                                                  Bool →
                                                                    Nat →
                                                                      Nat →
                                                                        Nat →
                                                                          Nat →
                                                                            Nat →
                                                                              Int →
                                                                                Int →
                                                                                  Int →
                                                                                    Bool →
                                                                                      List Nat →
                                                                                        List Nat → List Nat → List Nat → List Nat → Nat → Int → Int → Int → Int → Int → Prop),
                              (∀ (x90 x91 : Int) (x92 : Bool) (x93 x94 : Int) (x95 : Bool) (x96 x97 x98 x99 x100 : Nat) (x101 x102 x103 : Int) (x104 : Bool) (x105 x106 : Int)
                                  (x107 : Bool) (x108 x109 x110 x111 x112 : Nat) (x113 x114 x115 : Int) (x116 : Bool) (x117 x118 x119 x120 x121 : List Nat) (x122 : Nat)
                                  (x123 x124 x125 x126 x127 : Int),
                                  Go.K.ifB (Decidable.decide (x127 < x126))
                                      (w_impl_Field_at x121 x114 x115 x116 x123 x127 fun y128 =>
                                        List.length (x117 ++ y128 :: List.replicate (0 : Nat) (0 : Nat)) ≤ (1099511627776 : Nat) ∧
                                          J89 x90 x91 x92 x93 x94 x95 x96 x97 x98 x99 x100 x101 x102 x103 x104 x105 x106 x107 x108 x109 x110 x111 x112 x113 x114 x115 x116
                                            (x117 ++ y128 :: List.replicate (0 : Nat) (0 : Nat)) x118 x119 x120 x121 x122 x123 x124 x125 x126
                                            (Go.IntKind.wrap Go.IntKind.i64 (x127 + (1 : Int))))
                                      (w_impl_SolveRow x117 x122 x116 fun y129 y130 =>
                                        Go.K.ifB (!y130)
                                          (K [] [] (0 : Int) (0 : Int) Bool.false (0 : Int) (0 : Int) Bool.false (0 : Nat) (0 : Nat) (0 : Nat) (0 : Nat) (0 : Nat) (0 : Int)
                                            Bool.false)
                                          (∀
                                            (J131 :
                                              Int →
                                                Int →
                                                  Bool →
                                                    Int →
                                                      Int →
                                                        Bool →
                                                          Nat →
                                                            Nat →
                                                              Nat →
                                                                Nat →
                                                                  Nat →
                                                                    Int →
                                                                      Int →
                                                                        Int →
                                                                          Bool →
                                                                            Int →
                                                                              Int →
                                                                                Bool →
                                                                                  Nat →
                                                                                    Nat →
                                                                                      Nat →
                                                                                        Nat →
                                                                                          Nat →
                                                                                            Int →
                                                                                              Int →
                                                                                                Int →
                                                                                                  Bool →
                                                                                                    List Nat →
                                                                                                      List Nat →
                                                                                                        List Nat → List Nat → List Nat → Nat → Int → Int → Int → Int → Int → Prop),
                                            (∀ (x132 x133 : Int) (x134 : Bool) (x135 x136 : Int) (x137 : Bool) (x138 x139 x140 x141 x142 : Nat) (x143 x144 x145 : Int) (x146 : Bool)
                                                (x147 x148 : Int) (x149 : Bool) (x150 x151 x152 x153 x154 : Nat) (x155 x156 x157 : Int) (x158 : Bool)
                                                (x159 x160 x161 x162 x163 : List Nat) (x164 : Nat) (x165 x166 x167 x168 x169 : Int),
                                                Go.K.ifB (Decidable.decide (x169 < x168))
                                                    (((0 : Int) ≤ x169 ∧ x169 < (↑(List.length x159) : Int)) ∧
                                                      ((0 : Int) ≤ Go.IntKind.wrap Go.IntKind.i64 (x165 + Go.IntKind.wrap Go.IntKind.i64 (x156 * x169)) ∧
                                                          Go.IntKind.wrap Go.IntKind.i64 (x165 + Go.IntKind.wrap Go.IntKind.i64 (x156 * x169)) < (↑(List.length x163) : Int)) ∧
                                                        J131 x132 x133 x134 x135 x136 x137 x138 x139 x140 x141 x142 x143 x144 x145 x146 x147 x148 x149 x150 x151 x152 x153 x154 x155
                                                          x156 x157 x158 x159 x160 x161 x162
                                                          (List.set x163 (Int.toNat (Go.IntKind.wrap Go.IntKind.i64 (x165 + Go.IntKind.wrap Go.IntKind.i64 (x156 * x169))))
                                                            (List.getD x159 (Int.toNat x169) (0 : Nat)))
                                                          x164 x165 x166 x167 x168 (Go.IntKind.wrap Go.IntKind.i64 (x169 + (1 : Int))))
                                                    (J54 x132 x133 x134 x135 x136 x137 x138 x139 x140 x141 x142 x143 x144 x145 x146 x147 x148 x149 x150 x151 x152 x153 x154 x155
                                                      x156 x157 x158 x160 x161 x162 x163 x164 x166 (Go.IntKind.wrap Go.IntKind.i64 (x167 + (1 : Int)))) →
                                                  J131 x132 x133 x134 x135 x136 x137 x138 x139 x140 x141 x142 x143 x144 x145 x146 x147 x148 x149 x150 x151 x152 x153 x154 x155 x156
                                                    x157 x158 x159 x160 x161 x162 x163 x164 x165 x166 x167 x168 x169) →
                                              J131 x90 x91 x92 x93 x94 x95 x96 x97 x98 x99 x100 x101 x102 x103 x104 x105 x106 x107 x108 x109 x110 x111 x112 x113 x114 x115 x116 y129
                                                x118 x119 x120 x121 x122 x123 x124 x125 (↑(List.length y129) : Int) (0 : Int))) →
                                    J89 x90 x91 x92 x93 x94 x95 x96 x97 x98 x99 x100 x101 x102 x103 x104 x105 x106 x107 x108 x109 x110 x111 x112 x113 x114 x115 x116 x117 x118 x119
                                      x120 x121 x122 x123 x124 x125 x126 x127) →
                                J89 x55 x56 x57 x58 x59 x60 x61 x62 x63 x64 x65 x66 x67 x68 x69 x70 x71 x72 x73 x74 x75 x76 x77 x78 x79 x80 x81 (List.replicate (0 : Nat) (0 : Nat))
                                  x82 x83 x84 x85 x86 x88 x87 x88 x80 (0 : Int))
                            (w_impl_Melt_cloned x84 x85 x67 x68 x69 x70 x71 x72 x73 x74 x75 x76 x77 x78
                              fun y174 y175 y176 y177 y178 y179 y180 y181 y182 y183 y184 y185 y186 y187 y188 =>
                              K y174 y175 y176 y177 y178 y179 y180 y181 y182 y183 y184 y185 y186 y187 y188) →
                          J54 x55 x56 x57 x58 x59 x60 x61 x62 x63 x64 x65 x66 x67 x68 x69 x70 x71 x72 x73 x74 x75 x76 x77 x78 x79 x80 x81 x82 x83 x84 x85 x86 x87 x88) →
                      J54 x18 x19 x20 x21 x22 x23 x24 x25 x26 x27 x28 x29 x30 x31 x32 x33 x34 x35 x36 x37 x38 x39 x40 x41 x42 x43 x44 x45 x46 x47 x48 x49 x42 (0 : Int)) →
                J17 x18 x19 x20 x21 x22 x23 x24 x25 x26 x27 x28 x29 x30 x31 x32 x33 x34 x35 x36 x37 x38 x39 x40 x41 x42 x43 x44 x45 x46 x47 x48 x49 x50 x51) →
            J17 (0 : Int) (0 : Int) Bool.false (0 : Int) (0 : Int) Bool.false (0 : Nat) (0 : Nat) (0 : Nat) (0 : Nat) (0 : Nat) (0 : Int) y3 y4 y5 y6 y7 y8 y9 y10 y11 y12 y13 y14
              y6 y7 y8 [] [] y1 y2 (Go.K.farith Go.BinOp.mul Go.FloatKind.f32 a15 a10) y7 (0 : Int)))) := by kernel_rfl
theorem impl_SpreadHeat.eq (a1 : List
  Nat) (a2 : List
  Nat) (a3 : Int) (a4 : Int) (a5 : Bool) (a6 : Int) (a7 : Int) (a8 : Bool) (a9 : Nat) (a10 : Nat) (a11 : Nat) (a12 : Nat) (a13 : Nat) (a14 : Int) (a15 : Nat) (K : List Nat →
  List Nat → Int → Int → Bool → Int → Int → Bool → Nat → Nat → Nat → Nat → Nat → Int → Bool → Prop) : impl_SpreadHeat.wp a1 a2 a3 a4 a5 a6 a7 a8 a9 a10 a11 a12 a13 a14 a15 K =
  (Go.K.melts.impl_Melt_cloned.wp a1 a2 a3 a4 a5 a6 a7 a8 a9 a10 a11 a12 a13 a14 fun y1 y2 y3 y4 y5 y6 y7 y8 y9 y10 y11 y12 y13 y14 y15 =>
  Go.K.ifB (!y15) (K [] [] (0 : Int) (0 : Int) Bool.false (0 : Int) (0 : Int) Bool.false (0 : Nat) (0 : Nat) (0 : Nat) (0 : Nat) (0 : Nat) (0 : Int) Bool.false)
    (Go.K.melts.impl_aMass.wp a15 fun y16 =>
      Go.K.ifB (!y16) (K [] [] (0 : Int) (0 : Int) Bool.false (0 : Int) (0 : Int) Bool.false (0 : Nat) (0 : Nat) (0 : Nat) (0 : Nat) (0 : Nat) (0 : Int) Bool.false)
        (∀
          (J17 :
            Int →
              Int →
                Bool →
                  Int →
                    Int →
                      Bool →
                        Nat →
                          Nat →
                            Nat →
                              Nat →
                                Nat →
                                  Int →
                                    Int →
                                      Int →
                                        Bool →
                                          Int →
                                            Int → Bool → Nat → Nat → Nat → Nat → Nat → Int → Int → Int → Bool → List Nat → List Nat → List Nat → List Nat → Nat → Int → Int → Prop),
          (∀ (x18 x19 : Int) (x20 : Bool) (x21 x22 : Int) (x23 : Bool) (x24 x25 x26 x27 x28 : Nat) (x29 x30 x31 : Int) (x32 : Bool) (x33 x34 : Int) (x35 : Bool)
              (x36 x37 x38 x39 x40 : Nat) (x41 x42 x43 : Int) (x44 : Bool) (x45 x46 x47 x48 : List Nat) (x49 : Nat) (x50 x51 : Int),
              Go.K.ifB (Decidable.decide (x51 < x50))
                  (((0 : Int) ≤ Go.IntKind.wrap Go.IntKind.i64 (x51 * x42) ∧
                      Go.IntKind.wrap Go.IntKind.i64 (x51 * x42) ≤ Go.IntKind.wrap Go.IntKind.i64 (Go.IntKind.wrap Go.IntKind.i64 (x51 + (1 : Int)) * x42) ∧
                        Go.IntKind.wrap Go.IntKind.i64 (Go.IntKind.wrap Go.IntKind.i64 (x51 + (1 : Int)) * x42) ≤ (↑(List.length x48) : Int)) ∧
                    Go.K.melts.impl_SolveRow.wp
                      (List.take
                        (Int.toNat (Go.IntKind.wrap Go.IntKind.i64 (Go.IntKind.wrap Go.IntKind.i64 (x51 + (1 : Int)) * x42)) -
                          Int.toNat (Go.IntKind.wrap Go.IntKind.i64 (x51 * x42)))
                        (List.drop (Int.toNat (Go.IntKind.wrap Go.IntKind.i64 (x51 * x42))) x48))
                      x49 x44 fun y52 y53 =>
                      Go.K.ifB (!y53) (K [] [] (0 : Int) (0 : Int) Bool.false (0 : Int) (0 : Int) Bool.false (0 : Nat) (0 : Nat) (0 : Nat) (0 : Nat) (0 : Nat) (0 : Int) Bool.false)
                        (((0 : Int) ≤ Go.IntKind.wrap Go.IntKind.i64 (x51 * x42) ∧ Go.IntKind.wrap Go.IntKind.i64 (x51 * x42) ≤ (↑(List.length x48) : Int)) ∧
                          ((0 : Nat) < List.length y52 ∧ List.length y52 ≤ List.length x48 - Int.toNat (Go.IntKind.wrap Go.IntKind.i64 (x51 * x42))) ∧
                            J17 x18 x19 x20 x21 x22 x23 x24 x25 x26 x27 x28 x29 x30 x31 x32 x33 x34 x35 x36 x37 x38 x39 x40 x41 x42 x43 x44 x45 x46 x47
                              (List.take (Int.toNat (Go.IntKind.wrap Go.IntKind.i64 (x51 * x42))) x48 ++ y52 ++
                                List.drop (Int.toNat (Go.IntKind.wrap Go.IntKind.i64 (x51 * x42)) + List.length y52) x48)
                              x49 x50 (Go.IntKind.wrap Go.IntKind.i64 (x51 + (1 : Int)))))
                  (∀
                    (J54 :
                      Int →
                        Int →
                          Bool →
                            Int →
                              Int →
                                Bool →
                                  Nat →
                                    Nat →
                                      Nat →
                                        Nat →
                                          Nat →
                                            Int →
                                              Int →
                                                Int →
                                                  Bool →
                                                    Int →
                                                      Int →
                                                        Bool →
                                                          Nat →
                                                            Nat → Nat → Nat → Nat → Int → Int → Int → Bool → List Nat → List Nat → List Nat → List Nat → Nat → Int → Int → Prop),
                    (∀ (x55 x56 : Int) (x57 : Bool) (x58 x59 : Int) (x60 : Bool) (x61 x62 x63 x64 x65 : Nat) (x66 x67 x68 : Int) (x69 : Bool) (x70 x71 : Int) (x72 : Bool)
                        (x73 x74 x75 x76 x77 : Nat) (x78 x79 x80 : Int) (x81 : Bool) (x82 x83 x84 x85 : List Nat) (x86 : Nat) (x87 x88 : Int),
                        Go.K.ifB (Decidable.decide (x88 < x87))
                            (∀
                              (J89 :
                                Int →
                                  Int →
                                    Bool →
                                      Int →
                                        Int →
                                          Bool →
                                            Nat →
                                              Nat →
                                                Nat →
                                                  Nat →
                                                    Nat →
                                                      Int →
                                                        Int →
                                                          Int →
                                                            Bool →
                                                              Int →
                                                                Int →
                                                                  Bool →
                                                                    Nat →
                                                                      Nat →
                                                                        Nat →
                                                                          Nat →
                                                                            Nat →
                                                                              Int →
                                                                                Int →
                                                                                  Int →
                                                                                    Bool →
                                                                                      List Nat →
                                                                                        List Nat → List Nat → List Nat → List Nat → Nat → Int → Int → Int → Int → Int → Prop),
                              (∀ (x90 x91 : Int) (x92 : Bool) (x93 x94 : Int) (x95 : Bool) (x96 x97 x98 x99 x100 : Nat) (x101 x102 x103 : Int) (x104 : Bool) (x105 x106 : Int)
                                  (x107 : Bool) (x108 x109 x110 x111 x112 : Nat) (x113 x114 x115 : Int) (x116 : Bool) (x117 x118 x119 x120 x121 : List Nat) (x122 : Nat)
                                  (x123 x124 x125 x126 x127 : Int),
                                  Go.K.ifB (Decidable.decide (x127 < x126))
                                      (Go.K.melts.impl_Field_at.wp x121 x114 x115 x116 x123 x127 fun y128 =>
                                        List.length (x117 ++ y128 :: List.replicate (0 : Nat) (0 : Nat)) ≤ (1099511627776 : Nat) ∧
                                          J89 x90 x91 x92 x93 x94 x95 x96 x97 x98 x99 x100 x101 x102 x103 x104 x105 x106 x107 x108 x109 x110 x111 x112 x113 x114 x115 x116
                                            (x117 ++ y128 :: List.replicate (0 : Nat) (0 : Nat)) x118 x119 x120 x121 x122 x123 x124 x125 x126
                                            (Go.IntKind.wrap Go.IntKind.i64 (x127 + (1 : Int))))
                                      (Go.K.melts.impl_SolveRow.wp x117 x122 x116 fun y129 y130 =>
                                        Go.K.ifB (!y130)
                                          (K [] [] (0 : Int) (0 : Int) Bool.false (0 : Int) (0 : Int) Bool.false (0 : Nat) (0 : Nat) (0 : Nat) (0 : Nat) (0 : Nat) (0 : Int)
                                            Bool.false)
                                          (∀
                                            (J131 :
                                              Int →
                                                Int →
                                                  Bool →
                                                    Int →
                                                      Int →
                                                        Bool →
                                                          Nat →
                                                            Nat →
                                                              Nat →
                                                                Nat →
                                                                  Nat →
                                                                    Int →
                                                                      Int →
                                                                        Int →
                                                                          Bool →
                                                                            Int →
                                                                              Int →
                                                                                Bool →
                                                                                  Nat →
                                                                                    Nat →
                                                                                      Nat →
                                                                                        Nat →
                                                                                          Nat →
                                                                                            Int →
                                                                                              Int →
                                                                                                Int →
                                                                                                  Bool →
                                                                                                    List Nat →
                                                                                                      List Nat →
                                                                                                        List Nat → List Nat → List Nat → Nat → Int → Int → Int → Int → Int → Prop),
                                            (∀ (x132 x133 : Int) (x134 : Bool) (x135 x136 : Int) (x137 : Bool) (x138 x139 x140 x141 x142 : Nat) (x143 x144 x145 : Int) (x146 : Bool)
                                                (x147 x148 : Int) (x149 : Bool) (x150 x151 x152 x153 x154 : Nat) (x155 x156 x157 : Int) (x158 : Bool)
                                                (x159 x160 x161 x162 x163 : List Nat) (x164 : Nat) (x165 x166 x167 x168 x169 : Int),
                                                Go.K.ifB (Decidable.decide (x169 < x168))
                                                    (((0 : Int) ≤ x169 ∧ x169 < (↑(List.length x159) : Int)) ∧
                                                      ((0 : Int) ≤ Go.IntKind.wrap Go.IntKind.i64 (x165 + Go.IntKind.wrap Go.IntKind.i64 (x156 * x169)) ∧
                                                          Go.IntKind.wrap Go.IntKind.i64 (x165 + Go.IntKind.wrap Go.IntKind.i64 (x156 * x169)) < (↑(List.length x163) : Int)) ∧
                                                        J131 x132 x133 x134 x135 x136 x137 x138 x139 x140 x141 x142 x143 x144 x145 x146 x147 x148 x149 x150 x151 x152 x153 x154 x155
                                                          x156 x157 x158 x159 x160 x161 x162
                                                          (List.set x163 (Int.toNat (Go.IntKind.wrap Go.IntKind.i64 (x165 + Go.IntKind.wrap Go.IntKind.i64 (x156 * x169))))
                                                            (List.getD x159 (Int.toNat x169) (0 : Nat)))
                                                          x164 x165 x166 x167 x168 (Go.IntKind.wrap Go.IntKind.i64 (x169 + (1 : Int))))
                                                    (J54 x132 x133 x134 x135 x136 x137 x138 x139 x140 x141 x142 x143 x144 x145 x146 x147 x148 x149 x150 x151 x152 x153 x154 x155
                                                      x156 x157 x158 x160 x161 x162 x163 x164 x166 (Go.IntKind.wrap Go.IntKind.i64 (x167 + (1 : Int)))) →
                                                  J131 x132 x133 x134 x135 x136 x137 x138 x139 x140 x141 x142 x143 x144 x145 x146 x147 x148 x149 x150 x151 x152 x153 x154 x155 x156
                                                    x157 x158 x159 x160 x161 x162 x163 x164 x165 x166 x167 x168 x169) →
                                              J131 x90 x91 x92 x93 x94 x95 x96 x97 x98 x99 x100 x101 x102 x103 x104 x105 x106 x107 x108 x109 x110 x111 x112 x113 x114 x115 x116 y129
                                                x118 x119 x120 x121 x122 x123 x124 x125 (↑(List.length y129) : Int) (0 : Int))) →
                                    J89 x90 x91 x92 x93 x94 x95 x96 x97 x98 x99 x100 x101 x102 x103 x104 x105 x106 x107 x108 x109 x110 x111 x112 x113 x114 x115 x116 x117 x118 x119
                                      x120 x121 x122 x123 x124 x125 x126 x127) →
                                J89 x55 x56 x57 x58 x59 x60 x61 x62 x63 x64 x65 x66 x67 x68 x69 x70 x71 x72 x73 x74 x75 x76 x77 x78 x79 x80 x81 (List.replicate (0 : Nat) (0 : Nat))
                                  x82 x83 x84 x85 x86 x88 x87 x88 x80 (0 : Int))
                            (Go.K.melts.impl_Melt_cloned.wp x84 x85 x67 x68 x69 x70 x71 x72 x73 x74 x75 x76 x77 x78
                              fun y174 y175 y176 y177 y178 y179 y180 y181 y182 y183 y184 y185 y186 y187 y188 =>
                              K y174 y175 y176 y177 y178 y179 y180 y181 y182 y183 y184 y185 y186 y187 y188) →
                          J54 x55 x56 x57 x58 x59 x60 x61 x62 x63 x64 x65 x66 x67 x68 x69 x70 x71 x72 x73 x74 x75 x76 x77 x78 x79 x80 x81 x82 x83 x84 x85 x86 x87 x88) →
                      J54 x18 x19 x20 x21 x22 x23 x24 x25 x26 x27 x28 x29 x30 x31 x32 x33 x34 x35 x36 x37 x38 x39 x40 x41 x42 x43 x44 x45 x46 x47 x48 x49 x42 (0 : Int)) →
                J17 x18 x19 x20 x21 x22 x23 x24 x25 x26 x27 x28 x29 x30 x31 x32 x33 x34 x35 x36 x37 x38 x39 x40 x41 x42 x43 x44 x45 x46 x47 x48 x49 x50 x51) →
            J17 (0 : Int) (0 : Int) Bool.false (0 : Int) (0 : Int) Bool.false (0 : Nat) (0 : Nat) (0 : Nat) (0 : Nat) (0 : Nat) (0 : Int) y3 y4 y5 y6 y7 y8 y9 y10 y11 y12 y13 y14
              y6 y7 y8 [] [] y1 y2 (Go.K.farith Go.BinOp.mul Go.FloatKind.f32 a15 a10) y7 (0 : Int)))) := impl_SpreadHeat.tx impl_Melt_cloned.wp impl_aMass.wp impl_SolveRow.wp impl_Field_at.wp a1 a2 a3 a4 a5 a6 a7 a8 a9 a10 a11 a12 a13 a14 a15 K

theorem laws_sameFloat.tx  (a1 : Nat) (a2 : Nat) (K : Bool → Prop) : laws_sameFloat.bd  a1 a2 K =
  (Go.K.ifB (Go.K.fne Go.FloatKind.f64 a1 a1) (Go.K.ifB (Go.K.fne Go.FloatKind.f64 a1 a1) (K (Go.K.fne Go.FloatKind.f64 a2 a2)) (K Bool.false))
  (Go.K.ifB (Go.K.fne Go.FloatKind.f64 a2 a2) (Go.K.ifB (Go.K.fne Go.FloatKind.f64 a1 a1) (K (Go.K.fne Go.FloatKind.f64 a2 a2)) (K Bool.false))
    (Go.K.ifB (Go.K.feq Go.FloatKind.f64 a1 (0 : Nat))
      (Go.K.ifB (Go.K.feq Go.FloatKind.f64 a2 (0 : Nat))
        (K
          (Go.K.fgt Go.FloatKind.f64 (Go.K.farith Go.BinOp.quo Go.FloatKind.f64 (4607182418800017408 : Nat) a1) (0 : Nat) ==
            Go.K.fgt Go.FloatKind.f64 (Go.K.farith Go.BinOp.quo Go.FloatKind.f64 (4607182418800017408 : Nat) a2) (0 : Nat)))
        (K (Go.K.feq Go.FloatKind.f64 a1 a2)))
      (K (Go.K.feq Go.FloatKind.f64 a1 a2))))) := by kernel_rfl
theorem laws_sameFloat.eq (a1 : Nat) (a2 : Nat) (K : Bool → Prop) : laws_sameFloat.wp a1 a2 K =
  (Go.K.ifB (Go.K.fne Go.FloatKind.f64 a1 a1) (Go.K.ifB (Go.K.fne Go.FloatKind.f64 a1 a1) (K (Go.K.fne Go.FloatKind.f64 a2 a2)) (K Bool.false))
  (Go.K.ifB (Go.K.fne Go.FloatKind.f64 a2 a2) (Go.K.ifB (Go.K.fne Go.FloatKind.f64 a1 a1) (K (Go.K.fne Go.FloatKind.f64 a2 a2)) (K Bool.false))
    (Go.K.ifB (Go.K.feq Go.FloatKind.f64 a1 (0 : Nat))
      (Go.K.ifB (Go.K.feq Go.FloatKind.f64 a2 (0 : Nat))
        (K
          (Go.K.fgt Go.FloatKind.f64 (Go.K.farith Go.BinOp.quo Go.FloatKind.f64 (4607182418800017408 : Nat) a1) (0 : Nat) ==
            Go.K.fgt Go.FloatKind.f64 (Go.K.farith Go.BinOp.quo Go.FloatKind.f64 (4607182418800017408 : Nat) a2) (0 : Nat)))
        (K (Go.K.feq Go.FloatKind.f64 a1 a2)))
      (K (Go.K.feq Go.FloatKind.f64 a1 a2))))) := laws_sameFloat.tx  a1 a2 K

theorem laws_eqFloat32S.tx (w_laws_sameFloat : Nat → Nat → (Bool → Prop) → Prop) (a1 : List Nat) (a2 : List Nat) (K : Bool → Prop) : laws_eqFloat32S.bd w_laws_sameFloat a1 a2 K =
  (Go.K.ifB ((↑(List.length a1) : Int) != (↑(List.length a2) : Int)) (K Bool.false)
  (∀ (J1 : Int → Prop),
    (∀ (x2 : Int),
        Go.K.ifB (Decidable.decide (x2 < (↑(List.length a1) : Int)))
            (((0 : Int) ≤ x2 ∧ x2 < (↑(List.length a1) : Int)) ∧
              ((0 : Int) ≤ x2 ∧ x2 < (↑(List.length a2) : Int)) ∧
                w_laws_sameFloat (Go.K.fconv Go.FloatKind.f32 Go.FloatKind.f64 (List.getD a1 (Int.toNat x2) (0 : Nat)))
                  (Go.K.fconv Go.FloatKind.f32 Go.FloatKind.f64 (List.getD a2 (Int.toNat x2) (0 : Nat))) fun y3 =>
                  Go.K.ifB (!y3) (K Bool.false) (J1 (Go.IntKind.wrap Go.IntKind.i64 (x2 + (1 : Int)))))
            (K Bool.true) →
          J1 x2) →
      J1 (0 : Int))) := by kernel_rfl
theorem laws_eqFloat32S.eq (a1 : List Nat) (a2 : List Nat) (K : Bool → Prop) : laws_eqFloat32S.wp a1 a2 K =
  (Go.K.ifB ((↑(List.length a1) : Int) != (↑(List.length a2) : Int)) (K Bool.false)
  (∀ (J1 : Int → Prop),
    (∀ (x2 : Int),
        Go.K.ifB (Decidable.decide (x2 < (↑(List.length a1) : Int)))
            (((0 : Int) ≤ x2 ∧ x2 < (↑(List.length a1) : Int)) ∧
              ((0 : Int) ≤ x2 ∧ x2 < (↑(List.length a2) : Int)) ∧
                Go.K.melts.laws_sameFloat.wp (Go.K.fconv Go.FloatKind.f32 Go.FloatKind.f64 (List.getD a1 (Int.toNat x2) (0 : Nat)))
                  (Go.K.fconv Go.FloatKind.f32 Go.FloatKind.f64 (List.getD a2 (Int.toNat x2) (0 : Nat))) fun y3 =>
                  Go.K.ifB (!y3) (K Bool.false) (J1 (Go.IntKind.wrap Go.IntKind.i64 (x2 + (1 : Int)))))
            (K Bool.true) →
          J1 x2) →
      J1 (0 : Int))) := laws_eqFloat32S.tx laws_sameFloat.wp a1 a2 K

theorem laws_eqField.tx (w_laws_eqFloat32S : List Nat → List Nat → (Bool → Prop) → Prop) (a1 : List
  Nat) (a2 : List Nat) (a3 : Int) (a4 : Int) (a5 : Bool) (a6 : Int) (a7 : Int) (a8 : Bool) (K : Bool → Prop) : laws_eqField.bd w_laws_eqFloat32S a1 a2 a3 a4 a5 a6 a7 a8 K =
  (Go.K.ifB (a3 != a6) (K Bool.false)
  (Go.K.ifB (a4 != a7) (K Bool.false)
    (Go.K.ifB (a5 != a8) (K Bool.false) (w_laws_eqFloat32S a1 a2 fun y1 => Go.K.ifB (!y1) (K Bool.false) (K Bool.true))))) := by kernel_rfl
theorem laws_eqField.eq (a1 : List
  Nat) (a2 : List Nat) (a3 : Int) (a4 : Int) (a5 : Bool) (a6 : Int) (a7 : Int) (a8 : Bool) (K : Bool → Prop) : laws_eqField.wp a1 a2 a3 a4 a5 a6 a7 a8 K =
  (Go.K.ifB (a3 != a6) (K Bool.false)
  (Go.K.ifB (a4 != a7) (K Bool.false)
    (Go.K.ifB (a5 != a8) (K Bool.false) (Go.K.melts.laws_eqFloat32S.wp a1 a2 fun y1 => Go.K.ifB (!y1) (K Bool.false) (K Bool.true))))) := laws_eqField.tx laws_eqFloat32S.wp a1 a2 a3 a4 a5 a6 a7 a8 K

theorem laws_eqMelt.tx (w_laws_eqField : List Nat → List Nat → Int → Int → Bool → Int → Int → Bool → (Bool → Prop) → Prop) (w_laws_sameFloat : Nat → Nat → (Bool → Prop) → Prop) (a1 : List
  Nat) (a2 : List
  Nat) (a3 : List
  Nat) (a4 : List
  Nat) (a5 : Int) (a6 : Int) (a7 : Bool) (a8 : Int) (a9 : Int) (a10 : Bool) (a11 : Nat) (a12 : Nat) (a13 : Nat) (a14 : Nat) (a15 : Nat) (a16 : Int) (a17 : Int) (a18 : Int) (a19 : Bool) (a20 : Int) (a21 : Int) (a22 : Bool) (a23 : Nat) (a24 : Nat) (a25 : Nat) (a26 : Nat) (a27 : Nat) (a28 : Int) (K : Bool →
  Prop) : laws_eqMelt.bd w_laws_eqField w_laws_sameFloat a1 a2 a3 a4 a5 a6 a7 a8 a9 a10 a11 a12 a13 a14 a15 a16 a17 a18 a19 a20 a21 a22 a23 a24 a25 a26 a27 a28 K =
  (w_laws_eqField a1 a3 a5 a6 a7 a17 a18 a19 fun y1 =>
  Go.K.ifB (!y1) (K Bool.false)
    (w_laws_eqField a2 a4 a8 a9 a10 a20 a21 a22 fun y2 =>
      Go.K.ifB (!y2) (K Bool.false)
        (w_laws_sameFloat (Go.K.fconv Go.FloatKind.f32 Go.FloatKind.f64 a11) (Go.K.fconv Go.FloatKind.f32 Go.FloatKind.f64 a23) fun y3 =>
          Go.K.ifB (!y3) (K Bool.false)
            (w_laws_sameFloat (Go.K.fconv Go.FloatKind.f32 Go.FloatKind.f64 a12) (Go.K.fconv Go.FloatKind.f32 Go.FloatKind.f64 a24) fun y4 =>
              Go.K.ifB (!y4) (K Bool.false)
                (w_laws_sameFloat (Go.K.fconv Go.FloatKind.f32 Go.FloatKind.f64 a13) (Go.K.fconv Go.FloatKind.f32 Go.FloatKind.f64 a25) fun y5 =>
                  Go.K.ifB (!y5) (K Bool.false)
                    (w_laws_sameFloat (Go.K.fconv Go.FloatKind.f32 Go.FloatKind.f64 a14) (Go.K.fconv Go.FloatKind.f32 Go.FloatKind.f64 a26) fun y6 =>
                      Go.K.ifB (!y6) (K Bool.false)
                        (w_laws_sameFloat (Go.K.fconv Go.FloatKind.f32 Go.FloatKind.f64 a15) (Go.K.fconv Go.FloatKind.f32 Go.FloatKind.f64 a27) fun y7 =>
                          Go.K.ifB (!y7) (K Bool.false) (Go.K.ifB (a16 != a28) (K Bool.false) (K Bool.true))))))))) := by kernel_rfl
theorem laws_eqMelt.eq (a1 : List
  Nat) (a2 : List
  Nat) (a3 : List
  Nat) (a4 : List
  Nat) (a5 : Int) (a6 : Int) (a7 : Bool) (a8 : Int) (a9 : Int) (a10 : Bool) (a11 : Nat) (a12 : Nat) (a13 : Nat) (a14 : Nat) (a15 : Nat) (a16 : Int) (a17 : Int) (a18 : Int) (a19 : Bool) (a20 : Int) (a21 : Int) (a22 : Bool) (a23 : Nat) (a24 : Nat) (a25 : Nat) (a26 : Nat) (a27 : Nat) (a28 : Int) (K : Bool →
  Prop) : laws_eqMelt.wp a1 a2 a3 a4 a5 a6 a7 a8 a9 a10 a11 a12 a13 a14 a15 a16 a17 a18 a19 a20 a21 a22 a23 a24 a25 a26 a27 a28 K =
  (Go.K.melts.laws_eqField.wp a1 a3 a5 a6 a7 a17 a18 a19 fun y1 =>
  Go.K.ifB (!y1) (K Bool.false)
    (Go.K.melts.laws_eqField.wp a2 a4 a8 a9 a10 a20 a21 a22 fun y2 =>
      Go.K.ifB (!y2) (K Bool.false)
        (Go.K.melts.laws_sameFloat.wp (Go.K.fconv Go.FloatKind.f32 Go.FloatKind.f64 a11) (Go.K.fconv Go.FloatKind.f32 Go.FloatKind.f64 a23) fun y3 =>
          Go.K.ifB (!y3) (K Bool.false)
            (Go.K.melts.laws_sameFloat.wp (Go.K.fconv Go.FloatKind.f32 Go.FloatKind.f64 a12) (Go.K.fconv Go.FloatKind.f32 Go.FloatKind.f64 a24) fun y4 =>
              Go.K.ifB (!y4) (K Bool.false)
                (Go.K.melts.laws_sameFloat.wp (Go.K.fconv Go.FloatKind.f32 Go.FloatKind.f64 a13) (Go.K.fconv Go.FloatKind.f32 Go.FloatKind.f64 a25) fun y5 =>
                  Go.K.ifB (!y5) (K Bool.false)
                    (Go.K.melts.laws_sameFloat.wp (Go.K.fconv Go.FloatKind.f32 Go.FloatKind.f64 a14) (Go.K.fconv Go.FloatKind.f32 Go.FloatKind.f64 a26) fun y6 =>
                      Go.K.ifB (!y6) (K Bool.false)
                        (Go.K.melts.laws_sameFloat.wp (Go.K.fconv Go.FloatKind.f32 Go.FloatKind.f64 a15) (Go.K.fconv Go.FloatKind.f32 Go.FloatKind.f64 a27) fun y7 =>
                          Go.K.ifB (!y7) (K Bool.false) (Go.K.ifB (a16 != a28) (K Bool.false) (K Bool.true))))))))) := laws_eqMelt.tx laws_eqField.wp laws_sameFloat.wp a1 a2 a3 a4 a5 a6 a7 a8 a9 a10 a11 a12 a13 a14 a15 a16 a17 a18 a19 a20 a21 a22 a23 a24 a25 a26 a27 a28 K

theorem laws_markFloat32S.tx  (a1 : List Nat) (a2 : Int) (K : List Nat → Int → Prop) : laws_markFloat32S.bd  a1 a2 K =
  (∀ (J1 : List Nat → Int → Int → Prop),
  (∀ (x2 : List Nat) (x3 x4 : Int),
      Go.K.ifB (Decidable.decide (x4 < (↑(List.length a1) : Int)))
          (((0 : Int) ≤ x4 ∧ x4 < (↑(List.length a1) : Int)) ∧
            J1 (List.set x2 (Int.toNat x4) (Go.K.fofint Go.FloatKind.f32 x3)) (Go.IntKind.wrap Go.IntKind.i64 (x3 + (1 : Int))) (Go.IntKind.wrap Go.IntKind.i64 (x4 + (1 : Int))))
          (K x2 x3) →
        J1 x2 x3 x4) →
    J1 a1 a2 (0 : Int)) := by kernel_rfl
theorem laws_markFloat32S.eq (a1 : List Nat) (a2 : Int) (K : List Nat → Int → Prop) : laws_markFloat32S.wp a1 a2 K =
  (∀ (J1 : List Nat → Int → Int → Prop),
  (∀ (x2 : List Nat) (x3 x4 : Int),
      Go.K.ifB (Decidable.decide (x4 < (↑(List.length a1) : Int)))
          (((0 : Int) ≤ x4 ∧ x4 < (↑(List.length a1) : Int)) ∧
            J1 (List.set x2 (Int.toNat x4) (Go.K.fofint Go.FloatKind.f32 x3)) (Go.IntKind.wrap Go.IntKind.i64 (x3 + (1 : Int))) (Go.IntKind.wrap Go.IntKind.i64 (x4 + (1 : Int))))
          (K x2 x3) →
        J1 x2 x3 x4) →
    J1 a1 a2 (0 : Int)) := laws_markFloat32S.tx  a1 a2 K

theorem laws_markField.tx (w_laws_markFloat32S : List Nat → Int → (List Nat → Int → Prop) → Prop) (a1 : List Nat) (a2 : Int) (a3 : Int) (a4 : Bool) (a5 : Int) (K : List Nat → Int → Prop) : laws_markField.bd w_laws_markFloat32S a1 a2 a3 a4 a5 K =
  (w_laws_markFloat32S a1 a5 fun y1 y2 => K y1 y2) := by kernel_rfl
theorem laws_markField.eq (a1 : List Nat) (a2 : Int) (a3 : Int) (a4 : Bool) (a5 : Int) (K : List Nat → Int → Prop) : laws_markField.wp a1 a2 a3 a4 a5 K =
  (Go.K.melts.laws_markFloat32S.wp a1 a5 fun y1 y2 => K y1 y2) := laws_markField.tx laws_markFloat32S.wp a1 a2 a3 a4 a5 K

theorem laws_markMelt.tx (w_laws_markField : List Nat → Int → Int → Bool → Int → (List Nat → Int → Prop) → Prop) (a1 : List
  Nat) (a2 : List
  Nat) (a3 : Int) (a4 : Int) (a5 : Bool) (a6 : Int) (a7 : Int) (a8 : Bool) (a9 : Nat) (a10 : Nat) (a11 : Nat) (a12 : Nat) (a13 : Nat) (a14 : Int) (a15 : Int) (K : List Nat →
  List Nat → Int → Prop) : laws_markMelt.bd w_laws_markField a1 a2 a3 a4 a5 a6 a7 a8 a9 a10 a11 a12 a13 a14 a15 K =
  (w_laws_markField a1 a3 a4 a5 a15 fun y1 y2 => w_laws_markField a2 a6 a7 a8 y2 fun y3 y4 => K y1 y3 y4) := by kernel_rfl
theorem laws_markMelt.eq (a1 : List
  Nat) (a2 : List
  Nat) (a3 : Int) (a4 : Int) (a5 : Bool) (a6 : Int) (a7 : Int) (a8 : Bool) (a9 : Nat) (a10 : Nat) (a11 : Nat) (a12 : Nat) (a13 : Nat) (a14 : Int) (a15 : Int) (K : List Nat →
  List Nat → Int → Prop) : laws_markMelt.wp a1 a2 a3 a4 a5 a6 a7 a8 a9 a10 a11 a12 a13 a14 a15 K =
  (Go.K.melts.laws_markField.wp a1 a3 a4 a5 a15 fun y1 y2 => Go.K.melts.laws_markField.wp a2 a6 a7 a8 y2 fun y3 y4 => K y1 y3 y4) := laws_markMelt.tx laws_markField.wp a1 a2 a3 a4 a5 a6 a7 a8 a9 a10 a11 a12 a13 a14 a15 K

theorem laws_heldFloat32S.tx  (a1 : List Nat) (a2 : Int) (K : Int → Prop) : laws_heldFloat32S.bd  a1 a2 K =
  (∀ (J1 : Int → Int → Prop),
  (∀ (x2 x3 : Int),
      Go.K.ifB (Decidable.decide (x3 < (↑(List.length a1) : Int)))
          (((0 : Int) ≤ x3 ∧ x3 < (↑(List.length a1) : Int)) ∧
            Go.K.ifB (Go.K.fne Go.FloatKind.f32 (List.getD a1 (Int.toNat x3) (0 : Nat)) (Go.K.fofint Go.FloatKind.f32 x2)) (K (-1 : Int))
              (J1 (Go.IntKind.wrap Go.IntKind.i64 (x2 + (1 : Int))) (Go.IntKind.wrap Go.IntKind.i64 (x3 + (1 : Int)))))
          (K x2) →
        J1 x2 x3) →
    J1 a2 (0 : Int)) := by kernel_rfl
theorem laws_heldFloat32S.eq (a1 : List Nat) (a2 : Int) (K : Int → Prop) : laws_heldFloat32S.wp a1 a2 K =
  (∀ (J1 : Int → Int → Prop),
  (∀ (x2 x3 : Int),
      Go.K.ifB (Decidable.decide (x3 < (↑(List.length a1) : Int)))
          (((0 : Int) ≤ x3 ∧ x3 < (↑(List.length a1) : Int)) ∧
            Go.K.ifB (Go.K.fne Go.FloatKind.f32 (List.getD a1 (Int.toNat x3) (0 : Nat)) (Go.K.fofint Go.FloatKind.f32 x2)) (K (-1 : Int))
              (J1 (Go.IntKind.wrap Go.IntKind.i64 (x2 + (1 : Int))) (Go.IntKind.wrap Go.IntKind.i64 (x3 + (1 : Int)))))
          (K x2) →
        J1 x2 x3) →
    J1 a2 (0 : Int)) := laws_heldFloat32S.tx  a1 a2 K

theorem laws_heldField.tx (w_laws_heldFloat32S : List Nat → Int → (Int → Prop) → Prop) (a1 : List Nat) (a2 : Int) (a3 : Int) (a4 : Bool) (a5 : Int) (K : Int → Prop) : laws_heldField.bd w_laws_heldFloat32S a1 a2 a3 a4 a5 K =
  (w_laws_heldFloat32S a1 a5 fun y1 => Go.K.ifB (Decidable.decide (y1 < (0 : Int))) (K (-1 : Int)) (K y1)) := by kernel_rfl
theorem laws_heldField.eq (a1 : List Nat) (a2 : Int) (a3 : Int) (a4 : Bool) (a5 : Int) (K : Int → Prop) : laws_heldField.wp a1 a2 a3 a4 a5 K =
  (Go.K.melts.laws_heldFloat32S.wp a1 a5 fun y1 => Go.K.ifB (Decidable.decide (y1 < (0 : Int))) (K (-1 : Int)) (K y1)) := laws_heldField.tx laws_heldFloat32S.wp a1 a2 a3 a4 a5 K

theorem laws_heldMelt.tx (w_laws_heldField : List Nat → Int → Int → Bool → Int → (Int → Prop) → Prop) (a1 : List
  Nat) (a2 : List
  Nat) (a3 : Int) (a4 : Int) (a5 : Bool) (a6 : Int) (a7 : Int) (a8 : Bool) (a9 : Nat) (a10 : Nat) (a11 : Nat) (a12 : Nat) (a13 : Nat) (a14 : Int) (a15 : Int) (K : Int →
  Prop) : laws_heldMelt.bd w_laws_heldField a1 a2 a3 a4 a5 a6 a7 a8 a9 a10 a11 a12 a13 a14 a15 K =
  (w_laws_heldField a1 a3 a4 a5 a15 fun y1 =>
  Go.K.ifB (Decidable.decide (y1 < (0 : Int))) (K (-1 : Int))
    (w_laws_heldField a2 a6 a7 a8 y1 fun y2 => Go.K.ifB (Decidable.decide (y2 < (0 : Int))) (K (-1 : Int)) (K y2))) := by kernel_rfl
theorem laws_heldMelt.eq (a1 : List
  Nat) (a2 : List
  Nat) (a3 : Int) (a4 : Int) (a5 : Bool) (a6 : Int) (a7 : Int) (a8 : Bool) (a9 : Nat) (a10 : Nat) (a11 : Nat) (a12 : Nat) (a13 : Nat) (a14 : Int) (a15 : Int) (K : Int →
  Prop) : laws_heldMelt.wp a1 a2 a3 a4 a5 a6 a7 a8 a9 a10 a11 a12 a13 a14 a15 K =
  (Go.K.melts.laws_heldField.wp a1 a3 a4 a5 a15 fun y1 =>
  Go.K.ifB (Decidable.decide (y1 < (0 : Int))) (K (-1 : Int))
    (Go.K.melts.laws_heldField.wp a2 a6 a7 a8 y1 fun y2 => Go.K.ifB (Decidable.decide (y2 < (0 : Int))) (K (-1 : Int)) (K y2))) := laws_heldMelt.tx laws_heldField.wp a1 a2 a3 a4 a5 a6 a7 a8 a9 a10 a11 a12 a13 a14 a15 K

theorem laws_FnExactSpreadHeat.tx (w_laws_szMelt : List Nat → List Nat → Int → Int → Bool → Int → Int → Bool → Nat → Nat → Nat → Nat → Nat → Int → Int → (Int → Prop) → Prop) (w_laws_toMelt : List Nat → List Nat → Int → Int → Bool → Int → Int → Bool → Nat → Nat → Nat → Nat → Nat → Int → (List Nat → List Nat → Int → Int → Bool → Int → Int → Bool → Nat → Nat → Nat → Nat → Nat → Int → Prop) → Prop) (w_spec_SpreadHeat : List Nat → List Nat → Int → Int → Bool → Int → Int → Bool → Nat → Nat → Nat → Nat → Nat → Int → Nat → (List Nat → List Nat → Int → Int → Bool → Int → Int → Bool → Nat → Nat → Nat → Nat → Nat → Int → Bool → Prop) → Prop) (w_impl_SpreadHeat : List Nat → List Nat → Int → Int → Bool → Int → Int → Bool → Nat → Nat → Nat → Nat → Nat → Int → Nat → (List Nat → List Nat → Int → Int → Bool → Int → Int → Bool → Nat → Nat → Nat → Nat → Nat → Int → Bool → Prop) → Prop) (w_laws_eqMelt : List Nat → List Nat → List Nat → List Nat → Int → Int → Bool → Int → Int → Bool → Nat → Nat → Nat → Nat → Nat → Int → Int → Int → Bool → Int → Int → Bool → Nat → Nat → Nat → Nat → Nat → Int → (Bool → Prop) → Prop) (w_laws_markMelt : List Nat → List Nat → Int → Int → Bool → Int → Int → Bool → Nat → Nat → Nat → Nat → Nat → Int → Int → (List Nat → List Nat → Int → Prop) → Prop) (w_laws_heldMelt : List Nat → List Nat → Int → Int → Bool → Int → Int → Bool → Nat → Nat → Nat → Nat → Nat → Int → Int → (Int → Prop) → Prop) (a1 : List
  Nat) (a2 : List
  Nat) (a3 : Int) (a4 : Int) (a5 : Bool) (a6 : Int) (a7 : Int) (a8 : Bool) (a9 : Nat) (a10 : Nat) (a11 : Nat) (a12 : Nat) (a13 : Nat) (a14 : Int) (a15 : Nat) (K : Bool →
  Prop) : laws_FnExactSpreadHeat.bd w_laws_szMelt w_laws_toMelt w_spec_SpreadHeat w_impl_SpreadHeat w_laws_eqMelt w_laws_markMelt w_laws_heldMelt a1 a2 a3 a4 a5 a6 a7 a8 a9 a10 a11 a12 a13 a14 a15 K =
  (w_laws_szMelt a1 a2 a3 a4 a5 a6 a7 a8 a9 a10 a11 a12 a13 a14 (1048576 : Int) fun y1 =>
  Go.K.ifB (Decidable.decide (y1 < (0 : Int))) (K Bool.true)
    (w_laws_toMelt a1 a2 a3 a4 a5 a6 a7 a8 a9 a10 a11 a12 a13 a14 fun y2 y3 y4 y5 y6 y7 y8 y9 y10 y11 y12 y13 y14 y15 =>
      w_spec_SpreadHeat y2 y3 y4 y5 y6 y7 y8 y9 y10 y11 y12 y13 y14 y15 a15 fun y16 y17 y18 y19 y20 y21 y22 y23 y24 y25 y26 y27 y28 y29 y30 =>
        w_laws_toMelt a1 a2 a3 a4 a5 a6 a7 a8 a9 a10 a11 a12 a13 a14 fun y31 y32 y33 y34 y35 y36 y37 y38 y39 y40 y41 y42 y43 y44 =>
          w_impl_SpreadHeat y31 y32 y33 y34 y35 y36 y37 y38 y39 y40 y41 y42 y43 y44 a15 fun y45 y46 y47 y48 y49 y50 y51 y52 y53 y54 y55 y56 y57 y58 y59 =>
            w_laws_eqMelt y45 y46 y16 y17 y47 y48 y49 y50 y51 y52 y53 y54 y55 y56 y57 y58 y18 y19 y20 y21 y22 y23 y24 y25 y26 y27 y28 y29 fun y60 =>
              Go.K.ifB (!y60) (K Bool.false)
                (Go.K.ifB (y59 != y30) (K Bool.false)
                  (w_laws_toMelt a1 a2 a3 a4 a5 a6 a7 a8 a9 a10 a11 a12 a13 a14 fun y61 y62 y63 y64 y65 y66 y67 y68 y69 y70 y71 y72 y73 y74 =>
                    w_laws_eqMelt y31 y32 y61 y62 y33 y34 y35 y36 y37 y38 y39 y40 y41 y42 y43 y44 y63 y64 y65 y66 y67 y68 y69 y70 y71 y72 y73 y74 fun y75 =>
                      Go.K.ifB (!y75) (K Bool.false)
                        (w_laws_markMelt y31 y32 y33 y34 y35 y36 y37 y38 y39 y40 y41 y42 y43 y44 (1 : Int) fun y76 y77 y78 =>
                          Go.K.ifB (Decidable.decide (y78 < (0 : Int))) (K Bool.false)
                            (w_laws_eqMelt y45 y46 y16 y17 y47 y48 y49 y50 y51 y52 y53 y54 y55 y56 y57 y58 y18 y19 y20 y21 y22 y23 y24 y25 y26 y27 y28 y29 fun y79 =>
                              Go.K.ifB (!y79) (K Bool.false)
                                (Go.K.ifB (y59 != y30) (K Bool.false)
                                  (w_laws_markMelt y45 y46 y47 y48 y49 y50 y51 y52 y53 y54 y55 y56 y57 y58 (1 : Int) fun y80 y81 y82 =>
                                    w_laws_heldMelt y80 y81 y47 y48 y49 y50 y51 y52 y53 y54 y55 y56 y57 y58 (1 : Int) fun y83 =>
                                      Go.K.ifB (Decidable.decide (y83 < (0 : Int))) (K Bool.false)
                                        (Go.K.ifB (y83 != y82) (K Bool.false)
                                          (w_laws_toMelt a1 a2 a3 a4 a5 a6 a7 a8 a9 a10 a11 a12 a13 a14 fun y84 y85 y86 y87 y88 y89 y90 y91 y92 y93 y94 y95 y96 y97 =>
                                            w_impl_SpreadHeat y84 y85 y86 y87 y88 y89 y90 y91 y92 y93 y94 y95 y96 y97 a15
                                              fun y98 y99 y100 y101 y102 y103 y104 y105 y106 y107 y108 y109 y110 y111 y112 =>
                                              w_laws_eqMelt y98 y99 y16 y17 y100 y101 y102 y103 y104 y105 y106 y107 y108 y109 y110 y111 y18 y19 y20 y21 y22 y23 y24 y25
                                                y26 y27 y28 y29 fun y113 =>
                                                Go.K.ifB (!y113) (K Bool.false)
                                                  (Go.K.ifB (y112 != y30) (K Bool.false)
                                                    (w_laws_heldMelt y80 y81 y47 y48 y49 y50 y51 y52 y53 y54 y55 y56 y57 y58 (1 : Int) fun y114 =>
                                                      Go.K.ifB (Decidable.decide (y114 < (0 : Int))) (K Bool.false)
                                                        (Go.K.ifB (y114 != y82) (K Bool.false) (K Bool.true)))))))))))))) := by kernel_rfl
theorem laws_FnExactSpreadHeat.eq (a1 : List
  Nat) (a2 : List
  Nat) (a3 : Int) (a4 : Int) (a5 : Bool) (a6 : Int) (a7 : Int) (a8 : Bool) (a9 : Nat) (a10 : Nat) (a11 : Nat) (a12 : Nat) (a13 : Nat) (a14 : Int) (a15 : Nat) (K : Bool →
  Prop) : laws_FnExactSpreadHeat.wp a1 a2 a3 a4 a5 a6 a7 a8 a9 a10 a11 a12 a13 a14 a15 K =
  (Go.K.melts.laws_szMelt.wp a1 a2 a3 a4 a5 a6 a7 a8 a9 a10 a11 a12 a13 a14 (1048576 : Int) fun y1 =>
  Go.K.ifB (Decidable.decide (y1 < (0 : Int))) (K Bool.true)
    (Go.K.melts.laws_toMelt.wp a1 a2 a3 a4 a5 a6 a7 a8 a9 a10 a11 a12 a13 a14 fun y2 y3 y4 y5 y6 y7 y8 y9 y10 y11 y12 y13 y14 y15 =>
      Go.K.melts.spec_SpreadHeat.wp y2 y3 y4 y5 y6 y7 y8 y9 y10 y11 y12 y13 y14 y15 a15 fun y16 y17 y18 y19 y20 y21 y22 y23 y24 y25 y26 y27 y28 y29 y30 =>
        Go.K.melts.laws_toMelt.wp a1 a2 a3 a4 a5 a6 a7 a8 a9 a10 a11 a12 a13 a14 fun y31 y32 y33 y34 y35 y36 y37 y38 y39 y40 y41 y42 y43 y44 =>
          Go.K.melts.impl_SpreadHeat.wp y31 y32 y33 y34 y35 y36 y37 y38 y39 y40 y41 y42 y43 y44 a15 fun y45 y46 y47 y48 y49 y50 y51 y52 y53 y54 y55 y56 y57 y58 y59 =>
            Go.K.melts.laws_eqMelt.wp y45 y46 y16 y17 y47 y48 y49 y50 y51 y52 y53 y54 y55 y56 y57 y58 y18 y19 y20 y21 y22 y23 y24 y25 y26 y27 y28 y29 fun y60 =>
              Go.K.ifB (!y60) (K Bool.false)
                (Go.K.ifB (y59 != y30) (K Bool.false)
                  (Go.K.melts.laws_toMelt.wp a1 a2 a3 a4 a5 a6 a7 a8 a9 a10 a11 a12 a13 a14 fun y61 y62 y63 y64 y65 y66 y67 y68 y69 y70 y71 y72 y73 y74 =>
                    Go.K.melts.laws_eqMelt.wp y31 y32 y61 y62 y33 y34 y35 y36 y37 y38 y39 y40 y41 y42 y43 y44 y63 y64 y65 y66 y67 y68 y69 y70 y71 y72 y73 y74 fun y75 =>
                      Go.K.ifB (!y75) (K Bool.false)
                        (Go.K.melts.laws_markMelt.wp y31 y32 y33 y34 y35 y36 y37 y38 y39 y40 y41 y42 y43 y44 (1 : Int) fun y76 y77 y78 =>
                          Go.K.ifB (Decidable.decide (y78 < (0 : Int))) (K Bool.false)
                            (Go.K.melts.laws_eqMelt.wp y45 y46 y16 y17 y47 y48 y49 y50 y51 y52 y53 y54 y55 y56 y57 y58 y18 y19 y20 y21 y22 y23 y24 y25 y26 y27 y28 y29 fun y79 =>
                              Go.K.ifB (!y79) (K Bool.false)
                                (Go.K.ifB (y59 != y30) (K Bool.false)
                                  (Go.K.melts.laws_markMelt.wp y45 y46 y47 y48 y49 y50 y51 y52 y53 y54 y55 y56 y57 y58 (1 : Int) fun y80 y81 y82 =>
                                    Go.K.melts.laws_heldMelt.wp y80 y81 y47 y48 y49 y50 y51 y52 y53 y54 y55 y56 y57 y58 (1 : Int) fun y83 =>
                                      Go.K.ifB (Decidable.decide (y83 < (0 : Int))) (K Bool.false)
                                        (Go.K.ifB (y83 != y82) (K Bool.false)
                                          (Go.K.melts.laws_toMelt.wp a1 a2 a3 a4 a5 a6 a7 a8 a9 a10 a11 a12 a13 a14 fun y84 y85 y86 y87 y88 y89 y90 y91 y92 y93 y94 y95 y96 y97 =>
                                            Go.K.melts.impl_SpreadHeat.wp y84 y85 y86 y87 y88 y89 y90 y91 y92 y93 y94 y95 y96 y97 a15
                                              fun y98 y99 y100 y101 y102 y103 y104 y105 y106 y107 y108 y109 y110 y111 y112 =>
                                              Go.K.melts.laws_eqMelt.wp y98 y99 y16 y17 y100 y101 y102 y103 y104 y105 y106 y107 y108 y109 y110 y111 y18 y19 y20 y21 y22 y23 y24 y25
                                                y26 y27 y28 y29 fun y113 =>
                                                Go.K.ifB (!y113) (K Bool.false)
                                                  (Go.K.ifB (y112 != y30) (K Bool.false)
                                                    (Go.K.melts.laws_heldMelt.wp y80 y81 y47 y48 y49 y50 y51 y52 y53 y54 y55 y56 y57 y58 (1 : Int) fun y114 =>
                                                      Go.K.ifB (Decidable.decide (y114 < (0 : Int))) (K Bool.false)
                                                        (Go.K.ifB (y114 != y82) (K Bool.false) (K Bool.true)))))))))))))) := laws_FnExactSpreadHeat.tx laws_szMelt.wp laws_toMelt.wp spec_SpreadHeat.wp impl_SpreadHeat.wp laws_eqMelt.wp laws_markMelt.wp laws_heldMelt.wp a1 a2 a3 a4 a5 a6 a7 a8 a9 a10 a11 a12 a13 a14 a15 K

end Go.K.melts
