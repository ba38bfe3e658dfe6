/- What the functions compute, written out. -/
import Derived.Test.YtcmbpondkipbkaaD
import Derived.KernelRfl
set_option maxRecDepth 100000
set_option linter.unusedVariables false
namespace Go.K.heights
open Go.K Go

theorem spec_l00In.tx  (a1 : Int) (a2 : Int) (a3 : Int) (K : Bool → Prop) : spec_l00In.bd  a1 a2 a3 K =
  (Go.K.ifB (Decidable.decide (a1 ≥ a2)) (K (Decidable.decide (a1 ≤ a3))) (K Bool.false)) := by kernel_rfl
theorem spec_l00In.eq (a1 : Int) (a2 : Int) (a3 : Int) (K : Bool → Prop) : spec_l00In.wp a1 a2 a3 K =
  (Go.K.ifB (Decidable.decide (a1 ≥ a2)) (K (Decidable.decide (a1 ≤ a3))) (K Bool.false)) := spec_l00In.tx  a1 a2 a3 K

theorem spec_l05Size.tx (w_spec_l00In : Int → Int → Int → (Bool → Prop) → Prop) (a1 : Int) (a2 : Int) (K : Bool → Prop) : spec_l05Size.bd w_spec_l00In a1 a2 K =
  (w_spec_l00In a1 (2 : Int) (16 : Int) fun y1 => Go.K.ifB y1 (w_spec_l00In a2 (2 : Int) (16 : Int) fun y2 => K y2) (K Bool.false)) := by kernel_rfl
theorem spec_l05Size.eq (a1 : Int) (a2 : Int) (K : Bool → Prop) : spec_l05Size.wp a1 a2 K =
  (Go.K.heights.spec_l00In.wp a1 (2 : Int) (16 : Int) fun y1 => Go.K.ifB y1 (Go.K.heights.spec_l00In.wp a2 (2 : Int) (16 : Int) fun y2 => K y2) (K Bool.false)) := spec_l05Size.tx spec_l00In.wp a1 a2 K

theorem math_NaN.tx  (K : Nat → Prop) : math_NaN.bd  K =
  (K (Go.K.cF Go.FloatKind.f64 (Int.toNat (9221120237041090561 : Int)))) := by kernel_rfl
theorem math_NaN.eq (K : Nat → Prop) : math_NaN.wp K =
  (K (Go.K.cF Go.FloatKind.f64 (Int.toNat (9221120237041090561 : Int)))) := math_NaN.tx  K

theorem math_Abs.tx  (a1 : Nat) (K : Nat → Prop) : math_Abs.bd  a1 K =
  (Go.K.isNaNW Go.FloatKind.f64 a1 = Bool.false ∧
  K (Go.K.cF Go.FloatKind.f64 (Int.toNat (Go.K.ibits Go.BinOp.andNot Go.IntKind.u64 (↑a1 : Int) (9223372036854775808 : Int))))) := by kernel_rfl
theorem math_Abs.eq (a1 : Nat) (K : Nat → Prop) : math_Abs.wp a1 K =
  (Go.K.isNaNW Go.FloatKind.f64 a1 = Bool.false ∧
  K (Go.K.cF Go.FloatKind.f64 (Int.toNat (Go.K.ibits Go.BinOp.andNot Go.IntKind.u64 (↑a1 : Int) (9223372036854775808 : Int))))) := math_Abs.tx  a1 K

theorem math_Sqrt.tx  (a1 : Nat) (K : Nat → Prop) : math_Sqrt.bd  a1 K =
  (K (Go.K.fsqrt a1)) := by kernel_rfl
theorem math_Sqrt.eq (a1 : Nat) (K : Nat → Prop) : math_Sqrt.wp a1 K =
  (K (Go.K.fsqrt a1)) := math_Sqrt.tx  a1 K

theorem spec_l01AngleWide.tx (w_math_NaN : (Nat → Prop) → Prop) (w_math_Abs : Nat → (Nat → Prop) → Prop) (w_math_Sqrt : Nat → (Nat → Prop) → Prop) (a1 : Nat) (a2 : Nat) (K : Nat → Prop) : spec_l01AngleWide.bd w_math_NaN w_math_Abs w_math_Sqrt a1 a2 K =
  (Go.K.ifB (Go.K.fne Go.FloatKind.f64 (Go.K.farith Go.BinOp.sub Go.FloatKind.f64 a1 a1) (0 : Nat)) (w_math_NaN fun y1 => K y1)
  (Go.K.ifB (Go.K.fne Go.FloatKind.f64 (Go.K.farith Go.BinOp.sub Go.FloatKind.f64 a2 a2) (0 : Nat)) (w_math_NaN fun y2 => K y2)
    (Go.K.ifB (Go.K.feq Go.FloatKind.f64 a2 (0 : Nat))
      (Go.K.ifB (Go.K.feq Go.FloatKind.f64 a1 (0 : Nat)) (K (0 : Nat))
        (w_math_Abs a1 fun y3 =>
          w_math_Abs a2 fun y4 =>
            ∀ (J5 : Bool → Nat → Prop),
              (∀ (x6 : Bool) (x7 : Nat),
                  (∀ (J8 : Bool → Nat → Int → Prop),
                      (∀ (x9 : Bool) (x10 : Nat) (x11 : Int),
                          Go.K.ifB (Decidable.decide (x11 < (3 : Int)))
                              (w_math_Sqrt (Go.K.farith Go.BinOp.add Go.FloatKind.f64 (4607182418800017408 : Nat) (Go.K.farith Go.BinOp.mul Go.FloatKind.f64 x10 x10))
                                fun y12 =>
                                J8 x9 (Go.K.farith Go.BinOp.quo Go.FloatKind.f64 x10 (Go.K.farith Go.BinOp.add Go.FloatKind.f64 (4607182418800017408 : Nat) y12))
                                  (Go.IntKind.wrap Go.IntKind.i64 (x11 + (1 : Int))))
                              (∀ (J13 : Bool → Nat → Nat → Nat → Int → Prop),
                                (∀ (x14 : Bool) (x15 x16 x17 : Nat) (x18 : Int),
                                    Go.K.ifB (Decidable.decide (x18 ≥ (1 : Int)))
                                        (J13 x14 x15 x16
                                          (Go.K.farith Go.BinOp.sub Go.FloatKind.f64
                                            (Go.K.farith Go.BinOp.quo Go.FloatKind.f64 (4607182418800017408 : Nat) (Go.K.fofint Go.FloatKind.f64 x18))
                                            (Go.K.farith Go.BinOp.mul Go.FloatKind.f64 x16 x17))
                                          (Go.IntKind.wrap Go.IntKind.i64 (x18 - (2 : Int))))
                                        (Go.K.ifB x14
                                          (Go.K.ifB (Go.K.flt Go.FloatKind.f64 a2 (0 : Nat))
                                            (Go.K.ifB (Go.K.flt Go.FloatKind.f64 a1 (0 : Nat))
                                              (K
                                                (Go.K.fneg Go.FloatKind.f64
                                                  (Go.K.farith Go.BinOp.sub Go.FloatKind.f64 (4602678819172646912 : Nat)
                                                    (Go.K.farith Go.BinOp.sub Go.FloatKind.f64 (4598175219545276416 : Nat)
                                                      (Go.K.farith Go.BinOp.quo Go.FloatKind.f64
                                                        (Go.K.farith Go.BinOp.mul Go.FloatKind.f64 (4620693217682128896 : Nat) (Go.K.farith Go.BinOp.mul Go.FloatKind.f64 x15 x17))
                                                        (4618760256179416344 : Nat))))))
                                              (K
                                                (Go.K.farith Go.BinOp.sub Go.FloatKind.f64 (4602678819172646912 : Nat)
                                                  (Go.K.farith Go.BinOp.sub Go.FloatKind.f64 (4598175219545276416 : Nat)
                                                    (Go.K.farith Go.BinOp.quo Go.FloatKind.f64
                                                      (Go.K.farith Go.BinOp.mul Go.FloatKind.f64 (4620693217682128896 : Nat) (Go.K.farith Go.BinOp.mul Go.FloatKind.f64 x15 x17))
                                                      (4618760256179416344 : Nat))))))
                                            (Go.K.ifB (Go.K.flt Go.FloatKind.f64 a1 (0 : Nat))
                                              (K
                                                (Go.K.fneg Go.FloatKind.f64
                                                  (Go.K.farith Go.BinOp.sub Go.FloatKind.f64 (4598175219545276416 : Nat)
                                                    (Go.K.farith Go.BinOp.quo Go.FloatKind.f64
                                                      (Go.K.farith Go.BinOp.mul Go.FloatKind.f64 (4620693217682128896 : Nat) (Go.K.farith Go.BinOp.mul Go.FloatKind.f64 x15 x17))
                                                      (4618760256179416344 : Nat)))))
                                              (K
                                                (Go.K.farith Go.BinOp.sub Go.FloatKind.f64 (4598175219545276416 : Nat)
                                                  (Go.K.farith Go.BinOp.quo Go.FloatKind.f64
                                                    (Go.K.farith Go.BinOp.mul Go.FloatKind.f64 (4620693217682128896 : Nat) (Go.K.farith Go.BinOp.mul Go.FloatKind.f64 x15 x17))
                                                    (4618760256179416344 : Nat))))))
                                          (Go.K.ifB (Go.K.flt Go.FloatKind.f64 a2 (0 : Nat))
                                            (Go.K.ifB (Go.K.flt Go.FloatKind.f64 a1 (0 : Nat))
                                              (K
                                                (Go.K.fneg Go.FloatKind.f64
                                                  (Go.K.farith Go.BinOp.sub Go.FloatKind.f64 (4602678819172646912 : Nat)
                                                    (Go.K.farith Go.BinOp.quo Go.FloatKind.f64
                                                      (Go.K.farith Go.BinOp.mul Go.FloatKind.f64 (4620693217682128896 : Nat) (Go.K.farith Go.BinOp.mul Go.FloatKind.f64 x15 x17))
                                                      (4618760256179416344 : Nat)))))
                                              (K
                                                (Go.K.farith Go.BinOp.sub Go.FloatKind.f64 (4602678819172646912 : Nat)
                                                  (Go.K.farith Go.BinOp.quo Go.FloatKind.f64
                                                    (Go.K.farith Go.BinOp.mul Go.FloatKind.f64 (4620693217682128896 : Nat) (Go.K.farith Go.BinOp.mul Go.FloatKind.f64 x15 x17))
                                                    (4618760256179416344 : Nat)))))
                                            (Go.K.ifB (Go.K.flt Go.FloatKind.f64 a1 (0 : Nat))
                                              (K
                                                (Go.K.fneg Go.FloatKind.f64
                                                  (Go.K.farith Go.BinOp.quo Go.FloatKind.f64
                                                    (Go.K.farith Go.BinOp.mul Go.FloatKind.f64 (4620693217682128896 : Nat) (Go.K.farith Go.BinOp.mul Go.FloatKind.f64 x15 x17))
                                                    (4618760256179416344 : Nat))))
                                              (K
                                                (Go.K.farith Go.BinOp.quo Go.FloatKind.f64
                                                  (Go.K.farith Go.BinOp.mul Go.FloatKind.f64 (4620693217682128896 : Nat) (Go.K.farith Go.BinOp.mul Go.FloatKind.f64 x15 x17))
                                                  (4618760256179416344 : Nat)))))) →
                                      J13 x14 x15 x16 x17 x18) →
                                  J13 x9 x10 (Go.K.farith Go.BinOp.mul Go.FloatKind.f64 x10 x10) (0 : Nat) (15 : Int)) →
                            J8 x9 x10 x11) →
                        J8 x6 x7 (0 : Int)) →
                    J5 x6 x7) →
                Go.K.ifB (Go.K.fgt Go.FloatKind.f64 y3 y4) (J5 (Go.K.fgt Go.FloatKind.f64 y3 y4) (Go.K.farith Go.BinOp.quo Go.FloatKind.f64 y4 y3))
                  (J5 (Go.K.fgt Go.FloatKind.f64 y3 y4) (Go.K.farith Go.BinOp.quo Go.FloatKind.f64 y3 y4))))
      (w_math_Abs a1 fun y25 =>
        w_math_Abs a2 fun y26 =>
          ∀ (J27 : Bool → Nat → Prop),
            (∀ (x28 : Bool) (x29 : Nat),
                (∀ (J30 : Bool → Nat → Int → Prop),
                    (∀ (x31 : Bool) (x32 : Nat) (x33 : Int),
                        Go.K.ifB (Decidable.decide (x33 < (3 : Int)))
                            (w_math_Sqrt (Go.K.farith Go.BinOp.add Go.FloatKind.f64 (4607182418800017408 : Nat) (Go.K.farith Go.BinOp.mul Go.FloatKind.f64 x32 x32))
                              fun y34 =>
                              J30 x31 (Go.K.farith Go.BinOp.quo Go.FloatKind.f64 x32 (Go.K.farith Go.BinOp.add Go.FloatKind.f64 (4607182418800017408 : Nat) y34))
                                (Go.IntKind.wrap Go.IntKind.i64 (x33 + (1 : Int))))
                            (∀ (J35 : Bool → Nat → Nat → Nat → Int → Prop),
                              (∀ (x36 : Bool) (x37 x38 x39 : Nat) (x40 : Int),
                                  Go.K.ifB (Decidable.decide (x40 ≥ (1 : Int)))
                                      (J35 x36 x37 x38
                                        (Go.K.farith Go.BinOp.sub Go.FloatKind.f64
                                          (Go.K.farith Go.BinOp.quo Go.FloatKind.f64 (4607182418800017408 : Nat) (Go.K.fofint Go.FloatKind.f64 x40))
                                          (Go.K.farith Go.BinOp.mul Go.FloatKind.f64 x38 x39))
                                        (Go.IntKind.wrap Go.IntKind.i64 (x40 - (2 : Int))))
                                      (Go.K.ifB x36
                                        (Go.K.ifB (Go.K.flt Go.FloatKind.f64 a2 (0 : Nat))
                                          (Go.K.ifB (Go.K.flt Go.FloatKind.f64 a1 (0 : Nat))
                                            (K
                                              (Go.K.fneg Go.FloatKind.f64
                                                (Go.K.farith Go.BinOp.sub Go.FloatKind.f64 (4602678819172646912 : Nat)
                                                  (Go.K.farith Go.BinOp.sub Go.FloatKind.f64 (4598175219545276416 : Nat)
                                                    (Go.K.farith Go.BinOp.quo Go.FloatKind.f64
                                                      (Go.K.farith Go.BinOp.mul Go.FloatKind.f64 (4620693217682128896 : Nat) (Go.K.farith Go.BinOp.mul Go.FloatKind.f64 x37 x39))
                                                      (4618760256179416344 : Nat))))))
                                            (K
                                              (Go.K.farith Go.BinOp.sub Go.FloatKind.f64 (4602678819172646912 : Nat)
                                                (Go.K.farith Go.BinOp.sub Go.FloatKind.f64 (4598175219545276416 : Nat)
                                                  (Go.K.farith Go.BinOp.quo Go.FloatKind.f64
                                                    (Go.K.farith Go.BinOp.mul Go.FloatKind.f64 (4620693217682128896 : Nat) (Go.K.farith Go.BinOp.mul Go.FloatKind.f64 x37 x39))
                                                    (4618760256179416344 : Nat))))))
                                          (Go.K.ifB (Go.K.flt Go.FloatKind.f64 a1 (0 : Nat))
                                            (K
                                              (Go.K.fneg Go.FloatKind.f64
                                                (Go.K.farith Go.BinOp.sub Go.FloatKind.f64 (4598175219545276416 : Nat)
                                                  (Go.K.farith Go.BinOp.quo Go.FloatKind.f64
                                                    (Go.K.farith Go.BinOp.mul Go.FloatKind.f64 (4620693217682128896 : Nat) (Go.K.farith Go.BinOp.mul Go.FloatKind.f64 x37 x39))
                                                    (4618760256179416344 : Nat)))))
                                            (K
                                              (Go.K.farith Go.BinOp.sub Go.FloatKind.f64 (4598175219545276416 : Nat)
                                                (Go.K.farith Go.BinOp.quo Go.FloatKind.f64
                                                  (Go.K.farith Go.BinOp.mul Go.FloatKind.f64 (4620693217682128896 : Nat) (Go.K.farith Go.BinOp.mul Go.FloatKind.f64 x37 x39))
                                                  (4618760256179416344 : Nat))))))
                                        (Go.K.ifB (Go.K.flt Go.FloatKind.f64 a2 (0 : Nat))
                                          (Go.K.ifB (Go.K.flt Go.FloatKind.f64 a1 (0 : Nat))
                                            (K
                                              (Go.K.fneg Go.FloatKind.f64
                                                (Go.K.farith Go.BinOp.sub Go.FloatKind.f64 (4602678819172646912 : Nat)
                                                  (Go.K.farith Go.BinOp.quo Go.FloatKind.f64
                                                    (Go.K.farith Go.BinOp.mul Go.FloatKind.f64 (4620693217682128896 : Nat) (Go.K.farith Go.BinOp.mul Go.FloatKind.f64 x37 x39))
                                                    (4618760256179416344 : Nat)))))
                                            (K
                                              (Go.K.farith Go.BinOp.sub Go.FloatKind.f64 (4602678819172646912 : Nat)
                                                (Go.K.farith Go.BinOp.quo Go.FloatKind.f64
                                                  (Go.K.farith Go.BinOp.mul Go.FloatKind.f64 (4620693217682128896 : Nat) (Go.K.farith Go.BinOp.mul Go.FloatKind.f64 x37 x39))
                                                  (4618760256179416344 : Nat)))))
                                          (Go.K.ifB (Go.K.flt Go.FloatKind.f64 a1 (0 : Nat))
                                            (K
                                              (Go.K.fneg Go.FloatKind.f64
                                                (Go.K.farith Go.BinOp.quo Go.FloatKind.f64
                                                  (Go.K.farith Go.BinOp.mul Go.FloatKind.f64 (4620693217682128896 : Nat) (Go.K.farith Go.BinOp.mul Go.FloatKind.f64 x37 x39))
                                                  (4618760256179416344 : Nat))))
                                            (K
                                              (Go.K.farith Go.BinOp.quo Go.FloatKind.f64
                                                (Go.K.farith Go.BinOp.mul Go.FloatKind.f64 (4620693217682128896 : Nat) (Go.K.farith Go.BinOp.mul Go.FloatKind.f64 x37 x39))
                                                (4618760256179416344 : Nat)))))) →
                                    J35 x36 x37 x38 x39 x40) →
                                J35 x31 x32 (Go.K.farith Go.BinOp.mul Go.FloatKind.f64 x32 x32) (0 : Nat) (15 : Int)) →
                          J30 x31 x32 x33) →
                      J30 x28 x29 (0 : Int)) →
                  J27 x28 x29) →
              Go.K.ifB (Go.K.fgt Go.FloatKind.f64 y25 y26) (J27 (Go.K.fgt Go.FloatKind.f64 y25 y26) (Go.K.farith Go.BinOp.quo Go.FloatKind.f64 y26 y25))
                (J27 (Go.K.fgt Go.FloatKind.f64 y25 y26) (Go.K.farith Go.BinOp.quo Go.FloatKind.f64 y25 y26)))))) := by kernel_rfl
theorem spec_l01AngleWide.eq (a1 : Nat) (a2 : Nat) (K : Nat → Prop) : spec_l01AngleWide.wp a1 a2 K =
  (Go.K.ifB (Go.K.fne Go.FloatKind.f64 (Go.K.farith Go.BinOp.sub Go.FloatKind.f64 a1 a1) (0 : Nat)) (Go.K.heights.math_NaN.wp fun y1 => K y1)
  (Go.K.ifB (Go.K.fne Go.FloatKind.f64 (Go.K.farith Go.BinOp.sub Go.FloatKind.f64 a2 a2) (0 : Nat)) (Go.K.heights.math_NaN.wp fun y2 => K y2)
    (Go.K.ifB (Go.K.feq Go.FloatKind.f64 a2 (0 : Nat))
      (Go.K.ifB (Go.K.feq Go.FloatKind.f64 a1 (0 : Nat)) (K (0 : Nat))
        (Go.K.heights.math_Abs.wp a1 fun y3 =>
          Go.K.heights.math_Abs.wp a2 fun y4 =>
            ∀ (J5 : Bool → Nat → Prop),
              (∀ (x6 : Bool) (x7 : Nat),
                  (∀ (J8 : Bool → Nat → Int → Prop),
                      (∀ (x9 : Bool) (x10 : Nat) (x11 : Int),
                          Go.K.ifB (Decidable.decide (x11 < (3 : Int)))
                              (Go.K.heights.math_Sqrt.wp (Go.K.farith Go.BinOp.add Go.FloatKind.f64 (4607182418800017408 : Nat) (Go.K.farith Go.BinOp.mul Go.FloatKind.f64 x10 x10))
                                fun y12 =>
                                J8 x9 (Go.K.farith Go.BinOp.quo Go.FloatKind.f64 x10 (Go.K.farith Go.BinOp.add Go.FloatKind.f64 (4607182418800017408 : Nat) y12))
                                  (Go.IntKind.wrap Go.IntKind.i64 (x11 + (1 : Int))))
                              (∀ (J13 : Bool → Nat → Nat → Nat → Int → Prop),
                                (∀ (x14 : Bool) (x15 x16 x17 : Nat) (x18 : Int),
                                    Go.K.ifB (Decidable.decide (x18 ≥ (1 : Int)))
                                        (J13 x14 x15 x16
                                          (Go.K.farith Go.BinOp.sub Go.FloatKind.f64
                                            (Go.K.farith Go.BinOp.quo Go.FloatKind.f64 (4607182418800017408 : Nat) (Go.K.fofint Go.FloatKind.f64 x18))
                                            (Go.K.farith Go.BinOp.mul Go.FloatKind.f64 x16 x17))
                                          (Go.IntKind.wrap Go.IntKind.i64 (x18 - (2 : Int))))
                                        (Go.K.ifB x14
                                          (Go.K.ifB (Go.K.flt Go.FloatKind.f64 a2 (0 : Nat))
                                            (Go.K.ifB (Go.K.flt Go.FloatKind.f64 a1 (0 : Nat))
                                              (K
                                                (Go.K.fneg Go.FloatKind.f64
                                                  (Go.K.farith Go.BinOp.sub Go.FloatKind.f64 (4602678819172646912 : Nat)
                                                    (Go.K.farith Go.BinOp.sub Go.FloatKind.f64 (4598175219545276416 : Nat)
                                                      (Go.K.farith Go.BinOp.quo Go.FloatKind.f64
                                                        (Go.K.farith Go.BinOp.mul Go.FloatKind.f64 (4620693217682128896 : Nat) (Go.K.farith Go.BinOp.mul Go.FloatKind.f64 x15 x17))
                                                        (4618760256179416344 : Nat))))))
                                              (K
                                                (Go.K.farith Go.BinOp.sub Go.FloatKind.f64 (4602678819172646912 : Nat)
                                                  (Go.K.farith Go.BinOp.sub Go.FloatKind.f64 (4598175219545276416 : Nat)
                                                    (Go.K.farith Go.BinOp.quo Go.FloatKind.f64
                                                      (Go.K.farith Go.BinOp.mul Go.FloatKind.f64 (4620693217682128896 : Nat) (Go.K.farith Go.BinOp.mul Go.FloatKind.f64 x15 x17))
                                                      (4618760256179416344 : Nat))))))
                                            (Go.K.ifB (Go.K.flt Go.FloatKind.f64 a1 (0 : Nat))
                                              (K
                                                (Go.K.fneg Go.FloatKind.f64
                                                  (Go.K.farith Go.BinOp.sub Go.FloatKind.f64 (4598175219545276416 : Nat)
                                                    (Go.K.farith Go.BinOp.quo Go.FloatKind.f64
                                                      (Go.K.farith Go.BinOp.mul Go.FloatKind.f64 (4620693217682128896 : Nat) (Go.K.farith Go.BinOp.mul Go.FloatKind.f64 x15 x17))
                                                      (4618760256179416344 : Nat)))))
                                              (K
                                                (Go.K.farith Go.BinOp.sub Go.FloatKind.f64 (4598175219545276416 : Nat)
                                                  (Go.K.farith Go.BinOp.quo Go.FloatKind.f64
                                                    (Go.K.farith Go.BinOp.mul Go.FloatKind.f64 (4620693217682128896 : Nat) (Go.K.farith Go.BinOp.mul Go.FloatKind.f64 x15 x17))
                                                    (4618760256179416344 : Nat))))))
                                          (Go.K.ifB (Go.K.flt Go.FloatKind.f64 a2 (0 : Nat))
                                            (Go.K.ifB (Go.K.flt Go.FloatKind.f64 a1 (0 : Nat))
                                              (K
                                                (Go.K.fneg Go.FloatKind.f64
                                                  (Go.K.farith Go.BinOp.sub Go.FloatKind.f64 (4602678819172646912 : Nat)
                                                    (Go.K.farith Go.BinOp.quo Go.FloatKind.f64
                                                      (Go.K.farith Go.BinOp.mul Go.FloatKind.f64 (4620693217682128896 : Nat) (Go.K.farith Go.BinOp.mul Go.FloatKind.f64 x15 x17))
                                                      (4618760256179416344 : Nat)))))
                                              (K
                                                (Go.K.farith Go.BinOp.sub Go.FloatKind.f64 (4602678819172646912 : Nat)
                                                  (Go.K.farith Go.BinOp.quo Go.FloatKind.f64
                                                    (Go.K.farith Go.BinOp.mul Go.FloatKind.f64 (4620693217682128896 : Nat) (Go.K.farith Go.BinOp.mul Go.FloatKind.f64 x15 x17))
                                                    (4618760256179416344 : Nat)))))
                                            (Go.K.ifB (Go.K.flt Go.FloatKind.f64 a1 (0 : Nat))
                                              (K
                                                (Go.K.fneg Go.FloatKind.f64
                                                  (Go.K.farith Go.BinOp.quo Go.FloatKind.f64
                                                    (Go.K.farith Go.BinOp.mul Go.FloatKind.f64 (4620693217682128896 : Nat) (Go.K.farith Go.BinOp.mul Go.FloatKind.f64 x15 x17))
                                                    (4618760256179416344 : Nat))))
                                              (K
                                                (Go.K.farith Go.BinOp.quo Go.FloatKind.f64
                                                  (Go.K.farith Go.BinOp.mul Go.FloatKind.f64 (4620693217682128896 : Nat) (Go.K.farith Go.BinOp.mul Go.FloatKind.f64 x15 x17))
                                                  (4618760256179416344 : Nat)))))) →
                                      J13 x14 x15 x16 x17 x18) →
                                  J13 x9 x10 (Go.K.farith Go.BinOp.mul Go.FloatKind.f64 x10 x10) (0 : Nat) (15 : Int)) →
                            J8 x9 x10 x11) →
                        J8 x6 x7 (0 : Int)) →
                    J5 x6 x7) →
                Go.K.ifB (Go.K.fgt Go.FloatKind.f64 y3 y4) (J5 (Go.K.fgt Go.FloatKind.f64 y3 y4) (Go.K.farith Go.BinOp.quo Go.FloatKind.f64 y4 y3))
                  (J5 (Go.K.fgt Go.FloatKind.f64 y3 y4) (Go.K.farith Go.BinOp.quo Go.FloatKind.f64 y3 y4))))
      (Go.K.heights.math_Abs.wp a1 fun y25 =>
        Go.K.heights.math_Abs.wp a2 fun y26 =>
          ∀ (J27 : Bool → Nat → Prop),
            (∀ (x28 : Bool) (x29 : Nat),
                (∀ (J30 : Bool → Nat → Int → Prop),
                    (∀ (x31 : Bool) (x32 : Nat) (x33 : Int),
                        Go.K.ifB (Decidable.decide (x33 < (3 : Int)))
                            (Go.K.heights.math_Sqrt.wp (Go.K.farith Go.BinOp.add Go.FloatKind.f64 (4607182418800017408 : Nat) (Go.K.farith Go.BinOp.mul Go.FloatKind.f64 x32 x32))
                              fun y34 =>
                              J30 x31 (Go.K.farith Go.BinOp.quo Go.FloatKind.f64 x32 (Go.K.farith Go.BinOp.add Go.FloatKind.f64 (4607182418800017408 : Nat) y34))
                                (Go.IntKind.wrap Go.IntKind.i64 (x33 + (1 : Int))))
                            (∀ (J35 : Bool → Nat → Nat → Nat → Int → Prop),
                              (∀ (x36 : Bool) (x37 x38 x39 : Nat) (x40 : Int),
                                  Go.K.ifB (Decidable.decide (x40 ≥ (1 : Int)))
                                      (J35 x36 x37 x38
                                        (Go.K.farith Go.BinOp.sub Go.FloatKind.f64
                                          (Go.K.farith Go.BinOp.quo Go.FloatKind.f64 (4607182418800017408 : Nat) (Go.K.fofint Go.FloatKind.f64 x40))
                                          (Go.K.farith Go.BinOp.mul Go.FloatKind.f64 x38 x39))
                                        (Go.IntKind.wrap Go.IntKind.i64 (x40 - (2 : Int))))
                                      (Go.K.ifB x36
                                        (Go.K.ifB (Go.K.flt Go.FloatKind.f64 a2 (0 : Nat))
                                          (Go.K.ifB (Go.K.flt Go.FloatKind.f64 a1 (0 : Nat))
                                            (K
                                              (Go.K.fneg Go.FloatKind.f64
                                                (Go.K.farith Go.BinOp.sub Go.FloatKind.f64 (4602678819172646912 : Nat)
                                                  (Go.K.farith Go.BinOp.sub Go.FloatKind.f64 (4598175219545276416 : Nat)
                                                    (Go.K.farith Go.BinOp.quo Go.FloatKind.f64
                                                      (Go.K.farith Go.BinOp.mul Go.FloatKind.f64 (4620693217682128896 : Nat) (Go.K.farith Go.BinOp.mul Go.FloatKind.f64 x37 x39))
                                                      (4618760256179416344 : Nat))))))
                                            (K
                                              (Go.K.farith Go.BinOp.sub Go.FloatKind.f64 (4602678819172646912 : Nat)
                                                (Go.K.farith Go.BinOp.sub Go.FloatKind.f64 (4598175219545276416 : Nat)
                                                  (Go.K.farith Go.BinOp.quo Go.FloatKind.f64
                                                    (Go.K.farith Go.BinOp.mul Go.FloatKind.f64 (4620693217682128896 : Nat) (Go.K.farith Go.BinOp.mul Go.FloatKind.f64 x37 x39))
                                                    (4618760256179416344 : Nat))))))
                                          (Go.K.ifB (Go.K.flt Go.FloatKind.f64 a1 (0 : Nat))
                                            (K
                                              (Go.K.fneg Go.FloatKind.f64
                                                (Go.K.farith Go.BinOp.sub Go.FloatKind.f64 (4598175219545276416 : Nat)
                                                  (Go.K.farith Go.BinOp.quo Go.FloatKind.f64
                                                    (Go.K.farith Go.BinOp.mul Go.FloatKind.f64 (4620693217682128896 : Nat) (Go.K.farith Go.BinOp.mul Go.FloatKind.f64 x37 x39))
                                                    (4618760256179416344 : Nat)))))
                                            (K
                                              (Go.K.farith Go.BinOp.sub Go.FloatKind.f64 (4598175219545276416 : Nat)
                                                (Go.K.farith Go.BinOp.quo Go.FloatKind.f64
                                                  (Go.K.farith Go.BinOp.mul Go.FloatKind.f64 (4620693217682128896 : Nat) (Go.K.farith Go.BinOp.mul Go.FloatKind.f64 x37 x39))
                                                  (4618760256179416344 : Nat))))))
                                        (Go.K.ifB (Go.K.flt Go.FloatKind.f64 a2 (0 : Nat))
                                          (Go.K.ifB (Go.K.flt Go.FloatKind.f64 a1 (0 : Nat))
                                            (K
                                              (Go.K.fneg Go.FloatKind.f64
                                                (Go.K.farith Go.BinOp.sub Go.FloatKind.f64 (4602678819172646912 : Nat)
                                                  (Go.K.farith Go.BinOp.quo Go.FloatKind.f64
                                                    (Go.K.farith Go.BinOp.mul Go.FloatKind.f64 (4620693217682128896 : Nat) (Go.K.farith Go.BinOp.mul Go.FloatKind.f64 x37 x39))
                                                    (4618760256179416344 : Nat)))))
                                            (K
                                              (Go.K.farith Go.BinOp.sub Go.FloatKind.f64 (4602678819172646912 : Nat)
                                                (Go.K.farith Go.BinOp.quo Go.FloatKind.f64
                                                  (Go.K.farith Go.BinOp.mul Go.FloatKind.f64 (4620693217682128896 : Nat) (Go.K.farith Go.BinOp.mul Go.FloatKind.f64 x37 x39))
                                                  (4618760256179416344 : Nat)))))
                                          (Go.K.ifB (Go.K.flt Go.FloatKind.f64 a1 (0 : Nat))
                                            (K
                                              (Go.K.fneg Go.FloatKind.f64
                                                (Go.K.farith Go.BinOp.quo Go.FloatKind.f64
                                                  (Go.K.farith Go.BinOp.mul Go.FloatKind.f64 (4620693217682128896 : Nat) (Go.K.farith Go.BinOp.mul Go.FloatKind.f64 x37 x39))
                                                  (4618760256179416344 : Nat))))
                                            (K
                                              (Go.K.farith Go.BinOp.quo Go.FloatKind.f64
                                                (Go.K.farith Go.BinOp.mul Go.FloatKind.f64 (4620693217682128896 : Nat) (Go.K.farith Go.BinOp.mul Go.FloatKind.f64 x37 x39))
                                                (4618760256179416344 : Nat)))))) →
                                    J35 x36 x37 x38 x39 x40) →
                                J35 x31 x32 (Go.K.farith Go.BinOp.mul Go.FloatKind.f64 x32 x32) (0 : Nat) (15 : Int)) →
                          J30 x31 x32 x33) →
                      J30 x28 x29 (0 : Int)) →
                  J27 x28 x29) →
              Go.K.ifB (Go.K.fgt Go.FloatKind.f64 y25 y26) (J27 (Go.K.fgt Go.FloatKind.f64 y25 y26) (Go.K.farith Go.BinOp.quo Go.FloatKind.f64 y26 y25))
                (J27 (Go.K.fgt Go.FloatKind.f64 y25 y26) (Go.K.farith Go.BinOp.quo Go.FloatKind.f64 y25 y26)))))) := spec_l01AngleWide.tx math_NaN.wp math_Abs.wp math_Sqrt.wp a1 a2 K

theorem spec_l01Narrow.tx  (a1 : Nat) (K : Nat → Prop) : spec_l01Narrow.bd  a1 K =
  (Go.K.fitsF Go.FloatKind.f64 Go.FloatKind.f32 a1 = Bool.true ∧ K (Go.K.fconv Go.FloatKind.f64 Go.FloatKind.f32 a1)) := by kernel_rfl
theorem spec_l01Narrow.eq (a1 : Nat) (K : Nat → Prop) : spec_l01Narrow.wp a1 K =
  (Go.K.fitsF Go.FloatKind.f64 Go.FloatKind.f32 a1 = Bool.true ∧ K (Go.K.fconv Go.FloatKind.f64 Go.FloatKind.f32 a1)) := spec_l01Narrow.tx  a1 K

theorem spec_l01Angle.tx (w_spec_l01AngleWide : Nat → Nat → (Nat → Prop) → Prop) (w_spec_l01Narrow : Nat → (Nat → Prop) → Prop) (a1 : Nat) (a2 : Nat) (K : Nat → Prop) : spec_l01Angle.bd w_spec_l01AngleWide w_spec_l01Narrow a1 a2 K =
  (w_spec_l01AngleWide (Go.K.fconv Go.FloatKind.f32 Go.FloatKind.f64 a1) (Go.K.fconv Go.FloatKind.f32 Go.FloatKind.f64 a2) fun y1 =>
  w_spec_l01Narrow y1 fun y2 => K y2) := by kernel_rfl
theorem spec_l01Angle.eq (a1 : Nat) (a2 : Nat) (K : Nat → Prop) : spec_l01Angle.wp a1 a2 K =
  (Go.K.heights.spec_l01AngleWide.wp (Go.K.fconv Go.FloatKind.f32 Go.FloatKind.f64 a1) (Go.K.fconv Go.FloatKind.f32 Go.FloatKind.f64 a2) fun y1 =>
  Go.K.heights.spec_l01Narrow.wp y1 fun y2 => K y2) := spec_l01Angle.tx spec_l01AngleWide.wp spec_l01Narrow.wp a1 a2 K

theorem math_IsNaN.tx  (a1 : Nat) (K : Bool → Prop) : math_IsNaN.bd  a1 K =
  (K (Go.K.fne Go.FloatKind.f64 a1 a1)) := by kernel_rfl
theorem math_IsNaN.eq (a1 : Nat) (K : Bool → Prop) : math_IsNaN.wp a1 K =
  (K (Go.K.fne Go.FloatKind.f64 a1 a1)) := math_IsNaN.tx  a1 K

theorem math_IsInf.tx (w_math_Abs : Nat → (Nat → Prop) → Prop) (a1 : Nat) (a2 : Int) (K : Bool → Prop) : math_IsInf.bd w_math_Abs a1 a2 K =
  (Go.K.ifB (a2 == (0 : Int)) (w_math_Abs a1 fun y1 => K (Go.K.fgt Go.FloatKind.f64 y1 (9218868437227405311 : Nat)))
  (Go.K.ifB (Decidable.decide (a2 < (0 : Int))) (K (Go.K.fgt Go.FloatKind.f64 (Go.K.fneg Go.FloatKind.f64 a1) (9218868437227405311 : Nat)))
    (K (Go.K.fgt Go.FloatKind.f64 a1 (9218868437227405311 : Nat))))) := by kernel_rfl
theorem math_IsInf.eq (a1 : Nat) (a2 : Int) (K : Bool → Prop) : math_IsInf.wp a1 a2 K =
  (Go.K.ifB (a2 == (0 : Int)) (Go.K.heights.math_Abs.wp a1 fun y1 => K (Go.K.fgt Go.FloatKind.f64 y1 (9218868437227405311 : Nat)))
  (Go.K.ifB (Decidable.decide (a2 < (0 : Int))) (K (Go.K.fgt Go.FloatKind.f64 (Go.K.fneg Go.FloatKind.f64 a1) (9218868437227405311 : Nat)))
    (K (Go.K.fgt Go.FloatKind.f64 a1 (9218868437227405311 : Nat))))) := math_IsInf.tx math_Abs.wp a1 a2 K

theorem math_Copysign.tx  (a1 : Nat) (a2 : Nat) (K : Nat → Prop) : math_Copysign.bd  a1 a2 K =
  (Go.K.isNaNW Go.FloatKind.f64 a1 = Bool.false ∧
  Go.K.isNaNW Go.FloatKind.f64 a2 = Bool.false ∧
    K
      (Go.K.cF Go.FloatKind.f64
        (Int.toNat
          (Go.K.ibits Go.BinOp.or Go.IntKind.u64 (Go.K.ibits Go.BinOp.andNot Go.IntKind.u64 (↑a1 : Int) (9223372036854775808 : Int))
            (Go.K.ibits Go.BinOp.and Go.IntKind.u64 (↑a2 : Int) (9223372036854775808 : Int)))))) := by kernel_rfl
theorem math_Copysign.eq (a1 : Nat) (a2 : Nat) (K : Nat → Prop) : math_Copysign.wp a1 a2 K =
  (Go.K.isNaNW Go.FloatKind.f64 a1 = Bool.false ∧
  Go.K.isNaNW Go.FloatKind.f64 a2 = Bool.false ∧
    K
      (Go.K.cF Go.FloatKind.f64
        (Int.toNat
          (Go.K.ibits Go.BinOp.or Go.IntKind.u64 (Go.K.ibits Go.BinOp.andNot Go.IntKind.u64 (↑a1 : Int) (9223372036854775808 : Int))
            (Go.K.ibits Go.BinOp.and Go.IntKind.u64 (↑a2 : Int) (9223372036854775808 : Int)))))) := math_Copysign.tx  a1 a2 K

theorem math_trunc.tx (w_math_Abs : Nat → (Nat → Prop) → Prop) (w_math_Copysign : Nat → Nat → (Nat → Prop) → Prop) (a1 : Nat) (K : Nat → Prop) : math_trunc.bd w_math_Abs w_math_Copysign a1 K =
  (w_math_Abs a1 fun y1 =>
  Go.K.ifB (Go.K.flt Go.FloatKind.f64 y1 (4607182418800017408 : Nat)) (w_math_Copysign (0 : Nat) a1 fun y2 => K y2)
    (Go.K.isNaNW Go.FloatKind.f64 a1 = Bool.false ∧
      Go.K.ifB
        (Decidable.decide
          (Go.IntKind.wrap Go.IntKind.u64 (Go.K.ibits Go.BinOp.and Go.IntKind.u64 (Go.K.ishr Go.IntKind.u64 (↑a1 : Int) (52 : Int)) (2047 : Int) - (1023 : Int)) < (52 : Int)))
        ((0 : Int) ≤
            Go.IntKind.wrap Go.IntKind.u64
              ((52 : Int) - Go.IntKind.wrap Go.IntKind.u64 (Go.K.ibits Go.BinOp.and Go.IntKind.u64 (Go.K.ishr Go.IntKind.u64 (↑a1 : Int) (52 : Int)) (2047 : Int) - (1023 : Int))) ∧
          K
            (Go.K.cF Go.FloatKind.f64
              (Int.toNat
                (Go.K.ibits Go.BinOp.andNot Go.IntKind.u64 (↑a1 : Int)
                  (Go.IntKind.wrap Go.IntKind.u64
                    (Go.K.ishl Go.IntKind.u64 (1 : Int)
                        (Go.IntKind.wrap Go.IntKind.u64
                          ((52 : Int) -
                            Go.IntKind.wrap Go.IntKind.u64
                              (Go.K.ibits Go.BinOp.and Go.IntKind.u64 (Go.K.ishr Go.IntKind.u64 (↑a1 : Int) (52 : Int)) (2047 : Int) - (1023 : Int)))) -
                      (1 : Int)))))))
        (K (Go.K.cF Go.FloatKind.f64 (Int.toNat (↑a1 : Int)))))) := by kernel_rfl
theorem math_trunc.eq (a1 : Nat) (K : Nat → Prop) : math_trunc.wp a1 K =
  (Go.K.heights.math_Abs.wp a1 fun y1 =>
  Go.K.ifB (Go.K.flt Go.FloatKind.f64 y1 (4607182418800017408 : Nat)) (Go.K.heights.math_Copysign.wp (0 : Nat) a1 fun y2 => K y2)
    (Go.K.isNaNW Go.FloatKind.f64 a1 = Bool.false ∧
      Go.K.ifB
        (Decidable.decide
          (Go.IntKind.wrap Go.IntKind.u64 (Go.K.ibits Go.BinOp.and Go.IntKind.u64 (Go.K.ishr Go.IntKind.u64 (↑a1 : Int) (52 : Int)) (2047 : Int) - (1023 : Int)) < (52 : Int)))
        ((0 : Int) ≤
            Go.IntKind.wrap Go.IntKind.u64
              ((52 : Int) - Go.IntKind.wrap Go.IntKind.u64 (Go.K.ibits Go.BinOp.and Go.IntKind.u64 (Go.K.ishr Go.IntKind.u64 (↑a1 : Int) (52 : Int)) (2047 : Int) - (1023 : Int))) ∧
          K
            (Go.K.cF Go.FloatKind.f64
              (Int.toNat
                (Go.K.ibits Go.BinOp.andNot Go.IntKind.u64 (↑a1 : Int)
                  (Go.IntKind.wrap Go.IntKind.u64
                    (Go.K.ishl Go.IntKind.u64 (1 : Int)
                        (Go.IntKind.wrap Go.IntKind.u64
                          ((52 : Int) -
                            Go.IntKind.wrap Go.IntKind.u64
                              (Go.K.ibits Go.BinOp.and Go.IntKind.u64 (Go.K.ishr Go.IntKind.u64 (↑a1 : Int) (52 : Int)) (2047 : Int) - (1023 : Int)))) -
                      (1 : Int)))))))
        (K (Go.K.cF Go.FloatKind.f64 (Int.toNat (↑a1 : Int)))))) := math_trunc.tx math_Abs.wp math_Copysign.wp a1 K

theorem math_Trunc.tx (w_math_trunc : Nat → (Nat → Prop) → Prop) (a1 : Nat) (K : Nat → Prop) : math_Trunc.bd w_math_trunc a1 K =
  (K (Go.K.fwhole Ieee.Toward.zero a1)) := by kernel_rfl
theorem math_Trunc.eq (a1 : Nat) (K : Nat → Prop) : math_Trunc.wp a1 K =
  (K (Go.K.fwhole Ieee.Toward.zero a1)) := math_Trunc.tx math_trunc.wp a1 K

theorem math_Modf.tx (w_math_Trunc : Nat → (Nat → Prop) → Prop) (w_math_Copysign : Nat → Nat → (Nat → Prop) → Prop) (a1 : Nat) (K : Nat → Nat → Prop) : math_Modf.bd w_math_Trunc w_math_Copysign a1 K =
  (w_math_Trunc a1 fun y1 => w_math_Copysign (Go.K.farith Go.BinOp.sub Go.FloatKind.f64 a1 y1) a1 fun y2 => K y1 y2) := by kernel_rfl
theorem math_Modf.eq (a1 : Nat) (K : Nat → Nat → Prop) : math_Modf.wp a1 K =
  (Go.K.heights.math_Trunc.wp a1 fun y1 => Go.K.heights.math_Copysign.wp (Go.K.farith Go.BinOp.sub Go.FloatKind.f64 a1 y1) a1 fun y2 => K y1 y2) := math_Modf.tx math_Trunc.wp math_Copysign.wp a1 K

theorem math_floor.tx (w_math_IsNaN : Nat → (Bool → Prop) → Prop) (w_math_IsInf : Nat → Int → (Bool → Prop) → Prop) (w_math_Modf : Nat → (Nat → Nat → Prop) → Prop) (a1 : Nat) (K : Nat → Prop) : math_floor.bd w_math_IsNaN w_math_IsInf w_math_Modf a1 K =
  (Go.K.ifB (Go.K.feq Go.FloatKind.f64 a1 (0 : Nat)) (K a1)
  (w_math_IsNaN a1 fun y1 =>
    Go.K.ifB y1 (K a1)
      (w_math_IsInf a1 (0 : Int) fun y2 =>
        Go.K.ifB y2 (K a1)
          (Go.K.ifB (Go.K.flt Go.FloatKind.f64 a1 (0 : Nat))
            (w_math_Modf (Go.K.fneg Go.FloatKind.f64 a1) fun y3 y4 =>
              Go.K.ifB (Go.K.fne Go.FloatKind.f64 y4 (0 : Nat)) (K (Go.K.fneg Go.FloatKind.f64 (Go.K.farith Go.BinOp.add Go.FloatKind.f64 y3 (4607182418800017408 : Nat))))
                (K (Go.K.fneg Go.FloatKind.f64 y3)))
            (w_math_Modf a1 fun y5 y6 => K y5))))) := by kernel_rfl
theorem math_floor.eq (a1 : Nat) (K : Nat → Prop) : math_floor.wp a1 K =
  (Go.K.ifB (Go.K.feq Go.FloatKind.f64 a1 (0 : Nat)) (K a1)
  (Go.K.heights.math_IsNaN.wp a1 fun y1 =>
    Go.K.ifB y1 (K a1)
      (Go.K.heights.math_IsInf.wp a1 (0 : Int) fun y2 =>
        Go.K.ifB y2 (K a1)
          (Go.K.ifB (Go.K.flt Go.FloatKind.f64 a1 (0 : Nat))
            (Go.K.heights.math_Modf.wp (Go.K.fneg Go.FloatKind.f64 a1) fun y3 y4 =>
              Go.K.ifB (Go.K.fne Go.FloatKind.f64 y4 (0 : Nat)) (K (Go.K.fneg Go.FloatKind.f64 (Go.K.farith Go.BinOp.add Go.FloatKind.f64 y3 (4607182418800017408 : Nat))))
                (K (Go.K.fneg Go.FloatKind.f64 y3)))
            (Go.K.heights.math_Modf.wp a1 fun y5 y6 => K y5))))) := math_floor.tx math_IsNaN.wp math_IsInf.wp math_Modf.wp a1 K

theorem math_Floor.tx (w_math_floor : Nat → (Nat → Prop) → Prop) (a1 : Nat) (K : Nat → Prop) : math_Floor.bd w_math_floor a1 K =
  (K (Go.K.fwhole Ieee.Toward.down a1)) := by kernel_rfl
theorem math_Floor.eq (a1 : Nat) (K : Nat → Prop) : math_Floor.wp a1 K =
  (K (Go.K.fwhole Ieee.Toward.down a1)) := math_Floor.tx math_floor.wp a1 K

theorem spec_l05Is.tx (w_spec_l00In : Int → Int → Int → (Bool → Prop) → Prop) (w_spec_l05Size : Int → Int → (Bool → Prop) → Prop) (a1 : Int) (a2 : Int) (a3 : List Int) (K : Bool → Prop) : spec_l05Is.bd w_spec_l00In w_spec_l05Size a1 a2 a3 K =
  (∀ (J1 : Int → Int → Prop),
  (∀ (x2 x3 : Int),
      Go.K.ifB (Decidable.decide (x3 < x2))
          (((0 : Int) ≤ x3 ∧ x3 < (↑(List.length a3) : Int)) ∧
            w_spec_l00In (List.getD a3 (Int.toNat x3) (0 : Int)) (0 : Int) (1000 : Int) fun y4 =>
              Go.K.ifB (!y4) (K Bool.false) (J1 x2 (Go.IntKind.wrap Go.IntKind.i64 (x3 + (1 : Int)))))
          (w_spec_l05Size a1 a2 fun y5 => Go.K.ifB y5 (K ((↑(List.length a3) : Int) == Go.IntKind.wrap Go.IntKind.i64 (a1 * a2))) (K Bool.false)) →
        J1 x2 x3) →
    J1 (↑(List.length a3) : Int) (0 : Int)) := by kernel_rfl
theorem spec_l05Is.eq (a1 : Int) (a2 : Int) (a3 : List Int) (K : Bool → Prop) : spec_l05Is.wp a1 a2 a3 K =
  (∀ (J1 : Int → Int → Prop),
  (∀ (x2 x3 : Int),
      Go.K.ifB (Decidable.decide (x3 < x2))
          (((0 : Int) ≤ x3 ∧ x3 < (↑(List.length a3) : Int)) ∧
            Go.K.heights.spec_l00In.wp (List.getD a3 (Int.toNat x3) (0 : Int)) (0 : Int) (1000 : Int) fun y4 =>
              Go.K.ifB (!y4) (K Bool.false) (J1 x2 (Go.IntKind.wrap Go.IntKind.i64 (x3 + (1 : Int)))))
          (Go.K.heights.spec_l05Size.wp a1 a2 fun y5 => Go.K.ifB y5 (K ((↑(List.length a3) : Int) == Go.IntKind.wrap Go.IntKind.i64 (a1 * a2))) (K Bool.false)) →
        J1 x2 x3) →
    J1 (↑(List.length a3) : Int) (0 : Int)) := spec_l05Is.tx spec_l00In.wp spec_l05Size.wp a1 a2 a3 K

theorem spec_l05Give.tx (w_spec_l05Is : Int → Int → List Int → (Bool → Prop) → Prop) (a1 : List Int) (a2 : Int) (a3 : Int) (K : List Int → Int → Int → Bool → Prop) : spec_l05Give.bd w_spec_l05Is a1 a2 a3 K =
  (w_spec_l05Is a2 a3 a1 fun y1 => Go.K.ifB (!y1) (K [] (0 : Int) (0 : Int) Bool.false) (K a1 a2 a3 Bool.true)) := by kernel_rfl
theorem spec_l05Give.eq (a1 : List Int) (a2 : Int) (a3 : Int) (K : List Int → Int → Int → Bool → Prop) : spec_l05Give.wp a1 a2 a3 K =
  (Go.K.heights.spec_l05Is.wp a2 a3 a1 fun y1 => Go.K.ifB (!y1) (K [] (0 : Int) (0 : Int) Bool.false) (K a1 a2 a3 Bool.true)) := spec_l05Give.tx spec_l05Is.wp a1 a2 a3 K

theorem spec_ScrewHeights.tx (w_spec_l05Size : Int → Int → (Bool → Prop) → Prop) (w_spec_l00In : Int → Int → Int → (Bool → Prop) → Prop) (w_spec_l01Angle : Nat → Nat → (Nat → Prop) → Prop) (w_math_Floor : Nat → (Nat → Prop) → Prop) (w_spec_l05Give : List Int → Int → Int → (List Int → Int → Int → Bool → Prop) → Prop) (a1 : Int) (a2 : Int) (a3 : Int) (a4 : Int) (a5 : Int) (K : List Int → Int → Int → Bool → Prop) : spec_ScrewHeights.bd w_spec_l05Size w_spec_l00In w_spec_l01Angle w_math_Floor w_spec_l05Give a1 a2 a3 a4 a5 K =
  (w_spec_l05Size a1 a2 fun y1 =>
  Go.K.ifB (!y1) (K [] (0 : Int) (0 : Int) Bool.false)
    (w_spec_l00In a3 (0 : Int) (Go.IntKind.wrap Go.IntKind.i64 (a1 - (1 : Int))) fun y2 =>
      Go.K.ifB (!y2) (K [] (0 : Int) (0 : Int) Bool.false)
        (w_spec_l00In a4 (0 : Int) (Go.IntKind.wrap Go.IntKind.i64 (a2 - (1 : Int))) fun y3 =>
          Go.K.ifB (!y3) (K [] (0 : Int) (0 : Int) Bool.false)
            (w_spec_l00In a5 (1 : Int) (100 : Int) fun y4 =>
              Go.K.ifB (!y4) (K [] (0 : Int) (0 : Int) Bool.false)
                (∀ (J5 : Int → Int → Int → Int → List Int → List Int → Int → Prop),
                  (∀ (x6 x7 x8 x9 : Int) (x10 x11 : List Int) (x12 : Int),
                      Go.K.ifB (Decidable.decide (x12 < a2))
                          (∀ (J13 : Int → Int → Int → Int → List Int → List Int → Int → Int → Prop),
                            (∀ (x14 x15 x16 x17 : Int) (x18 x19 : List Int) (x20 x21 : Int),
                                Go.K.ifB (Decidable.decide (x21 < a1))
                                    (w_spec_l01Angle (Go.K.fofint Go.FloatKind.f32 (Go.IntKind.wrap Go.IntKind.i64 (x20 - a4)))
                                      (Go.K.fofint Go.FloatKind.f32 (Go.IntKind.wrap Go.IntKind.i64 (x21 - a3))) fun y22 =>
                                      w_math_Floor
                                        (Go.K.fconv Go.FloatKind.f32 Go.FloatKind.f64
                                          (Go.K.farith Go.BinOp.mul Go.FloatKind.f32 (Go.K.fofint Go.FloatKind.f32 a5)
                                            (Go.K.farith Go.BinOp.add Go.FloatKind.f32 y22 (1056964608 : Nat))))
                                        fun y23 =>
                                        Option.isSome (Go.K.ftoint Go.FloatKind.f64 y23 Go.IntKind.i64) = Bool.true ∧
                                          List.length (x19 ++ Option.getD (Go.K.ftoint Go.FloatKind.f64 y23 Go.IntKind.i64) (0 : Int) :: List.replicate (0 : Nat) (0 : Int)) ≤
                                              (1099511627776 : Nat) ∧
                                            J13 x14 x15 x16 x17 x18
                                              (x19 ++ Option.getD (Go.K.ftoint Go.FloatKind.f64 y23 Go.IntKind.i64) (0 : Int) :: List.replicate (0 : Nat) (0 : Int)) x20
                                              (Go.IntKind.wrap Go.IntKind.i64 (x21 + (1 : Int))))
                                    (J5 x14 x15 x16 x17 x18 x19 (Go.IntKind.wrap Go.IntKind.i64 (x20 + (1 : Int)))) →
                                  J13 x14 x15 x16 x17 x18 x19 x20 x21) →
                              J13 x6 x7 x8 x9 x10 x11 x12 (0 : Int))
                          (w_spec_l05Give x11 x8 x9 fun y26 y27 y28 y29 => K y26 y27 y28 y29) →
                        J5 x6 x7 x8 x9 x10 x11 x12) →
                    J5 (0 : Int) (0 : Int) a1 a2 [] [] (0 : Int)))))) := by kernel_rfl
theorem spec_ScrewHeights.eq (a1 : Int) (a2 : Int) (a3 : Int) (a4 : Int) (a5 : Int) (K : List Int → Int → Int → Bool → Prop) : spec_ScrewHeights.wp a1 a2 a3 a4 a5 K =
  (Go.K.heights.spec_l05Size.wp a1 a2 fun y1 =>
  Go.K.ifB (!y1) (K [] (0 : Int) (0 : Int) Bool.false)
    (Go.K.heights.spec_l00In.wp a3 (0 : Int) (Go.IntKind.wrap Go.IntKind.i64 (a1 - (1 : Int))) fun y2 =>
      Go.K.ifB (!y2) (K [] (0 : Int) (0 : Int) Bool.false)
        (Go.K.heights.spec_l00In.wp a4 (0 : Int) (Go.IntKind.wrap Go.IntKind.i64 (a2 - (1 : Int))) fun y3 =>
          Go.K.ifB (!y3) (K [] (0 : Int) (0 : Int) Bool.false)
            (Go.K.heights.spec_l00In.wp a5 (1 : Int) (100 : Int) fun y4 =>
              Go.K.ifB (!y4) (K [] (0 : Int) (0 : Int) Bool.false)
                (∀ (J5 : Int → Int → Int → Int → List Int → List Int → Int → Prop),
                  (∀ (x6 x7 x8 x9 : Int) (x10 x11 : List Int) (x12 : Int),
                      Go.K.ifB (Decidable.decide (x12 < a2))
                          (∀ (J13 : Int → Int → Int → Int → List Int → List Int → Int → Int → Prop),
                            (∀ (x14 x15 x16 x17 : Int) (x18 x19 : List Int) (x20 x21 : Int),
                                Go.K.ifB (Decidable.decide (x21 < a1))
                                    (Go.K.heights.spec_l01Angle.wp (Go.K.fofint Go.FloatKind.f32 (Go.IntKind.wrap Go.IntKind.i64 (x20 - a4)))
                                      (Go.K.fofint Go.FloatKind.f32 (Go.IntKind.wrap Go.IntKind.i64 (x21 - a3))) fun y22 =>
                                      Go.K.heights.math_Floor.wp
                                        (Go.K.fconv Go.FloatKind.f32 Go.FloatKind.f64
                                          (Go.K.farith Go.BinOp.mul Go.FloatKind.f32 (Go.K.fofint Go.FloatKind.f32 a5)
                                            (Go.K.farith Go.BinOp.add Go.FloatKind.f32 y22 (1056964608 : Nat))))
                                        fun y23 =>
                                        Option.isSome (Go.K.ftoint Go.FloatKind.f64 y23 Go.IntKind.i64) = Bool.true ∧
                                          List.length (x19 ++ Option.getD (Go.K.ftoint Go.FloatKind.f64 y23 Go.IntKind.i64) (0 : Int) :: List.replicate (0 : Nat) (0 : Int)) ≤
                                              (1099511627776 : Nat) ∧
                                            J13 x14 x15 x16 x17 x18
                                              (x19 ++ Option.getD (Go.K.ftoint Go.FloatKind.f64 y23 Go.IntKind.i64) (0 : Int) :: List.replicate (0 : Nat) (0 : Int)) x20
                                              (Go.IntKind.wrap Go.IntKind.i64 (x21 + (1 : Int))))
                                    (J5 x14 x15 x16 x17 x18 x19 (Go.IntKind.wrap Go.IntKind.i64 (x20 + (1 : Int)))) →
                                  J13 x14 x15 x16 x17 x18 x19 x20 x21) →
                              J13 x6 x7 x8 x9 x10 x11 x12 (0 : Int))
                          (Go.K.heights.spec_l05Give.wp x11 x8 x9 fun y26 y27 y28 y29 => K y26 y27 y28 y29) →
                        J5 x6 x7 x8 x9 x10 x11 x12) →
                    J5 (0 : Int) (0 : Int) a1 a2 [] [] (0 : Int)))))) := spec_ScrewHeights.tx spec_l05Size.wp spec_l00In.wp spec_l01Angle.wp math_Floor.wp spec_l05Give.wp a1 a2 a3 a4 a5 K

theorem impl_within.tx  (a1 : Int) (a2 : Int) (a3 : Int) (K : Bool → Prop) : impl_within.bd  a1 a2 a3 K =
  (Go.K.ifB (Decidable.decide (a2 ≤ a1)) (K (Decidable.decide (a1 ≤ a3))) (K Bool.false)) := by kernel_rfl
theorem impl_within.eq (a1 : Int) (a2 : Int) (a3 : Int) (K : Bool → Prop) : impl_within.wp a1 a2 a3 K =
  (Go.K.ifB (Decidable.decide (a2 ≤ a1)) (K (Decidable.decide (a1 ≤ a3))) (K Bool.false)) := impl_within.tx  a1 a2 a3 K

theorem impl_areWithin_1.tx (w_impl_within : Int → Int → Int → (Bool → Prop) → Prop) (a1 : Int) (a2 : Int) (a3 : Int) (K : Bool → Prop) : impl_areWithin_1.bd w_impl_within a1 a2 a3 K =
  (w_impl_within a3 a1 a2 fun y1 => K !y1) := by kernel_rfl
theorem impl_areWithin_1.eq (a1 : Int) (a2 : Int) (a3 : Int) (K : Bool → Prop) : impl_areWithin_1.wp a1 a2 a3 K =
  (Go.K.heights.impl_within.wp a3 a1 a2 fun y1 => K !y1) := impl_areWithin_1.tx impl_within.wp a1 a2 a3 K

theorem slices_IndexFunc_int64_int64__areWithin_1.tx (w_impl_areWithin_1 : Int → Int → Int → (Bool → Prop) → Prop) (a1 : List Int) (a2 : Int) (a3 : Int) (K : Int → Prop) : slices_IndexFunc_int64_int64__areWithin_1.bd w_impl_areWithin_1 a1 a2 a3 K =
  (∀ (J1 : Int → Int → Prop),
  (∀ (x2 x3 : Int),
      Go.K.ifB (Decidable.decide (x3 < x2))
          (((0 : Int) ≤ x3 ∧ x3 < (↑(List.length a1) : Int)) ∧
            w_impl_areWithin_1 a2 a3 (List.getD a1 (Int.toNat x3) (0 : Int)) fun y4 => Go.K.ifB y4 (K x3) (J1 x2 (Go.IntKind.wrap Go.IntKind.i64 (x3 + (1 : Int)))))
          (K (-1 : Int)) →
        J1 x2 x3) →
    J1 (↑(List.length a1) : Int) (0 : Int)) := by kernel_rfl
theorem slices_IndexFunc_int64_int64__areWithin_1.eq (a1 : List Int) (a2 : Int) (a3 : Int) (K : Int → Prop) : slices_IndexFunc_int64_int64__areWithin_1.wp a1 a2 a3 K =
  (∀ (J1 : Int → Int → Prop),
  (∀ (x2 x3 : Int),
      Go.K.ifB (Decidable.decide (x3 < x2))
          (((0 : Int) ≤ x3 ∧ x3 < (↑(List.length a1) : Int)) ∧
            Go.K.heights.impl_areWithin_1.wp a2 a3 (List.getD a1 (Int.toNat x3) (0 : Int)) fun y4 => Go.K.ifB y4 (K x3) (J1 x2 (Go.IntKind.wrap Go.IntKind.i64 (x3 + (1 : Int)))))
          (K (-1 : Int)) →
        J1 x2 x3) →
    J1 (↑(List.length a1) : Int) (0 : Int)) := slices_IndexFunc_int64_int64__areWithin_1.tx impl_areWithin_1.wp a1 a2 a3 K

theorem slices_ContainsFunc_int64_int64__areWithin_1.tx (w_slices_IndexFunc_int64_int64__areWithin_1 : List Int → Int → Int → (Int → Prop) → Prop) (a1 : List Int) (a2 : Int) (a3 : Int) (K : Bool → Prop) : slices_ContainsFunc_int64_int64__areWithin_1.bd w_slices_IndexFunc_int64_int64__areWithin_1 a1 a2 a3 K =
  (w_slices_IndexFunc_int64_int64__areWithin_1 a1 a2 a3 fun y1 => K (Decidable.decide (y1 ≥ (0 : Int)))) := by kernel_rfl
theorem slices_ContainsFunc_int64_int64__areWithin_1.eq (a1 : List Int) (a2 : Int) (a3 : Int) (K : Bool → Prop) : slices_ContainsFunc_int64_int64__areWithin_1.wp a1 a2 a3 K =
  (Go.K.heights.slices_IndexFunc_int64_int64__areWithin_1.wp a1 a2 a3 fun y1 => K (Decidable.decide (y1 ≥ (0 : Int)))) := slices_ContainsFunc_int64_int64__areWithin_1.tx slices_IndexFunc_int64_int64__areWithin_1.wp a1 a2 a3 K

theorem impl_areWithin.tx (w_slices_ContainsFunc_int64_int64__areWithin_1 : List Int → Int → Int → (Bool → Prop) → Prop) (a1 : List Int) (a2 : Int) (a3 : Int) (K : Bool → Prop) : impl_areWithin.bd w_slices_ContainsFunc_int64_int64__areWithin_1 a1 a2 a3 K =
  (w_slices_ContainsFunc_int64_int64__areWithin_1 a1 a2 a3 fun y1 => K !y1) := by kernel_rfl
theorem impl_areWithin.eq (a1 : List Int) (a2 : Int) (a3 : Int) (K : Bool → Prop) : impl_areWithin.wp a1 a2 a3 K =
  (Go.K.heights.slices_ContainsFunc_int64_int64__areWithin_1.wp a1 a2 a3 fun y1 => K !y1) := impl_areWithin.tx slices_ContainsFunc_int64_int64__areWithin_1.wp a1 a2 a3 K

theorem impl_finite.tx (w_math_IsNaN : Nat → (Bool → Prop) → Prop) (w_math_IsInf : Nat → Int → (Bool → Prop) → Prop) (a1 : Nat) (K : Bool → Prop) : impl_finite.bd w_math_IsNaN w_math_IsInf a1 K =
  (w_math_IsNaN a1 fun y1 => Go.K.ifB (!y1) (w_math_IsInf a1 (0 : Int) fun y2 => K !y2) (K Bool.false)) := by kernel_rfl
theorem impl_finite.eq (a1 : Nat) (K : Bool → Prop) : impl_finite.wp a1 K =
  (Go.K.heights.math_IsNaN.wp a1 fun y1 => Go.K.ifB (!y1) (Go.K.heights.math_IsInf.wp a1 (0 : Int) fun y2 => K !y2) (K Bool.false)) := impl_finite.tx math_IsNaN.wp math_IsInf.wp a1 K

theorem impl_IsFinite.tx (w_impl_finite : Nat → (Bool → Prop) → Prop) (a1 : Nat) (K : Bool → Prop) : impl_IsFinite.bd w_impl_finite a1 K =
  (w_impl_finite (Go.K.fconv Go.FloatKind.f32 Go.FloatKind.f64 a1) fun y1 => K y1) := by kernel_rfl
theorem impl_IsFinite.eq (a1 : Nat) (K : Bool → Prop) : impl_IsFinite.wp a1 K =
  (Go.K.heights.impl_finite.wp (Go.K.fconv Go.FloatKind.f32 Go.FloatKind.f64 a1) fun y1 => K y1) := impl_IsFinite.tx impl_finite.wp a1 K

theorem impl_angle.tx (w_math_Abs : Nat → (Nat → Prop) → Prop) (w_math_Sqrt : Nat → (Nat → Prop) → Prop) (a1 : Nat) (a2 : Nat) (K : Nat → Prop) : impl_angle.bd w_math_Abs w_math_Sqrt a1 a2 K =
  (w_math_Abs a1 fun y1 =>
  w_math_Abs a2 fun y2 =>
    ∀ (J3 : Nat → Nat → Nat → Prop),
      (∀ (x4 x5 x6 : Nat),
          (∀ (J7 : Nat → Nat → Nat → Int → Prop),
              (∀ (x8 x9 x10 : Nat) (x11 : Int),
                  Go.K.ifB (Decidable.decide (x11 < (3 : Int)))
                      (w_math_Sqrt (Go.K.farith Go.BinOp.add Go.FloatKind.f64 (4607182418800017408 : Nat) (Go.K.farith Go.BinOp.mul Go.FloatKind.f64 x10 x10))
                        fun y12 =>
                        J7 x8 x9 (Go.K.farith Go.BinOp.quo Go.FloatKind.f64 x10 (Go.K.farith Go.BinOp.add Go.FloatKind.f64 (4607182418800017408 : Nat) y12))
                          (Go.IntKind.wrap Go.IntKind.i64 (x11 + (1 : Int))))
                      (∀ (J13 : Nat → Nat → Nat → Nat → Nat → Int → Prop),
                        (∀ (x14 x15 x16 x17 x18 : Nat) (x19 : Int),
                            Go.K.ifB (Decidable.decide (x19 ≥ (1 : Int)))
                                (J13 x14 x15 x16 x17
                                  (Go.K.farith Go.BinOp.sub Go.FloatKind.f64
                                    (Go.K.farith Go.BinOp.quo Go.FloatKind.f64 (4607182418800017408 : Nat) (Go.K.fofint Go.FloatKind.f64 x19))
                                    (Go.K.farith Go.BinOp.mul Go.FloatKind.f64 x17 x18))
                                  (Go.IntKind.wrap Go.IntKind.i64 (x19 - (2 : Int))))
                                (Go.K.ifB (Go.K.fgt Go.FloatKind.f64 x14 x15)
                                  (Go.K.ifB (Go.K.flt Go.FloatKind.f64 a2 (0 : Nat))
                                    (Go.K.ifB (Go.K.flt Go.FloatKind.f64 a1 (0 : Nat))
                                      (K
                                        (Go.K.fneg Go.FloatKind.f64
                                          (Go.K.farith Go.BinOp.sub Go.FloatKind.f64 (4602678819172646912 : Nat)
                                            (Go.K.farith Go.BinOp.sub Go.FloatKind.f64 (4598175219545276416 : Nat)
                                              (Go.K.farith Go.BinOp.quo Go.FloatKind.f64
                                                (Go.K.farith Go.BinOp.mul Go.FloatKind.f64 (4620693217682128896 : Nat) (Go.K.farith Go.BinOp.mul Go.FloatKind.f64 x16 x18))
                                                (4618760256179416344 : Nat))))))
                                      (K
                                        (Go.K.farith Go.BinOp.sub Go.FloatKind.f64 (4602678819172646912 : Nat)
                                          (Go.K.farith Go.BinOp.sub Go.FloatKind.f64 (4598175219545276416 : Nat)
                                            (Go.K.farith Go.BinOp.quo Go.FloatKind.f64
                                              (Go.K.farith Go.BinOp.mul Go.FloatKind.f64 (4620693217682128896 : Nat) (Go.K.farith Go.BinOp.mul Go.FloatKind.f64 x16 x18))
                                              (4618760256179416344 : Nat))))))
                                    (Go.K.ifB (Go.K.flt Go.FloatKind.f64 a1 (0 : Nat))
                                      (K
                                        (Go.K.fneg Go.FloatKind.f64
                                          (Go.K.farith Go.BinOp.sub Go.FloatKind.f64 (4598175219545276416 : Nat)
                                            (Go.K.farith Go.BinOp.quo Go.FloatKind.f64
                                              (Go.K.farith Go.BinOp.mul Go.FloatKind.f64 (4620693217682128896 : Nat) (Go.K.farith Go.BinOp.mul Go.FloatKind.f64 x16 x18))
                                              (4618760256179416344 : Nat)))))
                                      (K
                                        (Go.K.farith Go.BinOp.sub Go.FloatKind.f64 (4598175219545276416 : Nat)
                                          (Go.K.farith Go.BinOp.quo Go.FloatKind.f64
                                            (Go.K.farith Go.BinOp.mul Go.FloatKind.f64 (4620693217682128896 : Nat) (Go.K.farith Go.BinOp.mul Go.FloatKind.f64 x16 x18))
                                            (4618760256179416344 : Nat))))))
                                  (Go.K.ifB (Go.K.flt Go.FloatKind.f64 a2 (0 : Nat))
                                    (Go.K.ifB (Go.K.flt Go.FloatKind.f64 a1 (0 : Nat))
                                      (K
                                        (Go.K.fneg Go.FloatKind.f64
                                          (Go.K.farith Go.BinOp.sub Go.FloatKind.f64 (4602678819172646912 : Nat)
                                            (Go.K.farith Go.BinOp.quo Go.FloatKind.f64
                                              (Go.K.farith Go.BinOp.mul Go.FloatKind.f64 (4620693217682128896 : Nat) (Go.K.farith Go.BinOp.mul Go.FloatKind.f64 x16 x18))
                                              (4618760256179416344 : Nat)))))
                                      (K
                                        (Go.K.farith Go.BinOp.sub Go.FloatKind.f64 (4602678819172646912 : Nat)
                                          (Go.K.farith Go.BinOp.quo Go.FloatKind.f64
                                            (Go.K.farith Go.BinOp.mul Go.FloatKind.f64 (4620693217682128896 : Nat) (Go.K.farith Go.BinOp.mul Go.FloatKind.f64 x16 x18))
                                            (4618760256179416344 : Nat)))))
                                    (Go.K.ifB (Go.K.flt Go.FloatKind.f64 a1 (0 : Nat))
                                      (K
                                        (Go.K.fneg Go.FloatKind.f64
                                          (Go.K.farith Go.BinOp.quo Go.FloatKind.f64
                                            (Go.K.farith Go.BinOp.mul Go.FloatKind.f64 (4620693217682128896 : Nat) (Go.K.farith Go.BinOp.mul Go.FloatKind.f64 x16 x18))
                                            (4618760256179416344 : Nat))))
                                      (K
                                        (Go.K.farith Go.BinOp.quo Go.FloatKind.f64
                                          (Go.K.farith Go.BinOp.mul Go.FloatKind.f64 (4620693217682128896 : Nat) (Go.K.farith Go.BinOp.mul Go.FloatKind.f64 x16 x18))
                                          (4618760256179416344 : Nat)))))) →
                              J13 x14 x15 x16 x17 x18 x19) →
                          J13 x8 x9 x10 (Go.K.farith Go.BinOp.mul Go.FloatKind.f64 x10 x10) (0 : Nat) (15 : Int)) →
                    J7 x8 x9 x10 x11) →
                J7 x4 x5 x6 (0 : Int)) →
            J3 x4 x5 x6) →
        Go.K.ifB (Go.K.fgt Go.FloatKind.f64 y1 y2) (J3 y1 y2 (Go.K.farith Go.BinOp.quo Go.FloatKind.f64 y2 y1))
          (J3 y1 y2 (Go.K.farith Go.BinOp.quo Go.FloatKind.f64 y1 y2))) := by kernel_rfl
theorem impl_angle.eq (a1 : Nat) (a2 : Nat) (K : Nat → Prop) : impl_angle.wp a1 a2 K =
  (Go.K.heights.math_Abs.wp a1 fun y1 =>
  Go.K.heights.math_Abs.wp a2 fun y2 =>
    ∀ (J3 : Nat → Nat → Nat → Prop),
      (∀ (x4 x5 x6 : Nat),
          (∀ (J7 : Nat → Nat → Nat → Int → Prop),
              (∀ (x8 x9 x10 : Nat) (x11 : Int),
                  Go.K.ifB (Decidable.decide (x11 < (3 : Int)))
                      (Go.K.heights.math_Sqrt.wp (Go.K.farith Go.BinOp.add Go.FloatKind.f64 (4607182418800017408 : Nat) (Go.K.farith Go.BinOp.mul Go.FloatKind.f64 x10 x10))
                        fun y12 =>
                        J7 x8 x9 (Go.K.farith Go.BinOp.quo Go.FloatKind.f64 x10 (Go.K.farith Go.BinOp.add Go.FloatKind.f64 (4607182418800017408 : Nat) y12))
                          (Go.IntKind.wrap Go.IntKind.i64 (x11 + (1 : Int))))
                      (∀ (J13 : Nat → Nat → Nat → Nat → Nat → Int → Prop),
                        (∀ (x14 x15 x16 x17 x18 : Nat) (x19 : Int),
                            Go.K.ifB (Decidable.decide (x19 ≥ (1 : Int)))
                                (J13 x14 x15 x16 x17
                                  (Go.K.farith Go.BinOp.sub Go.FloatKind.f64
                                    (Go.K.farith Go.BinOp.quo Go.FloatKind.f64 (4607182418800017408 : Nat) (Go.K.fofint Go.FloatKind.f64 x19))
                                    (Go.K.farith Go.BinOp.mul Go.FloatKind.f64 x17 x18))
                                  (Go.IntKind.wrap Go.IntKind.i64 (x19 - (2 : Int))))
                                (Go.K.ifB (Go.K.fgt Go.FloatKind.f64 x14 x15)
                                  (Go.K.ifB (Go.K.flt Go.FloatKind.f64 a2 (0 : Nat))
                                    (Go.K.ifB (Go.K.flt Go.FloatKind.f64 a1 (0 : Nat))
                                      (K
                                        (Go.K.fneg Go.FloatKind.f64
                                          (Go.K.farith Go.BinOp.sub Go.FloatKind.f64 (4602678819172646912 : Nat)
                                            (Go.K.farith Go.BinOp.sub Go.FloatKind.f64 (4598175219545276416 : Nat)
                                              (Go.K.farith Go.BinOp.quo Go.FloatKind.f64
                                                (Go.K.farith Go.BinOp.mul Go.FloatKind.f64 (4620693217682128896 : Nat) (Go.K.farith Go.BinOp.mul Go.FloatKind.f64 x16 x18))
                                                (4618760256179416344 : Nat))))))
                                      (K
                                        (Go.K.farith Go.BinOp.sub Go.FloatKind.f64 (4602678819172646912 : Nat)
                                          (Go.K.farith Go.BinOp.sub Go.FloatKind.f64 (4598175219545276416 : Nat)
                                            (Go.K.farith Go.BinOp.quo Go.FloatKind.f64
                                              (Go.K.farith Go.BinOp.mul Go.FloatKind.f64 (4620693217682128896 : Nat) (Go.K.farith Go.BinOp.mul Go.FloatKind.f64 x16 x18))
                                              (4618760256179416344 : Nat))))))
                                    (Go.K.ifB (Go.K.flt Go.FloatKind.f64 a1 (0 : Nat))
                                      (K
                                        (Go.K.fneg Go.FloatKind.f64
                                          (Go.K.farith Go.BinOp.sub Go.FloatKind.f64 (4598175219545276416 : Nat)
                                            (Go.K.farith Go.BinOp.quo Go.FloatKind.f64
                                              (Go.K.farith Go.BinOp.mul Go.FloatKind.f64 (4620693217682128896 : Nat) (Go.K.farith Go.BinOp.mul Go.FloatKind.f64 x16 x18))
                                              (4618760256179416344 : Nat)))))
                                      (K
                                        (Go.K.farith Go.BinOp.sub Go.FloatKind.f64 (4598175219545276416 : Nat)
                                          (Go.K.farith Go.BinOp.quo Go.FloatKind.f64
                                            (Go.K.farith Go.BinOp.mul Go.FloatKind.f64 (4620693217682128896 : Nat) (Go.K.farith Go.BinOp.mul Go.FloatKind.f64 x16 x18))
                                            (4618760256179416344 : Nat))))))
                                  (Go.K.ifB (Go.K.flt Go.FloatKind.f64 a2 (0 : Nat))
                                    (Go.K.ifB (Go.K.flt Go.FloatKind.f64 a1 (0 : Nat))
                                      (K
                                        (Go.K.fneg Go.FloatKind.f64
                                          (Go.K.farith Go.BinOp.sub Go.FloatKind.f64 (4602678819172646912 : Nat)
                                            (Go.K.farith Go.BinOp.quo Go.FloatKind.f64
                                              (Go.K.farith Go.BinOp.mul Go.FloatKind.f64 (4620693217682128896 : Nat) (Go.K.farith Go.BinOp.mul Go.FloatKind.f64 x16 x18))
                                              (4618760256179416344 : Nat)))))
                                      (K
                                        (Go.K.farith Go.BinOp.sub Go.FloatKind.f64 (4602678819172646912 : Nat)
                                          (Go.K.farith Go.BinOp.quo Go.FloatKind.f64
                                            (Go.K.farith Go.BinOp.mul Go.FloatKind.f64 (4620693217682128896 : Nat) (Go.K.farith Go.BinOp.mul Go.FloatKind.f64 x16 x18))
                                            (4618760256179416344 : Nat)))))
                                    (Go.K.ifB (Go.K.flt Go.FloatKind.f64 a1 (0 : Nat))
                                      (K
                                        (Go.K.fneg Go.FloatKind.f64
                                          (Go.K.farith Go.BinOp.quo Go.FloatKind.f64
                                            (Go.K.farith Go.BinOp.mul Go.FloatKind.f64 (4620693217682128896 : Nat) (Go.K.farith Go.BinOp.mul Go.FloatKind.f64 x16 x18))
                                            (4618760256179416344 : Nat))))
                                      (K
                                        (Go.K.farith Go.BinOp.quo Go.FloatKind.f64
                                          (Go.K.farith Go.BinOp.mul Go.FloatKind.f64 (4620693217682128896 : Nat) (Go.K.farith Go.BinOp.mul Go.FloatKind.f64 x16 x18))
                                          (4618760256179416344 : Nat)))))) →
                              J13 x14 x15 x16 x17 x18 x19) →
                          J13 x8 x9 x10 (Go.K.farith Go.BinOp.mul Go.FloatKind.f64 x10 x10) (0 : Nat) (15 : Int)) →
                    J7 x8 x9 x10 x11) →
                J7 x4 x5 x6 (0 : Int)) →
            J3 x4 x5 x6) →
        Go.K.ifB (Go.K.fgt Go.FloatKind.f64 y1 y2) (J3 y1 y2 (Go.K.farith Go.BinOp.quo Go.FloatKind.f64 y2 y1))
          (J3 y1 y2 (Go.K.farith Go.BinOp.quo Go.FloatKind.f64 y1 y2))) := impl_angle.tx math_Abs.wp math_Sqrt.wp a1 a2 K

theorem impl_AngleTurns.tx (w_impl_IsFinite : Nat → (Bool → Prop) → Prop) (w_math_NaN : (Nat → Prop) → Prop) (w_impl_angle : Nat → Nat → (Nat → Prop) → Prop) (a1 : Nat) (a2 : Nat) (K : Nat → Prop) : impl_AngleTurns.bd w_impl_IsFinite w_math_NaN w_impl_angle a1 a2 K =
  (w_impl_IsFinite a1 fun y1 =>
  Go.K.ifB (!y1) (w_math_NaN fun y2 => Go.K.fitsF Go.FloatKind.f64 Go.FloatKind.f32 y2 = Bool.true ∧ K (Go.K.fconv Go.FloatKind.f64 Go.FloatKind.f32 y2))
    (w_impl_IsFinite a2 fun y3 =>
      Go.K.ifB (!y3) (w_math_NaN fun y4 => Go.K.fitsF Go.FloatKind.f64 Go.FloatKind.f32 y4 = Bool.true ∧ K (Go.K.fconv Go.FloatKind.f64 Go.FloatKind.f32 y4))
        (Go.K.ifB (Go.K.feq Go.FloatKind.f32 a1 (0 : Nat))
          (Go.K.ifB (Go.K.feq Go.FloatKind.f32 a2 (0 : Nat)) (K (0 : Nat))
            (w_impl_angle (Go.K.fconv Go.FloatKind.f32 Go.FloatKind.f64 a1) (Go.K.fconv Go.FloatKind.f32 Go.FloatKind.f64 a2) fun y5 =>
              Go.K.fitsF Go.FloatKind.f64 Go.FloatKind.f32 y5 = Bool.true ∧ K (Go.K.fconv Go.FloatKind.f64 Go.FloatKind.f32 y5)))
          (w_impl_angle (Go.K.fconv Go.FloatKind.f32 Go.FloatKind.f64 a1) (Go.K.fconv Go.FloatKind.f32 Go.FloatKind.f64 a2) fun y6 =>
            Go.K.fitsF Go.FloatKind.f64 Go.FloatKind.f32 y6 = Bool.true ∧ K (Go.K.fconv Go.FloatKind.f64 Go.FloatKind.f32 y6))))) := by kernel_rfl
theorem impl_AngleTurns.eq (a1 : Nat) (a2 : Nat) (K : Nat → Prop) : impl_AngleTurns.wp a1 a2 K =
  (Go.K.heights.impl_IsFinite.wp a1 fun y1 =>
  Go.K.ifB (!y1) (Go.K.heights.math_NaN.wp fun y2 => Go.K.fitsF Go.FloatKind.f64 Go.FloatKind.f32 y2 = Bool.true ∧ K (Go.K.fconv Go.FloatKind.f64 Go.FloatKind.f32 y2))
    (Go.K.heights.impl_IsFinite.wp a2 fun y3 =>
      Go.K.ifB (!y3) (Go.K.heights.math_NaN.wp fun y4 => Go.K.fitsF Go.FloatKind.f64 Go.FloatKind.f32 y4 = Bool.true ∧ K (Go.K.fconv Go.FloatKind.f64 Go.FloatKind.f32 y4))
        (Go.K.ifB (Go.K.feq Go.FloatKind.f32 a1 (0 : Nat))
          (Go.K.ifB (Go.K.feq Go.FloatKind.f32 a2 (0 : Nat)) (K (0 : Nat))
            (Go.K.heights.impl_angle.wp (Go.K.fconv Go.FloatKind.f32 Go.FloatKind.f64 a1) (Go.K.fconv Go.FloatKind.f32 Go.FloatKind.f64 a2) fun y5 =>
              Go.K.fitsF Go.FloatKind.f64 Go.FloatKind.f32 y5 = Bool.true ∧ K (Go.K.fconv Go.FloatKind.f64 Go.FloatKind.f32 y5)))
          (Go.K.heights.impl_angle.wp (Go.K.fconv Go.FloatKind.f32 Go.FloatKind.f64 a1) (Go.K.fconv Go.FloatKind.f32 Go.FloatKind.f64 a2) fun y6 =>
            Go.K.fitsF Go.FloatKind.f64 Go.FloatKind.f32 y6 = Bool.true ∧ K (Go.K.fconv Go.FloatKind.f64 Go.FloatKind.f32 y6))))) := impl_AngleTurns.tx impl_IsFinite.wp math_NaN.wp impl_angle.wp a1 a2 K

theorem impl_floor32.tx (w_math_Floor : Nat → (Nat → Prop) → Prop) (a1 : Nat) (K : Nat → Prop) : impl_floor32.bd w_math_Floor a1 K =
  (w_math_Floor (Go.K.fconv Go.FloatKind.f32 Go.FloatKind.f64 a1) fun y1 =>
  Go.K.fitsF Go.FloatKind.f64 Go.FloatKind.f32 y1 = Bool.true ∧ K (Go.K.fconv Go.FloatKind.f64 Go.FloatKind.f32 y1)) := by kernel_rfl
theorem impl_floor32.eq (a1 : Nat) (K : Nat → Prop) : impl_floor32.wp a1 K =
  (Go.K.heights.math_Floor.wp (Go.K.fconv Go.FloatKind.f32 Go.FloatKind.f64 a1) fun y1 =>
  Go.K.fitsF Go.FloatKind.f64 Go.FloatKind.f32 y1 = Bool.true ∧ K (Go.K.fconv Go.FloatKind.f64 Go.FloatKind.f32 y1)) := impl_floor32.tx math_Floor.wp a1 K

theorem impl_ScrewHeights_1.tx (w_impl_AngleTurns : Nat → Nat → (Nat → Prop) → Prop) (w_impl_floor32 : Nat → (Nat → Prop) → Prop) (a1 : Int) (a2 : Int) (a3 : Int) (a4 : Int) (a5 : Int) (K : Int → Prop) : impl_ScrewHeights_1.bd w_impl_AngleTurns w_impl_floor32 a1 a2 a3 a4 a5 K =
  (w_impl_AngleTurns (Go.K.fofint Go.FloatKind.f32 (Go.IntKind.wrap Go.IntKind.i64 (a5 - a2)))
  (Go.K.fofint Go.FloatKind.f32 (Go.IntKind.wrap Go.IntKind.i64 (a4 - a3))) fun y1 =>
  w_impl_floor32 (Go.K.farith Go.BinOp.mul Go.FloatKind.f32 (Go.K.fofint Go.FloatKind.f32 a1) (Go.K.farith Go.BinOp.add Go.FloatKind.f32 y1 (1056964608 : Nat)))
    fun y2 =>
    Option.isSome (Go.K.ftoint Go.FloatKind.f32 y2 Go.IntKind.i64) = Bool.true ∧ K (Option.getD (Go.K.ftoint Go.FloatKind.f32 y2 Go.IntKind.i64) (0 : Int))) := by kernel_rfl
theorem impl_ScrewHeights_1.eq (a1 : Int) (a2 : Int) (a3 : Int) (a4 : Int) (a5 : Int) (K : Int → Prop) : impl_ScrewHeights_1.wp a1 a2 a3 a4 a5 K =
  (Go.K.heights.impl_AngleTurns.wp (Go.K.fofint Go.FloatKind.f32 (Go.IntKind.wrap Go.IntKind.i64 (a5 - a2)))
  (Go.K.fofint Go.FloatKind.f32 (Go.IntKind.wrap Go.IntKind.i64 (a4 - a3))) fun y1 =>
  Go.K.heights.impl_floor32.wp (Go.K.farith Go.BinOp.mul Go.FloatKind.f32 (Go.K.fofint Go.FloatKind.f32 a1) (Go.K.farith Go.BinOp.add Go.FloatKind.f32 y1 (1056964608 : Nat)))
    fun y2 =>
    Option.isSome (Go.K.ftoint Go.FloatKind.f32 y2 Go.IntKind.i64) = Bool.true ∧ K (Option.getD (Go.K.ftoint Go.FloatKind.f32 y2 Go.IntKind.i64) (0 : Int))) := impl_ScrewHeights_1.tx impl_AngleTurns.wp impl_floor32.wp a1 a2 a3 a4 a5 K

theorem impl_ValidHeights.tx (w_impl_areWithin : List Int → Int → Int → (Bool → Prop) → Prop) (a1 : List Int) (a2 : Int) (a3 : Int) (K : Bool → Prop) : impl_ValidHeights.bd w_impl_areWithin a1 a2 a3 K =
  (w_impl_areWithin (a2 :: a3 :: List.replicate (0 : Nat) (0 : Int)) (2 : Int) (16 : Int) fun y1 =>
  Go.K.ifB y1
    (Go.K.ifB ((↑(List.length a1) : Int) == Go.IntKind.wrap Go.IntKind.i64 (a2 * a3)) (w_impl_areWithin a1 (0 : Int) (1000 : Int) fun y2 => K y2) (K Bool.false))
    (K Bool.false)) := by kernel_rfl
theorem impl_ValidHeights.eq (a1 : List Int) (a2 : Int) (a3 : Int) (K : Bool → Prop) : impl_ValidHeights.wp a1 a2 a3 K =
  (Go.K.heights.impl_areWithin.wp (a2 :: a3 :: List.replicate (0 : Nat) (0 : Int)) (2 : Int) (16 : Int) fun y1 =>
  Go.K.ifB y1
    (Go.K.ifB ((↑(List.length a1) : Int) == Go.IntKind.wrap Go.IntKind.i64 (a2 * a3)) (Go.K.heights.impl_areWithin.wp a1 (0 : Int) (1000 : Int) fun y2 => K y2) (K Bool.false))
    (K Bool.false)) := impl_ValidHeights.tx impl_areWithin.wp a1 a2 a3 K

theorem impl_Heights_told.tx (w_impl_ValidHeights : List Int → Int → Int → (Bool → Prop) → Prop) (a1 : List Int) (a2 : Int) (a3 : Int) (K : List Int → Int → Int → Bool → Prop) : impl_Heights_told.bd w_impl_ValidHeights a1 a2 a3 K =
  (w_impl_ValidHeights a1 a2 a3 fun y1 => Go.K.ifB (!y1) (K [] (0 : Int) (0 : Int) Bool.false) (K a1 a2 a3 Bool.true)) := by kernel_rfl
theorem impl_Heights_told.eq (a1 : List Int) (a2 : Int) (a3 : Int) (K : List Int → Int → Int → Bool → Prop) : impl_Heights_told.wp a1 a2 a3 K =
  (Go.K.heights.impl_ValidHeights.wp a1 a2 a3 fun y1 => Go.K.ifB (!y1) (K [] (0 : Int) (0 : Int) Bool.false) (K a1 a2 a3 Bool.true)) := impl_Heights_told.tx impl_ValidHeights.wp a1 a2 a3 K

theorem impl_built__ScrewHeights_1.tx (w_impl_areWithin : List Int → Int → Int → (Bool → Prop) → Prop) (w_impl_ScrewHeights_1 : Int → Int → Int → Int → Int → (Int → Prop) → Prop) (w_impl_Heights_told : List Int → Int → Int → (List Int → Int → Int → Bool → Prop) → Prop) (a1 : Int) (a2 : Int) (a3 : Int) (a4 : Int) (a5 : Int) (K : List Int →
  Int → Int → Bool → Prop) : impl_built__ScrewHeights_1.bd w_impl_areWithin w_impl_ScrewHeights_1 w_impl_Heights_told a1 a2 a3 a4 a5 K =
  (w_impl_areWithin (a4 :: a5 :: List.replicate (0 : Nat) (0 : Int)) (2 : Int) (16 : Int) fun y1 =>
  Go.K.ifB (!y1) (K [] (0 : Int) (0 : Int) Bool.false)
    (∀ (J2 : Int → Int → Int → Int → List Int → List Int → Int → Int → Prop),
      (∀ (x3 x4 x5 x6 : Int) (x7 x8 : List Int) (x9 x10 : Int),
          Go.K.ifB (Decidable.decide (x10 < x9))
              (∀ (J11 : Int → Int → Int → Int → List Int → List Int → Int → Int → Int → Int → Int → Prop),
                (∀ (x12 x13 x14 x15 : Int) (x16 x17 : List Int) (x18 x19 x20 x21 x22 : Int),
                    Go.K.ifB (Decidable.decide (x22 < x21))
                        (w_impl_ScrewHeights_1 a1 a2 a3 x22 x18 fun y23 =>
                          List.length (x17 ++ y23 :: List.replicate (0 : Nat) (0 : Int)) ≤ (1099511627776 : Nat) ∧
                            J11 x12 x13 x14 x15 x16 (x17 ++ y23 :: List.replicate (0 : Nat) (0 : Int)) x18 x19 x20 x21 (Go.IntKind.wrap Go.IntKind.i64 (x22 + (1 : Int))))
                        (J2 x12 x13 x14 x15 x16 x17 x19 (Go.IntKind.wrap Go.IntKind.i64 (x20 + (1 : Int)))) →
                      J11 x12 x13 x14 x15 x16 x17 x18 x19 x20 x21 x22) →
                  J11 x3 x4 x5 x6 x7 x8 x10 x9 x10 a4 (0 : Int))
              (w_impl_Heights_told x8 x5 x6 fun y26 y27 y28 y29 => K y26 y27 y28 y29) →
            J2 x3 x4 x5 x6 x7 x8 x9 x10) →
        J2 (0 : Int) (0 : Int) a4 a5 [] [] a5 (0 : Int))) := by kernel_rfl
theorem impl_built__ScrewHeights_1.eq (a1 : Int) (a2 : Int) (a3 : Int) (a4 : Int) (a5 : Int) (K : List Int →
  Int → Int → Bool → Prop) : impl_built__ScrewHeights_1.wp a1 a2 a3 a4 a5 K =
  (Go.K.heights.impl_areWithin.wp (a4 :: a5 :: List.replicate (0 : Nat) (0 : Int)) (2 : Int) (16 : Int) fun y1 =>
  Go.K.ifB (!y1) (K [] (0 : Int) (0 : Int) Bool.false)
    (∀ (J2 : Int → Int → Int → Int → List Int → List Int → Int → Int → Prop),
      (∀ (x3 x4 x5 x6 : Int) (x7 x8 : List Int) (x9 x10 : Int),
          Go.K.ifB (Decidable.decide (x10 < x9))
              (∀ (J11 : Int → Int → Int → Int → List Int → List Int → Int → Int → Int → Int → Int → Prop),
                (∀ (x12 x13 x14 x15 : Int) (x16 x17 : List Int) (x18 x19 x20 x21 x22 : Int),
                    Go.K.ifB (Decidable.decide (x22 < x21))
                        (Go.K.heights.impl_ScrewHeights_1.wp a1 a2 a3 x22 x18 fun y23 =>
                          List.length (x17 ++ y23 :: List.replicate (0 : Nat) (0 : Int)) ≤ (1099511627776 : Nat) ∧
                            J11 x12 x13 x14 x15 x16 (x17 ++ y23 :: List.replicate (0 : Nat) (0 : Int)) x18 x19 x20 x21 (Go.IntKind.wrap Go.IntKind.i64 (x22 + (1 : Int))))
                        (J2 x12 x13 x14 x15 x16 x17 x19 (Go.IntKind.wrap Go.IntKind.i64 (x20 + (1 : Int)))) →
                      J11 x12 x13 x14 x15 x16 x17 x18 x19 x20 x21 x22) →
                  J11 x3 x4 x5 x6 x7 x8 x10 x9 x10 a4 (0 : Int))
              (Go.K.heights.impl_Heights_told.wp x8 x5 x6 fun y26 y27 y28 y29 => K y26 y27 y28 y29) →
            J2 x3 x4 x5 x6 x7 x8 x9 x10) →
        J2 (0 : Int) (0 : Int) a4 a5 [] [] a5 (0 : Int))) := impl_built__ScrewHeights_1.tx impl_areWithin.wp impl_ScrewHeights_1.wp impl_Heights_told.wp a1 a2 a3 a4 a5 K

theorem impl_ScrewHeights.tx (w_impl_within : Int → Int → Int → (Bool → Prop) → Prop) (w_impl_built__ScrewHeights_1 : Int → Int → Int → Int → Int → (List Int → Int → Int → Bool → Prop) → Prop) (a1 : Int) (a2 : Int) (a3 : Int) (a4 : Int) (a5 : Int) (K : List Int → Int → Int → Bool → Prop) : impl_ScrewHeights.bd w_impl_within w_impl_built__ScrewHeights_1 a1 a2 a3 a4 a5 K =
  (w_impl_within a3 (0 : Int) (Go.IntKind.wrap Go.IntKind.i64 (a1 - (1 : Int))) fun y1 =>
  Go.K.ifB (!y1) (K [] (0 : Int) (0 : Int) Bool.false)
    (w_impl_within a4 (0 : Int) (Go.IntKind.wrap Go.IntKind.i64 (a2 - (1 : Int))) fun y2 =>
      Go.K.ifB (!y2) (K [] (0 : Int) (0 : Int) Bool.false)
        (w_impl_within a5 (1 : Int) (100 : Int) fun y3 =>
          Go.K.ifB (!y3) (K [] (0 : Int) (0 : Int) Bool.false) (w_impl_built__ScrewHeights_1 a5 a4 a3 a1 a2 fun y4 y5 y6 y7 => K y4 y5 y6 y7)))) := by kernel_rfl
theorem impl_ScrewHeights.eq (a1 : Int) (a2 : Int) (a3 : Int) (a4 : Int) (a5 : Int) (K : List Int → Int → Int → Bool → Prop) : impl_ScrewHeights.wp a1 a2 a3 a4 a5 K =
  (Go.K.heights.impl_within.wp a3 (0 : Int) (Go.IntKind.wrap Go.IntKind.i64 (a1 - (1 : Int))) fun y1 =>
  Go.K.ifB (!y1) (K [] (0 : Int) (0 : Int) Bool.false)
    (Go.K.heights.impl_within.wp a4 (0 : Int) (Go.IntKind.wrap Go.IntKind.i64 (a2 - (1 : Int))) fun y2 =>
      Go.K.ifB (!y2) (K [] (0 : Int) (0 : Int) Bool.false)
        (Go.K.heights.impl_within.wp a5 (1 : Int) (100 : Int) fun y3 =>
          Go.K.ifB (!y3) (K [] (0 : Int) (0 : Int) Bool.false) (Go.K.heights.impl_built__ScrewHeights_1.wp a5 a4 a3 a1 a2 fun y4 y5 y6 y7 => K y4 y5 y6 y7)))) := impl_ScrewHeights.tx impl_within.wp impl_built__ScrewHeights_1.wp a1 a2 a3 a4 a5 K

theorem laws_eqInt64S.tx  (a1 : List Int) (a2 : List Int) (K : Bool → Prop) : laws_eqInt64S.bd  a1 a2 K =
  (Go.K.ifB ((↑(List.length a1) : Int) != (↑(List.length a2) : Int)) (K Bool.false)
  (∀ (J1 : Int → Prop),
    (∀ (x2 : Int),
        Go.K.ifB (Decidable.decide (x2 < (↑(List.length a1) : Int)))
            (((0 : Int) ≤ x2 ∧ x2 < (↑(List.length a1) : Int)) ∧
              ((0 : Int) ≤ x2 ∧ x2 < (↑(List.length a2) : Int)) ∧
                Go.K.ifB (List.getD a1 (Int.toNat x2) (0 : Int) != List.getD a2 (Int.toNat x2) (0 : Int)) (K Bool.false) (J1 (Go.IntKind.wrap Go.IntKind.i64 (x2 + (1 : Int)))))
            (K Bool.true) →
          J1 x2) →
      J1 (0 : Int))) := by kernel_rfl
theorem laws_eqInt64S.eq (a1 : List Int) (a2 : List Int) (K : Bool → Prop) : laws_eqInt64S.wp a1 a2 K =
  (Go.K.ifB ((↑(List.length a1) : Int) != (↑(List.length a2) : Int)) (K Bool.false)
  (∀ (J1 : Int → Prop),
    (∀ (x2 : Int),
        Go.K.ifB (Decidable.decide (x2 < (↑(List.length a1) : Int)))
            (((0 : Int) ≤ x2 ∧ x2 < (↑(List.length a1) : Int)) ∧
              ((0 : Int) ≤ x2 ∧ x2 < (↑(List.length a2) : Int)) ∧
                Go.K.ifB (List.getD a1 (Int.toNat x2) (0 : Int) != List.getD a2 (Int.toNat x2) (0 : Int)) (K Bool.false) (J1 (Go.IntKind.wrap Go.IntKind.i64 (x2 + (1 : Int)))))
            (K Bool.true) →
          J1 x2) →
      J1 (0 : Int))) := laws_eqInt64S.tx  a1 a2 K

theorem laws_eqHeights.tx (w_laws_eqInt64S : List Int → List Int → (Bool → Prop) → Prop) (a1 : List Int) (a2 : List Int) (a3 : Int) (a4 : Int) (a5 : Int) (a6 : Int) (K : Bool → Prop) : laws_eqHeights.bd w_laws_eqInt64S a1 a2 a3 a4 a5 a6 K =
  (Go.K.ifB (a3 != a5) (K Bool.false)
  (Go.K.ifB (a4 != a6) (K Bool.false) (w_laws_eqInt64S a1 a2 fun y1 => Go.K.ifB (!y1) (K Bool.false) (K Bool.true)))) := by kernel_rfl
theorem laws_eqHeights.eq (a1 : List Int) (a2 : List Int) (a3 : Int) (a4 : Int) (a5 : Int) (a6 : Int) (K : Bool → Prop) : laws_eqHeights.wp a1 a2 a3 a4 a5 a6 K =
  (Go.K.ifB (a3 != a5) (K Bool.false)
  (Go.K.ifB (a4 != a6) (K Bool.false) (Go.K.heights.laws_eqInt64S.wp a1 a2 fun y1 => Go.K.ifB (!y1) (K Bool.false) (K Bool.true)))) := laws_eqHeights.tx laws_eqInt64S.wp a1 a2 a3 a4 a5 a6 K

theorem laws_markInt64S.tx  (a1 : List Int) (a2 : Int) (K : List Int → Int → Prop) : laws_markInt64S.bd  a1 a2 K =
  (∀ (J1 : List Int → Int → Int → Prop),
  (∀ (x2 : List Int) (x3 x4 : Int),
      Go.K.ifB (Decidable.decide (x4 < (↑(List.length a1) : Int)))
          (((0 : Int) ≤ x4 ∧ x4 < (↑(List.length a1) : Int)) ∧
            J1 (List.set x2 (Int.toNat x4) x3) (Go.IntKind.wrap Go.IntKind.i64 (x3 + (1 : Int))) (Go.IntKind.wrap Go.IntKind.i64 (x4 + (1 : Int))))
          (K x2 x3) →
        J1 x2 x3 x4) →
    J1 a1 a2 (0 : Int)) := by kernel_rfl
theorem laws_markInt64S.eq (a1 : List Int) (a2 : Int) (K : List Int → Int → Prop) : laws_markInt64S.wp a1 a2 K =
  (∀ (J1 : List Int → Int → Int → Prop),
  (∀ (x2 : List Int) (x3 x4 : Int),
      Go.K.ifB (Decidable.decide (x4 < (↑(List.length a1) : Int)))
          (((0 : Int) ≤ x4 ∧ x4 < (↑(List.length a1) : Int)) ∧
            J1 (List.set x2 (Int.toNat x4) x3) (Go.IntKind.wrap Go.IntKind.i64 (x3 + (1 : Int))) (Go.IntKind.wrap Go.IntKind.i64 (x4 + (1 : Int))))
          (K x2 x3) →
        J1 x2 x3 x4) →
    J1 a1 a2 (0 : Int)) := laws_markInt64S.tx  a1 a2 K

theorem laws_markHeights.tx (w_laws_markInt64S : List Int → Int → (List Int → Int → Prop) → Prop) (a1 : List Int) (a2 : Int) (a3 : Int) (a4 : Int) (K : List Int → Int → Prop) : laws_markHeights.bd w_laws_markInt64S a1 a2 a3 a4 K =
  (w_laws_markInt64S a1 a4 fun y1 y2 => K y1 y2) := by kernel_rfl
theorem laws_markHeights.eq (a1 : List Int) (a2 : Int) (a3 : Int) (a4 : Int) (K : List Int → Int → Prop) : laws_markHeights.wp a1 a2 a3 a4 K =
  (Go.K.heights.laws_markInt64S.wp a1 a4 fun y1 y2 => K y1 y2) := laws_markHeights.tx laws_markInt64S.wp a1 a2 a3 a4 K

theorem laws_heldInt64S.tx  (a1 : List Int) (a2 : Int) (K : Int → Prop) : laws_heldInt64S.bd  a1 a2 K =
  (∀ (J1 : Int → Int → Prop),
  (∀ (x2 x3 : Int),
      Go.K.ifB (Decidable.decide (x3 < (↑(List.length a1) : Int)))
          (((0 : Int) ≤ x3 ∧ x3 < (↑(List.length a1) : Int)) ∧
            Go.K.ifB (List.getD a1 (Int.toNat x3) (0 : Int) != x2) (K (-1 : Int))
              (J1 (Go.IntKind.wrap Go.IntKind.i64 (x2 + (1 : Int))) (Go.IntKind.wrap Go.IntKind.i64 (x3 + (1 : Int)))))
          (K x2) →
        J1 x2 x3) →
    J1 a2 (0 : Int)) := by kernel_rfl
theorem laws_heldInt64S.eq (a1 : List Int) (a2 : Int) (K : Int → Prop) : laws_heldInt64S.wp a1 a2 K =
  (∀ (J1 : Int → Int → Prop),
  (∀ (x2 x3 : Int),
      Go.K.ifB (Decidable.decide (x3 < (↑(List.length a1) : Int)))
          (((0 : Int) ≤ x3 ∧ x3 < (↑(List.length a1) : Int)) ∧
            Go.K.ifB (List.getD a1 (Int.toNat x3) (0 : Int) != x2) (K (-1 : Int))
              (J1 (Go.IntKind.wrap Go.IntKind.i64 (x2 + (1 : Int))) (Go.IntKind.wrap Go.IntKind.i64 (x3 + (1 : Int)))))
          (K x2) →
        J1 x2 x3) →
    J1 a2 (0 : Int)) := laws_heldInt64S.tx  a1 a2 K

theorem laws_heldHeights.tx (w_laws_heldInt64S : List Int → Int → (Int → Prop) → Prop) (a1 : List Int) (a2 : Int) (a3 : Int) (a4 : Int) (K : Int → Prop) : laws_heldHeights.bd w_laws_heldInt64S a1 a2 a3 a4 K =
  (w_laws_heldInt64S a1 a4 fun y1 => Go.K.ifB (Decidable.decide (y1 < (0 : Int))) (K (-1 : Int)) (K y1)) := by kernel_rfl
theorem laws_heldHeights.eq (a1 : List Int) (a2 : Int) (a3 : Int) (a4 : Int) (K : Int → Prop) : laws_heldHeights.wp a1 a2 a3 a4 K =
  (Go.K.heights.laws_heldInt64S.wp a1 a4 fun y1 => Go.K.ifB (Decidable.decide (y1 < (0 : Int))) (K (-1 : Int)) (K y1)) := laws_heldHeights.tx laws_heldInt64S.wp a1 a2 a3 a4 K

theorem laws_FnExactScrewHeights.tx (w_spec_ScrewHeights : Int → Int → Int → Int → Int → (List Int → Int → Int → Bool → Prop) → Prop) (w_impl_ScrewHeights : Int → Int → Int → Int → Int → (List Int → Int → Int → Bool → Prop) → Prop) (w_laws_eqHeights : List Int → List Int → Int → Int → Int → Int → (Bool → Prop) → Prop) (w_laws_markHeights : List Int → Int → Int → Int → (List Int → Int → Prop) → Prop) (w_laws_heldHeights : List Int → Int → Int → Int → (Int → Prop) → Prop) (a1 : Int) (a2 : Int) (a3 : Int) (a4 : Int) (a5 : Int) (K : Bool → Prop) : laws_FnExactScrewHeights.bd w_spec_ScrewHeights w_impl_ScrewHeights w_laws_eqHeights w_laws_markHeights w_laws_heldHeights a1 a2 a3 a4 a5 K =
  (w_spec_ScrewHeights a1 a2 a3 a4 a5 fun y1 y2 y3 y4 =>
  w_impl_ScrewHeights a1 a2 a3 a4 a5 fun y5 y6 y7 y8 =>
    w_laws_eqHeights y5 y1 y6 y7 y2 y3 fun y9 =>
      Go.K.ifB (!y9) (K Bool.false)
        (Go.K.ifB (y8 != y4) (K Bool.false)
          (w_laws_markHeights y5 y6 y7 (1 : Int) fun y10 y11 =>
            w_laws_heldHeights y10 y6 y7 (1 : Int) fun y12 =>
              Go.K.ifB (Decidable.decide (y12 < (0 : Int))) (K Bool.false)
                (Go.K.ifB (y12 != y11) (K Bool.false)
                  (w_impl_ScrewHeights a1 a2 a3 a4 a5 fun y13 y14 y15 y16 =>
                    w_laws_eqHeights y13 y1 y14 y15 y2 y3 fun y17 =>
                      Go.K.ifB (!y17) (K Bool.false)
                        (Go.K.ifB (y16 != y4) (K Bool.false)
                          (w_laws_heldHeights y10 y6 y7 (1 : Int) fun y18 =>
                            Go.K.ifB (Decidable.decide (y18 < (0 : Int))) (K Bool.false) (Go.K.ifB (y18 != y11) (K Bool.false) (K Bool.true))))))))) := by kernel_rfl
theorem laws_FnExactScrewHeights.eq (a1 : Int) (a2 : Int) (a3 : Int) (a4 : Int) (a5 : Int) (K : Bool → Prop) : laws_FnExactScrewHeights.wp a1 a2 a3 a4 a5 K =
  (Go.K.heights.spec_ScrewHeights.wp a1 a2 a3 a4 a5 fun y1 y2 y3 y4 =>
  Go.K.heights.impl_ScrewHeights.wp a1 a2 a3 a4 a5 fun y5 y6 y7 y8 =>
    Go.K.heights.laws_eqHeights.wp y5 y1 y6 y7 y2 y3 fun y9 =>
      Go.K.ifB (!y9) (K Bool.false)
        (Go.K.ifB (y8 != y4) (K Bool.false)
          (Go.K.heights.laws_markHeights.wp y5 y6 y7 (1 : Int) fun y10 y11 =>
            Go.K.heights.laws_heldHeights.wp y10 y6 y7 (1 : Int) fun y12 =>
              Go.K.ifB (Decidable.decide (y12 < (0 : Int))) (K Bool.false)
                (Go.K.ifB (y12 != y11) (K Bool.false)
                  (Go.K.heights.impl_ScrewHeights.wp a1 a2 a3 a4 a5 fun y13 y14 y15 y16 =>
                    Go.K.heights.laws_eqHeights.wp y13 y1 y14 y15 y2 y3 fun y17 =>
                      Go.K.ifB (!y17) (K Bool.false)
                        (Go.K.ifB (y16 != y4) (K Bool.false)
                          (Go.K.heights.laws_heldHeights.wp y10 y6 y7 (1 : Int) fun y18 =>
                            Go.K.ifB (Decidable.decide (y18 < (0 : Int))) (K Bool.false) (Go.K.ifB (y18 != y11) (K Bool.false) (K Bool.true))))))))) := laws_FnExactScrewHeights.tx spec_ScrewHeights.wp impl_ScrewHeights.wp laws_eqHeights.wp laws_markHeights.wp laws_heldHeights.wp a1 a2 a3 a4 a5 K

end Go.K.heights
