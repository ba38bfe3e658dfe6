/- What the functions compute, written out. -/
import Derived.Test.YtblejagpndbicaaD
import Derived.KernelRfl
set_option maxRecDepth 100000
set_option linter.unusedVariables false
namespace Go.K.grains
open Go.K Go

theorem laws_szInt64S.tx  (a1 : List Int) (a2 : Int) (K : Int → Prop) : laws_szInt64S.bd  a1 a2 K =
  (Go.K.ifB (Decidable.decide (Go.IntKind.wrap Go.IntKind.i64 (a2 - (↑(List.length a1) : Int)) < (0 : Int))) (K (-1 : Int))
  (K (Go.IntKind.wrap Go.IntKind.i64 (a2 - (↑(List.length a1) : Int))))) := by kernel_rfl
theorem laws_szInt64S.eq (a1 : List Int) (a2 : Int) (K : Int → Prop) : laws_szInt64S.wp a1 a2 K =
  (Go.K.ifB (Decidable.decide (Go.IntKind.wrap Go.IntKind.i64 (a2 - (↑(List.length a1) : Int)) < (0 : Int))) (K (-1 : Int))
  (K (Go.IntKind.wrap Go.IntKind.i64 (a2 - (↑(List.length a1) : Int))))) := laws_szInt64S.tx  a1 a2 K

theorem laws_szGrains.tx (w_laws_szInt64S : List Int → Int → (Int → Prop) → Prop) (a1 : List Int) (a2 : Int) (a3 : Int) (a4 : Int) (K : Int → Prop) : laws_szGrains.bd w_laws_szInt64S a1 a2 a3 a4 K =
  (w_laws_szInt64S a1 a4 fun y1 => Go.K.ifB (Decidable.decide (y1 < (0 : Int))) (K (-1 : Int)) (K y1)) := by kernel_rfl
theorem laws_szGrains.eq (a1 : List Int) (a2 : Int) (a3 : Int) (a4 : Int) (K : Int → Prop) : laws_szGrains.wp a1 a2 a3 a4 K =
  (Go.K.grains.laws_szInt64S.wp a1 a4 fun y1 => Go.K.ifB (Decidable.decide (y1 < (0 : Int))) (K (-1 : Int)) (K y1)) := laws_szGrains.tx laws_szInt64S.wp a1 a2 a3 a4 K

theorem laws_toInt64S.tx  (a1 : List Int) (K : List Int → Prop) : laws_toInt64S.bd  a1 K =
  (((0 : Int) ≤ (↑(List.length a1) : Int) ∧ (↑(List.length a1) : Int) ≤ (↑(List.length a1) : Int) ∧ (↑(List.length a1) : Int) ≤ (1099511627776 : Int)) ∧
  ∀ (J1 : List Int → Int → Prop),
    (∀ (x2 : List Int) (x3 : Int),
        Go.K.ifB (Decidable.decide (x3 < (↑(List.length a1) : Int)))
            (((0 : Int) ≤ x3 ∧ x3 < (↑(List.length a1) : Int)) ∧
              ((0 : Int) ≤ x3 ∧ x3 < (↑(List.length x2) : Int)) ∧
                J1 (List.set x2 (Int.toNat x3) (List.getD a1 (Int.toNat x3) (0 : Int))) (Go.IntKind.wrap Go.IntKind.i64 (x3 + (1 : Int))))
            (K x2) →
          J1 x2 x3) →
      J1 (List.replicate (Int.toNat (↑(List.length a1) : Int)) (0 : Int)) (0 : Int)) := by kernel_rfl
theorem laws_toInt64S.eq (a1 : List Int) (K : List Int → Prop) : laws_toInt64S.wp a1 K =
  (((0 : Int) ≤ (↑(List.length a1) : Int) ∧ (↑(List.length a1) : Int) ≤ (↑(List.length a1) : Int) ∧ (↑(List.length a1) : Int) ≤ (1099511627776 : Int)) ∧
  ∀ (J1 : List Int → Int → Prop),
    (∀ (x2 : List Int) (x3 : Int),
        Go.K.ifB (Decidable.decide (x3 < (↑(List.length a1) : Int)))
            (((0 : Int) ≤ x3 ∧ x3 < (↑(List.length a1) : Int)) ∧
              ((0 : Int) ≤ x3 ∧ x3 < (↑(List.length x2) : Int)) ∧
                J1 (List.set x2 (Int.toNat x3) (List.getD a1 (Int.toNat x3) (0 : Int))) (Go.IntKind.wrap Go.IntKind.i64 (x3 + (1 : Int))))
            (K x2) →
          J1 x2 x3) →
      J1 (List.replicate (Int.toNat (↑(List.length a1) : Int)) (0 : Int)) (0 : Int)) := laws_toInt64S.tx  a1 K

theorem laws_toGrains.tx (w_laws_toInt64S : List Int → (List Int → Prop) → Prop) (a1 : List Int) (a2 : Int) (a3 : Int) (K : List Int → Int → Int → Prop) : laws_toGrains.bd w_laws_toInt64S a1 a2 a3 K =
  (w_laws_toInt64S a1 fun y1 => K y1 a2 a3) := by kernel_rfl
theorem laws_toGrains.eq (a1 : List Int) (a2 : Int) (a3 : Int) (K : List Int → Int → Int → Prop) : laws_toGrains.wp a1 a2 a3 K =
  (Go.K.grains.laws_toInt64S.wp a1 fun y1 => K y1 a2 a3) := laws_toGrains.tx laws_toInt64S.wp a1 a2 a3 K

theorem spec_l00In.tx  (a1 : Int) (a2 : Int) (a3 : Int) (K : Bool → Prop) : spec_l00In.bd  a1 a2 a3 K =
  (Go.K.ifB (Decidable.decide (a1 ≥ a2)) (K (Decidable.decide (a1 ≤ a3))) (K Bool.false)) := by kernel_rfl
theorem spec_l00In.eq (a1 : Int) (a2 : Int) (a3 : Int) (K : Bool → Prop) : spec_l00In.wp a1 a2 a3 K =
  (Go.K.ifB (Decidable.decide (a1 ≥ a2)) (K (Decidable.decide (a1 ≤ a3))) (K Bool.false)) := spec_l00In.tx  a1 a2 a3 K

theorem spec_l02Size.tx (w_spec_l00In : Int → Int → Int → (Bool → Prop) → Prop) (a1 : Int) (a2 : Int) (K : Bool → Prop) : spec_l02Size.bd w_spec_l00In a1 a2 K =
  (w_spec_l00In a1 (1 : Int) (16 : Int) fun y1 => Go.K.ifB y1 (w_spec_l00In a2 (1 : Int) (16 : Int) fun y2 => K y2) (K Bool.false)) := by kernel_rfl
theorem spec_l02Size.eq (a1 : Int) (a2 : Int) (K : Bool → Prop) : spec_l02Size.wp a1 a2 K =
  (Go.K.grains.spec_l00In.wp a1 (1 : Int) (16 : Int) fun y1 => Go.K.ifB y1 (Go.K.grains.spec_l00In.wp a2 (1 : Int) (16 : Int) fun y2 => K y2) (K Bool.false)) := spec_l02Size.tx spec_l00In.wp a1 a2 K

theorem spec_l04Label.tx (w_spec_l00In : Int → Int → Int → (Bool → Prop) → Prop) (a1 : Int) (K : Bool → Prop) : spec_l04Label.bd w_spec_l00In a1 K =
  (w_spec_l00In a1 (0 : Int) (63 : Int) fun y1 => K y1) := by kernel_rfl
theorem spec_l04Label.eq (a1 : Int) (K : Bool → Prop) : spec_l04Label.wp a1 K =
  (Go.K.grains.spec_l00In.wp a1 (0 : Int) (63 : Int) fun y1 => K y1) := spec_l04Label.tx spec_l00In.wp a1 K

theorem spec_l04Is.tx (w_spec_l02Size : Int → Int → (Bool → Prop) → Prop) (w_spec_l04Label : Int → (Bool → Prop) → Prop) (a1 : Int) (a2 : Int) (a3 : List Int) (K : Bool → Prop) : spec_l04Is.bd w_spec_l02Size w_spec_l04Label a1 a2 a3 K =
  (w_spec_l02Size a1 a2 fun y1 =>
  Go.K.ifB (!y1) (K Bool.false)
    (Go.K.ifB ((↑(List.length a3) : Int) != Go.IntKind.wrap Go.IntKind.i64 (a1 * a2)) (K Bool.false)
      (∀ (J2 : Int → Prop),
        (∀ (x3 : Int),
            Go.K.ifB (Decidable.decide (x3 < (↑(List.length a3) : Int)))
                (((0 : Int) ≤ x3 ∧ x3 < (↑(List.length a3) : Int)) ∧
                  w_spec_l04Label (List.getD a3 (Int.toNat x3) (0 : Int)) fun y4 =>
                    Go.K.ifB (!y4) (K Bool.false) (J2 (Go.IntKind.wrap Go.IntKind.i64 (x3 + (1 : Int)))))
                (K Bool.true) →
              J2 x3) →
          J2 (0 : Int)))) := by kernel_rfl
theorem spec_l04Is.eq (a1 : Int) (a2 : Int) (a3 : List Int) (K : Bool → Prop) : spec_l04Is.wp a1 a2 a3 K =
  (Go.K.grains.spec_l02Size.wp a1 a2 fun y1 =>
  Go.K.ifB (!y1) (K Bool.false)
    (Go.K.ifB ((↑(List.length a3) : Int) != Go.IntKind.wrap Go.IntKind.i64 (a1 * a2)) (K Bool.false)
      (∀ (J2 : Int → Prop),
        (∀ (x3 : Int),
            Go.K.ifB (Decidable.decide (x3 < (↑(List.length a3) : Int)))
                (((0 : Int) ≤ x3 ∧ x3 < (↑(List.length a3) : Int)) ∧
                  Go.K.grains.spec_l04Label.wp (List.getD a3 (Int.toNat x3) (0 : Int)) fun y4 =>
                    Go.K.ifB (!y4) (K Bool.false) (J2 (Go.IntKind.wrap Go.IntKind.i64 (x3 + (1 : Int)))))
                (K Bool.true) →
              J2 x3) →
          J2 (0 : Int)))) := spec_l04Is.tx spec_l02Size.wp spec_l04Label.wp a1 a2 a3 K

theorem spec_l00Min.tx  (a1 : Int) (a2 : Int) (K : Int → Prop) : spec_l00Min.bd  a1 a2 K =
  (Go.K.ifB (Decidable.decide (a1 < a2)) (K a1) (K a2)) := by kernel_rfl
theorem spec_l00Min.eq (a1 : Int) (a2 : Int) (K : Int → Prop) : spec_l00Min.wp a1 a2 K =
  (Go.K.ifB (Decidable.decide (a1 < a2)) (K a1) (K a2)) := spec_l00Min.tx  a1 a2 K

theorem spec_l00Max.tx  (a1 : Int) (a2 : Int) (K : Int → Prop) : spec_l00Max.bd  a1 a2 K =
  (Go.K.ifB (Decidable.decide (a1 > a2)) (K a1) (K a2)) := by kernel_rfl
theorem spec_l00Max.eq (a1 : Int) (a2 : Int) (K : Int → Prop) : spec_l00Max.wp a1 a2 K =
  (Go.K.ifB (Decidable.decide (a1 > a2)) (K a1) (K a2)) := spec_l00Max.tx  a1 a2 K

theorem spec_l02Place.tx (w_spec_l00Min : Int → Int → (Int → Prop) → Prop) (w_spec_l00Max : Int → Int → (Int → Prop) → Prop) (a1 : Int) (a2 : Int) (a3 : Bool) (K : Int → Prop) : spec_l02Place.bd w_spec_l00Min w_spec_l00Max a1 a2 a3 K =
  (Go.K.ifB a3 (a2 ≠ (0 : Int) ∧ a2 ≠ (0 : Int) ∧ K (Int.tmod (Go.IntKind.wrap Go.IntKind.i64 (Int.tmod a1 a2 + a2)) a2))
  (w_spec_l00Min (Go.IntKind.wrap Go.IntKind.i64 (a2 - (1 : Int))) a1 fun y1 => w_spec_l00Max (0 : Int) y1 fun y2 => K y2)) := by kernel_rfl
theorem spec_l02Place.eq (a1 : Int) (a2 : Int) (a3 : Bool) (K : Int → Prop) : spec_l02Place.wp a1 a2 a3 K =
  (Go.K.ifB a3 (a2 ≠ (0 : Int) ∧ a2 ≠ (0 : Int) ∧ K (Int.tmod (Go.IntKind.wrap Go.IntKind.i64 (Int.tmod a1 a2 + a2)) a2))
  (Go.K.grains.spec_l00Min.wp (Go.IntKind.wrap Go.IntKind.i64 (a2 - (1 : Int))) a1 fun y1 => Go.K.grains.spec_l00Max.wp (0 : Int) y1 fun y2 => K y2)) := spec_l02Place.tx spec_l00Min.wp spec_l00Max.wp a1 a2 a3 K

theorem spec_l04About.tx (w_spec_l02Place : Int → Int → Bool → (Int → Prop) → Prop) (a1 : Int) (a2 : Int) (a3 : List Int) (a4 : Int) (a5 : Int) (K : Int → Prop) : spec_l04About.bd w_spec_l02Place a1 a2 a3 a4 a5 K =
  (w_spec_l02Place a4 a1 Bool.true fun y1 =>
  w_spec_l02Place a5 a2 Bool.true fun y2 =>
    ((0 : Int) ≤ Go.IntKind.wrap Go.IntKind.i64 (y1 + Go.IntKind.wrap Go.IntKind.i64 (a1 * y2)) ∧
        Go.IntKind.wrap Go.IntKind.i64 (y1 + Go.IntKind.wrap Go.IntKind.i64 (a1 * y2)) < (↑(List.length a3) : Int)) ∧
      K (List.getD a3 (Int.toNat (Go.IntKind.wrap Go.IntKind.i64 (y1 + Go.IntKind.wrap Go.IntKind.i64 (a1 * y2)))) (0 : Int))) := by kernel_rfl
theorem spec_l04About.eq (a1 : Int) (a2 : Int) (a3 : List Int) (a4 : Int) (a5 : Int) (K : Int → Prop) : spec_l04About.wp a1 a2 a3 a4 a5 K =
  (Go.K.grains.spec_l02Place.wp a4 a1 Bool.true fun y1 =>
  Go.K.grains.spec_l02Place.wp a5 a2 Bool.true fun y2 =>
    ((0 : Int) ≤ Go.IntKind.wrap Go.IntKind.i64 (y1 + Go.IntKind.wrap Go.IntKind.i64 (a1 * y2)) ∧
        Go.IntKind.wrap Go.IntKind.i64 (y1 + Go.IntKind.wrap Go.IntKind.i64 (a1 * y2)) < (↑(List.length a3) : Int)) ∧
      K (List.getD a3 (Int.toNat (Go.IntKind.wrap Go.IntKind.i64 (y1 + Go.IntKind.wrap Go.IntKind.i64 (a1 * y2)))) (0 : Int))) := spec_l04About.tx spec_l02Place.wp a1 a2 a3 a4 a5 K

theorem spec_TriplePoints.tx (w_spec_l04Is : Int → Int → List Int → (Bool → Prop) → Prop) (w_spec_l04About : Int → Int → List Int → Int → Int → (Int → Prop) → Prop) (a1 : List Int) (a2 : Int) (a3 : Int) (K : Int → Bool → Prop) : spec_TriplePoints.bd w_spec_l04Is w_spec_l04About a1 a2 a3 K =
  (w_spec_l04Is a2 a3 a1 fun y1 =>
  Go.K.ifB (!y1) (K (0 : Int) Bool.false)
    (∀ (J2 : Int → Int → Int → Int → Prop),
      (∀ (x3 x4 x5 x6 : Int),
          Go.K.ifB (Decidable.decide (x6 < Go.IntKind.wrap Go.IntKind.i64 (x3 * x4)))
              (x3 ≠ (0 : Int) ∧
                x3 ≠ (0 : Int) ∧
                  ((0 : Int) ≤ x6 ∧ x6 < (↑(List.length a1) : Int)) ∧
                    w_spec_l04About x3 x4 a1 (Go.IntKind.wrap Go.IntKind.i64 (Int.tmod x6 x3 + (1 : Int))) (Go.IntKind.wrap Go.IntKind.i64 (Int.tdiv x6 x3)) fun y7 =>
                      w_spec_l04About x3 x4 a1 (Int.tmod x6 x3) (Go.IntKind.wrap Go.IntKind.i64 (Go.IntKind.wrap Go.IntKind.i64 (Int.tdiv x6 x3) + (1 : Int)))
                        fun y8 =>
                        w_spec_l04About x3 x4 a1 (Go.IntKind.wrap Go.IntKind.i64 (Int.tmod x6 x3 + (1 : Int)))
                          (Go.IntKind.wrap Go.IntKind.i64 (Go.IntKind.wrap Go.IntKind.i64 (Int.tdiv x6 x3) + (1 : Int))) fun y9 =>
                          ∀ (J10 : Int → Int → List Int → Int → Int → Int → Int → Prop),
                            (∀ (x11 x12 : Int) (x13 : List Int) (x14 x15 x16 x17 : Int),
                                Go.K.ifB (Decidable.decide (x17 < (4 : Int)))
                                    (∀ (J18 : Int → Int → List Int → Int → Int → Int → Int → Bool → Int → Prop),
                                      (∀ (x19 x20 : Int) (x21 : List Int) (x22 x23 x24 x25 : Int) (x26 : Bool) (x27 : Int),
                                          Go.K.ifB (Decidable.decide (x27 < x25))
                                              (Go.K.ifB x26
                                                (((0 : Int) ≤ x27 ∧ x27 < (↑(List.length x21) : Int)) ∧
                                                  ((0 : Int) ≤ x25 ∧ x25 < (↑(List.length x21) : Int)) ∧
                                                    J18 x19 x20 x21 x22 x23 x24 x25 (List.getD x21 (Int.toNat x27) (0 : Int) != List.getD x21 (Int.toNat x25) (0 : Int))
                                                      (Go.IntKind.wrap Go.IntKind.i64 (x27 + (1 : Int))))
                                                (J18 x19 x20 x21 x22 x23 x24 x25 Bool.false (Go.IntKind.wrap Go.IntKind.i64 (x27 + (1 : Int)))))
                                              (Go.K.ifB x26
                                                (J10 x19 x20 x21 x22 x23 (Go.IntKind.wrap Go.IntKind.i64 (x24 + (1 : Int))) (Go.IntKind.wrap Go.IntKind.i64 (x25 + (1 : Int))))
                                                (J10 x19 x20 x21 x22 x23 x24 (Go.IntKind.wrap Go.IntKind.i64 (x25 + (1 : Int))))) →
                                            J18 x19 x20 x21 x22 x23 x24 x25 x26 x27) →
                                        J18 x11 x12 x13 x14 x15 x16 x17 Bool.true (0 : Int))
                                    (Go.K.ifB (Decidable.decide (x16 ≥ (3 : Int)))
                                      (J2 x11 x12 (Go.IntKind.wrap Go.IntKind.i64 (x14 + (1 : Int))) (Go.IntKind.wrap Go.IntKind.i64 (x15 + (1 : Int))))
                                      (J2 x11 x12 x14 (Go.IntKind.wrap Go.IntKind.i64 (x15 + (1 : Int))))) →
                                  J10 x11 x12 x13 x14 x15 x16 x17) →
                              J10 x3 x4 (List.getD a1 (Int.toNat x6) (0 : Int) :: y7 :: y8 :: y9 :: List.replicate (0 : Nat) (0 : Int)) x5 x6 (0 : Int) (0 : Int))
              (K x5 Bool.true) →
            J2 x3 x4 x5 x6) →
        J2 a2 a3 (0 : Int) (0 : Int))) := by kernel_rfl
theorem spec_TriplePoints.eq (a1 : List Int) (a2 : Int) (a3 : Int) (K : Int → Bool → Prop) : spec_TriplePoints.wp a1 a2 a3 K =
  (Go.K.grains.spec_l04Is.wp a2 a3 a1 fun y1 =>
  Go.K.ifB (!y1) (K (0 : Int) Bool.false)
    (∀ (J2 : Int → Int → Int → Int → Prop),
      (∀ (x3 x4 x5 x6 : Int),
          Go.K.ifB (Decidable.decide (x6 < Go.IntKind.wrap Go.IntKind.i64 (x3 * x4)))
              (x3 ≠ (0 : Int) ∧
                x3 ≠ (0 : Int) ∧
                  ((0 : Int) ≤ x6 ∧ x6 < (↑(List.length a1) : Int)) ∧
                    Go.K.grains.spec_l04About.wp x3 x4 a1 (Go.IntKind.wrap Go.IntKind.i64 (Int.tmod x6 x3 + (1 : Int))) (Go.IntKind.wrap Go.IntKind.i64 (Int.tdiv x6 x3)) fun y7 =>
                      Go.K.grains.spec_l04About.wp x3 x4 a1 (Int.tmod x6 x3) (Go.IntKind.wrap Go.IntKind.i64 (Go.IntKind.wrap Go.IntKind.i64 (Int.tdiv x6 x3) + (1 : Int)))
                        fun y8 =>
                        Go.K.grains.spec_l04About.wp x3 x4 a1 (Go.IntKind.wrap Go.IntKind.i64 (Int.tmod x6 x3 + (1 : Int)))
                          (Go.IntKind.wrap Go.IntKind.i64 (Go.IntKind.wrap Go.IntKind.i64 (Int.tdiv x6 x3) + (1 : Int))) fun y9 =>
                          ∀ (J10 : Int → Int → List Int → Int → Int → Int → Int → Prop),
                            (∀ (x11 x12 : Int) (x13 : List Int) (x14 x15 x16 x17 : Int),
                                Go.K.ifB (Decidable.decide (x17 < (4 : Int)))
                                    (∀ (J18 : Int → Int → List Int → Int → Int → Int → Int → Bool → Int → Prop),
                                      (∀ (x19 x20 : Int) (x21 : List Int) (x22 x23 x24 x25 : Int) (x26 : Bool) (x27 : Int),
                                          Go.K.ifB (Decidable.decide (x27 < x25))
                                              (Go.K.ifB x26
                                                (((0 : Int) ≤ x27 ∧ x27 < (↑(List.length x21) : Int)) ∧
                                                  ((0 : Int) ≤ x25 ∧ x25 < (↑(List.length x21) : Int)) ∧
                                                    J18 x19 x20 x21 x22 x23 x24 x25 (List.getD x21 (Int.toNat x27) (0 : Int) != List.getD x21 (Int.toNat x25) (0 : Int))
                                                      (Go.IntKind.wrap Go.IntKind.i64 (x27 + (1 : Int))))
                                                (J18 x19 x20 x21 x22 x23 x24 x25 Bool.false (Go.IntKind.wrap Go.IntKind.i64 (x27 + (1 : Int)))))
                                              (Go.K.ifB x26
                                                (J10 x19 x20 x21 x22 x23 (Go.IntKind.wrap Go.IntKind.i64 (x24 + (1 : Int))) (Go.IntKind.wrap Go.IntKind.i64 (x25 + (1 : Int))))
                                                (J10 x19 x20 x21 x22 x23 x24 (Go.IntKind.wrap Go.IntKind.i64 (x25 + (1 : Int))))) →
                                            J18 x19 x20 x21 x22 x23 x24 x25 x26 x27) →
                                        J18 x11 x12 x13 x14 x15 x16 x17 Bool.true (0 : Int))
                                    (Go.K.ifB (Decidable.decide (x16 ≥ (3 : Int)))
                                      (J2 x11 x12 (Go.IntKind.wrap Go.IntKind.i64 (x14 + (1 : Int))) (Go.IntKind.wrap Go.IntKind.i64 (x15 + (1 : Int))))
                                      (J2 x11 x12 x14 (Go.IntKind.wrap Go.IntKind.i64 (x15 + (1 : Int))))) →
                                  J10 x11 x12 x13 x14 x15 x16 x17) →
                              J10 x3 x4 (List.getD a1 (Int.toNat x6) (0 : Int) :: y7 :: y8 :: y9 :: List.replicate (0 : Nat) (0 : Int)) x5 x6 (0 : Int) (0 : Int))
              (K x5 Bool.true) →
            J2 x3 x4 x5 x6) →
        J2 a2 a3 (0 : Int) (0 : Int))) := spec_TriplePoints.tx spec_l04Is.wp spec_l04About.wp a1 a2 a3 K

theorem impl_within.tx  (a1 : Int) (a2 : Int) (a3 : Int) (K : Bool → Prop) : impl_within.bd  a1 a2 a3 K =
  (Go.K.ifB (Decidable.decide (a2 ≤ a1)) (K (Decidable.decide (a1 ≤ a3))) (K Bool.false)) := by kernel_rfl
theorem impl_within.eq (a1 : Int) (a2 : Int) (a3 : Int) (K : Bool → Prop) : impl_within.wp a1 a2 a3 K =
  (Go.K.ifB (Decidable.decide (a2 ≤ a1)) (K (Decidable.decide (a1 ≤ a3))) (K Bool.false)) := impl_within.tx  a1 a2 a3 K

theorem impl_areWithin_1.tx (w_impl_within : Int → Int → Int → (Bool → Prop) → Prop) (a1 : Int) (a2 : Int) (a3 : Int) (K : Bool → Prop) : impl_areWithin_1.bd w_impl_within a1 a2 a3 K =
  (w_impl_within a3 a1 a2 fun y1 => K !y1) := by kernel_rfl
theorem impl_areWithin_1.eq (a1 : Int) (a2 : Int) (a3 : Int) (K : Bool → Prop) : impl_areWithin_1.wp a1 a2 a3 K =
  (Go.K.grains.impl_within.wp a3 a1 a2 fun y1 => K !y1) := impl_areWithin_1.tx impl_within.wp a1 a2 a3 K

theorem slices_IndexFunc_int64_int64__areWithin_1.tx (w_impl_areWithin_1 : Int → Int → Int → (Bool → Prop) → Prop) (a1 : List Int) (a2 : Int) (a3 : Int) (K : Int → Prop) : slices_IndexFunc_int64_int64__areWithin_1.bd w_impl_areWithin_1 a1 a2 a3 K =
  (∀ (J1 : Int → Int → Prop),
  (∀ (x2 x3 : Int),
      Go.K.ifB (Decidable.decide (x3 < x2))
          (((0 : Int) ≤ x3 ∧ x3 < (↑(List.length a1) : Int)) ∧
            w_impl_areWithin_1 a2 a3 (List.getD a1 (Int.toNat x3) (0 : Int)) fun y4 => Go.K.ifB y4 (K x3) (J1 x2 (Go.IntKind.wrap Go.IntKind.i64 (x3 + (1 : Int)))))
          (K (-1 : Int)) →
        J1 x2 x3) →
    J1 (↑(List.length a1) : Int) (0 : Int)) := by kernel_rfl
theorem slices_IndexFunc_int64_int64__areWithin_1.eq (a1 : List Int) (a2 : Int) (a3 : Int) (K : Int → Prop) : slices_IndexFunc_int64_int64__areWithin_1.wp a1 a2 a3 K =
  (∀ (J1 : Int → Int → Prop),
  (∀ (x2 x3 : Int),
      Go.K.ifB (Decidable.decide (x3 < x2))
          (((0 : Int) ≤ x3 ∧ x3 < (↑(List.length a1) : Int)) ∧
            Go.K.grains.impl_areWithin_1.wp a2 a3 (List.getD a1 (Int.toNat x3) (0 : Int)) fun y4 => Go.K.ifB y4 (K x3) (J1 x2 (Go.IntKind.wrap Go.IntKind.i64 (x3 + (1 : Int)))))
          (K (-1 : Int)) →
        J1 x2 x3) →
    J1 (↑(List.length a1) : Int) (0 : Int)) := slices_IndexFunc_int64_int64__areWithin_1.tx impl_areWithin_1.wp a1 a2 a3 K

theorem slices_ContainsFunc_int64_int64__areWithin_1.tx (w_slices_IndexFunc_int64_int64__areWithin_1 : List Int → Int → Int → (Int → Prop) → Prop) (a1 : List Int) (a2 : Int) (a3 : Int) (K : Bool → Prop) : slices_ContainsFunc_int64_int64__areWithin_1.bd w_slices_IndexFunc_int64_int64__areWithin_1 a1 a2 a3 K =
  (w_slices_IndexFunc_int64_int64__areWithin_1 a1 a2 a3 fun y1 => K (Decidable.decide (y1 ≥ (0 : Int)))) := by kernel_rfl
theorem slices_ContainsFunc_int64_int64__areWithin_1.eq (a1 : List Int) (a2 : Int) (a3 : Int) (K : Bool → Prop) : slices_ContainsFunc_int64_int64__areWithin_1.wp a1 a2 a3 K =
  (Go.K.grains.slices_IndexFunc_int64_int64__areWithin_1.wp a1 a2 a3 fun y1 => K (Decidable.decide (y1 ≥ (0 : Int)))) := slices_ContainsFunc_int64_int64__areWithin_1.tx slices_IndexFunc_int64_int64__areWithin_1.wp a1 a2 a3 K

theorem impl_areWithin.tx (w_slices_ContainsFunc_int64_int64__areWithin_1 : List Int → Int → Int → (Bool → Prop) → Prop) (a1 : List Int) (a2 : Int) (a3 : Int) (K : Bool → Prop) : impl_areWithin.bd w_slices_ContainsFunc_int64_int64__areWithin_1 a1 a2 a3 K =
  (w_slices_ContainsFunc_int64_int64__areWithin_1 a1 a2 a3 fun y1 => K !y1) := by kernel_rfl
theorem impl_areWithin.eq (a1 : List Int) (a2 : Int) (a3 : Int) (K : Bool → Prop) : impl_areWithin.wp a1 a2 a3 K =
  (Go.K.grains.slices_ContainsFunc_int64_int64__areWithin_1.wp a1 a2 a3 fun y1 => K !y1) := impl_areWithin.tx slices_ContainsFunc_int64_int64__areWithin_1.wp a1 a2 a3 K

theorem impl_ValidGrains.tx (w_impl_areWithin : List Int → Int → Int → (Bool → Prop) → Prop) (a1 : List Int) (a2 : Int) (a3 : Int) (K : Bool → Prop) : impl_ValidGrains.bd w_impl_areWithin a1 a2 a3 K =
  (w_impl_areWithin (a2 :: a3 :: List.replicate (0 : Nat) (0 : Int)) (1 : Int) (16 : Int) fun y1 =>
  Go.K.ifB y1
    (Go.K.ifB ((↑(List.length a1) : Int) == Go.IntKind.wrap Go.IntKind.i64 (a2 * a3)) (w_impl_areWithin a1 (0 : Int) (63 : Int) fun y2 => K y2) (K Bool.false))
    (K Bool.false)) := by kernel_rfl
theorem impl_ValidGrains.eq (a1 : List Int) (a2 : Int) (a3 : Int) (K : Bool → Prop) : impl_ValidGrains.wp a1 a2 a3 K =
  (Go.K.grains.impl_areWithin.wp (a2 :: a3 :: List.replicate (0 : Nat) (0 : Int)) (1 : Int) (16 : Int) fun y1 =>
  Go.K.ifB y1
    (Go.K.ifB ((↑(List.length a1) : Int) == Go.IntKind.wrap Go.IntKind.i64 (a2 * a3)) (Go.K.grains.impl_areWithin.wp a1 (0 : Int) (63 : Int) fun y2 => K y2) (K Bool.false))
    (K Bool.false)) := impl_ValidGrains.tx impl_areWithin.wp a1 a2 a3 K

theorem impl_place.tx  (a1 : Int) (a2 : Int) (a3 : Bool) (K : Int → Prop) : impl_place.bd  a1 a2 a3 K =
  (Go.K.ifB a3 (a2 ≠ (0 : Int) ∧ a2 ≠ (0 : Int) ∧ K (Int.tmod (Go.IntKind.wrap Go.IntKind.i64 (Int.tmod a1 a2 + a2)) a2))
  (K (Go.K.mmI Bool.false (Go.K.mmI Bool.true a1 (0 : Int)) (Go.IntKind.wrap Go.IntKind.i64 (a2 - (1 : Int)))))) := by kernel_rfl
theorem impl_place.eq (a1 : Int) (a2 : Int) (a3 : Bool) (K : Int → Prop) : impl_place.wp a1 a2 a3 K =
  (Go.K.ifB a3 (a2 ≠ (0 : Int) ∧ a2 ≠ (0 : Int) ∧ K (Int.tmod (Go.IntKind.wrap Go.IntKind.i64 (Int.tmod a1 a2 + a2)) a2))
  (K (Go.K.mmI Bool.false (Go.K.mmI Bool.true a1 (0 : Int)) (Go.IntKind.wrap Go.IntKind.i64 (a2 - (1 : Int)))))) := impl_place.tx  a1 a2 a3 K

theorem impl_Grains_cell.tx (w_impl_place : Int → Int → Bool → (Int → Prop) → Prop) (a1 : List Int) (a2 : Int) (a3 : Int) (a4 : Int) (a5 : Int) (K : Int → Prop) : impl_Grains_cell.bd w_impl_place a1 a2 a3 a4 a5 K =
  (w_impl_place a4 a2 Bool.true fun y1 =>
  w_impl_place a5 a3 Bool.true fun y2 => K (Go.IntKind.wrap Go.IntKind.i64 (y1 + Go.IntKind.wrap Go.IntKind.i64 (a2 * y2)))) := by kernel_rfl
theorem impl_Grains_cell.eq (a1 : List Int) (a2 : Int) (a3 : Int) (a4 : Int) (a5 : Int) (K : Int → Prop) : impl_Grains_cell.wp a1 a2 a3 a4 a5 K =
  (Go.K.grains.impl_place.wp a4 a2 Bool.true fun y1 =>
  Go.K.grains.impl_place.wp a5 a3 Bool.true fun y2 => K (Go.IntKind.wrap Go.IntKind.i64 (y1 + Go.IntKind.wrap Go.IntKind.i64 (a2 * y2)))) := impl_Grains_cell.tx impl_place.wp a1 a2 a3 a4 a5 K

theorem impl_Grains_about.tx (w_impl_Grains_cell : List Int → Int → Int → Int → Int → (Int → Prop) → Prop) (a1 : List Int) (a2 : Int) (a3 : Int) (a4 : Int) (a5 : Int) (K : Int → Prop) : impl_Grains_about.bd w_impl_Grains_cell a1 a2 a3 a4 a5 K =
  (w_impl_Grains_cell a1 a2 a3 a4 a5 fun y1 => ((0 : Int) ≤ y1 ∧ y1 < (↑(List.length a1) : Int)) ∧ K (List.getD a1 (Int.toNat y1) (0 : Int))) := by kernel_rfl
theorem impl_Grains_about.eq (a1 : List Int) (a2 : Int) (a3 : Int) (a4 : Int) (a5 : Int) (K : Int → Prop) : impl_Grains_about.wp a1 a2 a3 a4 a5 K =
  (Go.K.grains.impl_Grains_cell.wp a1 a2 a3 a4 a5 fun y1 => ((0 : Int) ≤ y1 ∧ y1 < (↑(List.length a1) : Int)) ∧ K (List.getD a1 (Int.toNat y1) (0 : Int))) := impl_Grains_about.tx impl_Grains_cell.wp a1 a2 a3 a4 a5 K

theorem impl_set.tx (w_slices_Sort_int64_int64 : List Int → (List Int → Prop) → Prop) (w_slices_Compact_int64_int64 : List Int → (List Int → Prop) → Prop) (a1 : List Int) (K : List Int → Prop) : impl_set.bd w_slices_Sort_int64_int64 w_slices_Compact_int64_int64 a1 K =
  (List.length (List.replicate (0 : Nat) (0 : Int) ++ a1) ≤ (1099511627776 : Nat) ∧
  w_slices_Sort_int64_int64 (List.replicate (0 : Nat) (0 : Int) ++ a1) fun y1 => w_slices_Compact_int64_int64 y1 fun y2 => K y2) := by kernel_rfl
theorem impl_set.eq (a1 : List Int) (K : List Int → Prop) : impl_set.wp a1 K =
  (List.length (List.replicate (0 : Nat) (0 : Int) ++ a1) ≤ (1099511627776 : Nat) ∧
  Go.K.grains.slices_Sort_int64_int64.wp (List.replicate (0 : Nat) (0 : Int) ++ a1) fun y1 => Go.K.grains.slices_Compact_int64_int64.wp y1 fun y2 => K y2) := impl_set.tx slices_Sort_int64_int64.wp slices_Compact_int64_int64.wp a1 K

theorem impl_TriplePoints.tx (w_impl_ValidGrains : List Int → Int → Int → (Bool → Prop) → Prop) (w_impl_Grains_about : List Int → Int → Int → Int → Int → (Int → Prop) → Prop) (w_impl_set : List Int → (List Int → Prop) → Prop) (a1 : List Int) (a2 : Int) (a3 : Int) (K : Int → Bool → Prop) : impl_TriplePoints.bd w_impl_ValidGrains w_impl_Grains_about w_impl_set a1 a2 a3 K =
  (w_impl_ValidGrains a1 a2 a3 fun y1 =>
  Go.K.ifB (!y1) (K (0 : Int) Bool.false)
    (∀ (J2 : Int → Int → Int → Int → Int → Prop),
      (∀ (x3 x4 x5 x6 x7 : Int),
          Go.K.ifB (Decidable.decide (x7 < x6))
              (x3 ≠ (0 : Int) ∧
                x3 ≠ (0 : Int) ∧
                  w_impl_Grains_about a1 x3 x4 (Int.tmod x7 x3) (Go.IntKind.wrap Go.IntKind.i64 (Int.tdiv x7 x3)) fun y8 =>
                    w_impl_Grains_about a1 x3 x4 (Go.IntKind.wrap Go.IntKind.i64 (Int.tmod x7 x3 + (1 : Int))) (Go.IntKind.wrap Go.IntKind.i64 (Int.tdiv x7 x3))
                      fun y9 =>
                      w_impl_Grains_about a1 x3 x4 (Int.tmod x7 x3) (Go.IntKind.wrap Go.IntKind.i64 (Go.IntKind.wrap Go.IntKind.i64 (Int.tdiv x7 x3) + (1 : Int)))
                        fun y10 =>
                        w_impl_Grains_about a1 x3 x4 (Go.IntKind.wrap Go.IntKind.i64 (Int.tmod x7 x3 + (1 : Int)))
                          (Go.IntKind.wrap Go.IntKind.i64 (Go.IntKind.wrap Go.IntKind.i64 (Int.tdiv x7 x3) + (1 : Int))) fun y11 =>
                          w_impl_set (y8 :: y9 :: y10 :: y11 :: List.replicate (0 : Nat) (0 : Int)) fun y12 =>
                            Go.K.ifB (Decidable.decide ((↑(List.length y12) : Int) ≥ (3 : Int)))
                              (J2 x3 x4 (Go.IntKind.wrap Go.IntKind.i64 (x5 + (1 : Int))) x6 (Go.IntKind.wrap Go.IntKind.i64 (x7 + (1 : Int))))
                              (J2 x3 x4 x5 x6 (Go.IntKind.wrap Go.IntKind.i64 (x7 + (1 : Int)))))
              (K x5 Bool.true) →
            J2 x3 x4 x5 x6 x7) →
        J2 a2 a3 (0 : Int) (↑(List.length a1) : Int) (0 : Int))) := by kernel_rfl
theorem impl_TriplePoints.eq (a1 : List Int) (a2 : Int) (a3 : Int) (K : Int → Bool → Prop) : impl_TriplePoints.wp a1 a2 a3 K =
  (Go.K.grains.impl_ValidGrains.wp a1 a2 a3 fun y1 =>
  Go.K.ifB (!y1) (K (0 : Int) Bool.false)
    (∀ (J2 : Int → Int → Int → Int → Int → Prop),
      (∀ (x3 x4 x5 x6 x7 : Int),
          Go.K.ifB (Decidable.decide (x7 < x6))
              (x3 ≠ (0 : Int) ∧
                x3 ≠ (0 : Int) ∧
                  Go.K.grains.impl_Grains_about.wp a1 x3 x4 (Int.tmod x7 x3) (Go.IntKind.wrap Go.IntKind.i64 (Int.tdiv x7 x3)) fun y8 =>
                    Go.K.grains.impl_Grains_about.wp a1 x3 x4 (Go.IntKind.wrap Go.IntKind.i64 (Int.tmod x7 x3 + (1 : Int))) (Go.IntKind.wrap Go.IntKind.i64 (Int.tdiv x7 x3))
                      fun y9 =>
                      Go.K.grains.impl_Grains_about.wp a1 x3 x4 (Int.tmod x7 x3) (Go.IntKind.wrap Go.IntKind.i64 (Go.IntKind.wrap Go.IntKind.i64 (Int.tdiv x7 x3) + (1 : Int)))
                        fun y10 =>
                        Go.K.grains.impl_Grains_about.wp a1 x3 x4 (Go.IntKind.wrap Go.IntKind.i64 (Int.tmod x7 x3 + (1 : Int)))
                          (Go.IntKind.wrap Go.IntKind.i64 (Go.IntKind.wrap Go.IntKind.i64 (Int.tdiv x7 x3) + (1 : Int))) fun y11 =>
                          Go.K.grains.impl_set.wp (y8 :: y9 :: y10 :: y11 :: List.replicate (0 : Nat) (0 : Int)) fun y12 =>
                            Go.K.ifB (Decidable.decide ((↑(List.length y12) : Int) ≥ (3 : Int)))
                              (J2 x3 x4 (Go.IntKind.wrap Go.IntKind.i64 (x5 + (1 : Int))) x6 (Go.IntKind.wrap Go.IntKind.i64 (x7 + (1 : Int))))
                              (J2 x3 x4 x5 x6 (Go.IntKind.wrap Go.IntKind.i64 (x7 + (1 : Int)))))
              (K x5 Bool.true) →
            J2 x3 x4 x5 x6 x7) →
        J2 a2 a3 (0 : Int) (↑(List.length a1) : Int) (0 : Int))) := impl_TriplePoints.tx impl_ValidGrains.wp impl_Grains_about.wp impl_set.wp a1 a2 a3 K

theorem laws_eqInt64S.tx  (a1 : List Int) (a2 : List Int) (K : Bool → Prop) : laws_eqInt64S.bd  a1 a2 K =
  (Go.K.ifB ((↑(List.length a1) : Int) != (↑(List.length a2) : Int)) (K Bool.false)
  (∀ (J1 : Int → Prop),
    (∀ (x2 : Int),
        Go.K.ifB (Decidable.decide (x2 < (↑(List.length a1) : Int)))
            (((0 : Int) ≤ x2 ∧ x2 < (↑(List.length a1) : Int)) ∧
              ((0 : Int) ≤ x2 ∧ x2 < (↑(List.length a2) : Int)) ∧
                Go.K.ifB (List.getD a1 (Int.toNat x2) (0 : Int) != List.getD a2 (Int.toNat x2) (0 : Int)) (K Bool.false) (J1 (Go.IntKind.wrap Go.IntKind.i64 (x2 + (1 : Int)))))
            (K Bool.true) →
          J1 x2) →
      J1 (0 : Int))) := by kernel_rfl
theorem laws_eqInt64S.eq (a1 : List Int) (a2 : List Int) (K : Bool → Prop) : laws_eqInt64S.wp a1 a2 K =
  (Go.K.ifB ((↑(List.length a1) : Int) != (↑(List.length a2) : Int)) (K Bool.false)
  (∀ (J1 : Int → Prop),
    (∀ (x2 : Int),
        Go.K.ifB (Decidable.decide (x2 < (↑(List.length a1) : Int)))
            (((0 : Int) ≤ x2 ∧ x2 < (↑(List.length a1) : Int)) ∧
              ((0 : Int) ≤ x2 ∧ x2 < (↑(List.length a2) : Int)) ∧
                Go.K.ifB (List.getD a1 (Int.toNat x2) (0 : Int) != List.getD a2 (Int.toNat x2) (0 : Int)) (K Bool.false) (J1 (Go.IntKind.wrap Go.IntKind.i64 (x2 + (1 : Int)))))
            (K Bool.true) →
          J1 x2) →
      J1 (0 : Int))) := laws_eqInt64S.tx  a1 a2 K

theorem laws_eqGrains.tx (w_laws_eqInt64S : List Int → List Int → (Bool → Prop) → Prop) (a1 : List Int) (a2 : List Int) (a3 : Int) (a4 : Int) (a5 : Int) (a6 : Int) (K : Bool → Prop) : laws_eqGrains.bd w_laws_eqInt64S a1 a2 a3 a4 a5 a6 K =
  (Go.K.ifB (a3 != a5) (K Bool.false)
  (Go.K.ifB (a4 != a6) (K Bool.false) (w_laws_eqInt64S a1 a2 fun y1 => Go.K.ifB (!y1) (K Bool.false) (K Bool.true)))) := by kernel_rfl
theorem laws_eqGrains.eq (a1 : List Int) (a2 : List Int) (a3 : Int) (a4 : Int) (a5 : Int) (a6 : Int) (K : Bool → Prop) : laws_eqGrains.wp a1 a2 a3 a4 a5 a6 K =
  (Go.K.ifB (a3 != a5) (K Bool.false)
  (Go.K.ifB (a4 != a6) (K Bool.false) (Go.K.grains.laws_eqInt64S.wp a1 a2 fun y1 => Go.K.ifB (!y1) (K Bool.false) (K Bool.true)))) := laws_eqGrains.tx laws_eqInt64S.wp a1 a2 a3 a4 a5 a6 K

theorem laws_FnExactTriplePoints.tx (w_laws_szGrains : List Int → Int → Int → Int → (Int → Prop) → Prop) (w_laws_toGrains : List Int → Int → Int → (List Int → Int → Int → Prop) → Prop) (w_spec_TriplePoints : List Int → Int → Int → (Int → Bool → Prop) → Prop) (w_impl_TriplePoints : List Int → Int → Int → (Int → Bool → Prop) → Prop) (w_laws_eqGrains : List Int → List Int → Int → Int → Int → Int → (Bool → Prop) → Prop) (a1 : List Int) (a2 : Int) (a3 : Int) (K : Bool → Prop) : laws_FnExactTriplePoints.bd w_laws_szGrains w_laws_toGrains w_spec_TriplePoints w_impl_TriplePoints w_laws_eqGrains a1 a2 a3 K =
  (w_laws_szGrains a1 a2 a3 (1048576 : Int) fun y1 =>
  Go.K.ifB (Decidable.decide (y1 < (0 : Int))) (K Bool.true)
    (w_laws_toGrains a1 a2 a3 fun y2 y3 y4 =>
      w_spec_TriplePoints y2 y3 y4 fun y5 y6 =>
        w_laws_toGrains a1 a2 a3 fun y7 y8 y9 =>
          w_impl_TriplePoints y7 y8 y9 fun y10 y11 =>
            Go.K.ifB (y10 != y5) (K Bool.false)
              (Go.K.ifB (y11 != y6) (K Bool.false)
                (w_laws_toGrains a1 a2 a3 fun y12 y13 y14 =>
                  w_laws_eqGrains y7 y12 y8 y9 y13 y14 fun y15 => Go.K.ifB (!y15) (K Bool.false) (K Bool.true))))) := by kernel_rfl
theorem laws_FnExactTriplePoints.eq (a1 : List Int) (a2 : Int) (a3 : Int) (K : Bool → Prop) : laws_FnExactTriplePoints.wp a1 a2 a3 K =
  (Go.K.grains.laws_szGrains.wp a1 a2 a3 (1048576 : Int) fun y1 =>
  Go.K.ifB (Decidable.decide (y1 < (0 : Int))) (K Bool.true)
    (Go.K.grains.laws_toGrains.wp a1 a2 a3 fun y2 y3 y4 =>
      Go.K.grains.spec_TriplePoints.wp y2 y3 y4 fun y5 y6 =>
        Go.K.grains.laws_toGrains.wp a1 a2 a3 fun y7 y8 y9 =>
          Go.K.grains.impl_TriplePoints.wp y7 y8 y9 fun y10 y11 =>
            Go.K.ifB (y10 != y5) (K Bool.false)
              (Go.K.ifB (y11 != y6) (K Bool.false)
                (Go.K.grains.laws_toGrains.wp a1 a2 a3 fun y12 y13 y14 =>
                  Go.K.grains.laws_eqGrains.wp y7 y12 y8 y9 y13 y14 fun y15 => Go.K.ifB (!y15) (K Bool.false) (K Bool.true))))) := laws_FnExactTriplePoints.tx laws_szGrains.wp laws_toGrains.wp spec_TriplePoints.wp impl_TriplePoints.wp laws_eqGrains.wp a1 a2 a3 K

theorem spec_l04Beside.tx (w_spec_l02Place : Int → Int → Bool → (Int → Prop) → Prop) (a1 : Int) (a2 : Int) (a3 : List Int) (a4 : Int) (K : List Int → Prop) : spec_l04Beside.bd w_spec_l02Place a1 a2 a3 a4 K =
  (a1 ≠ (0 : Int) ∧
  a1 ≠ (0 : Int) ∧
    w_spec_l02Place (Go.IntKind.wrap Go.IntKind.i64 (Int.tmod a4 a1 - (1 : Int))) a1 Bool.true fun y1 =>
      w_spec_l02Place (Go.IntKind.wrap Go.IntKind.i64 (Int.tmod a4 a1 + (1 : Int))) a1 Bool.true fun y2 =>
        w_spec_l02Place (Go.IntKind.wrap Go.IntKind.i64 (Go.IntKind.wrap Go.IntKind.i64 (Int.tdiv a4 a1) - (1 : Int))) a2 Bool.true fun y3 =>
          w_spec_l02Place (Go.IntKind.wrap Go.IntKind.i64 (Go.IntKind.wrap Go.IntKind.i64 (Int.tdiv a4 a1) + (1 : Int))) a2 Bool.true fun y4 =>
            K
              (Go.IntKind.wrap Go.IntKind.i64 (y1 + Go.IntKind.wrap Go.IntKind.i64 (a1 * Go.IntKind.wrap Go.IntKind.i64 (Int.tdiv a4 a1))) ::
                Go.IntKind.wrap Go.IntKind.i64 (y2 + Go.IntKind.wrap Go.IntKind.i64 (a1 * Go.IntKind.wrap Go.IntKind.i64 (Int.tdiv a4 a1))) ::
                  Go.IntKind.wrap Go.IntKind.i64 (Int.tmod a4 a1 + Go.IntKind.wrap Go.IntKind.i64 (a1 * y3)) ::
                    Go.IntKind.wrap Go.IntKind.i64 (Int.tmod a4 a1 + Go.IntKind.wrap Go.IntKind.i64 (a1 * y4)) :: List.replicate (0 : Nat) (0 : Int))) := by kernel_rfl
theorem spec_l04Beside.eq (a1 : Int) (a2 : Int) (a3 : List Int) (a4 : Int) (K : List Int → Prop) : spec_l04Beside.wp a1 a2 a3 a4 K =
  (a1 ≠ (0 : Int) ∧
  a1 ≠ (0 : Int) ∧
    Go.K.grains.spec_l02Place.wp (Go.IntKind.wrap Go.IntKind.i64 (Int.tmod a4 a1 - (1 : Int))) a1 Bool.true fun y1 =>
      Go.K.grains.spec_l02Place.wp (Go.IntKind.wrap Go.IntKind.i64 (Int.tmod a4 a1 + (1 : Int))) a1 Bool.true fun y2 =>
        Go.K.grains.spec_l02Place.wp (Go.IntKind.wrap Go.IntKind.i64 (Go.IntKind.wrap Go.IntKind.i64 (Int.tdiv a4 a1) - (1 : Int))) a2 Bool.true fun y3 =>
          Go.K.grains.spec_l02Place.wp (Go.IntKind.wrap Go.IntKind.i64 (Go.IntKind.wrap Go.IntKind.i64 (Int.tdiv a4 a1) + (1 : Int))) a2 Bool.true fun y4 =>
            K
              (Go.IntKind.wrap Go.IntKind.i64 (y1 + Go.IntKind.wrap Go.IntKind.i64 (a1 * Go.IntKind.wrap Go.IntKind.i64 (Int.tdiv a4 a1))) ::
                Go.IntKind.wrap Go.IntKind.i64 (y2 + Go.IntKind.wrap Go.IntKind.i64 (a1 * Go.IntKind.wrap Go.IntKind.i64 (Int.tdiv a4 a1))) ::
                  Go.IntKind.wrap Go.IntKind.i64 (Int.tmod a4 a1 + Go.IntKind.wrap Go.IntKind.i64 (a1 * y3)) ::
                    Go.IntKind.wrap Go.IntKind.i64 (Int.tmod a4 a1 + Go.IntKind.wrap Go.IntKind.i64 (a1 * y4)) :: List.replicate (0 : Nat) (0 : Int))) := spec_l04Beside.tx spec_l02Place.wp a1 a2 a3 a4 K

theorem spec_BesideLabel.tx (w_spec_l04Is : Int → Int → List Int → (Bool → Prop) → Prop) (w_spec_l04Label : Int → (Bool → Prop) → Prop) (w_spec_l04Beside : Int → Int → List Int → Int → (List Int → Prop) → Prop) (a1 : List Int) (a2 : Int) (a3 : Int) (a4 : Int) (K : List Int → Bool → Prop) : spec_BesideLabel.bd w_spec_l04Is w_spec_l04Label w_spec_l04Beside a1 a2 a3 a4 K =
  (w_spec_l04Is a2 a3 a1 fun y1 =>
  Go.K.ifB (!y1) (K [] Bool.false)
    (w_spec_l04Label a4 fun y2 =>
      Go.K.ifB (!y2) (K [] Bool.false)
        (((0 : Int) ≤ (64 : Int) ∧ (64 : Int) ≤ (64 : Int) ∧ (64 : Int) ≤ (1099511627776 : Int)) ∧
          ∀ (J3 : Int → Int → List Bool → Int → Prop),
            (∀ (x4 x5 : Int) (x6 : List Bool) (x7 : Int),
                Go.K.ifB (Decidable.decide (x7 < Go.IntKind.wrap Go.IntKind.i64 (x4 * x5)))
                    (w_spec_l04Beside x4 x5 a1 x7 fun y8 =>
                      ∀ (J9 : Int → Int → List Bool → List Int → Int → Int → Prop),
                        (∀ (x10 x11 : Int) (x12 : List Bool) (x13 : List Int) (x14 x15 : Int),
                            Go.K.ifB (Decidable.decide (x15 < (4 : Int)))
                                (((0 : Int) ≤ x14 ∧ x14 < (↑(List.length a1) : Int)) ∧
                                  Go.K.ifB (List.getD a1 (Int.toNat x14) (0 : Int) == a4)
                                    (((0 : Int) ≤ x15 ∧ x15 < (↑(List.length x13) : Int)) ∧
                                      ((0 : Int) ≤ List.getD x13 (Int.toNat x15) (0 : Int) ∧ List.getD x13 (Int.toNat x15) (0 : Int) < (↑(List.length a1) : Int)) ∧
                                        ((0 : Int) ≤ List.getD a1 (Int.toNat (List.getD x13 (Int.toNat x15) (0 : Int))) (0 : Int) ∧
                                            List.getD a1 (Int.toNat (List.getD x13 (Int.toNat x15) (0 : Int))) (0 : Int) < (↑(List.length x12) : Int)) ∧
                                          J9 x10 x11 (List.set x12 (Int.toNat (List.getD a1 (Int.toNat (List.getD x13 (Int.toNat x15) (0 : Int))) (0 : Int))) Bool.true) x13 x14
                                            (Go.IntKind.wrap Go.IntKind.i64 (x15 + (1 : Int))))
                                    (J3 x10 x11 x12 (Go.IntKind.wrap Go.IntKind.i64 (x14 + (1 : Int)))))
                                (J3 x10 x11 x12 (Go.IntKind.wrap Go.IntKind.i64 (x14 + (1 : Int)))) →
                              J9 x10 x11 x12 x13 x14 x15) →
                          J9 x4 x5 x6 y8 x7 (0 : Int))
                    (∀ (J18 : List Bool → List Int → Int → Prop),
                      (∀ (x19 : List Bool) (x20 : List Int) (x21 : Int),
                          Go.K.ifB (Decidable.decide (x21 ≤ (63 : Int)))
                              (((0 : Int) ≤ x21 ∧ x21 < (↑(List.length x19) : Int)) ∧
                                Go.K.ifB (List.getD x19 (Int.toNat x21) Bool.false)
                                  (Go.K.ifB (x21 != a4)
                                    (List.length (x20 ++ x21 :: List.replicate (0 : Nat) (0 : Int)) ≤ (1099511627776 : Nat) ∧
                                      J18 x19 (x20 ++ x21 :: List.replicate (0 : Nat) (0 : Int)) (Go.IntKind.wrap Go.IntKind.i64 (x21 + (1 : Int))))
                                    (J18 x19 x20 (Go.IntKind.wrap Go.IntKind.i64 (x21 + (1 : Int)))))
                                  (J18 x19 x20 (Go.IntKind.wrap Go.IntKind.i64 (x21 + (1 : Int)))))
                              (K x20 Bool.true) →
                            J18 x19 x20 x21) →
                        J18 x6 (List.replicate (0 : Nat) (0 : Int)) (0 : Int)) →
                  J3 x4 x5 x6 x7) →
              J3 a2 a3 (List.replicate (Int.toNat (64 : Int)) Bool.false) (0 : Int)))) := by kernel_rfl
theorem spec_BesideLabel.eq (a1 : List Int) (a2 : Int) (a3 : Int) (a4 : Int) (K : List Int → Bool → Prop) : spec_BesideLabel.wp a1 a2 a3 a4 K =
  (Go.K.grains.spec_l04Is.wp a2 a3 a1 fun y1 =>
  Go.K.ifB (!y1) (K [] Bool.false)
    (Go.K.grains.spec_l04Label.wp a4 fun y2 =>
      Go.K.ifB (!y2) (K [] Bool.false)
        (((0 : Int) ≤ (64 : Int) ∧ (64 : Int) ≤ (64 : Int) ∧ (64 : Int) ≤ (1099511627776 : Int)) ∧
          ∀ (J3 : Int → Int → List Bool → Int → Prop),
            (∀ (x4 x5 : Int) (x6 : List Bool) (x7 : Int),
                Go.K.ifB (Decidable.decide (x7 < Go.IntKind.wrap Go.IntKind.i64 (x4 * x5)))
                    (Go.K.grains.spec_l04Beside.wp x4 x5 a1 x7 fun y8 =>
                      ∀ (J9 : Int → Int → List Bool → List Int → Int → Int → Prop),
                        (∀ (x10 x11 : Int) (x12 : List Bool) (x13 : List Int) (x14 x15 : Int),
                            Go.K.ifB (Decidable.decide (x15 < (4 : Int)))
                                (((0 : Int) ≤ x14 ∧ x14 < (↑(List.length a1) : Int)) ∧
                                  Go.K.ifB (List.getD a1 (Int.toNat x14) (0 : Int) == a4)
                                    (((0 : Int) ≤ x15 ∧ x15 < (↑(List.length x13) : Int)) ∧
                                      ((0 : Int) ≤ List.getD x13 (Int.toNat x15) (0 : Int) ∧ List.getD x13 (Int.toNat x15) (0 : Int) < (↑(List.length a1) : Int)) ∧
                                        ((0 : Int) ≤ List.getD a1 (Int.toNat (List.getD x13 (Int.toNat x15) (0 : Int))) (0 : Int) ∧
                                            List.getD a1 (Int.toNat (List.getD x13 (Int.toNat x15) (0 : Int))) (0 : Int) < (↑(List.length x12) : Int)) ∧
                                          J9 x10 x11 (List.set x12 (Int.toNat (List.getD a1 (Int.toNat (List.getD x13 (Int.toNat x15) (0 : Int))) (0 : Int))) Bool.true) x13 x14
                                            (Go.IntKind.wrap Go.IntKind.i64 (x15 + (1 : Int))))
                                    (J3 x10 x11 x12 (Go.IntKind.wrap Go.IntKind.i64 (x14 + (1 : Int)))))
                                (J3 x10 x11 x12 (Go.IntKind.wrap Go.IntKind.i64 (x14 + (1 : Int)))) →
                              J9 x10 x11 x12 x13 x14 x15) →
                          J9 x4 x5 x6 y8 x7 (0 : Int))
                    (∀ (J18 : List Bool → List Int → Int → Prop),
                      (∀ (x19 : List Bool) (x20 : List Int) (x21 : Int),
                          Go.K.ifB (Decidable.decide (x21 ≤ (63 : Int)))
                              (((0 : Int) ≤ x21 ∧ x21 < (↑(List.length x19) : Int)) ∧
                                Go.K.ifB (List.getD x19 (Int.toNat x21) Bool.false)
                                  (Go.K.ifB (x21 != a4)
                                    (List.length (x20 ++ x21 :: List.replicate (0 : Nat) (0 : Int)) ≤ (1099511627776 : Nat) ∧
                                      J18 x19 (x20 ++ x21 :: List.replicate (0 : Nat) (0 : Int)) (Go.IntKind.wrap Go.IntKind.i64 (x21 + (1 : Int))))
                                    (J18 x19 x20 (Go.IntKind.wrap Go.IntKind.i64 (x21 + (1 : Int)))))
                                  (J18 x19 x20 (Go.IntKind.wrap Go.IntKind.i64 (x21 + (1 : Int)))))
                              (K x20 Bool.true) →
                            J18 x19 x20 x21) →
                        J18 x6 (List.replicate (0 : Nat) (0 : Int)) (0 : Int)) →
                  J3 x4 x5 x6 x7) →
              J3 a2 a3 (List.replicate (Int.toNat (64 : Int)) Bool.false) (0 : Int)))) := spec_BesideLabel.tx spec_l04Is.wp spec_l04Label.wp spec_l04Beside.wp a1 a2 a3 a4 K

theorem impl_isLabel.tx (w_impl_within : Int → Int → Int → (Bool → Prop) → Prop) (a1 : Int) (K : Bool → Prop) : impl_isLabel.bd w_impl_within a1 K =
  (w_impl_within a1 (0 : Int) (63 : Int) fun y1 => K y1) := by kernel_rfl
theorem impl_isLabel.eq (a1 : Int) (K : Bool → Prop) : impl_isLabel.wp a1 K =
  (Go.K.grains.impl_within.wp a1 (0 : Int) (63 : Int) fun y1 => K y1) := impl_isLabel.tx impl_within.wp a1 K

theorem impl_Grains_around.tx (w_impl_Grains_about : List Int → Int → Int → Int → Int → (Int → Prop) → Prop) (a1 : List Int) (a2 : Int) (a3 : Int) (a4 : Int) (a5 : Int) (K : List Int → Prop) : impl_Grains_around.bd w_impl_Grains_about a1 a2 a3 a4 a5 K =
  (∀ (J1 : Int → Int → List Int → Int → Int → Int → Int → Int → Int → Int → Int → Int → Int → Int → Int → Int → Int → Int → Int → Int → Prop),
  (∀ (x2 x3 : Int) (x4 : List Int) (x5 x6 x7 x8 x9 x10 x11 x12 x13 x14 x15 x16 x17 x18 x19 x20 x21 : Int),
      Go.K.ifB (Decidable.decide (x21 < (8 : Int)))
          (((0 : Int) ≤ x21 ∧ x21 < (8 : Int)) ∧
            (2 : Nat) = (2 : Nat) ∧
              ((0 : Int) ≤ (0 : Int) ∧ (0 : Int) < (2 : Int) ∧ Int.toNat (0 : Int) < (2 : Nat)) ∧
                ((0 : Int) ≤ (1 : Int) ∧ (1 : Int) < (2 : Int) ∧ Int.toNat (1 : Int) < (2 : Nat)) ∧
                  w_impl_Grains_about a1 x2 x3
                    (Go.IntKind.wrap Go.IntKind.i64
                      (a4 +
                        List.getD
                          (List.getD [x5, x6, x7, x8, x9, x10, x11, x12, x13, x14, x15, x16, x17, x18, x19, x20] (Int.toNat x21 * (2 : Nat)) (0 : Int) ::
                            List.getD [x5, x6, x7, x8, x9, x10, x11, x12, x13, x14, x15, x16, x17, x18, x19, x20] (Int.toNat x21 * (2 : Nat) + (1 : Nat)) (0 : Int) ::
                              List.replicate (0 : Nat) (0 : Int))
                          (Int.toNat (0 : Int)) (0 : Int)))
                    (Go.IntKind.wrap Go.IntKind.i64
                      (a5 +
                        List.getD
                          (List.getD [x5, x6, x7, x8, x9, x10, x11, x12, x13, x14, x15, x16, x17, x18, x19, x20] (Int.toNat x21 * (2 : Nat)) (0 : Int) ::
                            List.getD [x5, x6, x7, x8, x9, x10, x11, x12, x13, x14, x15, x16, x17, x18, x19, x20] (Int.toNat x21 * (2 : Nat) + (1 : Nat)) (0 : Int) ::
                              List.replicate (0 : Nat) (0 : Int))
                          (Int.toNat (1 : Int)) (0 : Int)))
                    fun y22 =>
                    List.length (x4 ++ y22 :: List.replicate (0 : Nat) (0 : Int)) ≤ (1099511627776 : Nat) ∧
                      J1 x2 x3 (x4 ++ y22 :: List.replicate (0 : Nat) (0 : Int)) x5 x6 x7 x8 x9 x10 x11 x12 x13 x14 x15 x16 x17 x18 x19 x20
                        (Go.IntKind.wrap Go.IntKind.i64 (x21 + (1 : Int))))
          (K x4) →
        J1 x2 x3 x4 x5 x6 x7 x8 x9 x10 x11 x12 x13 x14 x15 x16 x17 x18 x19 x20 x21) →
    J1 a2 a3 (List.replicate (0 : Nat) (0 : Int)) (-1 : Int) (0 : Int) (1 : Int) (0 : Int) (0 : Int) (-1 : Int) (0 : Int) (1 : Int) (-1 : Int) (-1 : Int) (1 : Int) (-1 : Int)
      (-1 : Int) (1 : Int) (1 : Int) (1 : Int) (0 : Int)) := by kernel_rfl
theorem impl_Grains_around.eq (a1 : List Int) (a2 : Int) (a3 : Int) (a4 : Int) (a5 : Int) (K : List Int → Prop) : impl_Grains_around.wp a1 a2 a3 a4 a5 K =
  (∀ (J1 : Int → Int → List Int → Int → Int → Int → Int → Int → Int → Int → Int → Int → Int → Int → Int → Int → Int → Int → Int → Int → Prop),
  (∀ (x2 x3 : Int) (x4 : List Int) (x5 x6 x7 x8 x9 x10 x11 x12 x13 x14 x15 x16 x17 x18 x19 x20 x21 : Int),
      Go.K.ifB (Decidable.decide (x21 < (8 : Int)))
          (((0 : Int) ≤ x21 ∧ x21 < (8 : Int)) ∧
            (2 : Nat) = (2 : Nat) ∧
              ((0 : Int) ≤ (0 : Int) ∧ (0 : Int) < (2 : Int) ∧ Int.toNat (0 : Int) < (2 : Nat)) ∧
                ((0 : Int) ≤ (1 : Int) ∧ (1 : Int) < (2 : Int) ∧ Int.toNat (1 : Int) < (2 : Nat)) ∧
                  Go.K.grains.impl_Grains_about.wp a1 x2 x3
                    (Go.IntKind.wrap Go.IntKind.i64
                      (a4 +
                        List.getD
                          (List.getD [x5, x6, x7, x8, x9, x10, x11, x12, x13, x14, x15, x16, x17, x18, x19, x20] (Int.toNat x21 * (2 : Nat)) (0 : Int) ::
                            List.getD [x5, x6, x7, x8, x9, x10, x11, x12, x13, x14, x15, x16, x17, x18, x19, x20] (Int.toNat x21 * (2 : Nat) + (1 : Nat)) (0 : Int) ::
                              List.replicate (0 : Nat) (0 : Int))
                          (Int.toNat (0 : Int)) (0 : Int)))
                    (Go.IntKind.wrap Go.IntKind.i64
                      (a5 +
                        List.getD
                          (List.getD [x5, x6, x7, x8, x9, x10, x11, x12, x13, x14, x15, x16, x17, x18, x19, x20] (Int.toNat x21 * (2 : Nat)) (0 : Int) ::
                            List.getD [x5, x6, x7, x8, x9, x10, x11, x12, x13, x14, x15, x16, x17, x18, x19, x20] (Int.toNat x21 * (2 : Nat) + (1 : Nat)) (0 : Int) ::
                              List.replicate (0 : Nat) (0 : Int))
                          (Int.toNat (1 : Int)) (0 : Int)))
                    fun y22 =>
                    List.length (x4 ++ y22 :: List.replicate (0 : Nat) (0 : Int)) ≤ (1099511627776 : Nat) ∧
                      J1 x2 x3 (x4 ++ y22 :: List.replicate (0 : Nat) (0 : Int)) x5 x6 x7 x8 x9 x10 x11 x12 x13 x14 x15 x16 x17 x18 x19 x20
                        (Go.IntKind.wrap Go.IntKind.i64 (x21 + (1 : Int))))
          (K x4) →
        J1 x2 x3 x4 x5 x6 x7 x8 x9 x10 x11 x12 x13 x14 x15 x16 x17 x18 x19 x20 x21) →
    J1 a2 a3 (List.replicate (0 : Nat) (0 : Int)) (-1 : Int) (0 : Int) (1 : Int) (0 : Int) (0 : Int) (-1 : Int) (0 : Int) (1 : Int) (-1 : Int) (-1 : Int) (1 : Int) (-1 : Int)
      (-1 : Int) (1 : Int) (1 : Int) (1 : Int) (0 : Int)) := impl_Grains_around.tx impl_Grains_about.wp a1 a2 a3 a4 a5 K

theorem impl_BesideLabel.tx (w_impl_ValidGrains : List Int → Int → Int → (Bool → Prop) → Prop) (w_impl_isLabel : Int → (Bool → Prop) → Prop) (w_impl_Grains_around : List Int → Int → Int → Int → Int → (List Int → Prop) → Prop) (w_impl_set : List Int → (List Int → Prop) → Prop) (a1 : List Int) (a2 : Int) (a3 : Int) (a4 : Int) (K : List Int → Bool → Prop) : impl_BesideLabel.bd w_impl_ValidGrains w_impl_isLabel w_impl_Grains_around w_impl_set a1 a2 a3 a4 K =
  (w_impl_ValidGrains a1 a2 a3 fun y1 =>
  Go.K.ifB (!y1) (K [] Bool.false)
    (w_impl_isLabel a4 fun y2 =>
      Go.K.ifB (!y2) (K [] Bool.false)
        (∀ (J3 : Int → Int → List Int → Int → Int → Prop),
          (∀ (x4 x5 : Int) (x6 : List Int) (x7 x8 : Int),
              Go.K.ifB (Decidable.decide (x8 < x7))
                  (((0 : Int) ≤ x8 ∧ x8 < (↑(List.length a1) : Int)) ∧
                    Go.K.ifB (List.getD a1 (Int.toNat x8) (0 : Int) != a4) (J3 x4 x5 x6 x7 (Go.IntKind.wrap Go.IntKind.i64 (x8 + (1 : Int))))
                      (x4 ≠ (0 : Int) ∧
                        x4 ≠ (0 : Int) ∧
                          w_impl_Grains_around a1 x4 x5 (Int.tmod x8 x4) (Go.IntKind.wrap Go.IntKind.i64 (Int.tdiv x8 x4)) fun y9 =>
                            ((0 : Int) ≤ (4 : Int) ∧ (4 : Int) ≤ (↑(List.length y9) : Int)) ∧
                              ∀ (J10 : Int → Int → List Int → List Int → Int → Int → Int → Int → Prop),
                                (∀ (x11 x12 : Int) (x13 x14 : List Int) (x15 x16 x17 x18 : Int),
                                    Go.K.ifB (Decidable.decide (x18 < x17))
                                        (((0 : Int) ≤ x18 ∧ x18 < (↑(List.length x14) : Int)) ∧
                                          Go.K.ifB (List.getD x14 (Int.toNat x18) (0 : Int) != a4)
                                            (List.length (x13 ++ List.getD x14 (Int.toNat x18) (0 : Int) :: List.replicate (0 : Nat) (0 : Int)) ≤ (1099511627776 : Nat) ∧
                                              J10 x11 x12 (x13 ++ List.getD x14 (Int.toNat x18) (0 : Int) :: List.replicate (0 : Nat) (0 : Int)) x14 x15 x16 x17
                                                (Go.IntKind.wrap Go.IntKind.i64 (x18 + (1 : Int))))
                                            (J10 x11 x12 x13 x14 x15 x16 x17 (Go.IntKind.wrap Go.IntKind.i64 (x18 + (1 : Int)))))
                                        (J3 x11 x12 x13 x15 (Go.IntKind.wrap Go.IntKind.i64 (x16 + (1 : Int)))) →
                                      J10 x11 x12 x13 x14 x15 x16 x17 x18) →
                                  J10 x4 x5 x6 (List.take (Int.toNat (4 : Int)) y9) x7 x8 (↑(List.length (List.take (Int.toNat (4 : Int)) y9)) : Int) (0 : Int)))
                  (w_impl_set x6 fun y21 => K y21 Bool.true) →
                J3 x4 x5 x6 x7 x8) →
            J3 a2 a3 (List.replicate (0 : Nat) (0 : Int)) (↑(List.length a1) : Int) (0 : Int)))) := by kernel_rfl
theorem impl_BesideLabel.eq (a1 : List Int) (a2 : Int) (a3 : Int) (a4 : Int) (K : List Int → Bool → Prop) : impl_BesideLabel.wp a1 a2 a3 a4 K =
  (Go.K.grains.impl_ValidGrains.wp a1 a2 a3 fun y1 =>
  Go.K.ifB (!y1) (K [] Bool.false)
    (Go.K.grains.impl_isLabel.wp a4 fun y2 =>
      Go.K.ifB (!y2) (K [] Bool.false)
        (∀ (J3 : Int → Int → List Int → Int → Int → Prop),
          (∀ (x4 x5 : Int) (x6 : List Int) (x7 x8 : Int),
              Go.K.ifB (Decidable.decide (x8 < x7))
                  (((0 : Int) ≤ x8 ∧ x8 < (↑(List.length a1) : Int)) ∧
                    Go.K.ifB (List.getD a1 (Int.toNat x8) (0 : Int) != a4) (J3 x4 x5 x6 x7 (Go.IntKind.wrap Go.IntKind.i64 (x8 + (1 : Int))))
                      (x4 ≠ (0 : Int) ∧
                        x4 ≠ (0 : Int) ∧
                          Go.K.grains.impl_Grains_around.wp a1 x4 x5 (Int.tmod x8 x4) (Go.IntKind.wrap Go.IntKind.i64 (Int.tdiv x8 x4)) fun y9 =>
                            ((0 : Int) ≤ (4 : Int) ∧ (4 : Int) ≤ (↑(List.length y9) : Int)) ∧
                              ∀ (J10 : Int → Int → List Int → List Int → Int → Int → Int → Int → Prop),
                                (∀ (x11 x12 : Int) (x13 x14 : List Int) (x15 x16 x17 x18 : Int),
                                    Go.K.ifB (Decidable.decide (x18 < x17))
                                        (((0 : Int) ≤ x18 ∧ x18 < (↑(List.length x14) : Int)) ∧
                                          Go.K.ifB (List.getD x14 (Int.toNat x18) (0 : Int) != a4)
                                            (List.length (x13 ++ List.getD x14 (Int.toNat x18) (0 : Int) :: List.replicate (0 : Nat) (0 : Int)) ≤ (1099511627776 : Nat) ∧
                                              J10 x11 x12 (x13 ++ List.getD x14 (Int.toNat x18) (0 : Int) :: List.replicate (0 : Nat) (0 : Int)) x14 x15 x16 x17
                                                (Go.IntKind.wrap Go.IntKind.i64 (x18 + (1 : Int))))
                                            (J10 x11 x12 x13 x14 x15 x16 x17 (Go.IntKind.wrap Go.IntKind.i64 (x18 + (1 : Int)))))
                                        (J3 x11 x12 x13 x15 (Go.IntKind.wrap Go.IntKind.i64 (x16 + (1 : Int)))) →
                                      J10 x11 x12 x13 x14 x15 x16 x17 x18) →
                                  J10 x4 x5 x6 (List.take (Int.toNat (4 : Int)) y9) x7 x8 (↑(List.length (List.take (Int.toNat (4 : Int)) y9)) : Int) (0 : Int)))
                  (Go.K.grains.impl_set.wp x6 fun y21 => K y21 Bool.true) →
                J3 x4 x5 x6 x7 x8) →
            J3 a2 a3 (List.replicate (0 : Nat) (0 : Int)) (↑(List.length a1) : Int) (0 : Int)))) := impl_BesideLabel.tx impl_ValidGrains.wp impl_isLabel.wp impl_Grains_around.wp impl_set.wp a1 a2 a3 a4 K

theorem laws_markInt64S.tx  (a1 : List Int) (a2 : Int) (K : List Int → Int → Prop) : laws_markInt64S.bd  a1 a2 K =
  (∀ (J1 : List Int → Int → Int → Prop),
  (∀ (x2 : List Int) (x3 x4 : Int),
      Go.K.ifB (Decidable.decide (x4 < (↑(List.length a1) : Int)))
          (((0 : Int) ≤ x4 ∧ x4 < (↑(List.length a1) : Int)) ∧
            J1 (List.set x2 (Int.toNat x4) x3) (Go.IntKind.wrap Go.IntKind.i64 (x3 + (1 : Int))) (Go.IntKind.wrap Go.IntKind.i64 (x4 + (1 : Int))))
          (K x2 x3) →
        J1 x2 x3 x4) →
    J1 a1 a2 (0 : Int)) := by kernel_rfl
theorem laws_markInt64S.eq (a1 : List Int) (a2 : Int) (K : List Int → Int → Prop) : laws_markInt64S.wp a1 a2 K =
  (∀ (J1 : List Int → Int → Int → Prop),
  (∀ (x2 : List Int) (x3 x4 : Int),
      Go.K.ifB (Decidable.decide (x4 < (↑(List.length a1) : Int)))
          (((0 : Int) ≤ x4 ∧ x4 < (↑(List.length a1) : Int)) ∧
            J1 (List.set x2 (Int.toNat x4) x3) (Go.IntKind.wrap Go.IntKind.i64 (x3 + (1 : Int))) (Go.IntKind.wrap Go.IntKind.i64 (x4 + (1 : Int))))
          (K x2 x3) →
        J1 x2 x3 x4) →
    J1 a1 a2 (0 : Int)) := laws_markInt64S.tx  a1 a2 K

theorem laws_markGrains.tx (w_laws_markInt64S : List Int → Int → (List Int → Int → Prop) → Prop) (a1 : List Int) (a2 : Int) (a3 : Int) (a4 : Int) (K : List Int → Int → Prop) : laws_markGrains.bd w_laws_markInt64S a1 a2 a3 a4 K =
  (w_laws_markInt64S a1 a4 fun y1 y2 => K y1 y2) := by kernel_rfl
theorem laws_markGrains.eq (a1 : List Int) (a2 : Int) (a3 : Int) (a4 : Int) (K : List Int → Int → Prop) : laws_markGrains.wp a1 a2 a3 a4 K =
  (Go.K.grains.laws_markInt64S.wp a1 a4 fun y1 y2 => K y1 y2) := laws_markGrains.tx laws_markInt64S.wp a1 a2 a3 a4 K

theorem laws_heldInt64S.tx  (a1 : List Int) (a2 : Int) (K : Int → Prop) : laws_heldInt64S.bd  a1 a2 K =
  (∀ (J1 : Int → Int → Prop),
  (∀ (x2 x3 : Int),
      Go.K.ifB (Decidable.decide (x3 < (↑(List.length a1) : Int)))
          (((0 : Int) ≤ x3 ∧ x3 < (↑(List.length a1) : Int)) ∧
            Go.K.ifB (List.getD a1 (Int.toNat x3) (0 : Int) != x2) (K (-1 : Int))
              (J1 (Go.IntKind.wrap Go.IntKind.i64 (x2 + (1 : Int))) (Go.IntKind.wrap Go.IntKind.i64 (x3 + (1 : Int)))))
          (K x2) →
        J1 x2 x3) →
    J1 a2 (0 : Int)) := by kernel_rfl
theorem laws_heldInt64S.eq (a1 : List Int) (a2 : Int) (K : Int → Prop) : laws_heldInt64S.wp a1 a2 K =
  (∀ (J1 : Int → Int → Prop),
  (∀ (x2 x3 : Int),
      Go.K.ifB (Decidable.decide (x3 < (↑(List.length a1) : Int)))
          (((0 : Int) ≤ x3 ∧ x3 < (↑(List.length a1) : Int)) ∧
            Go.K.ifB (List.getD a1 (Int.toNat x3) (0 : Int) != x2) (K (-1 : Int))
              (J1 (Go.IntKind.wrap Go.IntKind.i64 (x2 + (1 : Int))) (Go.IntKind.wrap Go.IntKind.i64 (x3 + (1 : Int)))))
          (K x2) →
        J1 x2 x3) →
    J1 a2 (0 : Int)) := laws_heldInt64S.tx  a1 a2 K

theorem laws_FnExactBesideLabel.tx (w_laws_szGrains : List Int → Int → Int → Int → (Int → Prop) → Prop) (w_laws_toGrains : List Int → Int → Int → (List Int → Int → Int → Prop) → Prop) (w_spec_BesideLabel : List Int → Int → Int → Int → (List Int → Bool → Prop) → Prop) (w_impl_BesideLabel : List Int → Int → Int → Int → (List Int → Bool → Prop) → Prop) (w_laws_eqInt64S : List Int → List Int → (Bool → Prop) → Prop) (w_laws_eqGrains : List Int → List Int → Int → Int → Int → Int → (Bool → Prop) → Prop) (w_laws_markGrains : List Int → Int → Int → Int → (List Int → Int → Prop) → Prop) (w_laws_markInt64S : List Int → Int → (List Int → Int → Prop) → Prop) (w_laws_heldInt64S : List Int → Int → (Int → Prop) → Prop) (a1 : List Int) (a2 : Int) (a3 : Int) (a4 : Int) (K : Bool → Prop) : laws_FnExactBesideLabel.bd w_laws_szGrains w_laws_toGrains w_spec_BesideLabel w_impl_BesideLabel w_laws_eqInt64S w_laws_eqGrains w_laws_markGrains w_laws_markInt64S w_laws_heldInt64S a1 a2 a3 a4 K =
  (w_laws_szGrains a1 a2 a3 (1048576 : Int) fun y1 =>
  Go.K.ifB (Decidable.decide (y1 < (0 : Int))) (K Bool.true)
    (w_laws_toGrains a1 a2 a3 fun y2 y3 y4 =>
      w_spec_BesideLabel y2 y3 y4 a4 fun y5 y6 =>
        w_laws_toGrains a1 a2 a3 fun y7 y8 y9 =>
          w_impl_BesideLabel y7 y8 y9 a4 fun y10 y11 =>
            w_laws_eqInt64S y10 y5 fun y12 =>
              Go.K.ifB (!y12) (K Bool.false)
                (Go.K.ifB (y11 != y6) (K Bool.false)
                  (w_laws_toGrains a1 a2 a3 fun y13 y14 y15 =>
                    w_laws_eqGrains y7 y13 y8 y9 y14 y15 fun y16 =>
                      Go.K.ifB (!y16) (K Bool.false)
                        (w_laws_markGrains y7 y8 y9 (1 : Int) fun y17 y18 =>
                          Go.K.ifB (Decidable.decide (y18 < (0 : Int))) (K Bool.false)
                            (w_laws_eqInt64S y10 y5 fun y19 =>
                              Go.K.ifB (!y19) (K Bool.false)
                                (Go.K.ifB (y11 != y6) (K Bool.false)
                                  (w_laws_markInt64S y10 (1 : Int) fun y20 y21 =>
                                    w_laws_heldInt64S y20 (1 : Int) fun y22 =>
                                      Go.K.ifB (Decidable.decide (y22 < (0 : Int))) (K Bool.false)
                                        (Go.K.ifB (y22 != y21) (K Bool.false)
                                          (w_laws_toGrains a1 a2 a3 fun y23 y24 y25 =>
                                            w_impl_BesideLabel y23 y24 y25 a4 fun y26 y27 =>
                                              w_laws_eqInt64S y26 y5 fun y28 =>
                                                Go.K.ifB (!y28) (K Bool.false)
                                                  (Go.K.ifB (y27 != y6) (K Bool.false)
                                                    (w_laws_heldInt64S y20 (1 : Int) fun y29 =>
                                                      Go.K.ifB (Decidable.decide (y29 < (0 : Int))) (K Bool.false)
                                                        (Go.K.ifB (y29 != y21) (K Bool.false) (K Bool.true)))))))))))))) := by kernel_rfl
theorem laws_FnExactBesideLabel.eq (a1 : List Int) (a2 : Int) (a3 : Int) (a4 : Int) (K : Bool → Prop) : laws_FnExactBesideLabel.wp a1 a2 a3 a4 K =
  (Go.K.grains.laws_szGrains.wp a1 a2 a3 (1048576 : Int) fun y1 =>
  Go.K.ifB (Decidable.decide (y1 < (0 : Int))) (K Bool.true)
    (Go.K.grains.laws_toGrains.wp a1 a2 a3 fun y2 y3 y4 =>
      Go.K.grains.spec_BesideLabel.wp y2 y3 y4 a4 fun y5 y6 =>
        Go.K.grains.laws_toGrains.wp a1 a2 a3 fun y7 y8 y9 =>
          Go.K.grains.impl_BesideLabel.wp y7 y8 y9 a4 fun y10 y11 =>
            Go.K.grains.laws_eqInt64S.wp y10 y5 fun y12 =>
              Go.K.ifB (!y12) (K Bool.false)
                (Go.K.ifB (y11 != y6) (K Bool.false)
                  (Go.K.grains.laws_toGrains.wp a1 a2 a3 fun y13 y14 y15 =>
                    Go.K.grains.laws_eqGrains.wp y7 y13 y8 y9 y14 y15 fun y16 =>
                      Go.K.ifB (!y16) (K Bool.false)
                        (Go.K.grains.laws_markGrains.wp y7 y8 y9 (1 : Int) fun y17 y18 =>
                          Go.K.ifB (Decidable.decide (y18 < (0 : Int))) (K Bool.false)
                            (Go.K.grains.laws_eqInt64S.wp y10 y5 fun y19 =>
                              Go.K.ifB (!y19) (K Bool.false)
                                (Go.K.ifB (y11 != y6) (K Bool.false)
                                  (Go.K.grains.laws_markInt64S.wp y10 (1 : Int) fun y20 y21 =>
                                    Go.K.grains.laws_heldInt64S.wp y20 (1 : Int) fun y22 =>
                                      Go.K.ifB (Decidable.decide (y22 < (0 : Int))) (K Bool.false)
                                        (Go.K.ifB (y22 != y21) (K Bool.false)
                                          (Go.K.grains.laws_toGrains.wp a1 a2 a3 fun y23 y24 y25 =>
                                            Go.K.grains.impl_BesideLabel.wp y23 y24 y25 a4 fun y26 y27 =>
                                              Go.K.grains.laws_eqInt64S.wp y26 y5 fun y28 =>
                                                Go.K.ifB (!y28) (K Bool.false)
                                                  (Go.K.ifB (y27 != y6) (K Bool.false)
                                                    (Go.K.grains.laws_heldInt64S.wp y20 (1 : Int) fun y29 =>
                                                      Go.K.ifB (Decidable.decide (y29 < (0 : Int))) (K Bool.false)
                                                        (Go.K.ifB (y29 != y21) (K Bool.false) (K Bool.true)))))))))))))) := laws_FnExactBesideLabel.tx laws_szGrains.wp laws_toGrains.wp spec_BesideLabel.wp impl_BesideLabel.wp laws_eqInt64S.wp laws_eqGrains.wp laws_markGrains.wp laws_markInt64S.wp laws_heldInt64S.wp a1 a2 a3 a4 K

end Go.K.grains
