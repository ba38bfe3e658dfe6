/- What the functions compute, written out. -/
import Derived.Test.YtblejagpndbicaaD
import Derived.KernelRfl
set_option maxRecDepth 100000
set_option linter.unusedVariables false
namespace Go.K.grains
open Go.K Go

theorem laws_szInt64S.tx  (a1 : List Int) (a2 : Int) (K : Int → Prop) : laws_szInt64S.bd  a1 a2 K =
  (Go.K.ifB (Decidable.decide (Go.IntKind.wrap Go.IntKind.i64 (a2 - (↑(List.length a1) : Int)) < (0 : Int))) (K (-1 : Int))
  (K (Go.IntKind.wrap Go.IntKind.i64 (a2 - (↑(List.length a1) : Int))))) := by kernel_rfl
theorem laws_szInt64S.eq (a1 : List Int) (a2 : Int) (K : Int → Prop) : laws_szInt64S.wp a1 a2 K =
  (Go.K.ifB (Decidable.decide (Go.IntKind.wrap Go.IntKind.i64 (a2 - (↑(List.length a1) : Int)) < (0 : Int))) (K (-1 : Int))
  (K (Go.IntKind.wrap Go.IntKind.i64 (a2 - (↑(List.length a1) : Int))))) := laws_szInt64S.tx  a1 a2 K

theorem laws_szGrains.tx (w_laws_szInt64S : List Int → Int → (Int → Prop) → Prop) (a1 : List Int) (a2 : Int) (a3 : Int) (a4 : Int) (K : Int → Prop) : laws_szGrains.bd w_laws_szInt64S a1 a2 a3 a4 K =
  (w_laws_szInt64S a1 a4 fun y1 => Go.K.ifB (Decidable.decide (y1 < (0 : Int))) (K (-1 : Int)) (K y1)) := by kernel_rfl
theorem laws_szGrains.eq (a1 : List Int) (a2 : Int) (a3 : Int) (a4 : Int) (K : Int → Prop) : laws_szGrains.wp a1 a2 a3 a4 K =
  (Go.K.grains.laws_szInt64S.wp a1 a4 fun y1 => Go.K.ifB (Decidable.decide (y1 < (0 : Int))) (K (-1 : Int)) (K y1)) := laws_szGrains.tx laws_szInt64S.wp a1 a2 a3 a4 K

theorem laws_toInt64S.tx  (a1 : List Int) (K : List Int → Prop) : laws_toInt64S.bd  a1 K =
  (((0 : Int) ≤ (↑(List.length a1) : Int) ∧ (↑(List.length a1) : Int) ≤ (↑(List.length a1) : Int) ∧ (↑(List.length a1) : Int) ≤ (1099511627776 : Int)) ∧
  ∀ (J1 : List Int → Int → Prop),
    (∀ (x2 : List Int) (x3 : Int),
        Go.K.ifB (Decidable.decide (x3 < (↑(List.length a1) : Int)))
            (((0 : Int) ≤ x3 ∧ x3 < (↑(List.length a1) : Int)) ∧
              ((0 : Int) ≤ x3 ∧ x3 < (↑(List.length x2) : Int)) ∧
                J1 (List.set x2 (Int.toNat x3) (List.getD a1 (Int.toNat x3) (0 : Int))) (Go.IntKind.wrap Go.IntKind.i64 (x3 + (1 : Int))))
            (K x2) →
          J1 x2 x3) →
      J1 (List.replicate (Int.toNat (↑(List.length a1) : Int)) (0 : Int)) (0 : Int)) := by kernel_rfl
theorem laws_toInt64S.eq (a1 : List Int) (K : List Int → Prop) : laws_toInt64S.wp a1 K =
  (((0 : Int) ≤ (↑(List.length a1) : Int) ∧ (↑(List.length a1) : Int) ≤ (↑(List.length a1) : Int) ∧ (↑(List.length a1) : Int) ≤ (1099511627776 : Int)) ∧
  ∀ (J1 : List Int → Int → Prop),
    (∀ (x2 : List Int) (x3 : Int),
        Go.K.ifB (Decidable.decide (x3 < (↑(List.length a1) : Int)))
            (((0 : Int) ≤ x3 ∧ x3 < (↑(List.length a1) : Int)) ∧
              ((0 : Int) ≤ x3 ∧ x3 < (↑(List.length x2) : Int)) ∧
                J1 (List.set x2 (Int.toNat x3) (List.getD a1 (Int.toNat x3) (0 : Int))) (Go.IntKind.wrap Go.IntKind.i64 (x3 + (1 : Int))))
            (K x2) →
          J1 x2 x3) →
      J1 (List.replicate (Int.toNat (↑(List.length a1) : Int)) (0 : Int)) (0 : Int)) := laws_toInt64S.tx  a1 K

theorem laws_toGrains.tx (w_laws_toInt64S : List Int → (List Int → Prop) → Prop) (a1 : List Int) (a2 : Int) (a3 : Int) (K : List Int → Int → Int → Prop) : laws_toGrains.bd w_laws_toInt64S a1 a2 a3 K =
  (w_laws_toInt64S a1 fun y1 => K y1 a2 a3) := by kernel_rfl
theorem laws_toGrains.eq (a1 : List Int) (a2 : Int) (a3 : Int) (K : List Int → Int → Int → Prop) : laws_toGrains.wp a1 a2 a3 K =
  (Go.K.grains.laws_toInt64S.wp a1 fun y1 => K y1 a2 a3) := laws_toGrains.tx laws_toInt64S.wp a1 a2 a3 K

theorem spec_l00In.tx  (a1 : Int) (a2 : Int) (a3 : Int) (K : Bool → Prop) : spec_l00In.bd  a1 a2 a3 K =
  (Go.K.ifB (Decidable.decide (a1 ≥ a2)) (K (Decidable.decide (a1 ≤ a3))) (K Bool.false)) := by kernel_rfl
theorem spec_l00In.eq (a1 : Int) (a2 : Int) (a3 : Int) (K : Bool → Prop) : spec_l00In.wp a1 a2 a3 K =
  (Go.K.ifB (Decidable.decide (a1 ≥ a2)) (K (Decidable.decide (a1 ≤ a3))) (K Bool.false)) := spec_l00In.tx  a1 a2 a3 K

theorem spec_l02Size.tx (w_spec_l00In : Int → Int → Int → (Bool → Prop) → Prop) (a1 : Int) (a2 : Int) (K : Bool → Prop) : spec_l02Size.bd w_spec_l00In a1 a2 K =
  (w_spec_l00In a1 (1 : Int) (16 : Int) fun y1 => Go.K.ifB y1 (w_spec_l00In a2 (1 : Int) (16 : Int) fun y2 => K y2) (K Bool.false)) := by kernel_rfl
theorem spec_l02Size.eq (a1 : Int) (a2 : Int) (K : Bool → Prop) : spec_l02Size.wp a1 a2 K =
  (Go.K.grains.spec_l00In.wp a1 (1 : Int) (16 : Int) fun y1 => Go.K.ifB y1 (Go.K.grains.spec_l00In.wp a2 (1 : Int) (16 : Int) fun y2 => K y2) (K Bool.false)) := spec_l02Size.tx spec_l00In.wp a1 a2 K

theorem spec_l04Label.tx (w_spec_l00In : Int → Int → Int → (Bool → Prop) → Prop) (a1 : Int) (K : Bool → Prop) : spec_l04Label.bd w_spec_l00In a1 K =
  (w_spec_l00In a1 (0 : Int) (63 : Int) fun y1 => K y1) := by kernel_rfl
theorem spec_l04Label.eq (a1 : Int) (K : Bool → Prop) : spec_l04Label.wp a1 K =
  (Go.K.grains.spec_l00In.wp a1 (0 : Int) (63 : Int) fun y1 => K y1) := spec_l04Label.tx spec_l00In.wp a1 K

theorem spec_l04Is.tx (w_spec_l02Size : Int → Int → (Bool → Prop) → Prop) (w_spec_l04Label : Int → (Bool → Prop) → Prop) (a1 : Int) (a2 : Int) (a3 : List Int) (K : Bool → Prop) : spec_l04Is.bd w_spec_l02Size w_spec_l04Label a1 a2 a3 K =
  (w_spec_l02Size a1 a2 fun y1 =>
  Go.K.ifB (!y1) (K Bool.false)
    (Go.K.ifB ((↑(List.length a3) : Int) != Go.IntKind.wrap Go.IntKind.i64 (a1 * a2)) (K Bool.false)
      (∀ (J2 : Int → Prop),
        (∀ (x3 : Int),
            Go.K.ifB (Decidable.decide (x3 < (↑(List.length a3) : Int)))
                (((0 : Int) ≤ x3 ∧ x3 < (↑(List.length a3) : Int)) ∧
                  w_spec_l04Label (List.getD a3 (Int.toNat x3) (0 : Int)) fun y4 =>
                    Go.K.ifB (!y4) (K Bool.false) (J2 (Go.IntKind.wrap Go.IntKind.i64 (x3 + (1 : Int)))))
                (K Bool.true) →
              J2 x3) →
          J2 (0 : Int)))) := by kernel_rfl
theorem spec_l04Is.eq (a1 : Int) (a2 : Int) (a3 : List Int) (K : Bool → Prop) : spec_l04Is.wp a1 a2 a3 K =
  (Go.K.grains.spec_l02Size.wp a1 a2 fun y1 =>
  Go.K.ifB (!y1) (K Bool.false)
    (Go.K.ifB ((↑(List.length a3) : Int) != Go.IntKind.wrap Go.IntKind.i64 (a1 * a2)) (K Bool.false)
      (∀ (J2 : Int → Prop),
        (∀ (x3 : Int),
            Go.K.ifB (Decidable.decide (x3 < (↑(List.length a3) : Int)))
                (((0 : Int) ≤ x3 ∧ x3 < (↑(List.length a3) : Int)) ∧
                  Go.K.grains.spec_l04Label.wp (List.getD a3 (Int.toNat x3) (0 : Int)) fun y4 =>
                    Go.K.ifB (!y4) (K Bool.false) (J2 (Go.IntKind.wrap Go.IntKind.i64 (x3 + (1 : Int)))))
                (K Bool.true) →
              J2 x3) →
          J2 (0 : Int)))) := spec_l04Is.tx spec_l02Size.wp spec_l04Label.wp a1 a2 a3 K

theorem spec_l00Own.tx  (a1 : List Int) (K : List Int → Prop) : spec_l00Own.bd  a1 K =
  (List.length (List.replicate (0 : Nat) (0 : Int) ++ a1) ≤ (1099511627776 : Nat) ∧ K (List.replicate (0 : Nat) (0 : Int) ++ a1)) := by kernel_rfl
theorem spec_l00Own.eq (a1 : List Int) (K : List Int → Prop) : spec_l00Own.wp a1 K =
  (List.length (List.replicate (0 : Nat) (0 : Int) ++ a1) ≤ (1099511627776 : Nat) ∧ K (List.replicate (0 : Nat) (0 : Int) ++ a1)) := spec_l00Own.tx  a1 K

theorem spec_l04Own.tx (w_spec_l00Own : List Int → (List Int → Prop) → Prop) (a1 : Int) (a2 : Int) (a3 : List Int) (K : List Int → Int → Int → Prop) : spec_l04Own.bd w_spec_l00Own a1 a2 a3 K =
  (w_spec_l00Own a3 fun y1 => K y1 a1 a2) := by kernel_rfl
theorem spec_l04Own.eq (a1 : Int) (a2 : Int) (a3 : List Int) (K : List Int → Int → Int → Prop) : spec_l04Own.wp a1 a2 a3 K =
  (Go.K.grains.spec_l00Own.wp a3 fun y1 => K y1 a1 a2) := spec_l04Own.tx spec_l00Own.wp a1 a2 a3 K

theorem spec_l04New.tx  (a1 : Int) (a2 : Int) (K : List Int → Int → Int → Prop) : spec_l04New.bd  a1 a2 K =
  (K (List.replicate (0 : Nat) (0 : Int)) a1 a2) := by kernel_rfl
theorem spec_l04New.eq (a1 : Int) (a2 : Int) (K : List Int → Int → Int → Prop) : spec_l04New.wp a1 a2 K =
  (K (List.replicate (0 : Nat) (0 : Int)) a1 a2) := spec_l04New.tx  a1 a2 K

theorem spec_l00Min.tx  (a1 : Int) (a2 : Int) (K : Int → Prop) : spec_l00Min.bd  a1 a2 K =
  (Go.K.ifB (Decidable.decide (a1 < a2)) (K a1) (K a2)) := by kernel_rfl
theorem spec_l00Min.eq (a1 : Int) (a2 : Int) (K : Int → Prop) : spec_l00Min.wp a1 a2 K =
  (Go.K.ifB (Decidable.decide (a1 < a2)) (K a1) (K a2)) := spec_l00Min.tx  a1 a2 K

theorem spec_l00Max.tx  (a1 : Int) (a2 : Int) (K : Int → Prop) : spec_l00Max.bd  a1 a2 K =
  (Go.K.ifB (Decidable.decide (a1 > a2)) (K a1) (K a2)) := by kernel_rfl
theorem spec_l00Max.eq (a1 : Int) (a2 : Int) (K : Int → Prop) : spec_l00Max.wp a1 a2 K =
  (Go.K.ifB (Decidable.decide (a1 > a2)) (K a1) (K a2)) := spec_l00Max.tx  a1 a2 K

theorem spec_l02Place.tx (w_spec_l00Min : Int → Int → (Int → Prop) → Prop) (w_spec_l00Max : Int → Int → (Int → Prop) → Prop) (a1 : Int) (a2 : Int) (a3 : Bool) (K : Int → Prop) : spec_l02Place.bd w_spec_l00Min w_spec_l00Max a1 a2 a3 K =
  (Go.K.ifB a3 (a2 ≠ (0 : Int) ∧ a2 ≠ (0 : Int) ∧ K (Int.tmod (Go.IntKind.wrap Go.IntKind.i64 (Int.tmod a1 a2 + a2)) a2))
  (w_spec_l00Min (Go.IntKind.wrap Go.IntKind.i64 (a2 - (1 : Int))) a1 fun y1 => w_spec_l00Max (0 : Int) y1 fun y2 => K y2)) := by kernel_rfl
theorem spec_l02Place.eq (a1 : Int) (a2 : Int) (a3 : Bool) (K : Int → Prop) : spec_l02Place.wp a1 a2 a3 K =
  (Go.K.ifB a3 (a2 ≠ (0 : Int) ∧ a2 ≠ (0 : Int) ∧ K (Int.tmod (Go.IntKind.wrap Go.IntKind.i64 (Int.tmod a1 a2 + a2)) a2))
  (Go.K.grains.spec_l00Min.wp (Go.IntKind.wrap Go.IntKind.i64 (a2 - (1 : Int))) a1 fun y1 => Go.K.grains.spec_l00Max.wp (0 : Int) y1 fun y2 => K y2)) := spec_l02Place.tx spec_l00Min.wp spec_l00Max.wp a1 a2 a3 K

theorem spec_l04About.tx (w_spec_l02Place : Int → Int → Bool → (Int → Prop) → Prop) (a1 : Int) (a2 : Int) (a3 : List Int) (a4 : Int) (a5 : Int) (K : Int → Prop) : spec_l04About.bd w_spec_l02Place a1 a2 a3 a4 a5 K =
  (w_spec_l02Place a4 a1 Bool.true fun y1 =>
  w_spec_l02Place a5 a2 Bool.true fun y2 =>
    ((0 : Int) ≤ Go.IntKind.wrap Go.IntKind.i64 (y1 + Go.IntKind.wrap Go.IntKind.i64 (a1 * y2)) ∧
        Go.IntKind.wrap Go.IntKind.i64 (y1 + Go.IntKind.wrap Go.IntKind.i64 (a1 * y2)) < (↑(List.length a3) : Int)) ∧
      K (List.getD a3 (Int.toNat (Go.IntKind.wrap Go.IntKind.i64 (y1 + Go.IntKind.wrap Go.IntKind.i64 (a1 * y2)))) (0 : Int))) := by kernel_rfl
theorem spec_l04About.eq (a1 : Int) (a2 : Int) (a3 : List Int) (a4 : Int) (a5 : Int) (K : Int → Prop) : spec_l04About.wp a1 a2 a3 a4 a5 K =
  (Go.K.grains.spec_l02Place.wp a4 a1 Bool.true fun y1 =>
  Go.K.grains.spec_l02Place.wp a5 a2 Bool.true fun y2 =>
    ((0 : Int) ≤ Go.IntKind.wrap Go.IntKind.i64 (y1 + Go.IntKind.wrap Go.IntKind.i64 (a1 * y2)) ∧
        Go.IntKind.wrap Go.IntKind.i64 (y1 + Go.IntKind.wrap Go.IntKind.i64 (a1 * y2)) < (↑(List.length a3) : Int)) ∧
      K (List.getD a3 (Int.toNat (Go.IntKind.wrap Go.IntKind.i64 (y1 + Go.IntKind.wrap Go.IntKind.i64 (a1 * y2)))) (0 : Int))) := spec_l04About.tx spec_l02Place.wp a1 a2 a3 a4 a5 K

theorem spec_l04Around.tx (w_spec_l04About : Int → Int → List Int → Int → Int → (Int → Prop) → Prop) (a1 : Int) (a2 : Int) (a3 : List Int) (a4 : Int) (a5 : Int) (K : List Int → Prop) : spec_l04Around.bd w_spec_l04About a1 a2 a3 a4 a5 K =
  (w_spec_l04About a1 a2 a3 (Go.IntKind.wrap Go.IntKind.i64 (a4 - (1 : Int))) a5 fun y1 =>
  w_spec_l04About a1 a2 a3 (Go.IntKind.wrap Go.IntKind.i64 (a4 + (1 : Int))) a5 fun y2 =>
    w_spec_l04About a1 a2 a3 a4 (Go.IntKind.wrap Go.IntKind.i64 (a5 - (1 : Int))) fun y3 =>
      w_spec_l04About a1 a2 a3 a4 (Go.IntKind.wrap Go.IntKind.i64 (a5 + (1 : Int))) fun y4 =>
        w_spec_l04About a1 a2 a3 (Go.IntKind.wrap Go.IntKind.i64 (a4 - (1 : Int))) (Go.IntKind.wrap Go.IntKind.i64 (a5 - (1 : Int))) fun y5 =>
          w_spec_l04About a1 a2 a3 (Go.IntKind.wrap Go.IntKind.i64 (a4 + (1 : Int))) (Go.IntKind.wrap Go.IntKind.i64 (a5 - (1 : Int))) fun y6 =>
            List.length (y1 :: y2 :: y3 :: y4 :: List.replicate (0 : Nat) (0 : Int) ++ y5 :: y6 :: List.replicate (0 : Nat) (0 : Int)) ≤ (1099511627776 : Nat) ∧
              w_spec_l04About a1 a2 a3 (Go.IntKind.wrap Go.IntKind.i64 (a4 - (1 : Int))) (Go.IntKind.wrap Go.IntKind.i64 (a5 + (1 : Int))) fun y7 =>
                w_spec_l04About a1 a2 a3 (Go.IntKind.wrap Go.IntKind.i64 (a4 + (1 : Int))) (Go.IntKind.wrap Go.IntKind.i64 (a5 + (1 : Int))) fun y8 =>
                  List.length
                        (y1 :: y2 :: y3 :: y4 :: List.replicate (0 : Nat) (0 : Int) ++ y5 :: y6 :: List.replicate (0 : Nat) (0 : Int) ++
                          y7 :: y8 :: List.replicate (0 : Nat) (0 : Int)) ≤
                      (1099511627776 : Nat) ∧
                    K
                      (y1 :: y2 :: y3 :: y4 :: List.replicate (0 : Nat) (0 : Int) ++ y5 :: y6 :: List.replicate (0 : Nat) (0 : Int) ++
                        y7 :: y8 :: List.replicate (0 : Nat) (0 : Int))) := by kernel_rfl
theorem spec_l04Around.eq (a1 : Int) (a2 : Int) (a3 : List Int) (a4 : Int) (a5 : Int) (K : List Int → Prop) : spec_l04Around.wp a1 a2 a3 a4 a5 K =
  (Go.K.grains.spec_l04About.wp a1 a2 a3 (Go.IntKind.wrap Go.IntKind.i64 (a4 - (1 : Int))) a5 fun y1 =>
  Go.K.grains.spec_l04About.wp a1 a2 a3 (Go.IntKind.wrap Go.IntKind.i64 (a4 + (1 : Int))) a5 fun y2 =>
    Go.K.grains.spec_l04About.wp a1 a2 a3 a4 (Go.IntKind.wrap Go.IntKind.i64 (a5 - (1 : Int))) fun y3 =>
      Go.K.grains.spec_l04About.wp a1 a2 a3 a4 (Go.IntKind.wrap Go.IntKind.i64 (a5 + (1 : Int))) fun y4 =>
        Go.K.grains.spec_l04About.wp a1 a2 a3 (Go.IntKind.wrap Go.IntKind.i64 (a4 - (1 : Int))) (Go.IntKind.wrap Go.IntKind.i64 (a5 - (1 : Int))) fun y5 =>
          Go.K.grains.spec_l04About.wp a1 a2 a3 (Go.IntKind.wrap Go.IntKind.i64 (a4 + (1 : Int))) (Go.IntKind.wrap Go.IntKind.i64 (a5 - (1 : Int))) fun y6 =>
            List.length (y1 :: y2 :: y3 :: y4 :: List.replicate (0 : Nat) (0 : Int) ++ y5 :: y6 :: List.replicate (0 : Nat) (0 : Int)) ≤ (1099511627776 : Nat) ∧
              Go.K.grains.spec_l04About.wp a1 a2 a3 (Go.IntKind.wrap Go.IntKind.i64 (a4 - (1 : Int))) (Go.IntKind.wrap Go.IntKind.i64 (a5 + (1 : Int))) fun y7 =>
                Go.K.grains.spec_l04About.wp a1 a2 a3 (Go.IntKind.wrap Go.IntKind.i64 (a4 + (1 : Int))) (Go.IntKind.wrap Go.IntKind.i64 (a5 + (1 : Int))) fun y8 =>
                  List.length
                        (y1 :: y2 :: y3 :: y4 :: List.replicate (0 : Nat) (0 : Int) ++ y5 :: y6 :: List.replicate (0 : Nat) (0 : Int) ++
                          y7 :: y8 :: List.replicate (0 : Nat) (0 : Int)) ≤
                      (1099511627776 : Nat) ∧
                    K
                      (y1 :: y2 :: y3 :: y4 :: List.replicate (0 : Nat) (0 : Int) ++ y5 :: y6 :: List.replicate (0 : Nat) (0 : Int) ++
                        y7 :: y8 :: List.replicate (0 : Nat) (0 : Int))) := spec_l04Around.tx spec_l04About.wp a1 a2 a3 a4 a5 K

theorem spec_l04Most.tx (w_spec_l04About : Int → Int → List Int → Int → Int → (Int → Prop) → Prop) (w_spec_l04Around : Int → Int → List Int → Int → Int → (List Int → Prop) → Prop) (a1 : Int) (a2 : Int) (a3 : List Int) (a4 : Int) (a5 : Int) (K : Int → Prop) : spec_l04Most.bd w_spec_l04About w_spec_l04Around a1 a2 a3 a4 a5 K =
  (w_spec_l04About a1 a2 a3 a4 a5 fun y1 =>
  w_spec_l04Around a1 a2 a3 a4 a5 fun y2 =>
    List.length (y2 ++ y1 :: List.replicate (0 : Nat) (0 : Int)) ≤ (1099511627776 : Nat) ∧
      ∀ (J3 : List Int → Int → Int → Int → Int → Prop),
        (∀ (x4 : List Int) (x5 x6 x7 x8 : Int),
            Go.K.ifB (Decidable.decide (x8 < (↑(List.length x4) : Int)))
                (∀ (J9 : List Int → Int → Int → Int → Int → Int → Int → Prop),
                  (∀ (x10 : List Int) (x11 x12 x13 x14 x15 x16 : Int),
                      Go.K.ifB (Decidable.decide (x16 < (↑(List.length x10) : Int)))
                          (((0 : Int) ≤ x16 ∧ x16 < (↑(List.length x10) : Int)) ∧
                            ((0 : Int) ≤ x14 ∧ x14 < (↑(List.length x10) : Int)) ∧
                              Go.K.ifB (List.getD x10 (Int.toNat x16) (0 : Int) == List.getD x10 (Int.toNat x14) (0 : Int))
                                (J9 x10 x11 x12 x13 x14 (Go.IntKind.wrap Go.IntKind.i64 (x15 + (1 : Int))) (Go.IntKind.wrap Go.IntKind.i64 (x16 + (1 : Int))))
                                (J9 x10 x11 x12 x13 x14 x15 (Go.IntKind.wrap Go.IntKind.i64 (x16 + (1 : Int)))))
                          (Go.K.ifB (Decidable.decide (x15 > x13))
                            (((0 : Int) ≤ x14 ∧ x14 < (↑(List.length x10) : Int)) ∧
                              J3 x10 x11 (List.getD x10 (Int.toNat x14) (0 : Int)) x15 (Go.IntKind.wrap Go.IntKind.i64 (x14 + (1 : Int))))
                            (Go.K.ifB (x15 == x13)
                              (Go.K.ifB (x12 != x11)
                                (((0 : Int) ≤ x14 ∧ x14 < (↑(List.length x10) : Int)) ∧
                                  Go.K.ifB (List.getD x10 (Int.toNat x14) (0 : Int) == x11)
                                    (((0 : Int) ≤ x14 ∧ x14 < (↑(List.length x10) : Int)) ∧
                                      J3 x10 x11 (List.getD x10 (Int.toNat x14) (0 : Int)) x15 (Go.IntKind.wrap Go.IntKind.i64 (x14 + (1 : Int))))
                                    (((0 : Int) ≤ x14 ∧ x14 < (↑(List.length x10) : Int)) ∧
                                      Go.K.ifB (Decidable.decide (List.getD x10 (Int.toNat x14) (0 : Int) < x12))
                                        (((0 : Int) ≤ x14 ∧ x14 < (↑(List.length x10) : Int)) ∧
                                          J3 x10 x11 (List.getD x10 (Int.toNat x14) (0 : Int)) x15 (Go.IntKind.wrap Go.IntKind.i64 (x14 + (1 : Int))))
                                        (J3 x10 x11 x12 x13 (Go.IntKind.wrap Go.IntKind.i64 (x14 + (1 : Int))))))
                                (J3 x10 x11 x12 x13 (Go.IntKind.wrap Go.IntKind.i64 (x14 + (1 : Int)))))
                              (J3 x10 x11 x12 x13 (Go.IntKind.wrap Go.IntKind.i64 (x14 + (1 : Int)))))) →
                        J9 x10 x11 x12 x13 x14 x15 x16) →
                    J9 x4 x5 x6 x7 x8 (0 : Int) (0 : Int))
                (K x6) →
              J3 x4 x5 x6 x7 x8) →
          J3 (y2 ++ y1 :: List.replicate (0 : Nat) (0 : Int)) y1 y1 (0 : Int) (0 : Int)) := by kernel_rfl
theorem spec_l04Most.eq (a1 : Int) (a2 : Int) (a3 : List Int) (a4 : Int) (a5 : Int) (K : Int → Prop) : spec_l04Most.wp a1 a2 a3 a4 a5 K =
  (Go.K.grains.spec_l04About.wp a1 a2 a3 a4 a5 fun y1 =>
  Go.K.grains.spec_l04Around.wp a1 a2 a3 a4 a5 fun y2 =>
    List.length (y2 ++ y1 :: List.replicate (0 : Nat) (0 : Int)) ≤ (1099511627776 : Nat) ∧
      ∀ (J3 : List Int → Int → Int → Int → Int → Prop),
        (∀ (x4 : List Int) (x5 x6 x7 x8 : Int),
            Go.K.ifB (Decidable.decide (x8 < (↑(List.length x4) : Int)))
                (∀ (J9 : List Int → Int → Int → Int → Int → Int → Int → Prop),
                  (∀ (x10 : List Int) (x11 x12 x13 x14 x15 x16 : Int),
                      Go.K.ifB (Decidable.decide (x16 < (↑(List.length x10) : Int)))
                          (((0 : Int) ≤ x16 ∧ x16 < (↑(List.length x10) : Int)) ∧
                            ((0 : Int) ≤ x14 ∧ x14 < (↑(List.length x10) : Int)) ∧
                              Go.K.ifB (List.getD x10 (Int.toNat x16) (0 : Int) == List.getD x10 (Int.toNat x14) (0 : Int))
                                (J9 x10 x11 x12 x13 x14 (Go.IntKind.wrap Go.IntKind.i64 (x15 + (1 : Int))) (Go.IntKind.wrap Go.IntKind.i64 (x16 + (1 : Int))))
                                (J9 x10 x11 x12 x13 x14 x15 (Go.IntKind.wrap Go.IntKind.i64 (x16 + (1 : Int)))))
                          (Go.K.ifB (Decidable.decide (x15 > x13))
                            (((0 : Int) ≤ x14 ∧ x14 < (↑(List.length x10) : Int)) ∧
                              J3 x10 x11 (List.getD x10 (Int.toNat x14) (0 : Int)) x15 (Go.IntKind.wrap Go.IntKind.i64 (x14 + (1 : Int))))
                            (Go.K.ifB (x15 == x13)
                              (Go.K.ifB (x12 != x11)
                                (((0 : Int) ≤ x14 ∧ x14 < (↑(List.length x10) : Int)) ∧
                                  Go.K.ifB (List.getD x10 (Int.toNat x14) (0 : Int) == x11)
                                    (((0 : Int) ≤ x14 ∧ x14 < (↑(List.length x10) : Int)) ∧
                                      J3 x10 x11 (List.getD x10 (Int.toNat x14) (0 : Int)) x15 (Go.IntKind.wrap Go.IntKind.i64 (x14 + (1 : Int))))
                                    (((0 : Int) ≤ x14 ∧ x14 < (↑(List.length x10) : Int)) ∧
                                      Go.K.ifB (Decidable.decide (List.getD x10 (Int.toNat x14) (0 : Int) < x12))
                                        (((0 : Int) ≤ x14 ∧ x14 < (↑(List.length x10) : Int)) ∧
                                          J3 x10 x11 (List.getD x10 (Int.toNat x14) (0 : Int)) x15 (Go.IntKind.wrap Go.IntKind.i64 (x14 + (1 : Int))))
                                        (J3 x10 x11 x12 x13 (Go.IntKind.wrap Go.IntKind.i64 (x14 + (1 : Int))))))
                                (J3 x10 x11 x12 x13 (Go.IntKind.wrap Go.IntKind.i64 (x14 + (1 : Int)))))
                              (J3 x10 x11 x12 x13 (Go.IntKind.wrap Go.IntKind.i64 (x14 + (1 : Int)))))) →
                        J9 x10 x11 x12 x13 x14 x15 x16) →
                    J9 x4 x5 x6 x7 x8 (0 : Int) (0 : Int))
                (K x6) →
              J3 x4 x5 x6 x7 x8) →
          J3 (y2 ++ y1 :: List.replicate (0 : Nat) (0 : Int)) y1 y1 (0 : Int) (0 : Int)) := spec_l04Most.tx spec_l04About.wp spec_l04Around.wp a1 a2 a3 a4 a5 K

theorem spec_l04Round.tx (w_spec_l04New : Int → Int → (List Int → Int → Int → Prop) → Prop) (w_spec_l04Most : Int → Int → List Int → Int → Int → (Int → Prop) → Prop) (a1 : Int) (a2 : Int) (a3 : List Int) (K : List Int → Int → Int → Prop) : spec_l04Round.bd w_spec_l04New w_spec_l04Most a1 a2 a3 K =
  (w_spec_l04New a1 a2 fun y1 y2 y3 =>
  ∀ (J4 : Int → Int → Int → Int → List Int → List Int → Int → Prop),
    (∀ (x5 x6 x7 x8 : Int) (x9 x10 : List Int) (x11 : Int),
        Go.K.ifB (Decidable.decide (x11 < Go.IntKind.wrap Go.IntKind.i64 (a1 * a2)))
            (a1 ≠ (0 : Int) ∧
              a1 ≠ (0 : Int) ∧
                w_spec_l04Most a1 a2 a3 (Int.tmod x11 a1) (Go.IntKind.wrap Go.IntKind.i64 (Int.tdiv x11 a1)) fun y12 =>
                  List.length (x10 ++ y12 :: List.replicate (0 : Nat) (0 : Int)) ≤ (1099511627776 : Nat) ∧
                    J4 x5 x6 x7 x8 x9 (x10 ++ y12 :: List.replicate (0 : Nat) (0 : Int)) (Go.IntKind.wrap Go.IntKind.i64 (x11 + (1 : Int))))
            (K x10 x7 x8) →
          J4 x5 x6 x7 x8 x9 x10 x11) →
      J4 (0 : Int) (0 : Int) y2 y3 [] y1 (0 : Int)) := by kernel_rfl
theorem spec_l04Round.eq (a1 : Int) (a2 : Int) (a3 : List Int) (K : List Int → Int → Int → Prop) : spec_l04Round.wp a1 a2 a3 K =
  (Go.K.grains.spec_l04New.wp a1 a2 fun y1 y2 y3 =>
  ∀ (J4 : Int → Int → Int → Int → List Int → List Int → Int → Prop),
    (∀ (x5 x6 x7 x8 : Int) (x9 x10 : List Int) (x11 : Int),
        Go.K.ifB (Decidable.decide (x11 < Go.IntKind.wrap Go.IntKind.i64 (a1 * a2)))
            (a1 ≠ (0 : Int) ∧
              a1 ≠ (0 : Int) ∧
                Go.K.grains.spec_l04Most.wp a1 a2 a3 (Int.tmod x11 a1) (Go.IntKind.wrap Go.IntKind.i64 (Int.tdiv x11 a1)) fun y12 =>
                  List.length (x10 ++ y12 :: List.replicate (0 : Nat) (0 : Int)) ≤ (1099511627776 : Nat) ∧
                    J4 x5 x6 x7 x8 x9 (x10 ++ y12 :: List.replicate (0 : Nat) (0 : Int)) (Go.IntKind.wrap Go.IntKind.i64 (x11 + (1 : Int))))
            (K x10 x7 x8) →
          J4 x5 x6 x7 x8 x9 x10 x11) →
      J4 (0 : Int) (0 : Int) y2 y3 [] y1 (0 : Int)) := spec_l04Round.tx spec_l04New.wp spec_l04Most.wp a1 a2 a3 K

theorem spec_l00Same.tx  (a1 : List Int) (a2 : List Int) (K : Bool → Prop) : spec_l00Same.bd  a1 a2 K =
  (Go.K.ifB ((↑(List.length a1) : Int) != (↑(List.length a2) : Int)) (K Bool.false)
  (∀ (J1 : Int → Prop),
    (∀ (x2 : Int),
        Go.K.ifB (Decidable.decide (x2 < (↑(List.length a1) : Int)))
            (((0 : Int) ≤ x2 ∧ x2 < (↑(List.length a1) : Int)) ∧
              ((0 : Int) ≤ x2 ∧ x2 < (↑(List.length a2) : Int)) ∧
                Go.K.ifB (List.getD a1 (Int.toNat x2) (0 : Int) != List.getD a2 (Int.toNat x2) (0 : Int)) (K Bool.false) (J1 (Go.IntKind.wrap Go.IntKind.i64 (x2 + (1 : Int)))))
            (K Bool.true) →
          J1 x2) →
      J1 (0 : Int))) := by kernel_rfl
theorem spec_l00Same.eq (a1 : List Int) (a2 : List Int) (K : Bool → Prop) : spec_l00Same.wp a1 a2 K =
  (Go.K.ifB ((↑(List.length a1) : Int) != (↑(List.length a2) : Int)) (K Bool.false)
  (∀ (J1 : Int → Prop),
    (∀ (x2 : Int),
        Go.K.ifB (Decidable.decide (x2 < (↑(List.length a1) : Int)))
            (((0 : Int) ≤ x2 ∧ x2 < (↑(List.length a1) : Int)) ∧
              ((0 : Int) ≤ x2 ∧ x2 < (↑(List.length a2) : Int)) ∧
                Go.K.ifB (List.getD a1 (Int.toNat x2) (0 : Int) != List.getD a2 (Int.toNat x2) (0 : Int)) (K Bool.false) (J1 (Go.IntKind.wrap Go.IntKind.i64 (x2 + (1 : Int)))))
            (K Bool.true) →
          J1 x2) →
      J1 (0 : Int))) := spec_l00Same.tx  a1 a2 K

theorem spec_MajorityGrains.tx (w_spec_l04Is : Int → Int → List Int → (Bool → Prop) → Prop) (w_spec_l00In : Int → Int → Int → (Bool → Prop) → Prop) (w_spec_l04Own : Int → Int → List Int → (List Int → Int → Int → Prop) → Prop) (w_spec_l04Round : Int → Int → List Int → (List Int → Int → Int → Prop) → Prop) (w_spec_l00Same : List Int → List Int → (Bool → Prop) → Prop) (a1 : List Int) (a2 : Int) (a3 : Int) (a4 : Int) (K : List Int → Int → Int → Int → Bool → Prop) : spec_MajorityGrains.bd w_spec_l04Is w_spec_l00In w_spec_l04Own w_spec_l04Round w_spec_l00Same a1 a2 a3 a4 K =
  (w_spec_l04Is a2 a3 a1 fun y1 =>
  Go.K.ifB (!y1) (K [] (0 : Int) (0 : Int) (0 : Int) Bool.false)
    (w_spec_l00In a4 (0 : Int) (64 : Int) fun y2 =>
      Go.K.ifB (!y2) (K [] (0 : Int) (0 : Int) (0 : Int) Bool.false)
        (w_spec_l04Own a2 a3 a1 fun y3 y4 y5 =>
          ∀ (J6 : Int → Int → Int → Int → List Int → List Int → Int → Int → Prop),
            (∀ (x7 x8 x9 x10 : Int) (x11 x12 : List Int) (x13 x14 : Int),
                Go.K.ifB (Decidable.decide (x14 < a4))
                    (w_spec_l04Round x9 x10 x12 fun y15 y16 y17 =>
                      w_spec_l00Same y15 x12 fun y18 =>
                        Go.K.ifB y18 (K x12 x9 x10 x13 Bool.true)
                          (J6 x7 x8 y16 y17 x11 y15 (Go.IntKind.wrap Go.IntKind.i64 (x13 + (1 : Int))) (Go.IntKind.wrap Go.IntKind.i64 (x14 + (1 : Int)))))
                    (K x12 x9 x10 x13 Bool.true) →
                  J6 x7 x8 x9 x10 x11 x12 x13 x14) →
              J6 (0 : Int) (0 : Int) y4 y5 [] y3 (0 : Int) (0 : Int)))) := by kernel_rfl
theorem spec_MajorityGrains.eq (a1 : List Int) (a2 : Int) (a3 : Int) (a4 : Int) (K : List Int → Int → Int → Int → Bool → Prop) : spec_MajorityGrains.wp a1 a2 a3 a4 K =
  (Go.K.grains.spec_l04Is.wp a2 a3 a1 fun y1 =>
  Go.K.ifB (!y1) (K [] (0 : Int) (0 : Int) (0 : Int) Bool.false)
    (Go.K.grains.spec_l00In.wp a4 (0 : Int) (64 : Int) fun y2 =>
      Go.K.ifB (!y2) (K [] (0 : Int) (0 : Int) (0 : Int) Bool.false)
        (Go.K.grains.spec_l04Own.wp a2 a3 a1 fun y3 y4 y5 =>
          ∀ (J6 : Int → Int → Int → Int → List Int → List Int → Int → Int → Prop),
            (∀ (x7 x8 x9 x10 : Int) (x11 x12 : List Int) (x13 x14 : Int),
                Go.K.ifB (Decidable.decide (x14 < a4))
                    (Go.K.grains.spec_l04Round.wp x9 x10 x12 fun y15 y16 y17 =>
                      Go.K.grains.spec_l00Same.wp y15 x12 fun y18 =>
                        Go.K.ifB y18 (K x12 x9 x10 x13 Bool.true)
                          (J6 x7 x8 y16 y17 x11 y15 (Go.IntKind.wrap Go.IntKind.i64 (x13 + (1 : Int))) (Go.IntKind.wrap Go.IntKind.i64 (x14 + (1 : Int)))))
                    (K x12 x9 x10 x13 Bool.true) →
                  J6 x7 x8 x9 x10 x11 x12 x13 x14) →
              J6 (0 : Int) (0 : Int) y4 y5 [] y3 (0 : Int) (0 : Int)))) := spec_MajorityGrains.tx spec_l04Is.wp spec_l00In.wp spec_l04Own.wp spec_l04Round.wp spec_l00Same.wp a1 a2 a3 a4 K

theorem impl_within.tx  (a1 : Int) (a2 : Int) (a3 : Int) (K : Bool → Prop) : impl_within.bd  a1 a2 a3 K =
  (Go.K.ifB (Decidable.decide (a2 ≤ a1)) (K (Decidable.decide (a1 ≤ a3))) (K Bool.false)) := by kernel_rfl
theorem impl_within.eq (a1 : Int) (a2 : Int) (a3 : Int) (K : Bool → Prop) : impl_within.wp a1 a2 a3 K =
  (Go.K.ifB (Decidable.decide (a2 ≤ a1)) (K (Decidable.decide (a1 ≤ a3))) (K Bool.false)) := impl_within.tx  a1 a2 a3 K

theorem impl_areWithin_1.tx (w_impl_within : Int → Int → Int → (Bool → Prop) → Prop) (a1 : Int) (a2 : Int) (a3 : Int) (K : Bool → Prop) : impl_areWithin_1.bd w_impl_within a1 a2 a3 K =
  (w_impl_within a3 a1 a2 fun y1 => K !y1) := by kernel_rfl
theorem impl_areWithin_1.eq (a1 : Int) (a2 : Int) (a3 : Int) (K : Bool → Prop) : impl_areWithin_1.wp a1 a2 a3 K =
  (Go.K.grains.impl_within.wp a3 a1 a2 fun y1 => K !y1) := impl_areWithin_1.tx impl_within.wp a1 a2 a3 K

theorem slices_IndexFunc_int64_int64__areWithin_1.tx (w_impl_areWithin_1 : Int → Int → Int → (Bool → Prop) → Prop) (a1 : List Int) (a2 : Int) (a3 : Int) (K : Int → Prop) : slices_IndexFunc_int64_int64__areWithin_1.bd w_impl_areWithin_1 a1 a2 a3 K =
  (∀ (J1 : Int → Int → Prop),
  (∀ (x2 x3 : Int),
      Go.K.ifB (Decidable.decide (x3 < x2))
          (((0 : Int) ≤ x3 ∧ x3 < (↑(List.length a1) : Int)) ∧
            w_impl_areWithin_1 a2 a3 (List.getD a1 (Int.toNat x3) (0 : Int)) fun y4 => Go.K.ifB y4 (K x3) (J1 x2 (Go.IntKind.wrap Go.IntKind.i64 (x3 + (1 : Int)))))
          (K (-1 : Int)) →
        J1 x2 x3) →
    J1 (↑(List.length a1) : Int) (0 : Int)) := by kernel_rfl
theorem slices_IndexFunc_int64_int64__areWithin_1.eq (a1 : List Int) (a2 : Int) (a3 : Int) (K : Int → Prop) : slices_IndexFunc_int64_int64__areWithin_1.wp a1 a2 a3 K =
  (∀ (J1 : Int → Int → Prop),
  (∀ (x2 x3 : Int),
      Go.K.ifB (Decidable.decide (x3 < x2))
          (((0 : Int) ≤ x3 ∧ x3 < (↑(List.length a1) : Int)) ∧
            Go.K.grains.impl_areWithin_1.wp a2 a3 (List.getD a1 (Int.toNat x3) (0 : Int)) fun y4 => Go.K.ifB y4 (K x3) (J1 x2 (Go.IntKind.wrap Go.IntKind.i64 (x3 + (1 : Int)))))
          (K (-1 : Int)) →
        J1 x2 x3) →
    J1 (↑(List.length a1) : Int) (0 : Int)) := slices_IndexFunc_int64_int64__areWithin_1.tx impl_areWithin_1.wp a1 a2 a3 K

theorem slices_ContainsFunc_int64_int64__areWithin_1.tx (w_slices_IndexFunc_int64_int64__areWithin_1 : List Int → Int → Int → (Int → Prop) → Prop) (a1 : List Int) (a2 : Int) (a3 : Int) (K : Bool → Prop) : slices_ContainsFunc_int64_int64__areWithin_1.bd w_slices_IndexFunc_int64_int64__areWithin_1 a1 a2 a3 K =
  (w_slices_IndexFunc_int64_int64__areWithin_1 a1 a2 a3 fun y1 => K (Decidable.decide (y1 ≥ (0 : Int)))) := by kernel_rfl
theorem slices_ContainsFunc_int64_int64__areWithin_1.eq (a1 : List Int) (a2 : Int) (a3 : Int) (K : Bool → Prop) : slices_ContainsFunc_int64_int64__areWithin_1.wp a1 a2 a3 K =
  (Go.K.grains.slices_IndexFunc_int64_int64__areWithin_1.wp a1 a2 a3 fun y1 => K (Decidable.decide (y1 ≥ (0 : Int)))) := slices_ContainsFunc_int64_int64__areWithin_1.tx slices_IndexFunc_int64_int64__areWithin_1.wp a1 a2 a3 K

theorem impl_areWithin.tx (w_slices_ContainsFunc_int64_int64__areWithin_1 : List Int → Int → Int → (Bool → Prop) → Prop) (a1 : List Int) (a2 : Int) (a3 : Int) (K : Bool → Prop) : impl_areWithin.bd w_slices_ContainsFunc_int64_int64__areWithin_1 a1 a2 a3 K =
  (w_slices_ContainsFunc_int64_int64__areWithin_1 a1 a2 a3 fun y1 => K !y1) := by kernel_rfl
theorem impl_areWithin.eq (a1 : List Int) (a2 : Int) (a3 : Int) (K : Bool → Prop) : impl_areWithin.wp a1 a2 a3 K =
  (Go.K.grains.slices_ContainsFunc_int64_int64__areWithin_1.wp a1 a2 a3 fun y1 => K !y1) := impl_areWithin.tx slices_ContainsFunc_int64_int64__areWithin_1.wp a1 a2 a3 K

theorem impl_ValidGrains.tx (w_impl_areWithin : List Int → Int → Int → (Bool → Prop) → Prop) (a1 : List Int) (a2 : Int) (a3 : Int) (K : Bool → Prop) : impl_ValidGrains.bd w_impl_areWithin a1 a2 a3 K =
  (w_impl_areWithin (a2 :: a3 :: List.replicate (0 : Nat) (0 : Int)) (1 : Int) (16 : Int) fun y1 =>
  Go.K.ifB y1
    (Go.K.ifB ((↑(List.length a1) : Int) == Go.IntKind.wrap Go.IntKind.i64 (a2 * a3)) (w_impl_areWithin a1 (0 : Int) (63 : Int) fun y2 => K y2) (K Bool.false))
    (K Bool.false)) := by kernel_rfl
theorem impl_ValidGrains.eq (a1 : List Int) (a2 : Int) (a3 : Int) (K : Bool → Prop) : impl_ValidGrains.wp a1 a2 a3 K =
  (Go.K.grains.impl_areWithin.wp (a2 :: a3 :: List.replicate (0 : Nat) (0 : Int)) (1 : Int) (16 : Int) fun y1 =>
  Go.K.ifB y1
    (Go.K.ifB ((↑(List.length a1) : Int) == Go.IntKind.wrap Go.IntKind.i64 (a2 * a3)) (Go.K.grains.impl_areWithin.wp a1 (0 : Int) (63 : Int) fun y2 => K y2) (K Bool.false))
    (K Bool.false)) := impl_ValidGrains.tx impl_areWithin.wp a1 a2 a3 K

theorem slices_Clone_int64_int64.tx  (a1 : List Int) (K : List Int → Prop) : slices_Clone_int64_int64.bd  a1 K =
  (List.length a1 ≠ (0 : Nat) ∧ List.length (List.replicate (0 : Nat) (0 : Int) ++ a1) ≤ (1099511627776 : Nat) ∧ K (List.replicate (0 : Nat) (0 : Int) ++ a1)) := by kernel_rfl
theorem slices_Clone_int64_int64.eq (a1 : List Int) (K : List Int → Prop) : slices_Clone_int64_int64.wp a1 K =
  (List.length a1 ≠ (0 : Nat) ∧ List.length (List.replicate (0 : Nat) (0 : Int) ++ a1) ≤ (1099511627776 : Nat) ∧ K (List.replicate (0 : Nat) (0 : Int) ++ a1)) := slices_Clone_int64_int64.tx  a1 K

theorem impl_place.tx  (a1 : Int) (a2 : Int) (a3 : Bool) (K : Int → Prop) : impl_place.bd  a1 a2 a3 K =
  (Go.K.ifB a3 (a2 ≠ (0 : Int) ∧ a2 ≠ (0 : Int) ∧ K (Int.tmod (Go.IntKind.wrap Go.IntKind.i64 (Int.tmod a1 a2 + a2)) a2))
  (K (Go.K.mmI Bool.false (Go.K.mmI Bool.true a1 (0 : Int)) (Go.IntKind.wrap Go.IntKind.i64 (a2 - (1 : Int)))))) := by kernel_rfl
theorem impl_place.eq (a1 : Int) (a2 : Int) (a3 : Bool) (K : Int → Prop) : impl_place.wp a1 a2 a3 K =
  (Go.K.ifB a3 (a2 ≠ (0 : Int) ∧ a2 ≠ (0 : Int) ∧ K (Int.tmod (Go.IntKind.wrap Go.IntKind.i64 (Int.tmod a1 a2 + a2)) a2))
  (K (Go.K.mmI Bool.false (Go.K.mmI Bool.true a1 (0 : Int)) (Go.IntKind.wrap Go.IntKind.i64 (a2 - (1 : Int)))))) := impl_place.tx  a1 a2 a3 K

theorem impl_Grains_cell.tx (w_impl_place : Int → Int → Bool → (Int → Prop) → Prop) (a1 : List Int) (a2 : Int) (a3 : Int) (a4 : Int) (a5 : Int) (K : Int → Prop) : impl_Grains_cell.bd w_impl_place a1 a2 a3 a4 a5 K =
  (w_impl_place a4 a2 Bool.true fun y1 =>
  w_impl_place a5 a3 Bool.true fun y2 => K (Go.IntKind.wrap Go.IntKind.i64 (y1 + Go.IntKind.wrap Go.IntKind.i64 (a2 * y2)))) := by kernel_rfl
theorem impl_Grains_cell.eq (a1 : List Int) (a2 : Int) (a3 : Int) (a4 : Int) (a5 : Int) (K : Int → Prop) : impl_Grains_cell.wp a1 a2 a3 a4 a5 K =
  (Go.K.grains.impl_place.wp a4 a2 Bool.true fun y1 =>
  Go.K.grains.impl_place.wp a5 a3 Bool.true fun y2 => K (Go.IntKind.wrap Go.IntKind.i64 (y1 + Go.IntKind.wrap Go.IntKind.i64 (a2 * y2)))) := impl_Grains_cell.tx impl_place.wp a1 a2 a3 a4 a5 K

theorem impl_Grains_about.tx (w_impl_Grains_cell : List Int → Int → Int → Int → Int → (Int → Prop) → Prop) (a1 : List Int) (a2 : Int) (a3 : Int) (a4 : Int) (a5 : Int) (K : Int → Prop) : impl_Grains_about.bd w_impl_Grains_cell a1 a2 a3 a4 a5 K =
  (w_impl_Grains_cell a1 a2 a3 a4 a5 fun y1 => ((0 : Int) ≤ y1 ∧ y1 < (↑(List.length a1) : Int)) ∧ K (List.getD a1 (Int.toNat y1) (0 : Int))) := by kernel_rfl
theorem impl_Grains_about.eq (a1 : List Int) (a2 : Int) (a3 : Int) (a4 : Int) (a5 : Int) (K : Int → Prop) : impl_Grains_about.wp a1 a2 a3 a4 a5 K =
  (Go.K.grains.impl_Grains_cell.wp a1 a2 a3 a4 a5 fun y1 => ((0 : Int) ≤ y1 ∧ y1 < (↑(List.length a1) : Int)) ∧ K (List.getD a1 (Int.toNat y1) (0 : Int))) := impl_Grains_about.tx impl_Grains_cell.wp a1 a2 a3 a4 a5 K

theorem impl_Grains_around.tx (w_impl_Grains_about : List Int → Int → Int → Int → Int → (Int → Prop) → Prop) (a1 : List Int) (a2 : Int) (a3 : Int) (a4 : Int) (a5 : Int) (K : List Int → Prop) : impl_Grains_around.bd w_impl_Grains_about a1 a2 a3 a4 a5 K =
  (∀ (J1 : Int → Int → List Int → Int → Int → Int → Int → Int → Int → Int → Int → Int → Int → Int → Int → Int → Int → Int → Int → Int → Prop),
  (∀ (x2 x3 : Int) (x4 : List Int) (x5 x6 x7 x8 x9 x10 x11 x12 x13 x14 x15 x16 x17 x18 x19 x20 x21 : Int),
      Go.K.ifB (Decidable.decide (x21 < (8 : Int)))
          (((0 : Int) ≤ x21 ∧ x21 < (8 : Int)) ∧
            (2 : Nat) = (2 : Nat) ∧
              ((0 : Int) ≤ (0 : Int) ∧ (0 : Int) < (2 : Int) ∧ Int.toNat (0 : Int) < (2 : Nat)) ∧
                ((0 : Int) ≤ (1 : Int) ∧ (1 : Int) < (2 : Int) ∧ Int.toNat (1 : Int) < (2 : Nat)) ∧
                  w_impl_Grains_about a1 x2 x3
                    (Go.IntKind.wrap Go.IntKind.i64
                      (a4 +
                        List.getD
                          (List.getD [x5, x6, x7, x8, x9, x10, x11, x12, x13, x14, x15, x16, x17, x18, x19, x20] (Int.toNat x21 * (2 : Nat)) (0 : Int) ::
                            List.getD [x5, x6, x7, x8, x9, x10, x11, x12, x13, x14, x15, x16, x17, x18, x19, x20] (Int.toNat x21 * (2 : Nat) + (1 : Nat)) (0 : Int) ::
                              List.replicate (0 : Nat) (0 : Int))
                          (Int.toNat (0 : Int)) (0 : Int)))
                    (Go.IntKind.wrap Go.IntKind.i64
                      (a5 +
                        List.getD
                          (List.getD [x5, x6, x7, x8, x9, x10, x11, x12, x13, x14, x15, x16, x17, x18, x19, x20] (Int.toNat x21 * (2 : Nat)) (0 : Int) ::
                            List.getD [x5, x6, x7, x8, x9, x10, x11, x12, x13, x14, x15, x16, x17, x18, x19, x20] (Int.toNat x21 * (2 : Nat) + (1 : Nat)) (0 : Int) ::
                              List.replicate (0 : Nat) (0 : Int))
                          (Int.toNat (1 : Int)) (0 : Int)))
                    fun y22 =>
                    List.length (x4 ++ y22 :: List.replicate (0 : Nat) (0 : Int)) ≤ (1099511627776 : Nat) ∧
                      J1 x2 x3 (x4 ++ y22 :: List.replicate (0 : Nat) (0 : Int)) x5 x6 x7 x8 x9 x10 x11 x12 x13 x14 x15 x16 x17 x18 x19 x20
                        (Go.IntKind.wrap Go.IntKind.i64 (x21 + (1 : Int))))
          (K x4) →
        J1 x2 x3 x4 x5 x6 x7 x8 x9 x10 x11 x12 x13 x14 x15 x16 x17 x18 x19 x20 x21) →
    J1 a2 a3 (List.replicate (0 : Nat) (0 : Int)) (-1 : Int) (0 : Int) (1 : Int) (0 : Int) (0 : Int) (-1 : Int) (0 : Int) (1 : Int) (-1 : Int) (-1 : Int) (1 : Int) (-1 : Int)
      (-1 : Int) (1 : Int) (1 : Int) (1 : Int) (0 : Int)) := by kernel_rfl
theorem impl_Grains_around.eq (a1 : List Int) (a2 : Int) (a3 : Int) (a4 : Int) (a5 : Int) (K : List Int → Prop) : impl_Grains_around.wp a1 a2 a3 a4 a5 K =
  (∀ (J1 : Int → Int → List Int → Int → Int → Int → Int → Int → Int → Int → Int → Int → Int → Int → Int → Int → Int → Int → Int → Int → Prop),
  (∀ (x2 x3 : Int) (x4 : List Int) (x5 x6 x7 x8 x9 x10 x11 x12 x13 x14 x15 x16 x17 x18 x19 x20 x21 : Int),
      Go.K.ifB (Decidable.decide (x21 < (8 : Int)))
          (((0 : Int) ≤ x21 ∧ x21 < (8 : Int)) ∧
            (2 : Nat) = (2 : Nat) ∧
              ((0 : Int) ≤ (0 : Int) ∧ (0 : Int) < (2 : Int) ∧ Int.toNat (0 : Int) < (2 : Nat)) ∧
                ((0 : Int) ≤ (1 : Int) ∧ (1 : Int) < (2 : Int) ∧ Int.toNat (1 : Int) < (2 : Nat)) ∧
                  Go.K.grains.impl_Grains_about.wp a1 x2 x3
                    (Go.IntKind.wrap Go.IntKind.i64
                      (a4 +
                        List.getD
                          (List.getD [x5, x6, x7, x8, x9, x10, x11, x12, x13, x14, x15, x16, x17, x18, x19, x20] (Int.toNat x21 * (2 : Nat)) (0 : Int) ::
                            List.getD [x5, x6, x7, x8, x9, x10, x11, x12, x13, x14, x15, x16, x17, x18, x19, x20] (Int.toNat x21 * (2 : Nat) + (1 : Nat)) (0 : Int) ::
                              List.replicate (0 : Nat) (0 : Int))
                          (Int.toNat (0 : Int)) (0 : Int)))
                    (Go.IntKind.wrap Go.IntKind.i64
                      (a5 +
                        List.getD
                          (List.getD [x5, x6, x7, x8, x9, x10, x11, x12, x13, x14, x15, x16, x17, x18, x19, x20] (Int.toNat x21 * (2 : Nat)) (0 : Int) ::
                            List.getD [x5, x6, x7, x8, x9, x10, x11, x12, x13, x14, x15, x16, x17, x18, x19, x20] (Int.toNat x21 * (2 : Nat) + (1 : Nat)) (0 : Int) ::
                              List.replicate (0 : Nat) (0 : Int))
                          (Int.toNat (1 : Int)) (0 : Int)))
                    fun y22 =>
                    List.length (x4 ++ y22 :: List.replicate (0 : Nat) (0 : Int)) ≤ (1099511627776 : Nat) ∧
                      J1 x2 x3 (x4 ++ y22 :: List.replicate (0 : Nat) (0 : Int)) x5 x6 x7 x8 x9 x10 x11 x12 x13 x14 x15 x16 x17 x18 x19 x20
                        (Go.IntKind.wrap Go.IntKind.i64 (x21 + (1 : Int))))
          (K x4) →
        J1 x2 x3 x4 x5 x6 x7 x8 x9 x10 x11 x12 x13 x14 x15 x16 x17 x18 x19 x20 x21) →
    J1 a2 a3 (List.replicate (0 : Nat) (0 : Int)) (-1 : Int) (0 : Int) (1 : Int) (0 : Int) (0 : Int) (-1 : Int) (0 : Int) (1 : Int) (-1 : Int) (-1 : Int) (1 : Int) (-1 : Int)
      (-1 : Int) (1 : Int) (1 : Int) (1 : Int) (0 : Int)) := impl_Grains_around.tx impl_Grains_about.wp a1 a2 a3 a4 a5 K

theorem impl_Grains_majority.tx (w_impl_Grains_about : List Int → Int → Int → Int → Int → (Int → Prop) → Prop) (w_impl_Grains_around : List Int → Int → Int → Int → Int → (List Int → Prop) → Prop) (a1 : List Int) (a2 : Int) (a3 : Int) (a4 : Int) (a5 : Int) (K : Int → Prop) : impl_Grains_majority.bd w_impl_Grains_about w_impl_Grains_around a1 a2 a3 a4 a5 K =
  (w_impl_Grains_about a1 a2 a3 a4 a5 fun y1 =>
  (64 : Nat) = (64 : Nat) ∧
    w_impl_Grains_around a1 a2 a3 a4 a5 fun y2 =>
      List.length (y2 ++ y1 :: List.replicate (0 : Nat) (0 : Int)) ≤ (1099511627776 : Nat) ∧
        ∀ (J3 : List Int → List Int → Int → Int → Int → Prop),
          (∀ (x4 x5 : List Int) (x6 x7 x8 : Int),
              Go.K.ifB (Decidable.decide (x8 < x7))
                  (((0 : Int) ≤ x8 ∧ x8 < (↑(List.length x5) : Int)) ∧
                    ((0 : Int) ≤ List.getD x5 (Int.toNat x8) (0 : Int) ∧
                        List.getD x5 (Int.toNat x8) (0 : Int) < (64 : Int) ∧ Int.toNat (List.getD x5 (Int.toNat x8) (0 : Int)) < List.length x4) ∧
                      ((0 : Int) ≤ List.getD x5 (Int.toNat x8) (0 : Int) ∧
                          List.getD x5 (Int.toNat x8) (0 : Int) < (64 : Int) ∧ Int.toNat (List.getD x5 (Int.toNat x8) (0 : Int)) < List.length x4) ∧
                        J3
                          (List.set x4 (Int.toNat (List.getD x5 (Int.toNat x8) (0 : Int)))
                            (Go.IntKind.wrap Go.IntKind.i64 (List.getD x4 (Int.toNat (List.getD x5 (Int.toNat x8) (0 : Int))) (0 : Int) + (1 : Int))))
                          x5 x6 x7 (Go.IntKind.wrap Go.IntKind.i64 (x8 + (1 : Int))))
                  (List.length x4 = (64 : Nat) ∧
                    ∀ (J9 : List Int → List Int → Int → Int → Prop),
                      (∀ (x10 x11 : List Int) (x12 x13 : Int),
                          Go.K.ifB (Decidable.decide (x13 < (64 : Int)))
                              (((0 : Int) ≤ x13 ∧ x13 < (64 : Int) ∧ Int.toNat x13 < List.length x11) ∧
                                ((0 : Int) ≤ x12 ∧ x12 < (64 : Int) ∧ Int.toNat x12 < List.length x10) ∧
                                  Go.K.ifB (Decidable.decide (List.getD x11 (Int.toNat x13) (0 : Int) > List.getD x10 (Int.toNat x12) (0 : Int)))
                                    (J9 x10 x11 x13 (Go.IntKind.wrap Go.IntKind.i64 (x13 + (1 : Int)))) (J9 x10 x11 x12 (Go.IntKind.wrap Go.IntKind.i64 (x13 + (1 : Int)))))
                              (K x12) →
                            J9 x10 x11 x12 x13) →
                        J9 x4 x4 x6 (0 : Int)) →
                J3 x4 x5 x6 x7 x8) →
            J3
              ((0 : Int) ::
                (0 : Int) ::
                  (0 : Int) ::
                    (0 : Int) ::
                      (0 : Int) ::
                        (0 : Int) ::
                          (0 : Int) ::
                            (0 : Int) ::
                              (0 : Int) ::
                                (0 : Int) ::
                                  (0 : Int) ::
                                    (0 : Int) ::
                                      (0 : Int) ::
                                        (0 : Int) ::
                                          (0 : Int) ::
                                            (0 : Int) ::
                                              (0 : Int) ::
                                                (0 : Int) ::
                                                  (0 : Int) ::
                                                    (0 : Int) ::
                                                      (0 : Int) ::
                                                        (0 : Int) ::
                                                          (0 : Int) ::
                                                            (0 : Int) ::
                                                              (0 : Int) ::
                                                                (0 : Int) ::
                                                                  (0 : Int) ::
                                                                    (0 : Int) ::
                                                                      (0 : Int) ::
                                                                        (0 : Int) ::
                                                                          (0 : Int) ::
                                                                            (0 : Int) ::
                                                                              (0 : Int) ::
                                                                                (0 : Int) ::
                                                                                  (0 : Int) ::
                                                                                    (0 : Int) ::
                                                                                      (0 : Int) ::
                                                                                        (0 : Int) ::
                                                                                          (0 : Int) ::
                                                                                            (0 : Int) ::
                                                                                              (0 : Int) ::
                                                                                                (0 : Int) ::
                                                                                                  (0 : Int) ::
                                                                                                    (0 : Int) ::
                                                                                                      (0 : Int) ::
                                                                                                        (0 : Int) ::
                                                                                                          (0 : Int) ::
                                                                                                            (0 : Int) ::
                                                                                                              (0 : Int) ::
                                                                                                                (0 : Int) ::
                                                                                                                  (0 : Int) ::
                                                                                                                    (0 : Int) ::
                                                                                                                      (0 : Int) ::
                                                                                                                        (0 : Int) ::
                                                                                                                          (0 : Int) ::
                                                                                                                            (0 : Int) ::
                                                                                                                              (0 : Int) ::
                                                                                                                                (0 : Int) ::
                                                                                                                                  (0 : Int) ::
                                                                                                                                    (0 : Int) ::
                                                                                                                                      (0 : Int) ::
                                                                                                                                        (0 : Int) ::
                                                                                                                                          (0 : Int) ::
                                                                                                                                            (0 : Int) ::
                                                                                                                                              List.replicate (0 : Nat) (0 : Int))
              (y2 ++ y1 :: List.replicate (0 : Nat) (0 : Int)) y1 (↑(List.length (y2 ++ y1 :: List.replicate (0 : Nat) (0 : Int))) : Int) (0 : Int)) := by kernel_rfl
theorem impl_Grains_majority.eq (a1 : List Int) (a2 : Int) (a3 : Int) (a4 : Int) (a5 : Int) (K : Int → Prop) : impl_Grains_majority.wp a1 a2 a3 a4 a5 K =
  (Go.K.grains.impl_Grains_about.wp a1 a2 a3 a4 a5 fun y1 =>
  (64 : Nat) = (64 : Nat) ∧
    Go.K.grains.impl_Grains_around.wp a1 a2 a3 a4 a5 fun y2 =>
      List.length (y2 ++ y1 :: List.replicate (0 : Nat) (0 : Int)) ≤ (1099511627776 : Nat) ∧
        ∀ (J3 : List Int → List Int → Int → Int → Int → Prop),
          (∀ (x4 x5 : List Int) (x6 x7 x8 : Int),
              Go.K.ifB (Decidable.decide (x8 < x7))
                  (((0 : Int) ≤ x8 ∧ x8 < (↑(List.length x5) : Int)) ∧
                    ((0 : Int) ≤ List.getD x5 (Int.toNat x8) (0 : Int) ∧
                        List.getD x5 (Int.toNat x8) (0 : Int) < (64 : Int) ∧ Int.toNat (List.getD x5 (Int.toNat x8) (0 : Int)) < List.length x4) ∧
                      ((0 : Int) ≤ List.getD x5 (Int.toNat x8) (0 : Int) ∧
                          List.getD x5 (Int.toNat x8) (0 : Int) < (64 : Int) ∧ Int.toNat (List.getD x5 (Int.toNat x8) (0 : Int)) < List.length x4) ∧
                        J3
                          (List.set x4 (Int.toNat (List.getD x5 (Int.toNat x8) (0 : Int)))
                            (Go.IntKind.wrap Go.IntKind.i64 (List.getD x4 (Int.toNat (List.getD x5 (Int.toNat x8) (0 : Int))) (0 : Int) + (1 : Int))))
                          x5 x6 x7 (Go.IntKind.wrap Go.IntKind.i64 (x8 + (1 : Int))))
                  (List.length x4 = (64 : Nat) ∧
                    ∀ (J9 : List Int → List Int → Int → Int → Prop),
                      (∀ (x10 x11 : List Int) (x12 x13 : Int),
                          Go.K.ifB (Decidable.decide (x13 < (64 : Int)))
                              (((0 : Int) ≤ x13 ∧ x13 < (64 : Int) ∧ Int.toNat x13 < List.length x11) ∧
                                ((0 : Int) ≤ x12 ∧ x12 < (64 : Int) ∧ Int.toNat x12 < List.length x10) ∧
                                  Go.K.ifB (Decidable.decide (List.getD x11 (Int.toNat x13) (0 : Int) > List.getD x10 (Int.toNat x12) (0 : Int)))
                                    (J9 x10 x11 x13 (Go.IntKind.wrap Go.IntKind.i64 (x13 + (1 : Int)))) (J9 x10 x11 x12 (Go.IntKind.wrap Go.IntKind.i64 (x13 + (1 : Int)))))
                              (K x12) →
                            J9 x10 x11 x12 x13) →
                        J9 x4 x4 x6 (0 : Int)) →
                J3 x4 x5 x6 x7 x8) →
            J3
              ((0 : Int) ::
                (0 : Int) ::
                  (0 : Int) ::
                    (0 : Int) ::
                      (0 : Int) ::
                        (0 : Int) ::
                          (0 : Int) ::
                            (0 : Int) ::
                              (0 : Int) ::
                                (0 : Int) ::
                                  (0 : Int) ::
                                    (0 : Int) ::
                                      (0 : Int) ::
                                        (0 : Int) ::
                                          (0 : Int) ::
                                            (0 : Int) ::
                                              (0 : Int) ::
                                                (0 : Int) ::
                                                  (0 : Int) ::
                                                    (0 : Int) ::
                                                      (0 : Int) ::
                                                        (0 : Int) ::
                                                          (0 : Int) ::
                                                            (0 : Int) ::
                                                              (0 : Int) ::
                                                                (0 : Int) ::
                                                                  (0 : Int) ::
                                                                    (0 : Int) ::
                                                                      (0 : Int) ::
                                                                        (0 : Int) ::
                                                                          (0 : Int) ::
                                                                            (0 : Int) ::
                                                                              (0 : Int) ::
                                                                                (0 : Int) ::
                                                                                  (0 : Int) ::
                                                                                    (0 : Int) ::
                                                                                      (0 : Int) ::
                                                                                        (0 : Int) ::
                                                                                          (0 : Int) ::
                                                                                            (0 : Int) ::
                                                                                              (0 : Int) ::
                                                                                                (0 : Int) ::
                                                                                                  (0 : Int) ::
                                                                                                    (0 : Int) ::
                                                                                                      (0 : Int) ::
                                                                                                        (0 : Int) ::
                                                                                                          (0 : Int) ::
                                                                                                            (0 : Int) ::
                                                                                                              (0 : Int) ::
                                                                                                                (0 : Int) ::
                                                                                                                  (0 : Int) ::
                                                                                                                    (0 : Int) ::
                                                                                                                      (0 : Int) ::
                                                                                                                        (0 : Int) ::
                                                                                                                          (0 : Int) ::
                                                                                                                            (0 : Int) ::
                                                                                                                              (0 : Int) ::
                                                                                                                                (0 : Int) ::
                                                                                                                                  (0 : Int) ::
                                                                                                                                    (0 : Int) ::
                                                                                                                                      (0 : Int) ::
                                                                                                                                        (0 : Int) ::
                                                                                                                                          (0 : Int) ::
                                                                                                                                            (0 : Int) ::
                                                                                                                                              List.replicate (0 : Nat) (0 : Int))
              (y2 ++ y1 :: List.replicate (0 : Nat) (0 : Int)) y1 (↑(List.length (y2 ++ y1 :: List.replicate (0 : Nat) (0 : Int))) : Int) (0 : Int)) := impl_Grains_majority.tx impl_Grains_about.wp impl_Grains_around.wp a1 a2 a3 a4 a5 K

theorem impl_grown__Grains_majority.tx (w_impl_Grains_majority : List Int → Int → Int → Int → Int → (Int → Prop) → Prop) (a1 : List
  Int) (a2 : Int) (a3 : Int) (a4 : Int) (a5 : Int) (K : List Int → Int → Int → Prop) : impl_grown__Grains_majority.bd w_impl_Grains_majority a1 a2 a3 a4 a5 K =
  (∀ (J1 : Int → Int → Int → Int → List Int → List Int → Int → Int → Prop),
  (∀ (x2 x3 x4 x5 : Int) (x6 x7 : List Int) (x8 x9 : Int),
      Go.K.ifB (Decidable.decide (x9 < x8))
          (∀ (J10 : Int → Int → Int → Int → List Int → List Int → Int → Int → Int → Int → Int → Prop),
            (∀ (x11 x12 x13 x14 : Int) (x15 x16 : List Int) (x17 x18 x19 x20 x21 : Int),
                Go.K.ifB (Decidable.decide (x21 < x20))
                    (w_impl_Grains_majority a1 a4 a5 x21 x17 fun y22 =>
                      List.length (x16 ++ y22 :: List.replicate (0 : Nat) (0 : Int)) ≤ (1099511627776 : Nat) ∧
                        J10 x11 x12 x13 x14 x15 (x16 ++ y22 :: List.replicate (0 : Nat) (0 : Int)) x17 x18 x19 x20 (Go.IntKind.wrap Go.IntKind.i64 (x21 + (1 : Int))))
                    (J1 x11 x12 x13 x14 x15 x16 x18 (Go.IntKind.wrap Go.IntKind.i64 (x19 + (1 : Int)))) →
                  J10 x11 x12 x13 x14 x15 x16 x17 x18 x19 x20 x21) →
              J10 x2 x3 x4 x5 x6 x7 x9 x8 x9 a2 (0 : Int))
          (K x7 x4 x5) →
        J1 x2 x3 x4 x5 x6 x7 x8 x9) →
    J1 (0 : Int) (0 : Int) a2 a3 [] (List.replicate (0 : Nat) (0 : Int)) a3 (0 : Int)) := by kernel_rfl
theorem impl_grown__Grains_majority.eq (a1 : List
  Int) (a2 : Int) (a3 : Int) (a4 : Int) (a5 : Int) (K : List Int → Int → Int → Prop) : impl_grown__Grains_majority.wp a1 a2 a3 a4 a5 K =
  (∀ (J1 : Int → Int → Int → Int → List Int → List Int → Int → Int → Prop),
  (∀ (x2 x3 x4 x5 : Int) (x6 x7 : List Int) (x8 x9 : Int),
      Go.K.ifB (Decidable.decide (x9 < x8))
          (∀ (J10 : Int → Int → Int → Int → List Int → List Int → Int → Int → Int → Int → Int → Prop),
            (∀ (x11 x12 x13 x14 : Int) (x15 x16 : List Int) (x17 x18 x19 x20 x21 : Int),
                Go.K.ifB (Decidable.decide (x21 < x20))
                    (Go.K.grains.impl_Grains_majority.wp a1 a4 a5 x21 x17 fun y22 =>
                      List.length (x16 ++ y22 :: List.replicate (0 : Nat) (0 : Int)) ≤ (1099511627776 : Nat) ∧
                        J10 x11 x12 x13 x14 x15 (x16 ++ y22 :: List.replicate (0 : Nat) (0 : Int)) x17 x18 x19 x20 (Go.IntKind.wrap Go.IntKind.i64 (x21 + (1 : Int))))
                    (J1 x11 x12 x13 x14 x15 x16 x18 (Go.IntKind.wrap Go.IntKind.i64 (x19 + (1 : Int)))) →
                  J10 x11 x12 x13 x14 x15 x16 x17 x18 x19 x20 x21) →
              J10 x2 x3 x4 x5 x6 x7 x9 x8 x9 a2 (0 : Int))
          (K x7 x4 x5) →
        J1 x2 x3 x4 x5 x6 x7 x8 x9) →
    J1 (0 : Int) (0 : Int) a2 a3 [] (List.replicate (0 : Nat) (0 : Int)) a3 (0 : Int)) := impl_grown__Grains_majority.tx impl_Grains_majority.wp a1 a2 a3 a4 a5 K

theorem slices_Equal_int64_int64.tx  (a1 : List Int) (a2 : List Int) (K : Bool → Prop) : slices_Equal_int64_int64.bd  a1 a2 K =
  (Go.K.ifB ((↑(List.length a1) : Int) != (↑(List.length a2) : Int)) (K Bool.false)
  (∀ (J1 : Int → Int → Prop),
    (∀ (x2 x3 : Int),
        Go.K.ifB (Decidable.decide (x3 < x2))
            (((0 : Int) ≤ x3 ∧ x3 < (↑(List.length a1) : Int)) ∧
              ((0 : Int) ≤ x3 ∧ x3 < (↑(List.length a2) : Int)) ∧
                Go.K.ifB (List.getD a1 (Int.toNat x3) (0 : Int) != List.getD a2 (Int.toNat x3) (0 : Int)) (K Bool.false) (J1 x2 (Go.IntKind.wrap Go.IntKind.i64 (x3 + (1 : Int)))))
            (K Bool.true) →
          J1 x2 x3) →
      J1 (↑(List.length a1) : Int) (0 : Int))) := by kernel_rfl
theorem slices_Equal_int64_int64.eq (a1 : List Int) (a2 : List Int) (K : Bool → Prop) : slices_Equal_int64_int64.wp a1 a2 K =
  (Go.K.ifB ((↑(List.length a1) : Int) != (↑(List.length a2) : Int)) (K Bool.false)
  (∀ (J1 : Int → Int → Prop),
    (∀ (x2 x3 : Int),
        Go.K.ifB (Decidable.decide (x3 < x2))
            (((0 : Int) ≤ x3 ∧ x3 < (↑(List.length a1) : Int)) ∧
              ((0 : Int) ≤ x3 ∧ x3 < (↑(List.length a2) : Int)) ∧
                Go.K.ifB (List.getD a1 (Int.toNat x3) (0 : Int) != List.getD a2 (Int.toNat x3) (0 : Int)) (K Bool.false) (J1 x2 (Go.IntKind.wrap Go.IntKind.i64 (x3 + (1 : Int)))))
            (K Bool.true) →
          J1 x2 x3) →
      J1 (↑(List.length a1) : Int) (0 : Int))) := slices_Equal_int64_int64.tx  a1 a2 K

theorem impl_SameGrains.tx (w_slices_Equal_int64_int64 : List Int → List Int → (Bool → Prop) → Prop) (a1 : List Int) (a2 : List Int) (a3 : Int) (a4 : Int) (a5 : Int) (a6 : Int) (K : Bool → Prop) : impl_SameGrains.bd w_slices_Equal_int64_int64 a1 a2 a3 a4 a5 a6 K =
  (Go.K.ifB (a3 == a5) (Go.K.ifB (a4 == a6) (w_slices_Equal_int64_int64 a1 a2 fun y1 => K y1) (K Bool.false)) (K Bool.false)) := by kernel_rfl
theorem impl_SameGrains.eq (a1 : List Int) (a2 : List Int) (a3 : Int) (a4 : Int) (a5 : Int) (a6 : Int) (K : Bool → Prop) : impl_SameGrains.wp a1 a2 a3 a4 a5 a6 K =
  (Go.K.ifB (a3 == a5) (Go.K.ifB (a4 == a6) (Go.K.grains.slices_Equal_int64_int64.wp a1 a2 fun y1 => K y1) (K Bool.false)) (K Bool.false)) := impl_SameGrains.tx slices_Equal_int64_int64.wp a1 a2 a3 a4 a5 a6 K

theorem impl_MajorityGrains.tx (w_impl_ValidGrains : List Int → Int → Int → (Bool → Prop) → Prop) (w_impl_within : Int → Int → Int → (Bool → Prop) → Prop) (w_slices_Clone_int64_int64 : List Int → (List Int → Prop) → Prop) (w_impl_grown__Grains_majority : List Int → Int → Int → Int → Int → (List Int → Int → Int → Prop) → Prop) (w_impl_SameGrains : List Int → List Int → Int → Int → Int → Int → (Bool → Prop) → Prop) (a1 : List Int) (a2 : Int) (a3 : Int) (a4 : Int) (K : List Int → Int → Int → Int → Bool → Prop) : impl_MajorityGrains.bd w_impl_ValidGrains w_impl_within w_slices_Clone_int64_int64 w_impl_grown__Grains_majority w_impl_SameGrains a1 a2 a3 a4 K =
  (w_impl_ValidGrains a1 a2 a3 fun y1 =>
  Go.K.ifB (!y1) (K [] (0 : Int) (0 : Int) (0 : Int) Bool.false)
    (w_impl_within a4 (0 : Int) (64 : Int) fun y2 =>
      Go.K.ifB (!y2) (K [] (0 : Int) (0 : Int) (0 : Int) Bool.false)
        (w_slices_Clone_int64_int64 a1 fun y3 =>
          ∀ (J4 : Int → Int → Int → Int → List Int → List Int → Int → Int → Int → Prop),
            (∀ (x5 x6 x7 x8 : Int) (x9 x10 : List Int) (x11 x12 x13 : Int),
                Go.K.ifB (Decidable.decide (x13 < x12))
                    (w_impl_grown__Grains_majority x9 x5 x6 x5 x6 fun y14 y15 y16 =>
                      w_impl_SameGrains y14 x9 y15 y16 x5 x6 fun y17 =>
                        Go.K.ifB y17 (K x9 x5 x6 x11 Bool.true)
                          (J4 y15 y16 x7 x8 y14 x10 (Go.IntKind.wrap Go.IntKind.i64 (x11 + (1 : Int))) x12 (Go.IntKind.wrap Go.IntKind.i64 (x13 + (1 : Int)))))
                    (K x9 x5 x6 x11 Bool.true) →
                  J4 x5 x6 x7 x8 x9 x10 x11 x12 x13) →
              J4 a2 a3 (0 : Int) (0 : Int) y3 [] (0 : Int) a4 (0 : Int)))) := by kernel_rfl
theorem impl_MajorityGrains.eq (a1 : List Int) (a2 : Int) (a3 : Int) (a4 : Int) (K : List Int → Int → Int → Int → Bool → Prop) : impl_MajorityGrains.wp a1 a2 a3 a4 K =
  (Go.K.grains.impl_ValidGrains.wp a1 a2 a3 fun y1 =>
  Go.K.ifB (!y1) (K [] (0 : Int) (0 : Int) (0 : Int) Bool.false)
    (Go.K.grains.impl_within.wp a4 (0 : Int) (64 : Int) fun y2 =>
      Go.K.ifB (!y2) (K [] (0 : Int) (0 : Int) (0 : Int) Bool.false)
        (Go.K.grains.slices_Clone_int64_int64.wp a1 fun y3 =>
          ∀ (J4 : Int → Int → Int → Int → List Int → List Int → Int → Int → Int → Prop),
            (∀ (x5 x6 x7 x8 : Int) (x9 x10 : List Int) (x11 x12 x13 : Int),
                Go.K.ifB (Decidable.decide (x13 < x12))
                    (Go.K.grains.impl_grown__Grains_majority.wp x9 x5 x6 x5 x6 fun y14 y15 y16 =>
                      Go.K.grains.impl_SameGrains.wp y14 x9 y15 y16 x5 x6 fun y17 =>
                        Go.K.ifB y17 (K x9 x5 x6 x11 Bool.true)
                          (J4 y15 y16 x7 x8 y14 x10 (Go.IntKind.wrap Go.IntKind.i64 (x11 + (1 : Int))) x12 (Go.IntKind.wrap Go.IntKind.i64 (x13 + (1 : Int)))))
                    (K x9 x5 x6 x11 Bool.true) →
                  J4 x5 x6 x7 x8 x9 x10 x11 x12 x13) →
              J4 a2 a3 (0 : Int) (0 : Int) y3 [] (0 : Int) a4 (0 : Int)))) := impl_MajorityGrains.tx impl_ValidGrains.wp impl_within.wp slices_Clone_int64_int64.wp impl_grown__Grains_majority.wp impl_SameGrains.wp a1 a2 a3 a4 K

theorem laws_eqInt64S.tx  (a1 : List Int) (a2 : List Int) (K : Bool → Prop) : laws_eqInt64S.bd  a1 a2 K =
  (Go.K.ifB ((↑(List.length a1) : Int) != (↑(List.length a2) : Int)) (K Bool.false)
  (∀ (J1 : Int → Prop),
    (∀ (x2 : Int),
        Go.K.ifB (Decidable.decide (x2 < (↑(List.length a1) : Int)))
            (((0 : Int) ≤ x2 ∧ x2 < (↑(List.length a1) : Int)) ∧
              ((0 : Int) ≤ x2 ∧ x2 < (↑(List.length a2) : Int)) ∧
                Go.K.ifB (List.getD a1 (Int.toNat x2) (0 : Int) != List.getD a2 (Int.toNat x2) (0 : Int)) (K Bool.false) (J1 (Go.IntKind.wrap Go.IntKind.i64 (x2 + (1 : Int)))))
            (K Bool.true) →
          J1 x2) →
      J1 (0 : Int))) := by kernel_rfl
theorem laws_eqInt64S.eq (a1 : List Int) (a2 : List Int) (K : Bool → Prop) : laws_eqInt64S.wp a1 a2 K =
  (Go.K.ifB ((↑(List.length a1) : Int) != (↑(List.length a2) : Int)) (K Bool.false)
  (∀ (J1 : Int → Prop),
    (∀ (x2 : Int),
        Go.K.ifB (Decidable.decide (x2 < (↑(List.length a1) : Int)))
            (((0 : Int) ≤ x2 ∧ x2 < (↑(List.length a1) : Int)) ∧
              ((0 : Int) ≤ x2 ∧ x2 < (↑(List.length a2) : Int)) ∧
                Go.K.ifB (List.getD a1 (Int.toNat x2) (0 : Int) != List.getD a2 (Int.toNat x2) (0 : Int)) (K Bool.false) (J1 (Go.IntKind.wrap Go.IntKind.i64 (x2 + (1 : Int)))))
            (K Bool.true) →
          J1 x2) →
      J1 (0 : Int))) := laws_eqInt64S.tx  a1 a2 K

theorem laws_eqGrains.tx (w_laws_eqInt64S : List Int → List Int → (Bool → Prop) → Prop) (a1 : List Int) (a2 : List Int) (a3 : Int) (a4 : Int) (a5 : Int) (a6 : Int) (K : Bool → Prop) : laws_eqGrains.bd w_laws_eqInt64S a1 a2 a3 a4 a5 a6 K =
  (Go.K.ifB (a3 != a5) (K Bool.false)
  (Go.K.ifB (a4 != a6) (K Bool.false) (w_laws_eqInt64S a1 a2 fun y1 => Go.K.ifB (!y1) (K Bool.false) (K Bool.true)))) := by kernel_rfl
theorem laws_eqGrains.eq (a1 : List Int) (a2 : List Int) (a3 : Int) (a4 : Int) (a5 : Int) (a6 : Int) (K : Bool → Prop) : laws_eqGrains.wp a1 a2 a3 a4 a5 a6 K =
  (Go.K.ifB (a3 != a5) (K Bool.false)
  (Go.K.ifB (a4 != a6) (K Bool.false) (Go.K.grains.laws_eqInt64S.wp a1 a2 fun y1 => Go.K.ifB (!y1) (K Bool.false) (K Bool.true)))) := laws_eqGrains.tx laws_eqInt64S.wp a1 a2 a3 a4 a5 a6 K

theorem laws_markInt64S.tx  (a1 : List Int) (a2 : Int) (K : List Int → Int → Prop) : laws_markInt64S.bd  a1 a2 K =
  (∀ (J1 : List Int → Int → Int → Prop),
  (∀ (x2 : List Int) (x3 x4 : Int),
      Go.K.ifB (Decidable.decide (x4 < (↑(List.length a1) : Int)))
          (((0 : Int) ≤ x4 ∧ x4 < (↑(List.length a1) : Int)) ∧
            J1 (List.set x2 (Int.toNat x4) x3) (Go.IntKind.wrap Go.IntKind.i64 (x3 + (1 : Int))) (Go.IntKind.wrap Go.IntKind.i64 (x4 + (1 : Int))))
          (K x2 x3) →
        J1 x2 x3 x4) →
    J1 a1 a2 (0 : Int)) := by kernel_rfl
theorem laws_markInt64S.eq (a1 : List Int) (a2 : Int) (K : List Int → Int → Prop) : laws_markInt64S.wp a1 a2 K =
  (∀ (J1 : List Int → Int → Int → Prop),
  (∀ (x2 : List Int) (x3 x4 : Int),
      Go.K.ifB (Decidable.decide (x4 < (↑(List.length a1) : Int)))
          (((0 : Int) ≤ x4 ∧ x4 < (↑(List.length a1) : Int)) ∧
            J1 (List.set x2 (Int.toNat x4) x3) (Go.IntKind.wrap Go.IntKind.i64 (x3 + (1 : Int))) (Go.IntKind.wrap Go.IntKind.i64 (x4 + (1 : Int))))
          (K x2 x3) →
        J1 x2 x3 x4) →
    J1 a1 a2 (0 : Int)) := laws_markInt64S.tx  a1 a2 K

theorem laws_markGrains.tx (w_laws_markInt64S : List Int → Int → (List Int → Int → Prop) → Prop) (a1 : List Int) (a2 : Int) (a3 : Int) (a4 : Int) (K : List Int → Int → Prop) : laws_markGrains.bd w_laws_markInt64S a1 a2 a3 a4 K =
  (w_laws_markInt64S a1 a4 fun y1 y2 => K y1 y2) := by kernel_rfl
theorem laws_markGrains.eq (a1 : List Int) (a2 : Int) (a3 : Int) (a4 : Int) (K : List Int → Int → Prop) : laws_markGrains.wp a1 a2 a3 a4 K =
  (Go.K.grains.laws_markInt64S.wp a1 a4 fun y1 y2 => K y1 y2) := laws_markGrains.tx laws_markInt64S.wp a1 a2 a3 a4 K

theorem laws_heldInt64S.tx  (a1 : List Int) (a2 : Int) (K : Int → Prop) : laws_heldInt64S.bd  a1 a2 K =
  (∀ (J1 : Int → Int → Prop),
  (∀ (x2 x3 : Int),
      Go.K.ifB (Decidable.decide (x3 < (↑(List.length a1) : Int)))
          (((0 : Int) ≤ x3 ∧ x3 < (↑(List.length a1) : Int)) ∧
            Go.K.ifB (List.getD a1 (Int.toNat x3) (0 : Int) != x2) (K (-1 : Int))
              (J1 (Go.IntKind.wrap Go.IntKind.i64 (x2 + (1 : Int))) (Go.IntKind.wrap Go.IntKind.i64 (x3 + (1 : Int)))))
          (K x2) →
        J1 x2 x3) →
    J1 a2 (0 : Int)) := by kernel_rfl
theorem laws_heldInt64S.eq (a1 : List Int) (a2 : Int) (K : Int → Prop) : laws_heldInt64S.wp a1 a2 K =
  (∀ (J1 : Int → Int → Prop),
  (∀ (x2 x3 : Int),
      Go.K.ifB (Decidable.decide (x3 < (↑(List.length a1) : Int)))
          (((0 : Int) ≤ x3 ∧ x3 < (↑(List.length a1) : Int)) ∧
            Go.K.ifB (List.getD a1 (Int.toNat x3) (0 : Int) != x2) (K (-1 : Int))
              (J1 (Go.IntKind.wrap Go.IntKind.i64 (x2 + (1 : Int))) (Go.IntKind.wrap Go.IntKind.i64 (x3 + (1 : Int)))))
          (K x2) →
        J1 x2 x3) →
    J1 a2 (0 : Int)) := laws_heldInt64S.tx  a1 a2 K

theorem laws_heldGrains.tx (w_laws_heldInt64S : List Int → Int → (Int → Prop) → Prop) (a1 : List Int) (a2 : Int) (a3 : Int) (a4 : Int) (K : Int → Prop) : laws_heldGrains.bd w_laws_heldInt64S a1 a2 a3 a4 K =
  (w_laws_heldInt64S a1 a4 fun y1 => Go.K.ifB (Decidable.decide (y1 < (0 : Int))) (K (-1 : Int)) (K y1)) := by kernel_rfl
theorem laws_heldGrains.eq (a1 : List Int) (a2 : Int) (a3 : Int) (a4 : Int) (K : Int → Prop) : laws_heldGrains.wp a1 a2 a3 a4 K =
  (Go.K.grains.laws_heldInt64S.wp a1 a4 fun y1 => Go.K.ifB (Decidable.decide (y1 < (0 : Int))) (K (-1 : Int)) (K y1)) := laws_heldGrains.tx laws_heldInt64S.wp a1 a2 a3 a4 K

theorem laws_FnExactMajorityGrains.tx (w_laws_szGrains : List Int → Int → Int → Int → (Int → Prop) → Prop) (w_laws_toGrains : List Int → Int → Int → (List Int → Int → Int → Prop) → Prop) (w_spec_MajorityGrains : List Int → Int → Int → Int → (List Int → Int → Int → Int → Bool → Prop) → Prop) (w_impl_MajorityGrains : List Int → Int → Int → Int → (List Int → Int → Int → Int → Bool → Prop) → Prop) (w_laws_eqGrains : List Int → List Int → Int → Int → Int → Int → (Bool → Prop) → Prop) (w_laws_markGrains : List Int → Int → Int → Int → (List Int → Int → Prop) → Prop) (w_laws_heldGrains : List Int → Int → Int → Int → (Int → Prop) → Prop) (a1 : List Int) (a2 : Int) (a3 : Int) (a4 : Int) (K : Bool → Prop) : laws_FnExactMajorityGrains.bd w_laws_szGrains w_laws_toGrains w_spec_MajorityGrains w_impl_MajorityGrains w_laws_eqGrains w_laws_markGrains w_laws_heldGrains a1 a2 a3 a4 K =
  (w_laws_szGrains a1 a2 a3 (1048576 : Int) fun y1 =>
  Go.K.ifB (Decidable.decide (y1 < (0 : Int))) (K Bool.true)
    (w_laws_toGrains a1 a2 a3 fun y2 y3 y4 =>
      w_spec_MajorityGrains y2 y3 y4 a4 fun y5 y6 y7 y8 y9 =>
        w_laws_toGrains a1 a2 a3 fun y10 y11 y12 =>
          w_impl_MajorityGrains y10 y11 y12 a4 fun y13 y14 y15 y16 y17 =>
            w_laws_eqGrains y13 y5 y14 y15 y6 y7 fun y18 =>
              Go.K.ifB (!y18) (K Bool.false)
                (Go.K.ifB (y16 != y8) (K Bool.false)
                  (Go.K.ifB (y17 != y9) (K Bool.false)
                    (w_laws_toGrains a1 a2 a3 fun y19 y20 y21 =>
                      w_laws_eqGrains y10 y19 y11 y12 y20 y21 fun y22 =>
                        Go.K.ifB (!y22) (K Bool.false)
                          (w_laws_markGrains y10 y11 y12 (1 : Int) fun y23 y24 =>
                            Go.K.ifB (Decidable.decide (y24 < (0 : Int))) (K Bool.false)
                              (w_laws_eqGrains y13 y5 y14 y15 y6 y7 fun y25 =>
                                Go.K.ifB (!y25) (K Bool.false)
                                  (Go.K.ifB (y16 != y8) (K Bool.false)
                                    (Go.K.ifB (y17 != y9) (K Bool.false)
                                      (w_laws_markGrains y13 y14 y15 (1 : Int) fun y26 y27 =>
                                        w_laws_heldGrains y26 y14 y15 (1 : Int) fun y28 =>
                                          Go.K.ifB (Decidable.decide (y28 < (0 : Int))) (K Bool.false)
                                            (Go.K.ifB (y28 != y27) (K Bool.false)
                                              (w_laws_toGrains a1 a2 a3 fun y29 y30 y31 =>
                                                w_impl_MajorityGrains y29 y30 y31 a4 fun y32 y33 y34 y35 y36 =>
                                                  w_laws_eqGrains y32 y5 y33 y34 y6 y7 fun y37 =>
                                                    Go.K.ifB (!y37) (K Bool.false)
                                                      (Go.K.ifB (y35 != y8) (K Bool.false)
                                                        (Go.K.ifB (y36 != y9) (K Bool.false)
                                                          (w_laws_heldGrains y26 y14 y15 (1 : Int) fun y38 =>
                                                            Go.K.ifB (Decidable.decide (y38 < (0 : Int))) (K Bool.false)
                                                              (Go.K.ifB (y38 != y27) (K Bool.false) (K Bool.true))))))))))))))))) := by kernel_rfl
theorem laws_FnExactMajorityGrains.eq (a1 : List Int) (a2 : Int) (a3 : Int) (a4 : Int) (K : Bool → Prop) : laws_FnExactMajorityGrains.wp a1 a2 a3 a4 K =
  (Go.K.grains.laws_szGrains.wp a1 a2 a3 (1048576 : Int) fun y1 =>
  Go.K.ifB (Decidable.decide (y1 < (0 : Int))) (K Bool.true)
    (Go.K.grains.laws_toGrains.wp a1 a2 a3 fun y2 y3 y4 =>
      Go.K.grains.spec_MajorityGrains.wp y2 y3 y4 a4 fun y5 y6 y7 y8 y9 =>
        Go.K.grains.laws_toGrains.wp a1 a2 a3 fun y10 y11 y12 =>
          Go.K.grains.impl_MajorityGrains.wp y10 y11 y12 a4 fun y13 y14 y15 y16 y17 =>
            Go.K.grains.laws_eqGrains.wp y13 y5 y14 y15 y6 y7 fun y18 =>
              Go.K.ifB (!y18) (K Bool.false)
                (Go.K.ifB (y16 != y8) (K Bool.false)
                  (Go.K.ifB (y17 != y9) (K Bool.false)
                    (Go.K.grains.laws_toGrains.wp a1 a2 a3 fun y19 y20 y21 =>
                      Go.K.grains.laws_eqGrains.wp y10 y19 y11 y12 y20 y21 fun y22 =>
                        Go.K.ifB (!y22) (K Bool.false)
                          (Go.K.grains.laws_markGrains.wp y10 y11 y12 (1 : Int) fun y23 y24 =>
                            Go.K.ifB (Decidable.decide (y24 < (0 : Int))) (K Bool.false)
                              (Go.K.grains.laws_eqGrains.wp y13 y5 y14 y15 y6 y7 fun y25 =>
                                Go.K.ifB (!y25) (K Bool.false)
                                  (Go.K.ifB (y16 != y8) (K Bool.false)
                                    (Go.K.ifB (y17 != y9) (K Bool.false)
                                      (Go.K.grains.laws_markGrains.wp y13 y14 y15 (1 : Int) fun y26 y27 =>
                                        Go.K.grains.laws_heldGrains.wp y26 y14 y15 (1 : Int) fun y28 =>
                                          Go.K.ifB (Decidable.decide (y28 < (0 : Int))) (K Bool.false)
                                            (Go.K.ifB (y28 != y27) (K Bool.false)
                                              (Go.K.grains.laws_toGrains.wp a1 a2 a3 fun y29 y30 y31 =>
                                                Go.K.grains.impl_MajorityGrains.wp y29 y30 y31 a4 fun y32 y33 y34 y35 y36 =>
                                                  Go.K.grains.laws_eqGrains.wp y32 y5 y33 y34 y6 y7 fun y37 =>
                                                    Go.K.ifB (!y37) (K Bool.false)
                                                      (Go.K.ifB (y35 != y8) (K Bool.false)
                                                        (Go.K.ifB (y36 != y9) (K Bool.false)
                                                          (Go.K.grains.laws_heldGrains.wp y26 y14 y15 (1 : Int) fun y38 =>
                                                            Go.K.ifB (Decidable.decide (y38 < (0 : Int))) (K Bool.false)
                                                              (Go.K.ifB (y38 != y27) (K Bool.false) (K Bool.true))))))))))))))))) := laws_FnExactMajorityGrains.tx laws_szGrains.wp laws_toGrains.wp spec_MajorityGrains.wp impl_MajorityGrains.wp laws_eqGrains.wp laws_markGrains.wp laws_heldGrains.wp a1 a2 a3 a4 K

end Go.K.grains
