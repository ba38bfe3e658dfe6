/- What the functions compute, written out. -/
import Derived.Test.YtcmbpondkipbkaaD
import Derived.KernelRfl
set_option maxRecDepth 100000
set_option linter.unusedVariables false
namespace Go.K.heights
open Go.K Go

theorem laws_szInt64S.tx  (a1 : List Int) (a2 : Int) (K : Int → Prop) : laws_szInt64S.bd  a1 a2 K =
  (Go.K.ifB (Decidable.decide (Go.IntKind.wrap Go.IntKind.i64 (a2 - (↑(List.length a1) : Int)) < (0 : Int))) (K (-1 : Int))
  (K (Go.IntKind.wrap Go.IntKind.i64 (a2 - (↑(List.length a1) : Int))))) := by kernel_rfl
theorem laws_szInt64S.eq (a1 : List Int) (a2 : Int) (K : Int → Prop) : laws_szInt64S.wp a1 a2 K =
  (Go.K.ifB (Decidable.decide (Go.IntKind.wrap Go.IntKind.i64 (a2 - (↑(List.length a1) : Int)) < (0 : Int))) (K (-1 : Int))
  (K (Go.IntKind.wrap Go.IntKind.i64 (a2 - (↑(List.length a1) : Int))))) := laws_szInt64S.tx  a1 a2 K

theorem laws_szHeights.tx (w_laws_szInt64S : List Int → Int → (Int → Prop) → Prop) (a1 : List Int) (a2 : Int) (a3 : Int) (a4 : Int) (K : Int → Prop) : laws_szHeights.bd w_laws_szInt64S a1 a2 a3 a4 K =
  (w_laws_szInt64S a1 a4 fun y1 => Go.K.ifB (Decidable.decide (y1 < (0 : Int))) (K (-1 : Int)) (K y1)) := by kernel_rfl
theorem laws_szHeights.eq (a1 : List Int) (a2 : Int) (a3 : Int) (a4 : Int) (K : Int → Prop) : laws_szHeights.wp a1 a2 a3 a4 K =
  (Go.K.heights.laws_szInt64S.wp a1 a4 fun y1 => Go.K.ifB (Decidable.decide (y1 < (0 : Int))) (K (-1 : Int)) (K y1)) := laws_szHeights.tx laws_szInt64S.wp a1 a2 a3 a4 K

theorem laws_toInt64S.tx  (a1 : List Int) (K : List Int → Prop) : laws_toInt64S.bd  a1 K =
  (((0 : Int) ≤ (↑(List.length a1) : Int) ∧ (↑(List.length a1) : Int) ≤ (↑(List.length a1) : Int) ∧ (↑(List.length a1) : Int) ≤ (1099511627776 : Int)) ∧
  ∀ (J1 : List Int → Int → Prop),
    (∀ (x2 : List Int) (x3 : Int),
        Go.K.ifB (Decidable.decide (x3 < (↑(List.length a1) : Int)))
            (((0 : Int) ≤ x3 ∧ x3 < (↑(List.length a1) : Int)) ∧
              ((0 : Int) ≤ x3 ∧ x3 < (↑(List.length x2) : Int)) ∧
                J1 (List.set x2 (Int.toNat x3) (List.getD a1 (Int.toNat x3) (0 : Int))) (Go.IntKind.wrap Go.IntKind.i64 (x3 + (1 : Int))))
            (K x2) →
          J1 x2 x3) →
      J1 (List.replicate (Int.toNat (↑(List.length a1) : Int)) (0 : Int)) (0 : Int)) := by kernel_rfl
theorem laws_toInt64S.eq (a1 : List Int) (K : List Int → Prop) : laws_toInt64S.wp a1 K =
  (((0 : Int) ≤ (↑(List.length a1) : Int) ∧ (↑(List.length a1) : Int) ≤ (↑(List.length a1) : Int) ∧ (↑(List.length a1) : Int) ≤ (1099511627776 : Int)) ∧
  ∀ (J1 : List Int → Int → Prop),
    (∀ (x2 : List Int) (x3 : Int),
        Go.K.ifB (Decidable.decide (x3 < (↑(List.length a1) : Int)))
            (((0 : Int) ≤ x3 ∧ x3 < (↑(List.length a1) : Int)) ∧
              ((0 : Int) ≤ x3 ∧ x3 < (↑(List.length x2) : Int)) ∧
                J1 (List.set x2 (Int.toNat x3) (List.getD a1 (Int.toNat x3) (0 : Int))) (Go.IntKind.wrap Go.IntKind.i64 (x3 + (1 : Int))))
            (K x2) →
          J1 x2 x3) →
      J1 (List.replicate (Int.toNat (↑(List.length a1) : Int)) (0 : Int)) (0 : Int)) := laws_toInt64S.tx  a1 K

theorem laws_toHeights.tx (w_laws_toInt64S : List Int → (List Int → Prop) → Prop) (a1 : List Int) (a2 : Int) (a3 : Int) (K : List Int → Int → Int → Prop) : laws_toHeights.bd w_laws_toInt64S a1 a2 a3 K =
  (w_laws_toInt64S a1 fun y1 => K y1 a2 a3) := by kernel_rfl
theorem laws_toHeights.eq (a1 : List Int) (a2 : Int) (a3 : Int) (K : List Int → Int → Int → Prop) : laws_toHeights.wp a1 a2 a3 K =
  (Go.K.heights.laws_toInt64S.wp a1 fun y1 => K y1 a2 a3) := laws_toHeights.tx laws_toInt64S.wp a1 a2 a3 K

theorem spec_l00In.tx  (a1 : Int) (a2 : Int) (a3 : Int) (K : Bool → Prop) : spec_l00In.bd  a1 a2 a3 K =
  (Go.K.ifB (Decidable.decide (a1 ≥ a2)) (K (Decidable.decide (a1 ≤ a3))) (K Bool.false)) := by kernel_rfl
theorem spec_l00In.eq (a1 : Int) (a2 : Int) (a3 : Int) (K : Bool → Prop) : spec_l00In.wp a1 a2 a3 K =
  (Go.K.ifB (Decidable.decide (a1 ≥ a2)) (K (Decidable.decide (a1 ≤ a3))) (K Bool.false)) := spec_l00In.tx  a1 a2 a3 K

theorem spec_l05Size.tx (w_spec_l00In : Int → Int → Int → (Bool → Prop) → Prop) (a1 : Int) (a2 : Int) (K : Bool → Prop) : spec_l05Size.bd w_spec_l00In a1 a2 K =
  (w_spec_l00In a1 (2 : Int) (16 : Int) fun y1 => Go.K.ifB y1 (w_spec_l00In a2 (2 : Int) (16 : Int) fun y2 => K y2) (K Bool.false)) := by kernel_rfl
theorem spec_l05Size.eq (a1 : Int) (a2 : Int) (K : Bool → Prop) : spec_l05Size.wp a1 a2 K =
  (Go.K.heights.spec_l00In.wp a1 (2 : Int) (16 : Int) fun y1 => Go.K.ifB y1 (Go.K.heights.spec_l00In.wp a2 (2 : Int) (16 : Int) fun y2 => K y2) (K Bool.false)) := spec_l05Size.tx spec_l00In.wp a1 a2 K

theorem spec_l05Is.tx (w_spec_l00In : Int → Int → Int → (Bool → Prop) → Prop) (w_spec_l05Size : Int → Int → (Bool → Prop) → Prop) (a1 : Int) (a2 : Int) (a3 : List Int) (K : Bool → Prop) : spec_l05Is.bd w_spec_l00In w_spec_l05Size a1 a2 a3 K =
  (∀ (J1 : Int → Int → Prop),
  (∀ (x2 x3 : Int),
      Go.K.ifB (Decidable.decide (x3 < x2))
          (((0 : Int) ≤ x3 ∧ x3 < (↑(List.length a3) : Int)) ∧
            w_spec_l00In (List.getD a3 (Int.toNat x3) (0 : Int)) (0 : Int) (1000 : Int) fun y4 =>
              Go.K.ifB (!y4) (K Bool.false) (J1 x2 (Go.IntKind.wrap Go.IntKind.i64 (x3 + (1 : Int)))))
          (w_spec_l05Size a1 a2 fun y5 => Go.K.ifB y5 (K ((↑(List.length a3) : Int) == Go.IntKind.wrap Go.IntKind.i64 (a1 * a2))) (K Bool.false)) →
        J1 x2 x3) →
    J1 (↑(List.length a3) : Int) (0 : Int)) := by kernel_rfl
theorem spec_l05Is.eq (a1 : Int) (a2 : Int) (a3 : List Int) (K : Bool → Prop) : spec_l05Is.wp a1 a2 a3 K =
  (∀ (J1 : Int → Int → Prop),
  (∀ (x2 x3 : Int),
      Go.K.ifB (Decidable.decide (x3 < x2))
          (((0 : Int) ≤ x3 ∧ x3 < (↑(List.length a3) : Int)) ∧
            Go.K.heights.spec_l00In.wp (List.getD a3 (Int.toNat x3) (0 : Int)) (0 : Int) (1000 : Int) fun y4 =>
              Go.K.ifB (!y4) (K Bool.false) (J1 x2 (Go.IntKind.wrap Go.IntKind.i64 (x3 + (1 : Int)))))
          (Go.K.heights.spec_l05Size.wp a1 a2 fun y5 => Go.K.ifB y5 (K ((↑(List.length a3) : Int) == Go.IntKind.wrap Go.IntKind.i64 (a1 * a2))) (K Bool.false)) →
        J1 x2 x3) →
    J1 (↑(List.length a3) : Int) (0 : Int)) := spec_l05Is.tx spec_l00In.wp spec_l05Size.wp a1 a2 a3 K

theorem spec_l05Cell.tx (w_spec_l05Is : Int → Int → List Int → (Bool → Prop) → Prop) (w_spec_l00In : Int → Int → Int → (Bool → Prop) → Prop) (a1 : Int) (a2 : Int) (a3 : List Int) (a4 : Int) (a5 : Int) (K : Bool → Prop) : spec_l05Cell.bd w_spec_l05Is w_spec_l00In a1 a2 a3 a4 a5 K =
  (w_spec_l05Is a1 a2 a3 fun y1 =>
  Go.K.ifB y1
    (w_spec_l00In a4 (0 : Int) (Go.IntKind.wrap Go.IntKind.i64 (a1 - (1 : Int))) fun y2 =>
      Go.K.ifB y2 (w_spec_l00In a5 (0 : Int) (Go.IntKind.wrap Go.IntKind.i64 (a2 - (1 : Int))) fun y3 => K y3) (K Bool.false))
    (K Bool.false)) := by kernel_rfl
theorem spec_l05Cell.eq (a1 : Int) (a2 : Int) (a3 : List Int) (a4 : Int) (a5 : Int) (K : Bool → Prop) : spec_l05Cell.wp a1 a2 a3 a4 a5 K =
  (Go.K.heights.spec_l05Is.wp a1 a2 a3 fun y1 =>
  Go.K.ifB y1
    (Go.K.heights.spec_l00In.wp a4 (0 : Int) (Go.IntKind.wrap Go.IntKind.i64 (a1 - (1 : Int))) fun y2 =>
      Go.K.ifB y2 (Go.K.heights.spec_l00In.wp a5 (0 : Int) (Go.IntKind.wrap Go.IntKind.i64 (a2 - (1 : Int))) fun y3 => K y3) (K Bool.false))
    (K Bool.false)) := spec_l05Cell.tx spec_l05Is.wp spec_l00In.wp a1 a2 a3 a4 a5 K

theorem spec_l05Index.tx  (a1 : Int) (a2 : Int) (a3 : List Int) (a4 : Int) (a5 : Int) (K : Int → Prop) : spec_l05Index.bd  a1 a2 a3 a4 a5 K =
  (a1 ≠ (0 : Int) ∧
  a1 ≠ (0 : Int) ∧
    a2 ≠ (0 : Int) ∧
      a2 ≠ (0 : Int) ∧
        K
          (Go.IntKind.wrap Go.IntKind.i64
            (Int.tmod (Go.IntKind.wrap Go.IntKind.i64 (Int.tmod a4 a1 + a1)) a1 +
              Go.IntKind.wrap Go.IntKind.i64 (a1 * Int.tmod (Go.IntKind.wrap Go.IntKind.i64 (Int.tmod a5 a2 + a2)) a2)))) := by kernel_rfl
theorem spec_l05Index.eq (a1 : Int) (a2 : Int) (a3 : List Int) (a4 : Int) (a5 : Int) (K : Int → Prop) : spec_l05Index.wp a1 a2 a3 a4 a5 K =
  (a1 ≠ (0 : Int) ∧
  a1 ≠ (0 : Int) ∧
    a2 ≠ (0 : Int) ∧
      a2 ≠ (0 : Int) ∧
        K
          (Go.IntKind.wrap Go.IntKind.i64
            (Int.tmod (Go.IntKind.wrap Go.IntKind.i64 (Int.tmod a4 a1 + a1)) a1 +
              Go.IntKind.wrap Go.IntKind.i64 (a1 * Int.tmod (Go.IntKind.wrap Go.IntKind.i64 (Int.tmod a5 a2 + a2)) a2)))) := spec_l05Index.tx  a1 a2 a3 a4 a5 K

theorem spec_l05Near.tx (w_spec_l05Index : Int → Int → List Int → Int → Int → (Int → Prop) → Prop) (a1 : Int) (a2 : Int) (a3 : List Int) (a4 : Int) (K : List Int → Prop) : spec_l05Near.bd w_spec_l05Index a1 a2 a3 a4 K =
  (a1 ≠ (0 : Int) ∧
  a1 ≠ (0 : Int) ∧
    w_spec_l05Index a1 a2 a3 (Go.IntKind.wrap Go.IntKind.i64 (Int.tmod a4 a1 - (1 : Int))) (Go.IntKind.wrap Go.IntKind.i64 (Int.tdiv a4 a1)) fun y1 =>
      w_spec_l05Index a1 a2 a3 (Go.IntKind.wrap Go.IntKind.i64 (Int.tmod a4 a1 + (1 : Int))) (Go.IntKind.wrap Go.IntKind.i64 (Int.tdiv a4 a1)) fun y2 =>
        w_spec_l05Index a1 a2 a3 (Int.tmod a4 a1) (Go.IntKind.wrap Go.IntKind.i64 (Go.IntKind.wrap Go.IntKind.i64 (Int.tdiv a4 a1) - (1 : Int))) fun y3 =>
          w_spec_l05Index a1 a2 a3 (Int.tmod a4 a1) (Go.IntKind.wrap Go.IntKind.i64 (Go.IntKind.wrap Go.IntKind.i64 (Int.tdiv a4 a1) + (1 : Int))) fun y4 =>
            K (y1 :: y2 :: y3 :: y4 :: List.replicate (0 : Nat) (0 : Int))) := by kernel_rfl
theorem spec_l05Near.eq (a1 : Int) (a2 : Int) (a3 : List Int) (a4 : Int) (K : List Int → Prop) : spec_l05Near.wp a1 a2 a3 a4 K =
  (a1 ≠ (0 : Int) ∧
  a1 ≠ (0 : Int) ∧
    Go.K.heights.spec_l05Index.wp a1 a2 a3 (Go.IntKind.wrap Go.IntKind.i64 (Int.tmod a4 a1 - (1 : Int))) (Go.IntKind.wrap Go.IntKind.i64 (Int.tdiv a4 a1)) fun y1 =>
      Go.K.heights.spec_l05Index.wp a1 a2 a3 (Go.IntKind.wrap Go.IntKind.i64 (Int.tmod a4 a1 + (1 : Int))) (Go.IntKind.wrap Go.IntKind.i64 (Int.tdiv a4 a1)) fun y2 =>
        Go.K.heights.spec_l05Index.wp a1 a2 a3 (Int.tmod a4 a1) (Go.IntKind.wrap Go.IntKind.i64 (Go.IntKind.wrap Go.IntKind.i64 (Int.tdiv a4 a1) - (1 : Int))) fun y3 =>
          Go.K.heights.spec_l05Index.wp a1 a2 a3 (Int.tmod a4 a1) (Go.IntKind.wrap Go.IntKind.i64 (Go.IntKind.wrap Go.IntKind.i64 (Int.tdiv a4 a1) + (1 : Int))) fun y4 =>
            K (y1 :: y2 :: y3 :: y4 :: List.replicate (0 : Nat) (0 : Int))) := spec_l05Near.tx spec_l05Index.wp a1 a2 a3 a4 K

theorem spec_BondsAt.tx (w_spec_l05Cell : Int → Int → List Int → Int → Int → (Bool → Prop) → Prop) (w_spec_l05Near : Int → Int → List Int → Int → (List Int → Prop) → Prop) (a1 : List Int) (a2 : Int) (a3 : Int) (a4 : Int) (a5 : Int) (K : Int → Bool → Prop) : spec_BondsAt.bd w_spec_l05Cell w_spec_l05Near a1 a2 a3 a4 a5 K =
  (w_spec_l05Cell a2 a3 a1 a4 a5 fun y1 =>
  Go.K.ifB (!y1) (K (0 : Int) Bool.false)
    (w_spec_l05Near a2 a3 a1 (Go.IntKind.wrap Go.IntKind.i64 (a4 + Go.IntKind.wrap Go.IntKind.i64 (a2 * a5))) fun y2 =>
      ∀ (J3 : Int → Int → List Int → Int → Int → Int → Int → Prop),
        (∀ (x4 x5 : Int) (x6 : List Int) (x7 x8 x9 x10 : Int),
            Go.K.ifB (Decidable.decide (x10 < x9))
                (((0 : Int) ≤ x10 ∧ x10 < (↑(List.length x6) : Int)) ∧
                  ((0 : Int) ≤ List.getD x6 (Int.toNat x10) (0 : Int) ∧ List.getD x6 (Int.toNat x10) (0 : Int) < (↑(List.length a1) : Int)) ∧
                    ((0 : Int) ≤ x7 ∧ x7 < (↑(List.length a1) : Int)) ∧
                      Go.K.ifB (Decidable.decide (List.getD a1 (Int.toNat (List.getD x6 (Int.toNat x10) (0 : Int))) (0 : Int) ≥ List.getD a1 (Int.toNat x7) (0 : Int)))
                        (J3 x4 x5 x6 x7 (Go.IntKind.wrap Go.IntKind.i64 (x8 + (1 : Int))) x9 (Go.IntKind.wrap Go.IntKind.i64 (x10 + (1 : Int))))
                        (J3 x4 x5 x6 x7 x8 x9 (Go.IntKind.wrap Go.IntKind.i64 (x10 + (1 : Int)))))
                (K x8 Bool.true) →
              J3 x4 x5 x6 x7 x8 x9 x10) →
          J3 a2 a3 y2 (Go.IntKind.wrap Go.IntKind.i64 (a4 + Go.IntKind.wrap Go.IntKind.i64 (a2 * a5))) (0 : Int) (↑(List.length y2) : Int) (0 : Int))) := by kernel_rfl
theorem spec_BondsAt.eq (a1 : List Int) (a2 : Int) (a3 : Int) (a4 : Int) (a5 : Int) (K : Int → Bool → Prop) : spec_BondsAt.wp a1 a2 a3 a4 a5 K =
  (Go.K.heights.spec_l05Cell.wp a2 a3 a1 a4 a5 fun y1 =>
  Go.K.ifB (!y1) (K (0 : Int) Bool.false)
    (Go.K.heights.spec_l05Near.wp a2 a3 a1 (Go.IntKind.wrap Go.IntKind.i64 (a4 + Go.IntKind.wrap Go.IntKind.i64 (a2 * a5))) fun y2 =>
      ∀ (J3 : Int → Int → List Int → Int → Int → Int → Int → Prop),
        (∀ (x4 x5 : Int) (x6 : List Int) (x7 x8 x9 x10 : Int),
            Go.K.ifB (Decidable.decide (x10 < x9))
                (((0 : Int) ≤ x10 ∧ x10 < (↑(List.length x6) : Int)) ∧
                  ((0 : Int) ≤ List.getD x6 (Int.toNat x10) (0 : Int) ∧ List.getD x6 (Int.toNat x10) (0 : Int) < (↑(List.length a1) : Int)) ∧
                    ((0 : Int) ≤ x7 ∧ x7 < (↑(List.length a1) : Int)) ∧
                      Go.K.ifB (Decidable.decide (List.getD a1 (Int.toNat (List.getD x6 (Int.toNat x10) (0 : Int))) (0 : Int) ≥ List.getD a1 (Int.toNat x7) (0 : Int)))
                        (J3 x4 x5 x6 x7 (Go.IntKind.wrap Go.IntKind.i64 (x8 + (1 : Int))) x9 (Go.IntKind.wrap Go.IntKind.i64 (x10 + (1 : Int))))
                        (J3 x4 x5 x6 x7 x8 x9 (Go.IntKind.wrap Go.IntKind.i64 (x10 + (1 : Int)))))
                (K x8 Bool.true) →
              J3 x4 x5 x6 x7 x8 x9 x10) →
          J3 a2 a3 y2 (Go.IntKind.wrap Go.IntKind.i64 (a4 + Go.IntKind.wrap Go.IntKind.i64 (a2 * a5))) (0 : Int) (↑(List.length y2) : Int) (0 : Int))) := spec_BondsAt.tx spec_l05Cell.wp spec_l05Near.wp a1 a2 a3 a4 a5 K

theorem impl_within.tx  (a1 : Int) (a2 : Int) (a3 : Int) (K : Bool → Prop) : impl_within.bd  a1 a2 a3 K =
  (Go.K.ifB (Decidable.decide (a2 ≤ a1)) (K (Decidable.decide (a1 ≤ a3))) (K Bool.false)) := by kernel_rfl
theorem impl_within.eq (a1 : Int) (a2 : Int) (a3 : Int) (K : Bool → Prop) : impl_within.wp a1 a2 a3 K =
  (Go.K.ifB (Decidable.decide (a2 ≤ a1)) (K (Decidable.decide (a1 ≤ a3))) (K Bool.false)) := impl_within.tx  a1 a2 a3 K

theorem impl_areWithin_1.tx (w_impl_within : Int → Int → Int → (Bool → Prop) → Prop) (a1 : Int) (a2 : Int) (a3 : Int) (K : Bool → Prop) : impl_areWithin_1.bd w_impl_within a1 a2 a3 K =
  (w_impl_within a3 a1 a2 fun y1 => K !y1) := by kernel_rfl
theorem impl_areWithin_1.eq (a1 : Int) (a2 : Int) (a3 : Int) (K : Bool → Prop) : impl_areWithin_1.wp a1 a2 a3 K =
  (Go.K.heights.impl_within.wp a3 a1 a2 fun y1 => K !y1) := impl_areWithin_1.tx impl_within.wp a1 a2 a3 K

theorem slices_IndexFunc_int64_int64__areWithin_1.tx (w_impl_areWithin_1 : Int → Int → Int → (Bool → Prop) → Prop) (a1 : List Int) (a2 : Int) (a3 : Int) (K : Int → Prop) : slices_IndexFunc_int64_int64__areWithin_1.bd w_impl_areWithin_1 a1 a2 a3 K =
  (∀ (J1 : Int → Int → Prop),
  (∀ (x2 x3 : Int),
      Go.K.ifB (Decidable.decide (x3 < x2))
          (((0 : Int) ≤ x3 ∧ x3 < (↑(List.length a1) : Int)) ∧
            w_impl_areWithin_1 a2 a3 (List.getD a1 (Int.toNat x3) (0 : Int)) fun y4 => Go.K.ifB y4 (K x3) (J1 x2 (Go.IntKind.wrap Go.IntKind.i64 (x3 + (1 : Int)))))
          (K (-1 : Int)) →
        J1 x2 x3) →
    J1 (↑(List.length a1) : Int) (0 : Int)) := by kernel_rfl
theorem slices_IndexFunc_int64_int64__areWithin_1.eq (a1 : List Int) (a2 : Int) (a3 : Int) (K : Int → Prop) : slices_IndexFunc_int64_int64__areWithin_1.wp a1 a2 a3 K =
  (∀ (J1 : Int → Int → Prop),
  (∀ (x2 x3 : Int),
      Go.K.ifB (Decidable.decide (x3 < x2))
          (((0 : Int) ≤ x3 ∧ x3 < (↑(List.length a1) : Int)) ∧
            Go.K.heights.impl_areWithin_1.wp a2 a3 (List.getD a1 (Int.toNat x3) (0 : Int)) fun y4 => Go.K.ifB y4 (K x3) (J1 x2 (Go.IntKind.wrap Go.IntKind.i64 (x3 + (1 : Int)))))
          (K (-1 : Int)) →
        J1 x2 x3) →
    J1 (↑(List.length a1) : Int) (0 : Int)) := slices_IndexFunc_int64_int64__areWithin_1.tx impl_areWithin_1.wp a1 a2 a3 K

theorem slices_ContainsFunc_int64_int64__areWithin_1.tx (w_slices_IndexFunc_int64_int64__areWithin_1 : List Int → Int → Int → (Int → Prop) → Prop) (a1 : List Int) (a2 : Int) (a3 : Int) (K : Bool → Prop) : slices_ContainsFunc_int64_int64__areWithin_1.bd w_slices_IndexFunc_int64_int64__areWithin_1 a1 a2 a3 K =
  (w_slices_IndexFunc_int64_int64__areWithin_1 a1 a2 a3 fun y1 => K (Decidable.decide (y1 ≥ (0 : Int)))) := by kernel_rfl
theorem slices_ContainsFunc_int64_int64__areWithin_1.eq (a1 : List Int) (a2 : Int) (a3 : Int) (K : Bool → Prop) : slices_ContainsFunc_int64_int64__areWithin_1.wp a1 a2 a3 K =
  (Go.K.heights.slices_IndexFunc_int64_int64__areWithin_1.wp a1 a2 a3 fun y1 => K (Decidable.decide (y1 ≥ (0 : Int)))) := slices_ContainsFunc_int64_int64__areWithin_1.tx slices_IndexFunc_int64_int64__areWithin_1.wp a1 a2 a3 K

theorem impl_areWithin.tx (w_slices_ContainsFunc_int64_int64__areWithin_1 : List Int → Int → Int → (Bool → Prop) → Prop) (a1 : List Int) (a2 : Int) (a3 : Int) (K : Bool → Prop) : impl_areWithin.bd w_slices_ContainsFunc_int64_int64__areWithin_1 a1 a2 a3 K =
  (w_slices_ContainsFunc_int64_int64__areWithin_1 a1 a2 a3 fun y1 => K !y1) := by kernel_rfl
theorem impl_areWithin.eq (a1 : List Int) (a2 : Int) (a3 : Int) (K : Bool → Prop) : impl_areWithin.wp a1 a2 a3 K =
  (Go.K.heights.slices_ContainsFunc_int64_int64__areWithin_1.wp a1 a2 a3 fun y1 => K !y1) := impl_areWithin.tx slices_ContainsFunc_int64_int64__areWithin_1.wp a1 a2 a3 K

theorem impl_ValidHeights.tx (w_impl_areWithin : List Int → Int → Int → (Bool → Prop) → Prop) (a1 : List Int) (a2 : Int) (a3 : Int) (K : Bool → Prop) : impl_ValidHeights.bd w_impl_areWithin a1 a2 a3 K =
  (w_impl_areWithin (a2 :: a3 :: List.replicate (0 : Nat) (0 : Int)) (2 : Int) (16 : Int) fun y1 =>
  Go.K.ifB y1
    (Go.K.ifB ((↑(List.length a1) : Int) == Go.IntKind.wrap Go.IntKind.i64 (a2 * a3)) (w_impl_areWithin a1 (0 : Int) (1000 : Int) fun y2 => K y2) (K Bool.false))
    (K Bool.false)) := by kernel_rfl
theorem impl_ValidHeights.eq (a1 : List Int) (a2 : Int) (a3 : Int) (K : Bool → Prop) : impl_ValidHeights.wp a1 a2 a3 K =
  (Go.K.heights.impl_areWithin.wp (a2 :: a3 :: List.replicate (0 : Nat) (0 : Int)) (2 : Int) (16 : Int) fun y1 =>
  Go.K.ifB y1
    (Go.K.ifB ((↑(List.length a1) : Int) == Go.IntKind.wrap Go.IntKind.i64 (a2 * a3)) (Go.K.heights.impl_areWithin.wp a1 (0 : Int) (1000 : Int) fun y2 => K y2) (K Bool.false))
    (K Bool.false)) := impl_ValidHeights.tx impl_areWithin.wp a1 a2 a3 K

theorem impl_Heights_has.tx (w_impl_ValidHeights : List Int → Int → Int → (Bool → Prop) → Prop) (w_impl_within : Int → Int → Int → (Bool → Prop) → Prop) (a1 : List Int) (a2 : Int) (a3 : Int) (a4 : Int) (a5 : Int) (K : Bool → Prop) : impl_Heights_has.bd w_impl_ValidHeights w_impl_within a1 a2 a3 a4 a5 K =
  (w_impl_ValidHeights a1 a2 a3 fun y1 =>
  Go.K.ifB y1
    (w_impl_within a4 (0 : Int) (Go.IntKind.wrap Go.IntKind.i64 (a2 - (1 : Int))) fun y2 =>
      Go.K.ifB y2 (w_impl_within a5 (0 : Int) (Go.IntKind.wrap Go.IntKind.i64 (a3 - (1 : Int))) fun y3 => K y3) (K Bool.false))
    (K Bool.false)) := by kernel_rfl
theorem impl_Heights_has.eq (a1 : List Int) (a2 : Int) (a3 : Int) (a4 : Int) (a5 : Int) (K : Bool → Prop) : impl_Heights_has.wp a1 a2 a3 a4 a5 K =
  (Go.K.heights.impl_ValidHeights.wp a1 a2 a3 fun y1 =>
  Go.K.ifB y1
    (Go.K.heights.impl_within.wp a4 (0 : Int) (Go.IntKind.wrap Go.IntKind.i64 (a2 - (1 : Int))) fun y2 =>
      Go.K.ifB y2 (Go.K.heights.impl_within.wp a5 (0 : Int) (Go.IntKind.wrap Go.IntKind.i64 (a3 - (1 : Int))) fun y3 => K y3) (K Bool.false))
    (K Bool.false)) := impl_Heights_has.tx impl_ValidHeights.wp impl_within.wp a1 a2 a3 a4 a5 K

theorem impl_steps4.tx  (K : Int → Int → Int → Int → Int → Int → Int → Int → Prop) : impl_steps4.bd  K =
  (K (-1 : Int) (0 : Int) (1 : Int) (0 : Int) (0 : Int) (-1 : Int) (0 : Int) (1 : Int)) := by kernel_rfl
theorem impl_steps4.eq (K : Int → Int → Int → Int → Int → Int → Int → Int → Prop) : impl_steps4.wp K =
  (K (-1 : Int) (0 : Int) (1 : Int) (0 : Int) (0 : Int) (-1 : Int) (0 : Int) (1 : Int)) := impl_steps4.tx  K

theorem impl_place.tx  (a1 : Int) (a2 : Int) (a3 : Bool) (K : Int → Prop) : impl_place.bd  a1 a2 a3 K =
  (Go.K.ifB a3 (a2 ≠ (0 : Int) ∧ a2 ≠ (0 : Int) ∧ K (Int.tmod (Go.IntKind.wrap Go.IntKind.i64 (Int.tmod a1 a2 + a2)) a2))
  (K (Go.K.mmI Bool.false (Go.K.mmI Bool.true a1 (0 : Int)) (Go.IntKind.wrap Go.IntKind.i64 (a2 - (1 : Int)))))) := by kernel_rfl
theorem impl_place.eq (a1 : Int) (a2 : Int) (a3 : Bool) (K : Int → Prop) : impl_place.wp a1 a2 a3 K =
  (Go.K.ifB a3 (a2 ≠ (0 : Int) ∧ a2 ≠ (0 : Int) ∧ K (Int.tmod (Go.IntKind.wrap Go.IntKind.i64 (Int.tmod a1 a2 + a2)) a2))
  (K (Go.K.mmI Bool.false (Go.K.mmI Bool.true a1 (0 : Int)) (Go.IntKind.wrap Go.IntKind.i64 (a2 - (1 : Int)))))) := impl_place.tx  a1 a2 a3 K

theorem impl_Heights_cell.tx (w_impl_place : Int → Int → Bool → (Int → Prop) → Prop) (a1 : List Int) (a2 : Int) (a3 : Int) (a4 : Int) (a5 : Int) (K : Int → Prop) : impl_Heights_cell.bd w_impl_place a1 a2 a3 a4 a5 K =
  (w_impl_place a4 a2 Bool.true fun y1 =>
  w_impl_place a5 a3 Bool.true fun y2 => K (Go.IntKind.wrap Go.IntKind.i64 (y1 + Go.IntKind.wrap Go.IntKind.i64 (a2 * y2)))) := by kernel_rfl
theorem impl_Heights_cell.eq (a1 : List Int) (a2 : Int) (a3 : Int) (a4 : Int) (a5 : Int) (K : Int → Prop) : impl_Heights_cell.wp a1 a2 a3 a4 a5 K =
  (Go.K.heights.impl_place.wp a4 a2 Bool.true fun y1 =>
  Go.K.heights.impl_place.wp a5 a3 Bool.true fun y2 => K (Go.IntKind.wrap Go.IntKind.i64 (y1 + Go.IntKind.wrap Go.IntKind.i64 (a2 * y2)))) := impl_Heights_cell.tx impl_place.wp a1 a2 a3 a4 a5 K

theorem impl_Heights_beside.tx (w_impl_steps4 : (Int → Int → Int → Int → Int → Int → Int → Int → Prop) → Prop) (w_impl_Heights_cell : List Int → Int → Int → Int → Int → (Int → Prop) → Prop) (a1 : List Int) (a2 : Int) (a3 : Int) (a4 : Int) (a5 : Int) (K : List Int → Prop) : impl_Heights_beside.bd w_impl_steps4 w_impl_Heights_cell a1 a2 a3 a4 a5 K =
  (w_impl_steps4 fun y1 y2 y3 y4 y5 y6 y7 y8 =>
  ∀ (J9 : Int → Int → List Int → Int → Int → Int → Int → Int → Int → Int → Int → Int → Prop),
    (∀ (x10 x11 : Int) (x12 : List Int) (x13 x14 x15 x16 x17 x18 x19 x20 x21 : Int),
        Go.K.ifB (Decidable.decide (x21 < (4 : Int)))
            (((0 : Int) ≤ x21 ∧ x21 < (4 : Int)) ∧
              (2 : Nat) = (2 : Nat) ∧
                ((0 : Int) ≤ (0 : Int) ∧ (0 : Int) < (2 : Int) ∧ Int.toNat (0 : Int) < (2 : Nat)) ∧
                  ((0 : Int) ≤ (1 : Int) ∧ (1 : Int) < (2 : Int) ∧ Int.toNat (1 : Int) < (2 : Nat)) ∧
                    w_impl_Heights_cell a1 x10 x11
                      (Go.IntKind.wrap Go.IntKind.i64
                        (a4 +
                          List.getD
                            (List.getD [x13, x14, x15, x16, x17, x18, x19, x20] (Int.toNat x21 * (2 : Nat)) (0 : Int) ::
                              List.getD [x13, x14, x15, x16, x17, x18, x19, x20] (Int.toNat x21 * (2 : Nat) + (1 : Nat)) (0 : Int) :: List.replicate (0 : Nat) (0 : Int))
                            (Int.toNat (0 : Int)) (0 : Int)))
                      (Go.IntKind.wrap Go.IntKind.i64
                        (a5 +
                          List.getD
                            (List.getD [x13, x14, x15, x16, x17, x18, x19, x20] (Int.toNat x21 * (2 : Nat)) (0 : Int) ::
                              List.getD [x13, x14, x15, x16, x17, x18, x19, x20] (Int.toNat x21 * (2 : Nat) + (1 : Nat)) (0 : Int) :: List.replicate (0 : Nat) (0 : Int))
                            (Int.toNat (1 : Int)) (0 : Int)))
                      fun y22 =>
                      List.length (x12 ++ y22 :: List.replicate (0 : Nat) (0 : Int)) ≤ (1099511627776 : Nat) ∧
                        J9 x10 x11 (x12 ++ y22 :: List.replicate (0 : Nat) (0 : Int)) x13 x14 x15 x16 x17 x18 x19 x20 (Go.IntKind.wrap Go.IntKind.i64 (x21 + (1 : Int))))
            (K x12) →
          J9 x10 x11 x12 x13 x14 x15 x16 x17 x18 x19 x20 x21) →
      J9 a2 a3 (List.replicate (0 : Nat) (0 : Int)) y1 y2 y3 y4 y5 y6 y7 y8 (0 : Int)) := by kernel_rfl
theorem impl_Heights_beside.eq (a1 : List Int) (a2 : Int) (a3 : Int) (a4 : Int) (a5 : Int) (K : List Int → Prop) : impl_Heights_beside.wp a1 a2 a3 a4 a5 K =
  (Go.K.heights.impl_steps4.wp fun y1 y2 y3 y4 y5 y6 y7 y8 =>
  ∀ (J9 : Int → Int → List Int → Int → Int → Int → Int → Int → Int → Int → Int → Int → Prop),
    (∀ (x10 x11 : Int) (x12 : List Int) (x13 x14 x15 x16 x17 x18 x19 x20 x21 : Int),
        Go.K.ifB (Decidable.decide (x21 < (4 : Int)))
            (((0 : Int) ≤ x21 ∧ x21 < (4 : Int)) ∧
              (2 : Nat) = (2 : Nat) ∧
                ((0 : Int) ≤ (0 : Int) ∧ (0 : Int) < (2 : Int) ∧ Int.toNat (0 : Int) < (2 : Nat)) ∧
                  ((0 : Int) ≤ (1 : Int) ∧ (1 : Int) < (2 : Int) ∧ Int.toNat (1 : Int) < (2 : Nat)) ∧
                    Go.K.heights.impl_Heights_cell.wp a1 x10 x11
                      (Go.IntKind.wrap Go.IntKind.i64
                        (a4 +
                          List.getD
                            (List.getD [x13, x14, x15, x16, x17, x18, x19, x20] (Int.toNat x21 * (2 : Nat)) (0 : Int) ::
                              List.getD [x13, x14, x15, x16, x17, x18, x19, x20] (Int.toNat x21 * (2 : Nat) + (1 : Nat)) (0 : Int) :: List.replicate (0 : Nat) (0 : Int))
                            (Int.toNat (0 : Int)) (0 : Int)))
                      (Go.IntKind.wrap Go.IntKind.i64
                        (a5 +
                          List.getD
                            (List.getD [x13, x14, x15, x16, x17, x18, x19, x20] (Int.toNat x21 * (2 : Nat)) (0 : Int) ::
                              List.getD [x13, x14, x15, x16, x17, x18, x19, x20] (Int.toNat x21 * (2 : Nat) + (1 : Nat)) (0 : Int) :: List.replicate (0 : Nat) (0 : Int))
                            (Int.toNat (1 : Int)) (0 : Int)))
                      fun y22 =>
                      List.length (x12 ++ y22 :: List.replicate (0 : Nat) (0 : Int)) ≤ (1099511627776 : Nat) ∧
                        J9 x10 x11 (x12 ++ y22 :: List.replicate (0 : Nat) (0 : Int)) x13 x14 x15 x16 x17 x18 x19 x20 (Go.IntKind.wrap Go.IntKind.i64 (x21 + (1 : Int))))
            (K x12) →
          J9 x10 x11 x12 x13 x14 x15 x16 x17 x18 x19 x20 x21) →
      J9 a2 a3 (List.replicate (0 : Nat) (0 : Int)) y1 y2 y3 y4 y5 y6 y7 y8 (0 : Int)) := impl_Heights_beside.tx impl_steps4.wp impl_Heights_cell.wp a1 a2 a3 a4 a5 K

theorem impl_Heights_top.tx (w_impl_Heights_cell : List Int → Int → Int → Int → Int → (Int → Prop) → Prop) (a1 : List Int) (a2 : Int) (a3 : Int) (a4 : Int) (a5 : Int) (K : Int → Prop) : impl_Heights_top.bd w_impl_Heights_cell a1 a2 a3 a4 a5 K =
  (w_impl_Heights_cell a1 a2 a3 a4 a5 fun y1 => ((0 : Int) ≤ y1 ∧ y1 < (↑(List.length a1) : Int)) ∧ K (List.getD a1 (Int.toNat y1) (0 : Int))) := by kernel_rfl
theorem impl_Heights_top.eq (a1 : List Int) (a2 : Int) (a3 : Int) (a4 : Int) (a5 : Int) (K : Int → Prop) : impl_Heights_top.wp a1 a2 a3 a4 a5 K =
  (Go.K.heights.impl_Heights_cell.wp a1 a2 a3 a4 a5 fun y1 => ((0 : Int) ≤ y1 ∧ y1 < (↑(List.length a1) : Int)) ∧ K (List.getD a1 (Int.toNat y1) (0 : Int))) := impl_Heights_top.tx impl_Heights_cell.wp a1 a2 a3 a4 a5 K

theorem impl_BondsAt_1.tx (w_impl_Heights_top : List Int → Int → Int → Int → Int → (Int → Prop) → Prop) (a1 : Int) (a2 : Int) (a3 : List Int) (a4 : Int) (a5 : Int) (a6 : Int) (K : Bool → Prop) : impl_BondsAt_1.bd w_impl_Heights_top a1 a2 a3 a4 a5 a6 K =
  (w_impl_Heights_top a3 a1 a2 a4 a5 fun y1 => K (Decidable.decide (a6 ≥ y1))) := by kernel_rfl
theorem impl_BondsAt_1.eq (a1 : Int) (a2 : Int) (a3 : List Int) (a4 : Int) (a5 : Int) (a6 : Int) (K : Bool → Prop) : impl_BondsAt_1.wp a1 a2 a3 a4 a5 a6 K =
  (Go.K.heights.impl_Heights_top.wp a3 a1 a2 a4 a5 fun y1 => K (Decidable.decide (a6 ≥ y1))) := impl_BondsAt_1.tx impl_Heights_top.wp a1 a2 a3 a4 a5 a6 K

theorem impl_Heights_count__BondsAt_1.tx (w_impl_Heights_beside : List Int → Int → Int → Int → Int → (List Int → Prop) → Prop) (w_impl_BondsAt_1 : Int → Int → List Int → Int → Int → Int → (Bool → Prop) → Prop) (a1 : List
  Int) (a2 : Int) (a3 : Int) (a4 : List
  Int) (a5 : Int) (a6 : Int) (a7 : Int) (a8 : Int) (a9 : Int) (a10 : Int) (K : Int → Prop) : impl_Heights_count__BondsAt_1.bd w_impl_Heights_beside w_impl_BondsAt_1 a1 a2 a3 a4 a5 a6 a7 a8 a9 a10 K =
  (w_impl_Heights_beside a1 a7 a8 a9 a10 fun y1 =>
  ∀ (J2 : Int → Int → List Int → Int → Int → Int → Prop),
    (∀ (x3 x4 : Int) (x5 : List Int) (x6 x7 x8 : Int),
        Go.K.ifB (Decidable.decide (x8 < x7))
            (((0 : Int) ≤ x8 ∧ x8 < (↑(List.length x5) : Int)) ∧
              ((0 : Int) ≤ List.getD x5 (Int.toNat x8) (0 : Int) ∧ List.getD x5 (Int.toNat x8) (0 : Int) < (↑(List.length a1) : Int)) ∧
                w_impl_BondsAt_1 a2 a3 a4 a5 a6 (List.getD a1 (Int.toNat (List.getD x5 (Int.toNat x8) (0 : Int))) (0 : Int)) fun y9 =>
                  Go.K.ifB y9 (J2 x3 x4 x5 (Go.IntKind.wrap Go.IntKind.i64 (x6 + (1 : Int))) x7 (Go.IntKind.wrap Go.IntKind.i64 (x8 + (1 : Int))))
                    (J2 x3 x4 x5 x6 x7 (Go.IntKind.wrap Go.IntKind.i64 (x8 + (1 : Int)))))
            (K x6) →
          J2 x3 x4 x5 x6 x7 x8) →
      J2 a7 a8 y1 (0 : Int) (↑(List.length y1) : Int) (0 : Int)) := by kernel_rfl
theorem impl_Heights_count__BondsAt_1.eq (a1 : List
  Int) (a2 : Int) (a3 : Int) (a4 : List
  Int) (a5 : Int) (a6 : Int) (a7 : Int) (a8 : Int) (a9 : Int) (a10 : Int) (K : Int → Prop) : impl_Heights_count__BondsAt_1.wp a1 a2 a3 a4 a5 a6 a7 a8 a9 a10 K =
  (Go.K.heights.impl_Heights_beside.wp a1 a7 a8 a9 a10 fun y1 =>
  ∀ (J2 : Int → Int → List Int → Int → Int → Int → Prop),
    (∀ (x3 x4 : Int) (x5 : List Int) (x6 x7 x8 : Int),
        Go.K.ifB (Decidable.decide (x8 < x7))
            (((0 : Int) ≤ x8 ∧ x8 < (↑(List.length x5) : Int)) ∧
              ((0 : Int) ≤ List.getD x5 (Int.toNat x8) (0 : Int) ∧ List.getD x5 (Int.toNat x8) (0 : Int) < (↑(List.length a1) : Int)) ∧
                Go.K.heights.impl_BondsAt_1.wp a2 a3 a4 a5 a6 (List.getD a1 (Int.toNat (List.getD x5 (Int.toNat x8) (0 : Int))) (0 : Int)) fun y9 =>
                  Go.K.ifB y9 (J2 x3 x4 x5 (Go.IntKind.wrap Go.IntKind.i64 (x6 + (1 : Int))) x7 (Go.IntKind.wrap Go.IntKind.i64 (x8 + (1 : Int))))
                    (J2 x3 x4 x5 x6 x7 (Go.IntKind.wrap Go.IntKind.i64 (x8 + (1 : Int)))))
            (K x6) →
          J2 x3 x4 x5 x6 x7 x8) →
      J2 a7 a8 y1 (0 : Int) (↑(List.length y1) : Int) (0 : Int)) := impl_Heights_count__BondsAt_1.tx impl_Heights_beside.wp impl_BondsAt_1.wp a1 a2 a3 a4 a5 a6 a7 a8 a9 a10 K

theorem impl_BondsAt.tx (w_impl_Heights_has : List Int → Int → Int → Int → Int → (Bool → Prop) → Prop) (w_impl_Heights_count__BondsAt_1 : List Int → Int → Int → List Int → Int → Int → Int → Int → Int → Int → (Int → Prop) → Prop) (a1 : List Int) (a2 : Int) (a3 : Int) (a4 : Int) (a5 : Int) (K : Int → Bool → Prop) : impl_BondsAt.bd w_impl_Heights_has w_impl_Heights_count__BondsAt_1 a1 a2 a3 a4 a5 K =
  (w_impl_Heights_has a1 a2 a3 a4 a5 fun y1 =>
  Go.K.ifB (!y1) (K (0 : Int) Bool.false) (w_impl_Heights_count__BondsAt_1 a1 a2 a3 a1 a4 a5 a2 a3 a4 a5 fun y2 => K y2 Bool.true)) := by kernel_rfl
theorem impl_BondsAt.eq (a1 : List Int) (a2 : Int) (a3 : Int) (a4 : Int) (a5 : Int) (K : Int → Bool → Prop) : impl_BondsAt.wp a1 a2 a3 a4 a5 K =
  (Go.K.heights.impl_Heights_has.wp a1 a2 a3 a4 a5 fun y1 =>
  Go.K.ifB (!y1) (K (0 : Int) Bool.false) (Go.K.heights.impl_Heights_count__BondsAt_1.wp a1 a2 a3 a1 a4 a5 a2 a3 a4 a5 fun y2 => K y2 Bool.true)) := impl_BondsAt.tx impl_Heights_has.wp impl_Heights_count__BondsAt_1.wp a1 a2 a3 a4 a5 K

theorem laws_eqInt64S.tx  (a1 : List Int) (a2 : List Int) (K : Bool → Prop) : laws_eqInt64S.bd  a1 a2 K =
  (Go.K.ifB ((↑(List.length a1) : Int) != (↑(List.length a2) : Int)) (K Bool.false)
  (∀ (J1 : Int → Prop),
    (∀ (x2 : Int),
        Go.K.ifB (Decidable.decide (x2 < (↑(List.length a1) : Int)))
            (((0 : Int) ≤ x2 ∧ x2 < (↑(List.length a1) : Int)) ∧
              ((0 : Int) ≤ x2 ∧ x2 < (↑(List.length a2) : Int)) ∧
                Go.K.ifB (List.getD a1 (Int.toNat x2) (0 : Int) != List.getD a2 (Int.toNat x2) (0 : Int)) (K Bool.false) (J1 (Go.IntKind.wrap Go.IntKind.i64 (x2 + (1 : Int)))))
            (K Bool.true) →
          J1 x2) →
      J1 (0 : Int))) := by kernel_rfl
theorem laws_eqInt64S.eq (a1 : List Int) (a2 : List Int) (K : Bool → Prop) : laws_eqInt64S.wp a1 a2 K =
  (Go.K.ifB ((↑(List.length a1) : Int) != (↑(List.length a2) : Int)) (K Bool.false)
  (∀ (J1 : Int → Prop),
    (∀ (x2 : Int),
        Go.K.ifB (Decidable.decide (x2 < (↑(List.length a1) : Int)))
            (((0 : Int) ≤ x2 ∧ x2 < (↑(List.length a1) : Int)) ∧
              ((0 : Int) ≤ x2 ∧ x2 < (↑(List.length a2) : Int)) ∧
                Go.K.ifB (List.getD a1 (Int.toNat x2) (0 : Int) != List.getD a2 (Int.toNat x2) (0 : Int)) (K Bool.false) (J1 (Go.IntKind.wrap Go.IntKind.i64 (x2 + (1 : Int)))))
            (K Bool.true) →
          J1 x2) →
      J1 (0 : Int))) := laws_eqInt64S.tx  a1 a2 K

theorem laws_eqHeights.tx (w_laws_eqInt64S : List Int → List Int → (Bool → Prop) → Prop) (a1 : List Int) (a2 : List Int) (a3 : Int) (a4 : Int) (a5 : Int) (a6 : Int) (K : Bool → Prop) : laws_eqHeights.bd w_laws_eqInt64S a1 a2 a3 a4 a5 a6 K =
  (Go.K.ifB (a3 != a5) (K Bool.false)
  (Go.K.ifB (a4 != a6) (K Bool.false) (w_laws_eqInt64S a1 a2 fun y1 => Go.K.ifB (!y1) (K Bool.false) (K Bool.true)))) := by kernel_rfl
theorem laws_eqHeights.eq (a1 : List Int) (a2 : List Int) (a3 : Int) (a4 : Int) (a5 : Int) (a6 : Int) (K : Bool → Prop) : laws_eqHeights.wp a1 a2 a3 a4 a5 a6 K =
  (Go.K.ifB (a3 != a5) (K Bool.false)
  (Go.K.ifB (a4 != a6) (K Bool.false) (Go.K.heights.laws_eqInt64S.wp a1 a2 fun y1 => Go.K.ifB (!y1) (K Bool.false) (K Bool.true)))) := laws_eqHeights.tx laws_eqInt64S.wp a1 a2 a3 a4 a5 a6 K

theorem laws_FnExactBondsAt.tx (w_laws_szHeights : List Int → Int → Int → Int → (Int → Prop) → Prop) (w_laws_toHeights : List Int → Int → Int → (List Int → Int → Int → Prop) → Prop) (w_spec_BondsAt : List Int → Int → Int → Int → Int → (Int → Bool → Prop) → Prop) (w_impl_BondsAt : List Int → Int → Int → Int → Int → (Int → Bool → Prop) → Prop) (w_laws_eqHeights : List Int → List Int → Int → Int → Int → Int → (Bool → Prop) → Prop) (a1 : List Int) (a2 : Int) (a3 : Int) (a4 : Int) (a5 : Int) (K : Bool → Prop) : laws_FnExactBondsAt.bd w_laws_szHeights w_laws_toHeights w_spec_BondsAt w_impl_BondsAt w_laws_eqHeights a1 a2 a3 a4 a5 K =
  (w_laws_szHeights a1 a2 a3 (1048576 : Int) fun y1 =>
  Go.K.ifB (Decidable.decide (y1 < (0 : Int))) (K Bool.true)
    (w_laws_toHeights a1 a2 a3 fun y2 y3 y4 =>
      w_spec_BondsAt y2 y3 y4 a4 a5 fun y5 y6 =>
        w_laws_toHeights a1 a2 a3 fun y7 y8 y9 =>
          w_impl_BondsAt y7 y8 y9 a4 a5 fun y10 y11 =>
            Go.K.ifB (y10 != y5) (K Bool.false)
              (Go.K.ifB (y11 != y6) (K Bool.false)
                (w_laws_toHeights a1 a2 a3 fun y12 y13 y14 =>
                  w_laws_eqHeights y7 y12 y8 y9 y13 y14 fun y15 => Go.K.ifB (!y15) (K Bool.false) (K Bool.true))))) := by kernel_rfl
theorem laws_FnExactBondsAt.eq (a1 : List Int) (a2 : Int) (a3 : Int) (a4 : Int) (a5 : Int) (K : Bool → Prop) : laws_FnExactBondsAt.wp a1 a2 a3 a4 a5 K =
  (Go.K.heights.laws_szHeights.wp a1 a2 a3 (1048576 : Int) fun y1 =>
  Go.K.ifB (Decidable.decide (y1 < (0 : Int))) (K Bool.true)
    (Go.K.heights.laws_toHeights.wp a1 a2 a3 fun y2 y3 y4 =>
      Go.K.heights.spec_BondsAt.wp y2 y3 y4 a4 a5 fun y5 y6 =>
        Go.K.heights.laws_toHeights.wp a1 a2 a3 fun y7 y8 y9 =>
          Go.K.heights.impl_BondsAt.wp y7 y8 y9 a4 a5 fun y10 y11 =>
            Go.K.ifB (y10 != y5) (K Bool.false)
              (Go.K.ifB (y11 != y6) (K Bool.false)
                (Go.K.heights.laws_toHeights.wp a1 a2 a3 fun y12 y13 y14 =>
                  Go.K.heights.laws_eqHeights.wp y7 y12 y8 y9 y13 y14 fun y15 => Go.K.ifB (!y15) (K Bool.false) (K Bool.true))))) := laws_FnExactBondsAt.tx laws_szHeights.wp laws_toHeights.wp spec_BondsAt.wp impl_BondsAt.wp laws_eqHeights.wp a1 a2 a3 a4 a5 K

theorem laws_b10Long.tx  (a1 : List Int) (a2 : List Int) (K : Bool → Prop) : laws_b10Long.bd  a1 a2 K =
  (Go.K.ifB (Decidable.decide ((↑(List.length a1) : Int) > (1048576 : Int))) (K Bool.true) (K (Decidable.decide ((↑(List.length a2) : Int) > (1048576 : Int))))) := by kernel_rfl
theorem laws_b10Long.eq (a1 : List Int) (a2 : List Int) (K : Bool → Prop) : laws_b10Long.wp a1 a2 K =
  (Go.K.ifB (Decidable.decide ((↑(List.length a1) : Int) > (1048576 : Int))) (K Bool.true) (K (Decidable.decide ((↑(List.length a2) : Int) > (1048576 : Int))))) := laws_b10Long.tx  a1 a2 K

theorem spec_l00From.tx  (a1 : List Int) (K : Int → Int → Prop) : spec_l00From.bd  a1 K =
  (K (0 : Int) (0 : Int)) := by kernel_rfl
theorem spec_l00From.eq (a1 : List Int) (K : Int → Int → Prop) : spec_l00From.wp a1 K =
  (K (0 : Int) (0 : Int)) := spec_l00From.tx  a1 K

theorem spec_l00Src_next.tx  (a1 : Int) (a2 : Int) (a3 : List Int) (K : Int → Int → Int → Prop) : spec_l00Src_next.bd  a1 a2 a3 K =
  (∀ (J1 : Int → Int → Int → Prop),
  (∀ (x2 x3 x4 : Int),
      Go.K.ifB (Decidable.decide (Go.IntKind.wrap Go.IntKind.i64 (x2 + (1 : Int)) ≤ (↑(List.length a3) : Int)))
          (K (Go.IntKind.wrap Go.IntKind.i64 (x2 + (1 : Int)))
            (Go.IntKind.wrap Go.IntKind.u64
              (Go.IntKind.wrap Go.IntKind.u64 (Go.IntKind.wrap Go.IntKind.u64 (x3 * (6364136223846793005 : Int)) + Go.IntKind.wrap Go.IntKind.u64 x4) +
                (1442695040888963407 : Int)))
            x4)
          (K (Go.IntKind.wrap Go.IntKind.i64 (x2 + (1 : Int)))
            (Go.IntKind.wrap Go.IntKind.u64
              (Go.IntKind.wrap Go.IntKind.u64 (Go.IntKind.wrap Go.IntKind.u64 (x3 * (6364136223846793005 : Int)) + Go.IntKind.wrap Go.IntKind.u64 x4) +
                (1442695040888963407 : Int)))
            (Go.IntKind.wrap Go.IntKind.i64
              (Go.K.ibits Go.BinOp.and Go.IntKind.u64
                (Go.K.ishr Go.IntKind.u64
                  (Go.IntKind.wrap Go.IntKind.u64
                    (Go.IntKind.wrap Go.IntKind.u64 (Go.IntKind.wrap Go.IntKind.u64 (x3 * (6364136223846793005 : Int)) + Go.IntKind.wrap Go.IntKind.u64 x4) +
                      (1442695040888963407 : Int)))
                  (40 : Int))
                (255 : Int)))) →
        J1 x2 x3 x4) →
    Go.K.ifB (Decidable.decide (a1 < (↑(List.length a3) : Int)))
      (((0 : Int) ≤ a1 ∧ a1 < (↑(List.length a3) : Int)) ∧ J1 a1 a2 (Go.IntKind.wrap Go.IntKind.i64 (List.getD a3 (Int.toNat a1) (0 : Int)))) (J1 a1 a2 (0 : Int))) := by kernel_rfl
theorem spec_l00Src_next.eq (a1 : Int) (a2 : Int) (a3 : List Int) (K : Int → Int → Int → Prop) : spec_l00Src_next.wp a1 a2 a3 K =
  (∀ (J1 : Int → Int → Int → Prop),
  (∀ (x2 x3 x4 : Int),
      Go.K.ifB (Decidable.decide (Go.IntKind.wrap Go.IntKind.i64 (x2 + (1 : Int)) ≤ (↑(List.length a3) : Int)))
          (K (Go.IntKind.wrap Go.IntKind.i64 (x2 + (1 : Int)))
            (Go.IntKind.wrap Go.IntKind.u64
              (Go.IntKind.wrap Go.IntKind.u64 (Go.IntKind.wrap Go.IntKind.u64 (x3 * (6364136223846793005 : Int)) + Go.IntKind.wrap Go.IntKind.u64 x4) +
                (1442695040888963407 : Int)))
            x4)
          (K (Go.IntKind.wrap Go.IntKind.i64 (x2 + (1 : Int)))
            (Go.IntKind.wrap Go.IntKind.u64
              (Go.IntKind.wrap Go.IntKind.u64 (Go.IntKind.wrap Go.IntKind.u64 (x3 * (6364136223846793005 : Int)) + Go.IntKind.wrap Go.IntKind.u64 x4) +
                (1442695040888963407 : Int)))
            (Go.IntKind.wrap Go.IntKind.i64
              (Go.K.ibits Go.BinOp.and Go.IntKind.u64
                (Go.K.ishr Go.IntKind.u64
                  (Go.IntKind.wrap Go.IntKind.u64
                    (Go.IntKind.wrap Go.IntKind.u64 (Go.IntKind.wrap Go.IntKind.u64 (x3 * (6364136223846793005 : Int)) + Go.IntKind.wrap Go.IntKind.u64 x4) +
                      (1442695040888963407 : Int)))
                  (40 : Int))
                (255 : Int)))) →
        J1 x2 x3 x4) →
    Go.K.ifB (Decidable.decide (a1 < (↑(List.length a3) : Int)))
      (((0 : Int) ≤ a1 ∧ a1 < (↑(List.length a3) : Int)) ∧ J1 a1 a2 (Go.IntKind.wrap Go.IntKind.i64 (List.getD a3 (Int.toNat a1) (0 : Int)))) (J1 a1 a2 (0 : Int))) := spec_l00Src_next.tx  a1 a2 a3 K

theorem spec_l00Src_pick.tx (w_spec_l00Src_next : Int → Int → List Int → (Int → Int → Int → Prop) → Prop) (a1 : Int) (a2 : Int) (a3 : List Int) (a4 : Int) (K : Int → Int → Int → Prop) : spec_l00Src_pick.bd w_spec_l00Src_next a1 a2 a3 a4 K =
  (Go.K.ifB (Decidable.decide (a4 ≤ (1 : Int))) (K a1 a2 (0 : Int))
  (w_spec_l00Src_next a1 a2 a3 fun y1 y2 y3 =>
    Go.K.ifB (Decidable.decide (a4 > (200 : Int)))
      (w_spec_l00Src_next y1 y2 a3 fun y4 y5 y6 =>
        a4 ≠ (0 : Int) ∧ K y4 y5 (Int.tmod (Go.IntKind.wrap Go.IntKind.i64 (Go.IntKind.wrap Go.IntKind.i64 (y3 * (256 : Int)) + y6)) a4))
      (a4 ≠ (0 : Int) ∧ K y1 y2 (Int.tmod y3 a4)))) := by kernel_rfl
theorem spec_l00Src_pick.eq (a1 : Int) (a2 : Int) (a3 : List Int) (a4 : Int) (K : Int → Int → Int → Prop) : spec_l00Src_pick.wp a1 a2 a3 a4 K =
  (Go.K.ifB (Decidable.decide (a4 ≤ (1 : Int))) (K a1 a2 (0 : Int))
  (Go.K.heights.spec_l00Src_next.wp a1 a2 a3 fun y1 y2 y3 =>
    Go.K.ifB (Decidable.decide (a4 > (200 : Int)))
      (Go.K.heights.spec_l00Src_next.wp y1 y2 a3 fun y4 y5 y6 =>
        a4 ≠ (0 : Int) ∧ K y4 y5 (Int.tmod (Go.IntKind.wrap Go.IntKind.i64 (Go.IntKind.wrap Go.IntKind.i64 (y3 * (256 : Int)) + y6)) a4))
      (a4 ≠ (0 : Int) ∧ K y1 y2 (Int.tmod y3 a4)))) := spec_l00Src_pick.tx spec_l00Src_next.wp a1 a2 a3 a4 K

theorem spec_l05DrawOk.tx (w_spec_l00Src_pick : Int → Int → List Int → Int → (Int → Int → Int → Prop) → Prop) (a1 : Int) (a2 : Int) (a3 : List Int) (K : Int → Int → List Int → Int → Int → Prop) : spec_l05DrawOk.bd w_spec_l00Src_pick a1 a2 a3 K =
  (w_spec_l00Src_pick a1 a2 a3 (4 : Int) fun y1 y2 y3 =>
  w_spec_l00Src_pick y1 y2 a3 (4 : Int) fun y4 y5 y6 =>
    w_spec_l00Src_pick y4 y5 a3 (3 : Int) fun y7 y8 y9 =>
      ∀ (J10 : Int → Int → Int → Int → Int → Int → List Int → List Int → Int → Int → Prop),
        (∀ (x11 x12 x13 x14 x15 x16 : Int) (x17 x18 : List Int) (x19 x20 : Int),
            Go.K.ifB (Decidable.decide (x20 < Go.IntKind.wrap Go.IntKind.i64 (x15 * x16)))
                (w_spec_l00Src_pick x11 x12 a3 (4 : Int) fun y21 y22 y23 =>
                  Go.K.ifB (x19 == (0 : Int))
                    (w_spec_l00Src_pick y21 y22 a3 (2 : Int) fun y24 y25 y26 =>
                      List.length (x18 ++ y26 :: List.replicate (0 : Nat) (0 : Int)) ≤ (1099511627776 : Nat) ∧
                        J10 y24 y25 x13 x14 x15 x16 x17 (x18 ++ y26 :: List.replicate (0 : Nat) (0 : Int)) x19 (Go.IntKind.wrap Go.IntKind.i64 (x20 + (1 : Int))))
                    (List.length (x18 ++ y23 :: List.replicate (0 : Nat) (0 : Int)) ≤ (1099511627776 : Nat) ∧
                      J10 y21 y22 x13 x14 x15 x16 x17 (x18 ++ y23 :: List.replicate (0 : Nat) (0 : Int)) x19 (Go.IntKind.wrap Go.IntKind.i64 (x20 + (1 : Int)))))
                (K x11 x12 x18 x15 x16) →
              J10 x11 x12 x13 x14 x15 x16 x17 x18 x19 x20) →
          J10 y7 y8 (0 : Int) (0 : Int) (Go.IntKind.wrap Go.IntKind.i64 ((2 : Int) + y3)) (Go.IntKind.wrap Go.IntKind.i64 ((2 : Int) + y6)) [] [] y9 (0 : Int)) := by kernel_rfl
theorem spec_l05DrawOk.eq (a1 : Int) (a2 : Int) (a3 : List Int) (K : Int → Int → List Int → Int → Int → Prop) : spec_l05DrawOk.wp a1 a2 a3 K =
  (Go.K.heights.spec_l00Src_pick.wp a1 a2 a3 (4 : Int) fun y1 y2 y3 =>
  Go.K.heights.spec_l00Src_pick.wp y1 y2 a3 (4 : Int) fun y4 y5 y6 =>
    Go.K.heights.spec_l00Src_pick.wp y4 y5 a3 (3 : Int) fun y7 y8 y9 =>
      ∀ (J10 : Int → Int → Int → Int → Int → Int → List Int → List Int → Int → Int → Prop),
        (∀ (x11 x12 x13 x14 x15 x16 : Int) (x17 x18 : List Int) (x19 x20 : Int),
            Go.K.ifB (Decidable.decide (x20 < Go.IntKind.wrap Go.IntKind.i64 (x15 * x16)))
                (Go.K.heights.spec_l00Src_pick.wp x11 x12 a3 (4 : Int) fun y21 y22 y23 =>
                  Go.K.ifB (x19 == (0 : Int))
                    (Go.K.heights.spec_l00Src_pick.wp y21 y22 a3 (2 : Int) fun y24 y25 y26 =>
                      List.length (x18 ++ y26 :: List.replicate (0 : Nat) (0 : Int)) ≤ (1099511627776 : Nat) ∧
                        J10 y24 y25 x13 x14 x15 x16 x17 (x18 ++ y26 :: List.replicate (0 : Nat) (0 : Int)) x19 (Go.IntKind.wrap Go.IntKind.i64 (x20 + (1 : Int))))
                    (List.length (x18 ++ y23 :: List.replicate (0 : Nat) (0 : Int)) ≤ (1099511627776 : Nat) ∧
                      J10 y21 y22 x13 x14 x15 x16 x17 (x18 ++ y23 :: List.replicate (0 : Nat) (0 : Int)) x19 (Go.IntKind.wrap Go.IntKind.i64 (x20 + (1 : Int)))))
                (K x11 x12 x18 x15 x16) →
              J10 x11 x12 x13 x14 x15 x16 x17 x18 x19 x20) →
          J10 y7 y8 (0 : Int) (0 : Int) (Go.IntKind.wrap Go.IntKind.i64 ((2 : Int) + y3)) (Go.IntKind.wrap Go.IntKind.i64 ((2 : Int) + y6)) [] [] y9 (0 : Int)) := spec_l05DrawOk.tx spec_l00Src_pick.wp a1 a2 a3 K

theorem spec_B10Heights.tx (w_spec_l00From : List Int → (Int → Int → Prop) → Prop) (w_spec_l05DrawOk : Int → Int → List Int → (Int → Int → List Int → Int → Int → Prop) → Prop) (a1 : List Int) (K : List Int → Int → Int → Prop) : spec_B10Heights.bd w_spec_l00From w_spec_l05DrawOk a1 K =
  (w_spec_l00From a1 fun y1 y2 => w_spec_l05DrawOk y1 y2 a1 fun y3 y4 y5 y6 y7 => K y5 y6 y7) := by kernel_rfl
theorem spec_B10Heights.eq (a1 : List Int) (K : List Int → Int → Int → Prop) : spec_B10Heights.wp a1 K =
  (Go.K.heights.spec_l00From.wp a1 fun y1 y2 => Go.K.heights.spec_l05DrawOk.wp y1 y2 a1 fun y3 y4 y5 y6 y7 => K y5 y6 y7) := spec_B10Heights.tx spec_l00From.wp spec_l05DrawOk.wp a1 K

theorem laws_b10At.tx  (a1 : List Int) (a2 : Int) (a3 : Int) (K : Int → Prop) : laws_b10At.bd  a1 a2 a3 K =
  (Go.K.ifB (Decidable.decide (a3 ≤ (1 : Int))) (K (0 : Int))
  (Go.K.ifB (Decidable.decide (a2 < (↑(List.length a1) : Int)))
    (((0 : Int) ≤ a2 ∧ a2 < (↑(List.length a1) : Int)) ∧ a3 ≠ (0 : Int) ∧ K (Int.tmod (Go.IntKind.wrap Go.IntKind.i64 (List.getD a1 (Int.toNat a2) (0 : Int))) a3))
    (a3 ≠ (0 : Int) ∧ K (Int.tmod (Go.IntKind.wrap Go.IntKind.i64 (Go.IntKind.wrap Go.IntKind.i64 (a2 * (37 : Int)) + (11 : Int))) a3)))) := by kernel_rfl
theorem laws_b10At.eq (a1 : List Int) (a2 : Int) (a3 : Int) (K : Int → Prop) : laws_b10At.wp a1 a2 a3 K =
  (Go.K.ifB (Decidable.decide (a3 ≤ (1 : Int))) (K (0 : Int))
  (Go.K.ifB (Decidable.decide (a2 < (↑(List.length a1) : Int)))
    (((0 : Int) ≤ a2 ∧ a2 < (↑(List.length a1) : Int)) ∧ a3 ≠ (0 : Int) ∧ K (Int.tmod (Go.IntKind.wrap Go.IntKind.i64 (List.getD a1 (Int.toNat a2) (0 : Int))) a3))
    (a3 ≠ (0 : Int) ∧ K (Int.tmod (Go.IntKind.wrap Go.IntKind.i64 (Go.IntKind.wrap Go.IntKind.i64 (a2 * (37 : Int)) + (11 : Int))) a3)))) := laws_b10At.tx  a1 a2 a3 K

theorem impl_Heights_atoms.tx  (a1 : List Int) (a2 : Int) (a3 : Int) (K : Int → Prop) : impl_Heights_atoms.bd  a1 a2 a3 K =
  (∀ (J1 : Int → Int → Int → Prop),
  (∀ (x2 x3 x4 : Int),
      Go.K.ifB (Decidable.decide (x4 < x3))
          (((0 : Int) ≤ x4 ∧ x4 < (↑(List.length a1) : Int)) ∧
            J1 (Go.IntKind.wrap Go.IntKind.i64 (x2 + List.getD a1 (Int.toNat x4) (0 : Int))) x3 (Go.IntKind.wrap Go.IntKind.i64 (x4 + (1 : Int))))
          (K x2) →
        J1 x2 x3 x4) →
    J1 (0 : Int) (↑(List.length a1) : Int) (0 : Int)) := by kernel_rfl
theorem impl_Heights_atoms.eq (a1 : List Int) (a2 : Int) (a3 : Int) (K : Int → Prop) : impl_Heights_atoms.wp a1 a2 a3 K =
  (∀ (J1 : Int → Int → Int → Prop),
  (∀ (x2 x3 x4 : Int),
      Go.K.ifB (Decidable.decide (x4 < x3))
          (((0 : Int) ≤ x4 ∧ x4 < (↑(List.length a1) : Int)) ∧
            J1 (Go.IntKind.wrap Go.IntKind.i64 (x2 + List.getD a1 (Int.toNat x4) (0 : Int))) x3 (Go.IntKind.wrap Go.IntKind.i64 (x4 + (1 : Int))))
          (K x2) →
        J1 x2 x3 x4) →
    J1 (0 : Int) (↑(List.length a1) : Int) (0 : Int)) := impl_Heights_atoms.tx  a1 a2 a3 K

theorem impl_AtomsIn.tx (w_impl_ValidHeights : List Int → Int → Int → (Bool → Prop) → Prop) (w_impl_Heights_atoms : List Int → Int → Int → (Int → Prop) → Prop) (a1 : List Int) (a2 : Int) (a3 : Int) (K : Int → Bool → Prop) : impl_AtomsIn.bd w_impl_ValidHeights w_impl_Heights_atoms a1 a2 a3 K =
  (w_impl_ValidHeights a1 a2 a3 fun y1 =>
  Go.K.ifB (!y1) (K (0 : Int) Bool.false) (w_impl_Heights_atoms a1 a2 a3 fun y2 => K y2 Bool.true)) := by kernel_rfl
theorem impl_AtomsIn.eq (a1 : List Int) (a2 : Int) (a3 : Int) (K : Int → Bool → Prop) : impl_AtomsIn.wp a1 a2 a3 K =
  (Go.K.heights.impl_ValidHeights.wp a1 a2 a3 fun y1 =>
  Go.K.ifB (!y1) (K (0 : Int) Bool.false) (Go.K.heights.impl_Heights_atoms.wp a1 a2 a3 fun y2 => K y2 Bool.true)) := impl_AtomsIn.tx impl_ValidHeights.wp impl_Heights_atoms.wp a1 a2 a3 K

theorem impl_Heights_bonds_1.tx  (a1 : Int) (a2 : Int) (K : Int → Prop) : impl_Heights_bonds_1.bd  a1 a2 K =
  (K (Go.K.mmI Bool.false a1 a2)) := by kernel_rfl
theorem impl_Heights_bonds_1.eq (a1 : Int) (a2 : Int) (K : Int → Prop) : impl_Heights_bonds_1.wp a1 a2 K =
  (K (Go.K.mmI Bool.false a1 a2)) := impl_Heights_bonds_1.tx  a1 a2 K

theorem impl_Heights_pairs__Heights_bonds_1.tx (w_impl_Heights_top : List Int → Int → Int → Int → Int → (Int → Prop) → Prop) (w_impl_Heights_bonds_1 : Int → Int → (Int → Prop) → Prop) (a1 : List Int) (a2 : Int) (a3 : Int) (K : Int → Prop) : impl_Heights_pairs__Heights_bonds_1.bd w_impl_Heights_top w_impl_Heights_bonds_1 a1 a2 a3 K =
  (∀ (J1 : Int → Int → Int → Int → Int → Prop),
  (∀ (x2 x3 x4 x5 x6 : Int),
      Go.K.ifB (Decidable.decide (x6 < x5))
          (((0 : Int) ≤ x6 ∧ x6 < (↑(List.length a1) : Int)) ∧
            x2 ≠ (0 : Int) ∧
              x2 ≠ (0 : Int) ∧
                w_impl_Heights_top a1 x2 x3 (Go.IntKind.wrap Go.IntKind.i64 (Int.tmod x6 x2 + (1 : Int))) (Go.IntKind.wrap Go.IntKind.i64 (Int.tdiv x6 x2)) fun y7 =>
                  w_impl_Heights_bonds_1 (List.getD a1 (Int.toNat x6) (0 : Int)) y7 fun y8 =>
                    w_impl_Heights_top a1 x2 x3 (Int.tmod x6 x2) (Go.IntKind.wrap Go.IntKind.i64 (Go.IntKind.wrap Go.IntKind.i64 (Int.tdiv x6 x2) + (1 : Int)))
                      fun y9 =>
                      w_impl_Heights_bonds_1 (List.getD a1 (Int.toNat x6) (0 : Int)) y9 fun y10 =>
                        J1 x2 x3 (Go.IntKind.wrap Go.IntKind.i64 (x4 + Go.IntKind.wrap Go.IntKind.i64 (y8 + y10))) x5 (Go.IntKind.wrap Go.IntKind.i64 (x6 + (1 : Int))))
          (K x4) →
        J1 x2 x3 x4 x5 x6) →
    J1 a2 a3 (0 : Int) (↑(List.length a1) : Int) (0 : Int)) := by kernel_rfl
theorem impl_Heights_pairs__Heights_bonds_1.eq (a1 : List Int) (a2 : Int) (a3 : Int) (K : Int → Prop) : impl_Heights_pairs__Heights_bonds_1.wp a1 a2 a3 K =
  (∀ (J1 : Int → Int → Int → Int → Int → Prop),
  (∀ (x2 x3 x4 x5 x6 : Int),
      Go.K.ifB (Decidable.decide (x6 < x5))
          (((0 : Int) ≤ x6 ∧ x6 < (↑(List.length a1) : Int)) ∧
            x2 ≠ (0 : Int) ∧
              x2 ≠ (0 : Int) ∧
                Go.K.heights.impl_Heights_top.wp a1 x2 x3 (Go.IntKind.wrap Go.IntKind.i64 (Int.tmod x6 x2 + (1 : Int))) (Go.IntKind.wrap Go.IntKind.i64 (Int.tdiv x6 x2)) fun y7 =>
                  Go.K.heights.impl_Heights_bonds_1.wp (List.getD a1 (Int.toNat x6) (0 : Int)) y7 fun y8 =>
                    Go.K.heights.impl_Heights_top.wp a1 x2 x3 (Int.tmod x6 x2) (Go.IntKind.wrap Go.IntKind.i64 (Go.IntKind.wrap Go.IntKind.i64 (Int.tdiv x6 x2) + (1 : Int)))
                      fun y9 =>
                      Go.K.heights.impl_Heights_bonds_1.wp (List.getD a1 (Int.toNat x6) (0 : Int)) y9 fun y10 =>
                        J1 x2 x3 (Go.IntKind.wrap Go.IntKind.i64 (x4 + Go.IntKind.wrap Go.IntKind.i64 (y8 + y10))) x5 (Go.IntKind.wrap Go.IntKind.i64 (x6 + (1 : Int))))
          (K x4) →
        J1 x2 x3 x4 x5 x6) →
    J1 a2 a3 (0 : Int) (↑(List.length a1) : Int) (0 : Int)) := impl_Heights_pairs__Heights_bonds_1.tx impl_Heights_top.wp impl_Heights_bonds_1.wp a1 a2 a3 K

theorem impl_Heights_bonds.tx (w_impl_Heights_pairs__Heights_bonds_1 : List Int → Int → Int → (Int → Prop) → Prop) (a1 : List Int) (a2 : Int) (a3 : Int) (K : Int → Prop) : impl_Heights_bonds.bd w_impl_Heights_pairs__Heights_bonds_1 a1 a2 a3 K =
  (w_impl_Heights_pairs__Heights_bonds_1 a1 a2 a3 fun y1 => K y1) := by kernel_rfl
theorem impl_Heights_bonds.eq (a1 : List Int) (a2 : Int) (a3 : Int) (K : Int → Prop) : impl_Heights_bonds.wp a1 a2 a3 K =
  (Go.K.heights.impl_Heights_pairs__Heights_bonds_1.wp a1 a2 a3 fun y1 => K y1) := impl_Heights_bonds.tx impl_Heights_pairs__Heights_bonds_1.wp a1 a2 a3 K

theorem impl_BondsIn.tx (w_impl_ValidHeights : List Int → Int → Int → (Bool → Prop) → Prop) (w_impl_Heights_bonds : List Int → Int → Int → (Int → Prop) → Prop) (a1 : List Int) (a2 : Int) (a3 : Int) (K : Int → Bool → Prop) : impl_BondsIn.bd w_impl_ValidHeights w_impl_Heights_bonds a1 a2 a3 K =
  (w_impl_ValidHeights a1 a2 a3 fun y1 =>
  Go.K.ifB (!y1) (K (0 : Int) Bool.false) (w_impl_Heights_bonds a1 a2 a3 fun y2 => K y2 Bool.true)) := by kernel_rfl
theorem impl_BondsIn.eq (a1 : List Int) (a2 : Int) (a3 : Int) (K : Int → Bool → Prop) : impl_BondsIn.wp a1 a2 a3 K =
  (Go.K.heights.impl_ValidHeights.wp a1 a2 a3 fun y1 =>
  Go.K.ifB (!y1) (K (0 : Int) Bool.false) (Go.K.heights.impl_Heights_bonds.wp a1 a2 a3 fun y2 => K y2 Bool.true)) := impl_BondsIn.tx impl_ValidHeights.wp impl_Heights_bonds.wp a1 a2 a3 K

theorem impl_StepsIn_1.tx  (a1 : Int) (a2 : Int) (K : Int → Prop) : impl_StepsIn_1.bd  a1 a2 K =
  (K (Go.K.mmI Bool.true (Go.IntKind.wrap Go.IntKind.i64 (a1 - a2)) (Go.IntKind.wrap Go.IntKind.i64 (a2 - a1)))) := by kernel_rfl
theorem impl_StepsIn_1.eq (a1 : Int) (a2 : Int) (K : Int → Prop) : impl_StepsIn_1.wp a1 a2 K =
  (K (Go.K.mmI Bool.true (Go.IntKind.wrap Go.IntKind.i64 (a1 - a2)) (Go.IntKind.wrap Go.IntKind.i64 (a2 - a1)))) := impl_StepsIn_1.tx  a1 a2 K

theorem impl_Heights_pairs__StepsIn_1.tx (w_impl_Heights_top : List Int → Int → Int → Int → Int → (Int → Prop) → Prop) (w_impl_StepsIn_1 : Int → Int → (Int → Prop) → Prop) (a1 : List Int) (a2 : Int) (a3 : Int) (K : Int → Prop) : impl_Heights_pairs__StepsIn_1.bd w_impl_Heights_top w_impl_StepsIn_1 a1 a2 a3 K =
  (∀ (J1 : Int → Int → Int → Int → Int → Prop),
  (∀ (x2 x3 x4 x5 x6 : Int),
      Go.K.ifB (Decidable.decide (x6 < x5))
          (((0 : Int) ≤ x6 ∧ x6 < (↑(List.length a1) : Int)) ∧
            x2 ≠ (0 : Int) ∧
              x2 ≠ (0 : Int) ∧
                w_impl_Heights_top a1 x2 x3 (Go.IntKind.wrap Go.IntKind.i64 (Int.tmod x6 x2 + (1 : Int))) (Go.IntKind.wrap Go.IntKind.i64 (Int.tdiv x6 x2)) fun y7 =>
                  w_impl_StepsIn_1 (List.getD a1 (Int.toNat x6) (0 : Int)) y7 fun y8 =>
                    w_impl_Heights_top a1 x2 x3 (Int.tmod x6 x2) (Go.IntKind.wrap Go.IntKind.i64 (Go.IntKind.wrap Go.IntKind.i64 (Int.tdiv x6 x2) + (1 : Int)))
                      fun y9 =>
                      w_impl_StepsIn_1 (List.getD a1 (Int.toNat x6) (0 : Int)) y9 fun y10 =>
                        J1 x2 x3 (Go.IntKind.wrap Go.IntKind.i64 (x4 + Go.IntKind.wrap Go.IntKind.i64 (y8 + y10))) x5 (Go.IntKind.wrap Go.IntKind.i64 (x6 + (1 : Int))))
          (K x4) →
        J1 x2 x3 x4 x5 x6) →
    J1 a2 a3 (0 : Int) (↑(List.length a1) : Int) (0 : Int)) := by kernel_rfl
theorem impl_Heights_pairs__StepsIn_1.eq (a1 : List Int) (a2 : Int) (a3 : Int) (K : Int → Prop) : impl_Heights_pairs__StepsIn_1.wp a1 a2 a3 K =
  (∀ (J1 : Int → Int → Int → Int → Int → Prop),
  (∀ (x2 x3 x4 x5 x6 : Int),
      Go.K.ifB (Decidable.decide (x6 < x5))
          (((0 : Int) ≤ x6 ∧ x6 < (↑(List.length a1) : Int)) ∧
            x2 ≠ (0 : Int) ∧
              x2 ≠ (0 : Int) ∧
                Go.K.heights.impl_Heights_top.wp a1 x2 x3 (Go.IntKind.wrap Go.IntKind.i64 (Int.tmod x6 x2 + (1 : Int))) (Go.IntKind.wrap Go.IntKind.i64 (Int.tdiv x6 x2)) fun y7 =>
                  Go.K.heights.impl_StepsIn_1.wp (List.getD a1 (Int.toNat x6) (0 : Int)) y7 fun y8 =>
                    Go.K.heights.impl_Heights_top.wp a1 x2 x3 (Int.tmod x6 x2) (Go.IntKind.wrap Go.IntKind.i64 (Go.IntKind.wrap Go.IntKind.i64 (Int.tdiv x6 x2) + (1 : Int)))
                      fun y9 =>
                      Go.K.heights.impl_StepsIn_1.wp (List.getD a1 (Int.toNat x6) (0 : Int)) y9 fun y10 =>
                        J1 x2 x3 (Go.IntKind.wrap Go.IntKind.i64 (x4 + Go.IntKind.wrap Go.IntKind.i64 (y8 + y10))) x5 (Go.IntKind.wrap Go.IntKind.i64 (x6 + (1 : Int))))
          (K x4) →
        J1 x2 x3 x4 x5 x6) →
    J1 a2 a3 (0 : Int) (↑(List.length a1) : Int) (0 : Int)) := impl_Heights_pairs__StepsIn_1.tx impl_Heights_top.wp impl_StepsIn_1.wp a1 a2 a3 K

theorem impl_StepsIn.tx (w_impl_ValidHeights : List Int → Int → Int → (Bool → Prop) → Prop) (w_impl_Heights_pairs__StepsIn_1 : List Int → Int → Int → (Int → Prop) → Prop) (a1 : List Int) (a2 : Int) (a3 : Int) (K : Int → Bool → Prop) : impl_StepsIn.bd w_impl_ValidHeights w_impl_Heights_pairs__StepsIn_1 a1 a2 a3 K =
  (w_impl_ValidHeights a1 a2 a3 fun y1 =>
  Go.K.ifB (!y1) (K (0 : Int) Bool.false) (w_impl_Heights_pairs__StepsIn_1 a1 a2 a3 fun y2 => K y2 Bool.true)) := by kernel_rfl
theorem impl_StepsIn.eq (a1 : List Int) (a2 : Int) (a3 : Int) (K : Int → Bool → Prop) : impl_StepsIn.wp a1 a2 a3 K =
  (Go.K.heights.impl_ValidHeights.wp a1 a2 a3 fun y1 =>
  Go.K.ifB (!y1) (K (0 : Int) Bool.false) (Go.K.heights.impl_Heights_pairs__StepsIn_1.wp a1 a2 a3 fun y2 => K y2 Bool.true)) := impl_StepsIn.tx impl_ValidHeights.wp impl_Heights_pairs__StepsIn_1.wp a1 a2 a3 K

theorem slices_Clone_int64_int64.tx  (a1 : List Int) (K : List Int → Prop) : slices_Clone_int64_int64.bd  a1 K =
  (List.length a1 ≠ (0 : Nat) ∧ List.length (List.replicate (0 : Nat) (0 : Int) ++ a1) ≤ (1099511627776 : Nat) ∧ K (List.replicate (0 : Nat) (0 : Int) ++ a1)) := by kernel_rfl
theorem slices_Clone_int64_int64.eq (a1 : List Int) (K : List Int → Prop) : slices_Clone_int64_int64.wp a1 K =
  (List.length a1 ≠ (0 : Nat) ∧ List.length (List.replicate (0 : Nat) (0 : Int) ++ a1) ≤ (1099511627776 : Nat) ∧ K (List.replicate (0 : Nat) (0 : Int) ++ a1)) := slices_Clone_int64_int64.tx  a1 K

theorem impl_Heights_cloned.tx (w_slices_Clone_int64_int64 : List Int → (List Int → Prop) → Prop) (a1 : List Int) (a2 : Int) (a3 : Int) (K : List Int → Int → Int → Prop) : impl_Heights_cloned.bd w_slices_Clone_int64_int64 a1 a2 a3 K =
  (w_slices_Clone_int64_int64 a1 fun y1 => K y1 a2 a3) := by kernel_rfl
theorem impl_Heights_cloned.eq (a1 : List Int) (a2 : Int) (a3 : Int) (K : List Int → Int → Int → Prop) : impl_Heights_cloned.wp a1 a2 a3 K =
  (Go.K.heights.slices_Clone_int64_int64.wp a1 fun y1 => K y1 a2 a3) := impl_Heights_cloned.tx slices_Clone_int64_int64.wp a1 a2 a3 K

theorem impl_HopTo.tx (w_impl_Heights_has : List Int → Int → Int → Int → Int → (Bool → Prop) → Prop) (w_impl_within : Int → Int → Int → (Bool → Prop) → Prop) (w_impl_Heights_top : List Int → Int → Int → Int → Int → (Int → Prop) → Prop) (w_impl_Heights_cloned : List Int → Int → Int → (List Int → Int → Int → Prop) → Prop) (w_impl_Heights_cell : List Int → Int → Int → Int → Int → (Int → Prop) → Prop) (w_impl_Heights_beside : List Int → Int → Int → Int → Int → (List Int → Prop) → Prop) (w_impl_ValidHeights : List Int → Int → Int → (Bool → Prop) → Prop) (w_impl_Heights_bonds : List Int → Int → Int → (Int → Prop) → Prop) (a1 : List Int) (a2 : Int) (a3 : Int) (a4 : Int) (a5 : Int) (a6 : Int) (K : List Int → Int → Int → Int → Bool → Prop) : impl_HopTo.bd w_impl_Heights_has w_impl_within w_impl_Heights_top w_impl_Heights_cloned w_impl_Heights_cell w_impl_Heights_beside w_impl_ValidHeights w_impl_Heights_bonds a1 a2 a3 a4 a5 a6 K =
  (w_impl_Heights_has a1 a2 a3 a4 a5 fun y1 =>
  Go.K.ifB (!y1) (K [] (0 : Int) (0 : Int) (0 : Int) Bool.false)
    (w_impl_within a6 (0 : Int) (3 : Int) fun y2 =>
      Go.K.ifB (!y2) (K [] (0 : Int) (0 : Int) (0 : Int) Bool.false)
        (w_impl_Heights_top a1 a2 a3 a4 a5 fun y3 =>
          Go.K.ifB (y3 == (0 : Int)) (K [] (0 : Int) (0 : Int) (0 : Int) Bool.false)
            (w_impl_Heights_cloned a1 a2 a3 fun y4 y5 y6 =>
              w_impl_Heights_cell a1 a2 a3 a4 a5 fun y7 =>
                ((0 : Int) ≤ y7 ∧ y7 < (↑(List.length y4) : Int)) ∧
                  ((0 : Int) ≤ y7 ∧ y7 < (↑(List.length y4) : Int)) ∧
                    w_impl_Heights_beside a1 a2 a3 a4 a5 fun y8 =>
                      ((0 : Int) ≤ a6 ∧ a6 < (↑(List.length y8) : Int)) ∧
                        ((0 : Int) ≤ List.getD y8 (Int.toNat a6) (0 : Int) ∧ List.getD y8 (Int.toNat a6) (0 : Int) < (↑(List.length y4) : Int)) ∧
                          ((0 : Int) ≤ List.getD y8 (Int.toNat a6) (0 : Int) ∧ List.getD y8 (Int.toNat a6) (0 : Int) < (↑(List.length y4) : Int)) ∧
                            w_impl_ValidHeights
                              (List.set (List.set y4 (Int.toNat y7) (Go.IntKind.wrap Go.IntKind.i64 (List.getD y4 (Int.toNat y7) (0 : Int) - (1 : Int))))
                                (Int.toNat (List.getD y8 (Int.toNat a6) (0 : Int)))
                                (Go.IntKind.wrap Go.IntKind.i64
                                  (List.getD (List.set y4 (Int.toNat y7) (Go.IntKind.wrap Go.IntKind.i64 (List.getD y4 (Int.toNat y7) (0 : Int) - (1 : Int))))
                                      (Int.toNat (List.getD y8 (Int.toNat a6) (0 : Int))) (0 : Int) +
                                    (1 : Int))))
                              y5 y6 fun y9 =>
                              Go.K.ifB (!y9) (K [] (0 : Int) (0 : Int) (0 : Int) Bool.false)
                                (w_impl_Heights_bonds a1 a2 a3 fun y10 =>
                                  w_impl_Heights_bonds
                                    (List.set (List.set y4 (Int.toNat y7) (Go.IntKind.wrap Go.IntKind.i64 (List.getD y4 (Int.toNat y7) (0 : Int) - (1 : Int))))
                                      (Int.toNat (List.getD y8 (Int.toNat a6) (0 : Int)))
                                      (Go.IntKind.wrap Go.IntKind.i64
                                        (List.getD (List.set y4 (Int.toNat y7) (Go.IntKind.wrap Go.IntKind.i64 (List.getD y4 (Int.toNat y7) (0 : Int) - (1 : Int))))
                                            (Int.toNat (List.getD y8 (Int.toNat a6) (0 : Int))) (0 : Int) +
                                          (1 : Int))))
                                    y5 y6 fun y11 =>
                                    K
                                      (List.set (List.set y4 (Int.toNat y7) (Go.IntKind.wrap Go.IntKind.i64 (List.getD y4 (Int.toNat y7) (0 : Int) - (1 : Int))))
                                        (Int.toNat (List.getD y8 (Int.toNat a6) (0 : Int)))
                                        (Go.IntKind.wrap Go.IntKind.i64
                                          (List.getD (List.set y4 (Int.toNat y7) (Go.IntKind.wrap Go.IntKind.i64 (List.getD y4 (Int.toNat y7) (0 : Int) - (1 : Int))))
                                              (Int.toNat (List.getD y8 (Int.toNat a6) (0 : Int))) (0 : Int) +
                                            (1 : Int))))
                                      y5 y6 (Go.IntKind.wrap Go.IntKind.i64 (y10 - y11)) Bool.true))))) := by kernel_rfl
theorem impl_HopTo.eq (a1 : List Int) (a2 : Int) (a3 : Int) (a4 : Int) (a5 : Int) (a6 : Int) (K : List Int → Int → Int → Int → Bool → Prop) : impl_HopTo.wp a1 a2 a3 a4 a5 a6 K =
  (Go.K.heights.impl_Heights_has.wp a1 a2 a3 a4 a5 fun y1 =>
  Go.K.ifB (!y1) (K [] (0 : Int) (0 : Int) (0 : Int) Bool.false)
    (Go.K.heights.impl_within.wp a6 (0 : Int) (3 : Int) fun y2 =>
      Go.K.ifB (!y2) (K [] (0 : Int) (0 : Int) (0 : Int) Bool.false)
        (Go.K.heights.impl_Heights_top.wp a1 a2 a3 a4 a5 fun y3 =>
          Go.K.ifB (y3 == (0 : Int)) (K [] (0 : Int) (0 : Int) (0 : Int) Bool.false)
            (Go.K.heights.impl_Heights_cloned.wp a1 a2 a3 fun y4 y5 y6 =>
              Go.K.heights.impl_Heights_cell.wp a1 a2 a3 a4 a5 fun y7 =>
                ((0 : Int) ≤ y7 ∧ y7 < (↑(List.length y4) : Int)) ∧
                  ((0 : Int) ≤ y7 ∧ y7 < (↑(List.length y4) : Int)) ∧
                    Go.K.heights.impl_Heights_beside.wp a1 a2 a3 a4 a5 fun y8 =>
                      ((0 : Int) ≤ a6 ∧ a6 < (↑(List.length y8) : Int)) ∧
                        ((0 : Int) ≤ List.getD y8 (Int.toNat a6) (0 : Int) ∧ List.getD y8 (Int.toNat a6) (0 : Int) < (↑(List.length y4) : Int)) ∧
                          ((0 : Int) ≤ List.getD y8 (Int.toNat a6) (0 : Int) ∧ List.getD y8 (Int.toNat a6) (0 : Int) < (↑(List.length y4) : Int)) ∧
                            Go.K.heights.impl_ValidHeights.wp
                              (List.set (List.set y4 (Int.toNat y7) (Go.IntKind.wrap Go.IntKind.i64 (List.getD y4 (Int.toNat y7) (0 : Int) - (1 : Int))))
                                (Int.toNat (List.getD y8 (Int.toNat a6) (0 : Int)))
                                (Go.IntKind.wrap Go.IntKind.i64
                                  (List.getD (List.set y4 (Int.toNat y7) (Go.IntKind.wrap Go.IntKind.i64 (List.getD y4 (Int.toNat y7) (0 : Int) - (1 : Int))))
                                      (Int.toNat (List.getD y8 (Int.toNat a6) (0 : Int))) (0 : Int) +
                                    (1 : Int))))
                              y5 y6 fun y9 =>
                              Go.K.ifB (!y9) (K [] (0 : Int) (0 : Int) (0 : Int) Bool.false)
                                (Go.K.heights.impl_Heights_bonds.wp a1 a2 a3 fun y10 =>
                                  Go.K.heights.impl_Heights_bonds.wp
                                    (List.set (List.set y4 (Int.toNat y7) (Go.IntKind.wrap Go.IntKind.i64 (List.getD y4 (Int.toNat y7) (0 : Int) - (1 : Int))))
                                      (Int.toNat (List.getD y8 (Int.toNat a6) (0 : Int)))
                                      (Go.IntKind.wrap Go.IntKind.i64
                                        (List.getD (List.set y4 (Int.toNat y7) (Go.IntKind.wrap Go.IntKind.i64 (List.getD y4 (Int.toNat y7) (0 : Int) - (1 : Int))))
                                            (Int.toNat (List.getD y8 (Int.toNat a6) (0 : Int))) (0 : Int) +
                                          (1 : Int))))
                                    y5 y6 fun y11 =>
                                    K
                                      (List.set (List.set y4 (Int.toNat y7) (Go.IntKind.wrap Go.IntKind.i64 (List.getD y4 (Int.toNat y7) (0 : Int) - (1 : Int))))
                                        (Int.toNat (List.getD y8 (Int.toNat a6) (0 : Int)))
                                        (Go.IntKind.wrap Go.IntKind.i64
                                          (List.getD (List.set y4 (Int.toNat y7) (Go.IntKind.wrap Go.IntKind.i64 (List.getD y4 (Int.toNat y7) (0 : Int) - (1 : Int))))
                                              (Int.toNat (List.getD y8 (Int.toNat a6) (0 : Int))) (0 : Int) +
                                            (1 : Int))))
                                      y5 y6 (Go.IntKind.wrap Go.IntKind.i64 (y10 - y11)) Bool.true))))) := impl_HopTo.tx impl_Heights_has.wp impl_within.wp impl_Heights_top.wp impl_Heights_cloned.wp impl_Heights_cell.wp impl_Heights_beside.wp impl_ValidHeights.wp impl_Heights_bonds.wp a1 a2 a3 a4 a5 a6 K

theorem spec_B10Seed.tx (w_spec_l00From : List Int → (Int → Int → Prop) → Prop) (w_spec_l00Src_pick : Int → Int → List Int → Int → (Int → Int → Int → Prop) → Prop) (a1 : List Int) (K : Int → Prop) : spec_B10Seed.bd w_spec_l00From w_spec_l00Src_pick a1 K =
  (w_spec_l00From a1 fun y1 y2 =>
  w_spec_l00Src_pick y1 y2 a1 (32768 : Int) fun y3 y4 y5 =>
    w_spec_l00Src_pick y3 y4 a1 (65536 : Int) fun y6 y7 y8 =>
      K (Go.IntKind.wrap Go.IntKind.i64 (Go.IntKind.wrap Go.IntKind.i64 (y5 * (65536 : Int)) + y8))) := by kernel_rfl
theorem spec_B10Seed.eq (a1 : List Int) (K : Int → Prop) : spec_B10Seed.wp a1 K =
  (Go.K.heights.spec_l00From.wp a1 fun y1 y2 =>
  Go.K.heights.spec_l00Src_pick.wp y1 y2 a1 (32768 : Int) fun y3 y4 y5 =>
    Go.K.heights.spec_l00Src_pick.wp y3 y4 a1 (65536 : Int) fun y6 y7 y8 =>
      K (Go.IntKind.wrap Go.IntKind.i64 (Go.IntKind.wrap Go.IntKind.i64 (y5 * (65536 : Int)) + y8))) := spec_B10Seed.tx spec_l00From.wp spec_l00Src_pick.wp a1 K

theorem impl_isSeed.tx (w_impl_within : Int → Int → Int → (Bool → Prop) → Prop) (a1 : Int) (K : Bool → Prop) : impl_isSeed.bd w_impl_within a1 K =
  (w_impl_within a1 (0 : Int) (2147483647 : Int) fun y1 => K y1) := by kernel_rfl
theorem impl_isSeed.eq (a1 : Int) (K : Bool → Prop) : impl_isSeed.wp a1 K =
  (Go.K.heights.impl_within.wp a1 (0 : Int) (2147483647 : Int) fun y1 => K y1) := impl_isSeed.tx impl_within.wp a1 K

theorem impl_draw.tx  (a1 : Int) (K : Int → Int → Prop) : impl_draw.bd  a1 K =
  (K (Int.tmod (Go.IntKind.wrap Go.IntKind.i64 (Go.IntKind.wrap Go.IntKind.i64 ((1103515245 : Int) * a1) + (12345 : Int))) (2147483648 : Int))
  (Go.IntKind.wrap Go.IntKind.i64
    (Int.tdiv (Int.tmod (Go.IntKind.wrap Go.IntKind.i64 (Go.IntKind.wrap Go.IntKind.i64 ((1103515245 : Int) * a1) + (12345 : Int))) (2147483648 : Int))
      (65536 : Int)))) := by kernel_rfl
theorem impl_draw.eq (a1 : Int) (K : Int → Int → Prop) : impl_draw.wp a1 K =
  (K (Int.tmod (Go.IntKind.wrap Go.IntKind.i64 (Go.IntKind.wrap Go.IntKind.i64 ((1103515245 : Int) * a1) + (12345 : Int))) (2147483648 : Int))
  (Go.IntKind.wrap Go.IntKind.i64
    (Int.tdiv (Int.tmod (Go.IntKind.wrap Go.IntKind.i64 (Go.IntKind.wrap Go.IntKind.i64 ((1103515245 : Int) * a1) + (12345 : Int))) (2147483648 : Int))
      (65536 : Int)))) := impl_draw.tx  a1 K

theorem impl_use.tx (w_impl_draw : Int → (Int → Int → Prop) → Prop) (a1 : Int) (a2 : Int) (K : Int → Int → Prop) : impl_use.bd w_impl_draw a1 a2 K =
  (w_impl_draw a1 fun y1 y2 => a2 ≠ (0 : Int) ∧ K y1 (Int.tmod y2 a2)) := by kernel_rfl
theorem impl_use.eq (a1 : Int) (a2 : Int) (K : Int → Int → Prop) : impl_use.wp a1 a2 K =
  (Go.K.heights.impl_draw.wp a1 fun y1 y2 => a2 ≠ (0 : Int) ∧ K y1 (Int.tmod y2 a2)) := impl_use.tx impl_draw.wp a1 a2 K

theorem impl_HopSome.tx (w_impl_ValidHeights : List Int → Int → Int → (Bool → Prop) → Prop) (w_impl_within : Int → Int → Int → (Bool → Prop) → Prop) (w_impl_isSeed : Int → (Bool → Prop) → Prop) (w_impl_areWithin : List Int → Int → Int → (Bool → Prop) → Prop) (w_impl_Heights_cloned : List Int → Int → Int → (List Int → Int → Int → Prop) → Prop) (w_impl_use : Int → Int → (Int → Int → Prop) → Prop) (w_impl_HopTo : List Int → Int → Int → Int → Int → Int → (List Int → Int → Int → Int → Bool → Prop) → Prop) (a1 : List
  Int) (a2 : List Int) (a3 : Int) (a4 : Int) (a5 : Int) (a6 : Int) (K : List Int → Int → Int → Int → Int → Bool → Prop) : impl_HopSome.bd w_impl_ValidHeights w_impl_within w_impl_isSeed w_impl_areWithin w_impl_Heights_cloned w_impl_use w_impl_HopTo a1 a2 a3 a4 a5 a6 K =
  (w_impl_ValidHeights a1 a3 a4 fun y1 =>
  Go.K.ifB (!y1) (K [] (0 : Int) (0 : Int) (0 : Int) (0 : Int) Bool.false)
    (w_impl_within a5 (0 : Int) (500 : Int) fun y2 =>
      Go.K.ifB (!y2) (K [] (0 : Int) (0 : Int) (0 : Int) (0 : Int) Bool.false)
        (w_impl_isSeed a6 fun y3 =>
          Go.K.ifB (!y3) (K [] (0 : Int) (0 : Int) (0 : Int) (0 : Int) Bool.false)
            (Go.K.ifB (Decidable.decide ((↑(List.length a2) : Int) > (8 : Int))) (K [] (0 : Int) (0 : Int) (0 : Int) (0 : Int) Bool.false)
              (w_impl_areWithin a2 (0 : Int) (32768 : Int) fun y4 =>
                Go.K.ifB (!y4) (K [] (0 : Int) (0 : Int) (0 : Int) (0 : Int) Bool.false)
                  (w_impl_Heights_cloned a1 a3 a4 fun y5 y6 y7 =>
                    ∀ (J8 : Int → Int → Int → Int → Int → List Int → List Int → Int → Int → Int → Prop),
                      (∀ (x9 x10 x11 x12 x13 : Int) (x14 x15 : List Int) (x16 x17 x18 : Int),
                          Go.K.ifB (Decidable.decide (x18 < x17))
                              (w_impl_use x11 x9 fun y19 y20 =>
                                w_impl_use y19 x10 fun y21 y22 =>
                                  w_impl_use y21 (4 : Int) fun y23 y24 =>
                                    w_impl_use y23 (32768 : Int) fun y25 y26 =>
                                      w_impl_HopTo x14 x9 x10 y20 y22 y24 fun y27 y28 y29 y30 y31 =>
                                        Go.K.ifB y31
                                          (Go.K.ifB (Decidable.decide (y30 ≤ (0 : Int))) False
                                            (Go.K.ifB (Decidable.decide (y30 ≤ (↑(List.length a2) : Int)))
                                              (((0 : Int) ≤ Go.IntKind.wrap Go.IntKind.i64 (y30 - (1 : Int)) ∧
                                                  Go.IntKind.wrap Go.IntKind.i64 (y30 - (1 : Int)) < (↑(List.length a2) : Int)) ∧
                                                Go.K.ifB (Decidable.decide (y26 < List.getD a2 (Int.toNat (Go.IntKind.wrap Go.IntKind.i64 (y30 - (1 : Int)))) (0 : Int)))
                                                  (J8 y28 y29 y25 x12 x13 y27 x15 (Go.IntKind.wrap Go.IntKind.i64 (x16 + (1 : Int))) x17
                                                    (Go.IntKind.wrap Go.IntKind.i64 (x18 + (1 : Int))))
                                                  (J8 x9 x10 y25 x12 x13 x14 x15 x16 x17 (Go.IntKind.wrap Go.IntKind.i64 (x18 + (1 : Int)))))
                                              (J8 x9 x10 y25 x12 x13 x14 x15 x16 x17 (Go.IntKind.wrap Go.IntKind.i64 (x18 + (1 : Int))))))
                                          False)
                              (K x14 x9 x10 x16 x11 Bool.true) →
                            J8 x9 x10 x11 x12 x13 x14 x15 x16 x17 x18) →
                        J8 y6 y7 a6 (0 : Int) (0 : Int) y5 [] (0 : Int) a5 (0 : Int))))))) := by kernel_rfl
theorem impl_HopSome.eq (a1 : List
  Int) (a2 : List Int) (a3 : Int) (a4 : Int) (a5 : Int) (a6 : Int) (K : List Int → Int → Int → Int → Int → Bool → Prop) : impl_HopSome.wp a1 a2 a3 a4 a5 a6 K =
  (Go.K.heights.impl_ValidHeights.wp a1 a3 a4 fun y1 =>
  Go.K.ifB (!y1) (K [] (0 : Int) (0 : Int) (0 : Int) (0 : Int) Bool.false)
    (Go.K.heights.impl_within.wp a5 (0 : Int) (500 : Int) fun y2 =>
      Go.K.ifB (!y2) (K [] (0 : Int) (0 : Int) (0 : Int) (0 : Int) Bool.false)
        (Go.K.heights.impl_isSeed.wp a6 fun y3 =>
          Go.K.ifB (!y3) (K [] (0 : Int) (0 : Int) (0 : Int) (0 : Int) Bool.false)
            (Go.K.ifB (Decidable.decide ((↑(List.length a2) : Int) > (8 : Int))) (K [] (0 : Int) (0 : Int) (0 : Int) (0 : Int) Bool.false)
              (Go.K.heights.impl_areWithin.wp a2 (0 : Int) (32768 : Int) fun y4 =>
                Go.K.ifB (!y4) (K [] (0 : Int) (0 : Int) (0 : Int) (0 : Int) Bool.false)
                  (Go.K.heights.impl_Heights_cloned.wp a1 a3 a4 fun y5 y6 y7 =>
                    ∀ (J8 : Int → Int → Int → Int → Int → List Int → List Int → Int → Int → Int → Prop),
                      (∀ (x9 x10 x11 x12 x13 : Int) (x14 x15 : List Int) (x16 x17 x18 : Int),
                          Go.K.ifB (Decidable.decide (x18 < x17))
                              (Go.K.heights.impl_use.wp x11 x9 fun y19 y20 =>
                                Go.K.heights.impl_use.wp y19 x10 fun y21 y22 =>
                                  Go.K.heights.impl_use.wp y21 (4 : Int) fun y23 y24 =>
                                    Go.K.heights.impl_use.wp y23 (32768 : Int) fun y25 y26 =>
                                      Go.K.heights.impl_HopTo.wp x14 x9 x10 y20 y22 y24 fun y27 y28 y29 y30 y31 =>
                                        Go.K.ifB y31
                                          (Go.K.ifB (Decidable.decide (y30 ≤ (0 : Int))) False
                                            (Go.K.ifB (Decidable.decide (y30 ≤ (↑(List.length a2) : Int)))
                                              (((0 : Int) ≤ Go.IntKind.wrap Go.IntKind.i64 (y30 - (1 : Int)) ∧
                                                  Go.IntKind.wrap Go.IntKind.i64 (y30 - (1 : Int)) < (↑(List.length a2) : Int)) ∧
                                                Go.K.ifB (Decidable.decide (y26 < List.getD a2 (Int.toNat (Go.IntKind.wrap Go.IntKind.i64 (y30 - (1 : Int)))) (0 : Int)))
                                                  (J8 y28 y29 y25 x12 x13 y27 x15 (Go.IntKind.wrap Go.IntKind.i64 (x16 + (1 : Int))) x17
                                                    (Go.IntKind.wrap Go.IntKind.i64 (x18 + (1 : Int))))
                                                  (J8 x9 x10 y25 x12 x13 x14 x15 x16 x17 (Go.IntKind.wrap Go.IntKind.i64 (x18 + (1 : Int)))))
                                              (J8 x9 x10 y25 x12 x13 x14 x15 x16 x17 (Go.IntKind.wrap Go.IntKind.i64 (x18 + (1 : Int))))))
                                          False)
                              (K x14 x9 x10 x16 x11 Bool.true) →
                            J8 x9 x10 x11 x12 x13 x14 x15 x16 x17 x18) →
                        J8 y6 y7 a6 (0 : Int) (0 : Int) y5 [] (0 : Int) a5 (0 : Int))))))) := impl_HopSome.tx impl_ValidHeights.wp impl_within.wp impl_isSeed.wp impl_areWithin.wp impl_Heights_cloned.wp impl_use.wp impl_HopTo.wp a1 a2 a3 a4 a5 a6 K

theorem laws_FnHops.tx (w_laws_b10Long : List Int → List Int → (Bool → Prop) → Prop) (w_spec_B10Heights : List Int → (List Int → Int → Int → Prop) → Prop) (w_laws_b10At : List Int → Int → Int → (Int → Prop) → Prop) (w_impl_AtomsIn : List Int → Int → Int → (Int → Bool → Prop) → Prop) (w_impl_BondsIn : List Int → Int → Int → (Int → Bool → Prop) → Prop) (w_impl_StepsIn : List Int → Int → Int → (Int → Bool → Prop) → Prop) (w_impl_HopTo : List Int → Int → Int → Int → Int → Int → (List Int → Int → Int → Int → Bool → Prop) → Prop) (w_spec_B10Seed : List Int → (Int → Prop) → Prop) (w_impl_HopSome : List Int → List Int → Int → Int → Int → Int → (List Int → Int → Int → Int → Int → Bool → Prop) → Prop) (a1 : List Int) (a2 : List Int) (K : Bool → Prop) : laws_FnHops.bd w_laws_b10Long w_spec_B10Heights w_laws_b10At w_impl_AtomsIn w_impl_BondsIn w_impl_StepsIn w_impl_HopTo w_spec_B10Seed w_impl_HopSome a1 a2 K =
  (w_laws_b10Long a1 a2 fun y1 =>
  Go.K.ifB y1 (K Bool.true)
    (w_spec_B10Heights a1 fun y2 y3 y4 =>
      w_laws_b10At a2 (0 : Int) y3 fun y5 =>
        w_laws_b10At a2 (1 : Int) y4 fun y6 =>
          w_impl_AtomsIn y2 y3 y4 fun y7 y8 =>
            w_impl_BondsIn y2 y3 y4 fun y9 y10 =>
              w_impl_StepsIn y2 y3 y4 fun y11 y12 =>
                w_laws_b10At a2 (2 : Int) (4 : Int) fun y13 =>
                  w_impl_HopTo y2 y3 y4 y5 y6 y13 fun y14 y15 y16 y17 y18 =>
                    Go.K.ifB (!y8) (K Bool.false)
                      (Go.K.ifB (!y10) (K Bool.false)
                        (Go.K.ifB (!y12) (K Bool.false)
                          (((0 : Int) ≤ Go.IntKind.wrap Go.IntKind.i64 (y5 + Go.IntKind.wrap Go.IntKind.i64 (y3 * y6)) ∧
                              Go.IntKind.wrap Go.IntKind.i64 (y5 + Go.IntKind.wrap Go.IntKind.i64 (y3 * y6)) < (↑(List.length y2) : Int)) ∧
                            Go.K.ifB
                              (y18 !=
                                Decidable.decide (List.getD y2 (Int.toNat (Go.IntKind.wrap Go.IntKind.i64 (y5 + Go.IntKind.wrap Go.IntKind.i64 (y3 * y6)))) (0 : Int) > (0 : Int)))
                              (K Bool.false)
                              (Go.K.ifB (Go.IntKind.wrap Go.IntKind.i64 (Go.IntKind.wrap Go.IntKind.i64 ((2 : Int) * y9) + y11) != Go.IntKind.wrap Go.IntKind.i64 ((4 : Int) * y7))
                                (K Bool.false)
                                (∀ (J19 : Int → Int → List Int → Int → Int → Prop),
                                  (∀ (x20 x21 : Int) (x22 : List Int) (x23 x24 : Int),
                                      (w_laws_b10At a2 (3 : Int) (40 : Int) fun y25 =>
                                          w_spec_B10Seed a2 fun y26 =>
                                            w_impl_HopSome x22 [] x20 x21 y25 y26 fun y27 y28 y29 y30 y31 y32 =>
                                              w_impl_AtomsIn y27 y28 y29 fun y33 y34 =>
                                                w_impl_BondsIn y27 y28 y29 fun y35 y36 =>
                                                  Go.K.ifB y32
                                                    (Go.K.ifB y34
                                                      (Go.K.ifB y36
                                                        (Go.K.ifB (y33 == x23)
                                                          (Go.K.ifB (Decidable.decide (y35 ≥ x24))
                                                            (Go.K.ifB (Decidable.decide (y30 ≥ (0 : Int))) (K (Decidable.decide (y30 ≤ y25))) (K Bool.false)) (K Bool.false))
                                                          (K Bool.false))
                                                        (K Bool.false))
                                                      (K Bool.false))
                                                    (K Bool.false)) →
                                        J19 x20 x21 x22 x23 x24) →
                                    Go.K.ifB y18
                                      (w_impl_AtomsIn y14 y15 y16 fun y39 y40 =>
                                        w_impl_BondsIn y14 y15 y16 fun y41 y42 =>
                                          Go.K.ifB (!y40) (K Bool.false)
                                            (Go.K.ifB (!y42) (K Bool.false)
                                              (Go.K.ifB (y39 != y7) (K Bool.false)
                                                (Go.K.ifB (y41 != Go.IntKind.wrap Go.IntKind.i64 (y9 - y17)) (K Bool.false) (J19 y3 y4 y2 y7 y9)))))
                                      (J19 y3 y4 y2 y7 y9)))))))) := by kernel_rfl
theorem laws_FnHops.eq (a1 : List Int) (a2 : List Int) (K : Bool → Prop) : laws_FnHops.wp a1 a2 K =
  (Go.K.heights.laws_b10Long.wp a1 a2 fun y1 =>
  Go.K.ifB y1 (K Bool.true)
    (Go.K.heights.spec_B10Heights.wp a1 fun y2 y3 y4 =>
      Go.K.heights.laws_b10At.wp a2 (0 : Int) y3 fun y5 =>
        Go.K.heights.laws_b10At.wp a2 (1 : Int) y4 fun y6 =>
          Go.K.heights.impl_AtomsIn.wp y2 y3 y4 fun y7 y8 =>
            Go.K.heights.impl_BondsIn.wp y2 y3 y4 fun y9 y10 =>
              Go.K.heights.impl_StepsIn.wp y2 y3 y4 fun y11 y12 =>
                Go.K.heights.laws_b10At.wp a2 (2 : Int) (4 : Int) fun y13 =>
                  Go.K.heights.impl_HopTo.wp y2 y3 y4 y5 y6 y13 fun y14 y15 y16 y17 y18 =>
                    Go.K.ifB (!y8) (K Bool.false)
                      (Go.K.ifB (!y10) (K Bool.false)
                        (Go.K.ifB (!y12) (K Bool.false)
                          (((0 : Int) ≤ Go.IntKind.wrap Go.IntKind.i64 (y5 + Go.IntKind.wrap Go.IntKind.i64 (y3 * y6)) ∧
                              Go.IntKind.wrap Go.IntKind.i64 (y5 + Go.IntKind.wrap Go.IntKind.i64 (y3 * y6)) < (↑(List.length y2) : Int)) ∧
                            Go.K.ifB
                              (y18 !=
                                Decidable.decide (List.getD y2 (Int.toNat (Go.IntKind.wrap Go.IntKind.i64 (y5 + Go.IntKind.wrap Go.IntKind.i64 (y3 * y6)))) (0 : Int) > (0 : Int)))
                              (K Bool.false)
                              (Go.K.ifB (Go.IntKind.wrap Go.IntKind.i64 (Go.IntKind.wrap Go.IntKind.i64 ((2 : Int) * y9) + y11) != Go.IntKind.wrap Go.IntKind.i64 ((4 : Int) * y7))
                                (K Bool.false)
                                (∀ (J19 : Int → Int → List Int → Int → Int → Prop),
                                  (∀ (x20 x21 : Int) (x22 : List Int) (x23 x24 : Int),
                                      (Go.K.heights.laws_b10At.wp a2 (3 : Int) (40 : Int) fun y25 =>
                                          Go.K.heights.spec_B10Seed.wp a2 fun y26 =>
                                            Go.K.heights.impl_HopSome.wp x22 [] x20 x21 y25 y26 fun y27 y28 y29 y30 y31 y32 =>
                                              Go.K.heights.impl_AtomsIn.wp y27 y28 y29 fun y33 y34 =>
                                                Go.K.heights.impl_BondsIn.wp y27 y28 y29 fun y35 y36 =>
                                                  Go.K.ifB y32
                                                    (Go.K.ifB y34
                                                      (Go.K.ifB y36
                                                        (Go.K.ifB (y33 == x23)
                                                          (Go.K.ifB (Decidable.decide (y35 ≥ x24))
                                                            (Go.K.ifB (Decidable.decide (y30 ≥ (0 : Int))) (K (Decidable.decide (y30 ≤ y25))) (K Bool.false)) (K Bool.false))
                                                          (K Bool.false))
                                                        (K Bool.false))
                                                      (K Bool.false))
                                                    (K Bool.false)) →
                                        J19 x20 x21 x22 x23 x24) →
                                    Go.K.ifB y18
                                      (Go.K.heights.impl_AtomsIn.wp y14 y15 y16 fun y39 y40 =>
                                        Go.K.heights.impl_BondsIn.wp y14 y15 y16 fun y41 y42 =>
                                          Go.K.ifB (!y40) (K Bool.false)
                                            (Go.K.ifB (!y42) (K Bool.false)
                                              (Go.K.ifB (y39 != y7) (K Bool.false)
                                                (Go.K.ifB (y41 != Go.IntKind.wrap Go.IntKind.i64 (y9 - y17)) (K Bool.false) (J19 y3 y4 y2 y7 y9)))))
                                      (J19 y3 y4 y2 y7 y9)))))))) := laws_FnHops.tx laws_b10Long.wp spec_B10Heights.wp laws_b10At.wp impl_AtomsIn.wp impl_BondsIn.wp impl_StepsIn.wp impl_HopTo.wp spec_B10Seed.wp impl_HopSome.wp a1 a2 K

theorem spec_l05Own.tx  (a1 : Int) (a2 : Int) (a3 : List Int) (K : List Int → Int → Int → Prop) : spec_l05Own.bd  a1 a2 a3 K =
  (List.length (List.replicate (0 : Nat) (0 : Int) ++ a3) ≤ (1099511627776 : Nat) ∧ K (List.replicate (0 : Nat) (0 : Int) ++ a3) a1 a2) := by kernel_rfl
theorem spec_l05Own.eq (a1 : Int) (a2 : Int) (a3 : List Int) (K : List Int → Int → Int → Prop) : spec_l05Own.wp a1 a2 a3 K =
  (List.length (List.replicate (0 : Nat) (0 : Int) ++ a3) ≤ (1099511627776 : Nat) ∧ K (List.replicate (0 : Nat) (0 : Int) ++ a3) a1 a2) := spec_l05Own.tx  a1 a2 a3 K

theorem spec_l00Min.tx  (a1 : Int) (a2 : Int) (K : Int → Prop) : spec_l00Min.bd  a1 a2 K =
  (Go.K.ifB (Decidable.decide (a1 < a2)) (K a1) (K a2)) := by kernel_rfl
theorem spec_l00Min.eq (a1 : Int) (a2 : Int) (K : Int → Prop) : spec_l00Min.wp a1 a2 K =
  (Go.K.ifB (Decidable.decide (a1 < a2)) (K a1) (K a2)) := spec_l00Min.tx  a1 a2 K

theorem spec_l05Bonds.tx (w_spec_l05Near : Int → Int → List Int → Int → (List Int → Prop) → Prop) (w_spec_l00Min : Int → Int → (Int → Prop) → Prop) (a1 : Int) (a2 : Int) (a3 : List Int) (K : Int → Prop) : spec_l05Bonds.bd w_spec_l05Near w_spec_l00Min a1 a2 a3 K =
  (∀ (J1 : Int → Int → Int → Prop),
  (∀ (x2 x3 x4 : Int),
      Go.K.ifB (Decidable.decide (x4 < x3))
          (w_spec_l05Near a1 a2 a3 x4 fun y5 =>
            ((0 : Int) ≤ x4 ∧ x4 < (↑(List.length a3) : Int)) ∧
              ((0 : Int) ≤ (1 : Int) ∧ (1 : Int) < (↑(List.length y5) : Int)) ∧
                ((0 : Int) ≤ List.getD y5 (Int.toNat (1 : Int)) (0 : Int) ∧ List.getD y5 (Int.toNat (1 : Int)) (0 : Int) < (↑(List.length a3) : Int)) ∧
                  ((0 : Int) ≤ x4 ∧ x4 < (↑(List.length a3) : Int)) ∧
                    ((0 : Int) ≤ (3 : Int) ∧ (3 : Int) < (↑(List.length y5) : Int)) ∧
                      ((0 : Int) ≤ List.getD y5 (Int.toNat (3 : Int)) (0 : Int) ∧ List.getD y5 (Int.toNat (3 : Int)) (0 : Int) < (↑(List.length a3) : Int)) ∧
                        w_spec_l00Min (List.getD a3 (Int.toNat x4) (0 : Int)) (List.getD a3 (Int.toNat (List.getD y5 (Int.toNat (1 : Int)) (0 : Int))) (0 : Int))
                          fun y6 =>
                          w_spec_l00Min (List.getD a3 (Int.toNat x4) (0 : Int)) (List.getD a3 (Int.toNat (List.getD y5 (Int.toNat (3 : Int)) (0 : Int))) (0 : Int))
                            fun y7 => J1 (Go.IntKind.wrap Go.IntKind.i64 (x2 + Go.IntKind.wrap Go.IntKind.i64 (y6 + y7))) x3 (Go.IntKind.wrap Go.IntKind.i64 (x4 + (1 : Int))))
          (K x2) →
        J1 x2 x3 x4) →
    J1 (0 : Int) (↑(List.length a3) : Int) (0 : Int)) := by kernel_rfl
theorem spec_l05Bonds.eq (a1 : Int) (a2 : Int) (a3 : List Int) (K : Int → Prop) : spec_l05Bonds.wp a1 a2 a3 K =
  (∀ (J1 : Int → Int → Int → Prop),
  (∀ (x2 x3 x4 : Int),
      Go.K.ifB (Decidable.decide (x4 < x3))
          (Go.K.heights.spec_l05Near.wp a1 a2 a3 x4 fun y5 =>
            ((0 : Int) ≤ x4 ∧ x4 < (↑(List.length a3) : Int)) ∧
              ((0 : Int) ≤ (1 : Int) ∧ (1 : Int) < (↑(List.length y5) : Int)) ∧
                ((0 : Int) ≤ List.getD y5 (Int.toNat (1 : Int)) (0 : Int) ∧ List.getD y5 (Int.toNat (1 : Int)) (0 : Int) < (↑(List.length a3) : Int)) ∧
                  ((0 : Int) ≤ x4 ∧ x4 < (↑(List.length a3) : Int)) ∧
                    ((0 : Int) ≤ (3 : Int) ∧ (3 : Int) < (↑(List.length y5) : Int)) ∧
                      ((0 : Int) ≤ List.getD y5 (Int.toNat (3 : Int)) (0 : Int) ∧ List.getD y5 (Int.toNat (3 : Int)) (0 : Int) < (↑(List.length a3) : Int)) ∧
                        Go.K.heights.spec_l00Min.wp (List.getD a3 (Int.toNat x4) (0 : Int)) (List.getD a3 (Int.toNat (List.getD y5 (Int.toNat (1 : Int)) (0 : Int))) (0 : Int))
                          fun y6 =>
                          Go.K.heights.spec_l00Min.wp (List.getD a3 (Int.toNat x4) (0 : Int)) (List.getD a3 (Int.toNat (List.getD y5 (Int.toNat (3 : Int)) (0 : Int))) (0 : Int))
                            fun y7 => J1 (Go.IntKind.wrap Go.IntKind.i64 (x2 + Go.IntKind.wrap Go.IntKind.i64 (y6 + y7))) x3 (Go.IntKind.wrap Go.IntKind.i64 (x4 + (1 : Int))))
          (K x2) →
        J1 x2 x3 x4) →
    J1 (0 : Int) (↑(List.length a3) : Int) (0 : Int)) := spec_l05Bonds.tx spec_l05Near.wp spec_l00Min.wp a1 a2 a3 K

theorem spec_l05Hop.tx (w_spec_l05Own : Int → Int → List Int → (List Int → Int → Int → Prop) → Prop) (w_spec_l05Near : Int → Int → List Int → Int → (List Int → Prop) → Prop) (w_spec_l05Is : Int → Int → List Int → (Bool → Prop) → Prop) (w_spec_l05Bonds : Int → Int → List Int → (Int → Prop) → Prop) (a1 : Int) (a2 : Int) (a3 : List Int) (a4 : Int) (a5 : Int) (K : List Int → Int → Int → Int → Bool → Prop) : spec_l05Hop.bd w_spec_l05Own w_spec_l05Near w_spec_l05Is w_spec_l05Bonds a1 a2 a3 a4 a5 K =
  (((0 : Int) ≤ a4 ∧ a4 < (↑(List.length a3) : Int)) ∧
  Go.K.ifB (List.getD a3 (Int.toNat a4) (0 : Int) == (0 : Int)) (K [] (0 : Int) (0 : Int) (0 : Int) Bool.false)
    (w_spec_l05Own a1 a2 a3 fun y1 y2 y3 =>
      ((0 : Int) ≤ a4 ∧ a4 < (↑(List.length y1) : Int)) ∧
        ((0 : Int) ≤ a4 ∧ a4 < (↑(List.length y1) : Int)) ∧
          w_spec_l05Near a1 a2 a3 a4 fun y4 =>
            ((0 : Int) ≤ a5 ∧ a5 < (↑(List.length y4) : Int)) ∧
              ((0 : Int) ≤ List.getD y4 (Int.toNat a5) (0 : Int) ∧ List.getD y4 (Int.toNat a5) (0 : Int) < (↑(List.length y1) : Int)) ∧
                ((0 : Int) ≤ List.getD y4 (Int.toNat a5) (0 : Int) ∧ List.getD y4 (Int.toNat a5) (0 : Int) < (↑(List.length y1) : Int)) ∧
                  w_spec_l05Is y2 y3
                    (List.set (List.set y1 (Int.toNat a4) (Go.IntKind.wrap Go.IntKind.i64 (List.getD y1 (Int.toNat a4) (0 : Int) - (1 : Int))))
                      (Int.toNat (List.getD y4 (Int.toNat a5) (0 : Int)))
                      (Go.IntKind.wrap Go.IntKind.i64
                        (List.getD (List.set y1 (Int.toNat a4) (Go.IntKind.wrap Go.IntKind.i64 (List.getD y1 (Int.toNat a4) (0 : Int) - (1 : Int))))
                            (Int.toNat (List.getD y4 (Int.toNat a5) (0 : Int))) (0 : Int) +
                          (1 : Int))))
                    fun y5 =>
                    Go.K.ifB (!y5) (K [] (0 : Int) (0 : Int) (0 : Int) Bool.false)
                      (w_spec_l05Bonds a1 a2 a3 fun y6 =>
                        w_spec_l05Bonds y2 y3
                          (List.set (List.set y1 (Int.toNat a4) (Go.IntKind.wrap Go.IntKind.i64 (List.getD y1 (Int.toNat a4) (0 : Int) - (1 : Int))))
                            (Int.toNat (List.getD y4 (Int.toNat a5) (0 : Int)))
                            (Go.IntKind.wrap Go.IntKind.i64
                              (List.getD (List.set y1 (Int.toNat a4) (Go.IntKind.wrap Go.IntKind.i64 (List.getD y1 (Int.toNat a4) (0 : Int) - (1 : Int))))
                                  (Int.toNat (List.getD y4 (Int.toNat a5) (0 : Int))) (0 : Int) +
                                (1 : Int))))
                          fun y7 =>
                          K
                            (List.set (List.set y1 (Int.toNat a4) (Go.IntKind.wrap Go.IntKind.i64 (List.getD y1 (Int.toNat a4) (0 : Int) - (1 : Int))))
                              (Int.toNat (List.getD y4 (Int.toNat a5) (0 : Int)))
                              (Go.IntKind.wrap Go.IntKind.i64
                                (List.getD (List.set y1 (Int.toNat a4) (Go.IntKind.wrap Go.IntKind.i64 (List.getD y1 (Int.toNat a4) (0 : Int) - (1 : Int))))
                                    (Int.toNat (List.getD y4 (Int.toNat a5) (0 : Int))) (0 : Int) +
                                  (1 : Int))))
                            y2 y3 (Go.IntKind.wrap Go.IntKind.i64 (y6 - y7)) Bool.true))) := by kernel_rfl
theorem spec_l05Hop.eq (a1 : Int) (a2 : Int) (a3 : List Int) (a4 : Int) (a5 : Int) (K : List Int → Int → Int → Int → Bool → Prop) : spec_l05Hop.wp a1 a2 a3 a4 a5 K =
  (((0 : Int) ≤ a4 ∧ a4 < (↑(List.length a3) : Int)) ∧
  Go.K.ifB (List.getD a3 (Int.toNat a4) (0 : Int) == (0 : Int)) (K [] (0 : Int) (0 : Int) (0 : Int) Bool.false)
    (Go.K.heights.spec_l05Own.wp a1 a2 a3 fun y1 y2 y3 =>
      ((0 : Int) ≤ a4 ∧ a4 < (↑(List.length y1) : Int)) ∧
        ((0 : Int) ≤ a4 ∧ a4 < (↑(List.length y1) : Int)) ∧
          Go.K.heights.spec_l05Near.wp a1 a2 a3 a4 fun y4 =>
            ((0 : Int) ≤ a5 ∧ a5 < (↑(List.length y4) : Int)) ∧
              ((0 : Int) ≤ List.getD y4 (Int.toNat a5) (0 : Int) ∧ List.getD y4 (Int.toNat a5) (0 : Int) < (↑(List.length y1) : Int)) ∧
                ((0 : Int) ≤ List.getD y4 (Int.toNat a5) (0 : Int) ∧ List.getD y4 (Int.toNat a5) (0 : Int) < (↑(List.length y1) : Int)) ∧
                  Go.K.heights.spec_l05Is.wp y2 y3
                    (List.set (List.set y1 (Int.toNat a4) (Go.IntKind.wrap Go.IntKind.i64 (List.getD y1 (Int.toNat a4) (0 : Int) - (1 : Int))))
                      (Int.toNat (List.getD y4 (Int.toNat a5) (0 : Int)))
                      (Go.IntKind.wrap Go.IntKind.i64
                        (List.getD (List.set y1 (Int.toNat a4) (Go.IntKind.wrap Go.IntKind.i64 (List.getD y1 (Int.toNat a4) (0 : Int) - (1 : Int))))
                            (Int.toNat (List.getD y4 (Int.toNat a5) (0 : Int))) (0 : Int) +
                          (1 : Int))))
                    fun y5 =>
                    Go.K.ifB (!y5) (K [] (0 : Int) (0 : Int) (0 : Int) Bool.false)
                      (Go.K.heights.spec_l05Bonds.wp a1 a2 a3 fun y6 =>
                        Go.K.heights.spec_l05Bonds.wp y2 y3
                          (List.set (List.set y1 (Int.toNat a4) (Go.IntKind.wrap Go.IntKind.i64 (List.getD y1 (Int.toNat a4) (0 : Int) - (1 : Int))))
                            (Int.toNat (List.getD y4 (Int.toNat a5) (0 : Int)))
                            (Go.IntKind.wrap Go.IntKind.i64
                              (List.getD (List.set y1 (Int.toNat a4) (Go.IntKind.wrap Go.IntKind.i64 (List.getD y1 (Int.toNat a4) (0 : Int) - (1 : Int))))
                                  (Int.toNat (List.getD y4 (Int.toNat a5) (0 : Int))) (0 : Int) +
                                (1 : Int))))
                          fun y7 =>
                          K
                            (List.set (List.set y1 (Int.toNat a4) (Go.IntKind.wrap Go.IntKind.i64 (List.getD y1 (Int.toNat a4) (0 : Int) - (1 : Int))))
                              (Int.toNat (List.getD y4 (Int.toNat a5) (0 : Int)))
                              (Go.IntKind.wrap Go.IntKind.i64
                                (List.getD (List.set y1 (Int.toNat a4) (Go.IntKind.wrap Go.IntKind.i64 (List.getD y1 (Int.toNat a4) (0 : Int) - (1 : Int))))
                                    (Int.toNat (List.getD y4 (Int.toNat a5) (0 : Int))) (0 : Int) +
                                  (1 : Int))))
                            y2 y3 (Go.IntKind.wrap Go.IntKind.i64 (y6 - y7)) Bool.true))) := spec_l05Hop.tx spec_l05Own.wp spec_l05Near.wp spec_l05Is.wp spec_l05Bonds.wp a1 a2 a3 a4 a5 K

theorem spec_HopTo.tx (w_spec_l05Cell : Int → Int → List Int → Int → Int → (Bool → Prop) → Prop) (w_spec_l00In : Int → Int → Int → (Bool → Prop) → Prop) (w_spec_l05Hop : Int → Int → List Int → Int → Int → (List Int → Int → Int → Int → Bool → Prop) → Prop) (a1 : List Int) (a2 : Int) (a3 : Int) (a4 : Int) (a5 : Int) (a6 : Int) (K : List Int → Int → Int → Int → Bool → Prop) : spec_HopTo.bd w_spec_l05Cell w_spec_l00In w_spec_l05Hop a1 a2 a3 a4 a5 a6 K =
  (w_spec_l05Cell a2 a3 a1 a4 a5 fun y1 =>
  Go.K.ifB (!y1) (K [] (0 : Int) (0 : Int) (0 : Int) Bool.false)
    (w_spec_l00In a6 (0 : Int) (3 : Int) fun y2 =>
      Go.K.ifB (!y2) (K [] (0 : Int) (0 : Int) (0 : Int) Bool.false)
        (w_spec_l05Hop a2 a3 a1 (Go.IntKind.wrap Go.IntKind.i64 (a4 + Go.IntKind.wrap Go.IntKind.i64 (a2 * a5))) a6 fun y3 y4 y5 y6 y7 =>
          K y3 y4 y5 y6 y7))) := by kernel_rfl
theorem spec_HopTo.eq (a1 : List Int) (a2 : Int) (a3 : Int) (a4 : Int) (a5 : Int) (a6 : Int) (K : List Int → Int → Int → Int → Bool → Prop) : spec_HopTo.wp a1 a2 a3 a4 a5 a6 K =
  (Go.K.heights.spec_l05Cell.wp a2 a3 a1 a4 a5 fun y1 =>
  Go.K.ifB (!y1) (K [] (0 : Int) (0 : Int) (0 : Int) Bool.false)
    (Go.K.heights.spec_l00In.wp a6 (0 : Int) (3 : Int) fun y2 =>
      Go.K.ifB (!y2) (K [] (0 : Int) (0 : Int) (0 : Int) Bool.false)
        (Go.K.heights.spec_l05Hop.wp a2 a3 a1 (Go.IntKind.wrap Go.IntKind.i64 (a4 + Go.IntKind.wrap Go.IntKind.i64 (a2 * a5))) a6 fun y3 y4 y5 y6 y7 =>
          K y3 y4 y5 y6 y7))) := spec_HopTo.tx spec_l05Cell.wp spec_l00In.wp spec_l05Hop.wp a1 a2 a3 a4 a5 a6 K

theorem laws_markInt64S.tx  (a1 : List Int) (a2 : Int) (K : List Int → Int → Prop) : laws_markInt64S.bd  a1 a2 K =
  (∀ (J1 : List Int → Int → Int → Prop),
  (∀ (x2 : List Int) (x3 x4 : Int),
      Go.K.ifB (Decidable.decide (x4 < (↑(List.length a1) : Int)))
          (((0 : Int) ≤ x4 ∧ x4 < (↑(List.length a1) : Int)) ∧
            J1 (List.set x2 (Int.toNat x4) x3) (Go.IntKind.wrap Go.IntKind.i64 (x3 + (1 : Int))) (Go.IntKind.wrap Go.IntKind.i64 (x4 + (1 : Int))))
          (K x2 x3) →
        J1 x2 x3 x4) →
    J1 a1 a2 (0 : Int)) := by kernel_rfl
theorem laws_markInt64S.eq (a1 : List Int) (a2 : Int) (K : List Int → Int → Prop) : laws_markInt64S.wp a1 a2 K =
  (∀ (J1 : List Int → Int → Int → Prop),
  (∀ (x2 : List Int) (x3 x4 : Int),
      Go.K.ifB (Decidable.decide (x4 < (↑(List.length a1) : Int)))
          (((0 : Int) ≤ x4 ∧ x4 < (↑(List.length a1) : Int)) ∧
            J1 (List.set x2 (Int.toNat x4) x3) (Go.IntKind.wrap Go.IntKind.i64 (x3 + (1 : Int))) (Go.IntKind.wrap Go.IntKind.i64 (x4 + (1 : Int))))
          (K x2 x3) →
        J1 x2 x3 x4) →
    J1 a1 a2 (0 : Int)) := laws_markInt64S.tx  a1 a2 K

theorem laws_markHeights.tx (w_laws_markInt64S : List Int → Int → (List Int → Int → Prop) → Prop) (a1 : List Int) (a2 : Int) (a3 : Int) (a4 : Int) (K : List Int → Int → Prop) : laws_markHeights.bd w_laws_markInt64S a1 a2 a3 a4 K =
  (w_laws_markInt64S a1 a4 fun y1 y2 => K y1 y2) := by kernel_rfl
theorem laws_markHeights.eq (a1 : List Int) (a2 : Int) (a3 : Int) (a4 : Int) (K : List Int → Int → Prop) : laws_markHeights.wp a1 a2 a3 a4 K =
  (Go.K.heights.laws_markInt64S.wp a1 a4 fun y1 y2 => K y1 y2) := laws_markHeights.tx laws_markInt64S.wp a1 a2 a3 a4 K

theorem laws_heldInt64S.tx  (a1 : List Int) (a2 : Int) (K : Int → Prop) : laws_heldInt64S.bd  a1 a2 K =
  (∀ (J1 : Int → Int → Prop),
  (∀ (x2 x3 : Int),
      Go.K.ifB (Decidable.decide (x3 < (↑(List.length a1) : Int)))
          (((0 : Int) ≤ x3 ∧ x3 < (↑(List.length a1) : Int)) ∧
            Go.K.ifB (List.getD a1 (Int.toNat x3) (0 : Int) != x2) (K (-1 : Int))
              (J1 (Go.IntKind.wrap Go.IntKind.i64 (x2 + (1 : Int))) (Go.IntKind.wrap Go.IntKind.i64 (x3 + (1 : Int)))))
          (K x2) →
        J1 x2 x3) →
    J1 a2 (0 : Int)) := by kernel_rfl
theorem laws_heldInt64S.eq (a1 : List Int) (a2 : Int) (K : Int → Prop) : laws_heldInt64S.wp a1 a2 K =
  (∀ (J1 : Int → Int → Prop),
  (∀ (x2 x3 : Int),
      Go.K.ifB (Decidable.decide (x3 < (↑(List.length a1) : Int)))
          (((0 : Int) ≤ x3 ∧ x3 < (↑(List.length a1) : Int)) ∧
            Go.K.ifB (List.getD a1 (Int.toNat x3) (0 : Int) != x2) (K (-1 : Int))
              (J1 (Go.IntKind.wrap Go.IntKind.i64 (x2 + (1 : Int))) (Go.IntKind.wrap Go.IntKind.i64 (x3 + (1 : Int)))))
          (K x2) →
        J1 x2 x3) →
    J1 a2 (0 : Int)) := laws_heldInt64S.tx  a1 a2 K

theorem laws_heldHeights.tx (w_laws_heldInt64S : List Int → Int → (Int → Prop) → Prop) (a1 : List Int) (a2 : Int) (a3 : Int) (a4 : Int) (K : Int → Prop) : laws_heldHeights.bd w_laws_heldInt64S a1 a2 a3 a4 K =
  (w_laws_heldInt64S a1 a4 fun y1 => Go.K.ifB (Decidable.decide (y1 < (0 : Int))) (K (-1 : Int)) (K y1)) := by kernel_rfl
theorem laws_heldHeights.eq (a1 : List Int) (a2 : Int) (a3 : Int) (a4 : Int) (K : Int → Prop) : laws_heldHeights.wp a1 a2 a3 a4 K =
  (Go.K.heights.laws_heldInt64S.wp a1 a4 fun y1 => Go.K.ifB (Decidable.decide (y1 < (0 : Int))) (K (-1 : Int)) (K y1)) := laws_heldHeights.tx laws_heldInt64S.wp a1 a2 a3 a4 K

theorem laws_FnExactHopTo.tx (w_laws_szHeights : List Int → Int → Int → Int → (Int → Prop) → Prop) (w_laws_toHeights : List Int → Int → Int → (List Int → Int → Int → Prop) → Prop) (w_spec_HopTo : List Int → Int → Int → Int → Int → Int → (List Int → Int → Int → Int → Bool → Prop) → Prop) (w_impl_HopTo : List Int → Int → Int → Int → Int → Int → (List Int → Int → Int → Int → Bool → Prop) → Prop) (w_laws_eqHeights : List Int → List Int → Int → Int → Int → Int → (Bool → Prop) → Prop) (w_laws_markHeights : List Int → Int → Int → Int → (List Int → Int → Prop) → Prop) (w_laws_heldHeights : List Int → Int → Int → Int → (Int → Prop) → Prop) (a1 : List Int) (a2 : Int) (a3 : Int) (a4 : Int) (a5 : Int) (a6 : Int) (K : Bool → Prop) : laws_FnExactHopTo.bd w_laws_szHeights w_laws_toHeights w_spec_HopTo w_impl_HopTo w_laws_eqHeights w_laws_markHeights w_laws_heldHeights a1 a2 a3 a4 a5 a6 K =
  (w_laws_szHeights a1 a2 a3 (1048576 : Int) fun y1 =>
  Go.K.ifB (Decidable.decide (y1 < (0 : Int))) (K Bool.true)
    (w_laws_toHeights a1 a2 a3 fun y2 y3 y4 =>
      w_spec_HopTo y2 y3 y4 a4 a5 a6 fun y5 y6 y7 y8 y9 =>
        w_laws_toHeights a1 a2 a3 fun y10 y11 y12 =>
          w_impl_HopTo y10 y11 y12 a4 a5 a6 fun y13 y14 y15 y16 y17 =>
            w_laws_eqHeights y13 y5 y14 y15 y6 y7 fun y18 =>
              Go.K.ifB (!y18) (K Bool.false)
                (Go.K.ifB (y16 != y8) (K Bool.false)
                  (Go.K.ifB (y17 != y9) (K Bool.false)
                    (w_laws_toHeights a1 a2 a3 fun y19 y20 y21 =>
                      w_laws_eqHeights y10 y19 y11 y12 y20 y21 fun y22 =>
                        Go.K.ifB (!y22) (K Bool.false)
                          (w_laws_markHeights y10 y11 y12 (1 : Int) fun y23 y24 =>
                            Go.K.ifB (Decidable.decide (y24 < (0 : Int))) (K Bool.false)
                              (w_laws_eqHeights y13 y5 y14 y15 y6 y7 fun y25 =>
                                Go.K.ifB (!y25) (K Bool.false)
                                  (Go.K.ifB (y16 != y8) (K Bool.false)
                                    (Go.K.ifB (y17 != y9) (K Bool.false)
                                      (w_laws_markHeights y13 y14 y15 (1 : Int) fun y26 y27 =>
                                        w_laws_heldHeights y26 y14 y15 (1 : Int) fun y28 =>
                                          Go.K.ifB (Decidable.decide (y28 < (0 : Int))) (K Bool.false)
                                            (Go.K.ifB (y28 != y27) (K Bool.false)
                                              (w_laws_toHeights a1 a2 a3 fun y29 y30 y31 =>
                                                w_impl_HopTo y29 y30 y31 a4 a5 a6 fun y32 y33 y34 y35 y36 =>
                                                  w_laws_eqHeights y32 y5 y33 y34 y6 y7 fun y37 =>
                                                    Go.K.ifB (!y37) (K Bool.false)
                                                      (Go.K.ifB (y35 != y8) (K Bool.false)
                                                        (Go.K.ifB (y36 != y9) (K Bool.false)
                                                          (w_laws_heldHeights y26 y14 y15 (1 : Int) fun y38 =>
                                                            Go.K.ifB (Decidable.decide (y38 < (0 : Int))) (K Bool.false)
                                                              (Go.K.ifB (y38 != y27) (K Bool.false) (K Bool.true))))))))))))))))) := by kernel_rfl
theorem laws_FnExactHopTo.eq (a1 : List Int) (a2 : Int) (a3 : Int) (a4 : Int) (a5 : Int) (a6 : Int) (K : Bool → Prop) : laws_FnExactHopTo.wp a1 a2 a3 a4 a5 a6 K =
  (Go.K.heights.laws_szHeights.wp a1 a2 a3 (1048576 : Int) fun y1 =>
  Go.K.ifB (Decidable.decide (y1 < (0 : Int))) (K Bool.true)
    (Go.K.heights.laws_toHeights.wp a1 a2 a3 fun y2 y3 y4 =>
      Go.K.heights.spec_HopTo.wp y2 y3 y4 a4 a5 a6 fun y5 y6 y7 y8 y9 =>
        Go.K.heights.laws_toHeights.wp a1 a2 a3 fun y10 y11 y12 =>
          Go.K.heights.impl_HopTo.wp y10 y11 y12 a4 a5 a6 fun y13 y14 y15 y16 y17 =>
            Go.K.heights.laws_eqHeights.wp y13 y5 y14 y15 y6 y7 fun y18 =>
              Go.K.ifB (!y18) (K Bool.false)
                (Go.K.ifB (y16 != y8) (K Bool.false)
                  (Go.K.ifB (y17 != y9) (K Bool.false)
                    (Go.K.heights.laws_toHeights.wp a1 a2 a3 fun y19 y20 y21 =>
                      Go.K.heights.laws_eqHeights.wp y10 y19 y11 y12 y20 y21 fun y22 =>
                        Go.K.ifB (!y22) (K Bool.false)
                          (Go.K.heights.laws_markHeights.wp y10 y11 y12 (1 : Int) fun y23 y24 =>
                            Go.K.ifB (Decidable.decide (y24 < (0 : Int))) (K Bool.false)
                              (Go.K.heights.laws_eqHeights.wp y13 y5 y14 y15 y6 y7 fun y25 =>
                                Go.K.ifB (!y25) (K Bool.false)
                                  (Go.K.ifB (y16 != y8) (K Bool.false)
                                    (Go.K.ifB (y17 != y9) (K Bool.false)
                                      (Go.K.heights.laws_markHeights.wp y13 y14 y15 (1 : Int) fun y26 y27 =>
                                        Go.K.heights.laws_heldHeights.wp y26 y14 y15 (1 : Int) fun y28 =>
                                          Go.K.ifB (Decidable.decide (y28 < (0 : Int))) (K Bool.false)
                                            (Go.K.ifB (y28 != y27) (K Bool.false)
                                              (Go.K.heights.laws_toHeights.wp a1 a2 a3 fun y29 y30 y31 =>
                                                Go.K.heights.impl_HopTo.wp y29 y30 y31 a4 a5 a6 fun y32 y33 y34 y35 y36 =>
                                                  Go.K.heights.laws_eqHeights.wp y32 y5 y33 y34 y6 y7 fun y37 =>
                                                    Go.K.ifB (!y37) (K Bool.false)
                                                      (Go.K.ifB (y35 != y8) (K Bool.false)
                                                        (Go.K.ifB (y36 != y9) (K Bool.false)
                                                          (Go.K.heights.laws_heldHeights.wp y26 y14 y15 (1 : Int) fun y38 =>
                                                            Go.K.ifB (Decidable.decide (y38 < (0 : Int))) (K Bool.false)
                                                              (Go.K.ifB (y38 != y27) (K Bool.false) (K Bool.true))))))))))))))))) := laws_FnExactHopTo.tx laws_szHeights.wp laws_toHeights.wp spec_HopTo.wp impl_HopTo.wp laws_eqHeights.wp laws_markHeights.wp laws_heldHeights.wp a1 a2 a3 a4 a5 a6 K

theorem impl_Heights_fell.tx (w_impl_Heights_cell : List Int → Int → Int → Int → Int → (Int → Prop) → Prop) (w_impl_Heights_beside : List Int → Int → Int → Int → Int → (List Int → Prop) → Prop) (a1 : List Int) (a2 : Int) (a3 : Int) (a4 : Int) (a5 : Int) (a6 : Int) (K : List Int → Prop) : impl_Heights_fell.bd w_impl_Heights_cell w_impl_Heights_beside a1 a2 a3 a4 a5 a6 K =
  (w_impl_Heights_cell a1 a2 a3 a5 a6 fun y1 =>
  Go.K.ifB (a4 == (0 : Int))
    (((0 : Int) ≤ y1 ∧ y1 < (↑(List.length a1) : Int)) ∧
      ((0 : Int) ≤ y1 ∧ y1 < (↑(List.length a1) : Int)) ∧ K (List.set a1 (Int.toNat y1) (Go.IntKind.wrap Go.IntKind.i64 (List.getD a1 (Int.toNat y1) (0 : Int) + (1 : Int)))))
    (Go.K.ifB (a4 == (1 : Int))
      (w_impl_Heights_beside a1 a2 a3 a5 a6 fun y2 =>
        ∀ (J3 : List Int → Int → Int → List Int → Int → Int → Int → Prop),
          (∀ (x4 : List Int) (x5 x6 : Int) (x7 : List Int) (x8 x9 x10 : Int),
              Go.K.ifB (Decidable.decide (x10 < x9))
                  (((0 : Int) ≤ x10 ∧ x10 < (↑(List.length x7) : Int)) ∧
                    ((0 : Int) ≤ List.getD x7 (Int.toNat x10) (0 : Int) ∧ List.getD x7 (Int.toNat x10) (0 : Int) < (↑(List.length x4) : Int)) ∧
                      ((0 : Int) ≤ x8 ∧ x8 < (↑(List.length x4) : Int)) ∧
                        Go.K.ifB (Decidable.decide (List.getD x4 (Int.toNat (List.getD x7 (Int.toNat x10) (0 : Int))) (0 : Int) < List.getD x4 (Int.toNat x8) (0 : Int)))
                          (J3 x4 x5 x6 x7 (List.getD x7 (Int.toNat x10) (0 : Int)) x9 (Go.IntKind.wrap Go.IntKind.i64 (x10 + (1 : Int))))
                          (J3 x4 x5 x6 x7 x8 x9 (Go.IntKind.wrap Go.IntKind.i64 (x10 + (1 : Int)))))
                  (((0 : Int) ≤ x8 ∧ x8 < (↑(List.length x4) : Int)) ∧
                    ((0 : Int) ≤ x8 ∧ x8 < (↑(List.length x4) : Int)) ∧
                      K (List.set x4 (Int.toNat x8) (Go.IntKind.wrap Go.IntKind.i64 (List.getD x4 (Int.toNat x8) (0 : Int) + (1 : Int))))) →
                J3 x4 x5 x6 x7 x8 x9 x10) →
            J3 a1 a2 a3 y2 y1 (↑(List.length y2) : Int) (0 : Int))
      (((0 : Int) ≤ y1 ∧ y1 < (↑(List.length a1) : Int)) ∧
        ((0 : Int) ≤ y1 ∧ y1 < (↑(List.length a1) : Int)) ∧
          w_impl_Heights_beside (List.set a1 (Int.toNat y1) (Go.IntKind.wrap Go.IntKind.i64 (List.getD a1 (Int.toNat y1) (0 : Int) + (1 : Int)))) a2 a3 a5 a6
            fun y13 =>
            ∀ (J14 : List Int → Int → Int → List Int → Int → Int → Int → Prop),
              (∀ (x15 : List Int) (x16 x17 : Int) (x18 : List Int) (x19 x20 x21 : Int),
                  Go.K.ifB (Decidable.decide (x21 < x20))
                      (((0 : Int) ≤ x21 ∧ x21 < (↑(List.length x18) : Int)) ∧
                        ((0 : Int) ≤ x19 ∧ x19 < (↑(List.length x15) : Int)) ∧
                          ((0 : Int) ≤ List.getD x18 (Int.toNat x21) (0 : Int) ∧ List.getD x18 (Int.toNat x21) (0 : Int) < (↑(List.length x15) : Int)) ∧
                            ((0 : Int) ≤ x19 ∧ x19 < (↑(List.length x15) : Int)) ∧
                              J14
                                (List.set x15 (Int.toNat x19)
                                  (Go.K.mmI Bool.true (List.getD x15 (Int.toNat x19) (0 : Int)) (List.getD x15 (Int.toNat (List.getD x18 (Int.toNat x21) (0 : Int))) (0 : Int))))
                                x16 x17 x18 x19 x20 (Go.IntKind.wrap Go.IntKind.i64 (x21 + (1 : Int))))
                      (K x15) →
                    J14 x15 x16 x17 x18 x19 x20 x21) →
                J14 (List.set a1 (Int.toNat y1) (Go.IntKind.wrap Go.IntKind.i64 (List.getD a1 (Int.toNat y1) (0 : Int) + (1 : Int)))) a2 a3 y13 y1 (↑(List.length y13) : Int)
                  (0 : Int)))) := by kernel_rfl
theorem impl_Heights_fell.eq (a1 : List Int) (a2 : Int) (a3 : Int) (a4 : Int) (a5 : Int) (a6 : Int) (K : List Int → Prop) : impl_Heights_fell.wp a1 a2 a3 a4 a5 a6 K =
  (Go.K.heights.impl_Heights_cell.wp a1 a2 a3 a5 a6 fun y1 =>
  Go.K.ifB (a4 == (0 : Int))
    (((0 : Int) ≤ y1 ∧ y1 < (↑(List.length a1) : Int)) ∧
      ((0 : Int) ≤ y1 ∧ y1 < (↑(List.length a1) : Int)) ∧ K (List.set a1 (Int.toNat y1) (Go.IntKind.wrap Go.IntKind.i64 (List.getD a1 (Int.toNat y1) (0 : Int) + (1 : Int)))))
    (Go.K.ifB (a4 == (1 : Int))
      (Go.K.heights.impl_Heights_beside.wp a1 a2 a3 a5 a6 fun y2 =>
        ∀ (J3 : List Int → Int → Int → List Int → Int → Int → Int → Prop),
          (∀ (x4 : List Int) (x5 x6 : Int) (x7 : List Int) (x8 x9 x10 : Int),
              Go.K.ifB (Decidable.decide (x10 < x9))
                  (((0 : Int) ≤ x10 ∧ x10 < (↑(List.length x7) : Int)) ∧
                    ((0 : Int) ≤ List.getD x7 (Int.toNat x10) (0 : Int) ∧ List.getD x7 (Int.toNat x10) (0 : Int) < (↑(List.length x4) : Int)) ∧
                      ((0 : Int) ≤ x8 ∧ x8 < (↑(List.length x4) : Int)) ∧
                        Go.K.ifB (Decidable.decide (List.getD x4 (Int.toNat (List.getD x7 (Int.toNat x10) (0 : Int))) (0 : Int) < List.getD x4 (Int.toNat x8) (0 : Int)))
                          (J3 x4 x5 x6 x7 (List.getD x7 (Int.toNat x10) (0 : Int)) x9 (Go.IntKind.wrap Go.IntKind.i64 (x10 + (1 : Int))))
                          (J3 x4 x5 x6 x7 x8 x9 (Go.IntKind.wrap Go.IntKind.i64 (x10 + (1 : Int)))))
                  (((0 : Int) ≤ x8 ∧ x8 < (↑(List.length x4) : Int)) ∧
                    ((0 : Int) ≤ x8 ∧ x8 < (↑(List.length x4) : Int)) ∧
                      K (List.set x4 (Int.toNat x8) (Go.IntKind.wrap Go.IntKind.i64 (List.getD x4 (Int.toNat x8) (0 : Int) + (1 : Int))))) →
                J3 x4 x5 x6 x7 x8 x9 x10) →
            J3 a1 a2 a3 y2 y1 (↑(List.length y2) : Int) (0 : Int))
      (((0 : Int) ≤ y1 ∧ y1 < (↑(List.length a1) : Int)) ∧
        ((0 : Int) ≤ y1 ∧ y1 < (↑(List.length a1) : Int)) ∧
          Go.K.heights.impl_Heights_beside.wp (List.set a1 (Int.toNat y1) (Go.IntKind.wrap Go.IntKind.i64 (List.getD a1 (Int.toNat y1) (0 : Int) + (1 : Int)))) a2 a3 a5 a6
            fun y13 =>
            ∀ (J14 : List Int → Int → Int → List Int → Int → Int → Int → Prop),
              (∀ (x15 : List Int) (x16 x17 : Int) (x18 : List Int) (x19 x20 x21 : Int),
                  Go.K.ifB (Decidable.decide (x21 < x20))
                      (((0 : Int) ≤ x21 ∧ x21 < (↑(List.length x18) : Int)) ∧
                        ((0 : Int) ≤ x19 ∧ x19 < (↑(List.length x15) : Int)) ∧
                          ((0 : Int) ≤ List.getD x18 (Int.toNat x21) (0 : Int) ∧ List.getD x18 (Int.toNat x21) (0 : Int) < (↑(List.length x15) : Int)) ∧
                            ((0 : Int) ≤ x19 ∧ x19 < (↑(List.length x15) : Int)) ∧
                              J14
                                (List.set x15 (Int.toNat x19)
                                  (Go.K.mmI Bool.true (List.getD x15 (Int.toNat x19) (0 : Int)) (List.getD x15 (Int.toNat (List.getD x18 (Int.toNat x21) (0 : Int))) (0 : Int))))
                                x16 x17 x18 x19 x20 (Go.IntKind.wrap Go.IntKind.i64 (x21 + (1 : Int))))
                      (K x15) →
                    J14 x15 x16 x17 x18 x19 x20 x21) →
                J14 (List.set a1 (Int.toNat y1) (Go.IntKind.wrap Go.IntKind.i64 (List.getD a1 (Int.toNat y1) (0 : Int) + (1 : Int)))) a2 a3 y13 y1 (↑(List.length y13) : Int)
                  (0 : Int)))) := impl_Heights_fell.tx impl_Heights_cell.wp impl_Heights_beside.wp a1 a2 a3 a4 a5 a6 K

theorem impl_RainOn.tx (w_impl_ValidHeights : List Int → Int → Int → (Bool → Prop) → Prop) (w_impl_within : Int → Int → Int → (Bool → Prop) → Prop) (w_impl_isSeed : Int → (Bool → Prop) → Prop) (w_impl_Heights_cloned : List Int → Int → Int → (List Int → Int → Int → Prop) → Prop) (w_impl_use : Int → Int → (Int → Int → Prop) → Prop) (w_impl_Heights_fell : List Int → Int → Int → Int → Int → Int → (List Int → Prop) → Prop) (a1 : List Int) (a2 : Int) (a3 : Int) (a4 : Int) (a5 : Int) (a6 : Int) (K : List Int → Int → Int → Int → Bool → Prop) : impl_RainOn.bd w_impl_ValidHeights w_impl_within w_impl_isSeed w_impl_Heights_cloned w_impl_use w_impl_Heights_fell a1 a2 a3 a4 a5 a6 K =
  (w_impl_ValidHeights a1 a2 a3 fun y1 =>
  Go.K.ifB (!y1) (K [] (0 : Int) (0 : Int) (0 : Int) Bool.false)
    (w_impl_within a4 (0 : Int) (2 : Int) fun y2 =>
      Go.K.ifB (!y2) (K [] (0 : Int) (0 : Int) (0 : Int) Bool.false)
        (w_impl_within a5 (0 : Int) (500 : Int) fun y3 =>
          Go.K.ifB (!y3) (K [] (0 : Int) (0 : Int) (0 : Int) Bool.false)
            (w_impl_isSeed a6 fun y4 =>
              Go.K.ifB (!y4) (K [] (0 : Int) (0 : Int) (0 : Int) Bool.false)
                (w_impl_Heights_cloned a1 a2 a3 fun y5 y6 y7 =>
                  ∀ (J8 : Int → Int → Int → Int → Int → List Int → List Int → Int → Int → Prop),
                    (∀ (x9 x10 x11 x12 x13 : Int) (x14 x15 : List Int) (x16 x17 : Int),
                        Go.K.ifB (Decidable.decide (x17 < x16))
                            (w_impl_use x11 x9 fun y18 y19 =>
                              w_impl_use y18 x10 fun y20 y21 =>
                                w_impl_Heights_fell x14 x9 x10 a4 y19 y21 fun y22 =>
                                  J8 x9 x10 y20 x12 x13 y22 x15 x16 (Go.IntKind.wrap Go.IntKind.i64 (x17 + (1 : Int))))
                            (w_impl_ValidHeights x14 x9 x10 fun y23 => Go.K.ifB (!y23) (K [] (0 : Int) (0 : Int) (0 : Int) Bool.false) (K x14 x9 x10 x11 Bool.true)) →
                          J8 x9 x10 x11 x12 x13 x14 x15 x16 x17) →
                      J8 y6 y7 a6 (0 : Int) (0 : Int) y5 [] a5 (0 : Int)))))) := by kernel_rfl
theorem impl_RainOn.eq (a1 : List Int) (a2 : Int) (a3 : Int) (a4 : Int) (a5 : Int) (a6 : Int) (K : List Int → Int → Int → Int → Bool → Prop) : impl_RainOn.wp a1 a2 a3 a4 a5 a6 K =
  (Go.K.heights.impl_ValidHeights.wp a1 a2 a3 fun y1 =>
  Go.K.ifB (!y1) (K [] (0 : Int) (0 : Int) (0 : Int) Bool.false)
    (Go.K.heights.impl_within.wp a4 (0 : Int) (2 : Int) fun y2 =>
      Go.K.ifB (!y2) (K [] (0 : Int) (0 : Int) (0 : Int) Bool.false)
        (Go.K.heights.impl_within.wp a5 (0 : Int) (500 : Int) fun y3 =>
          Go.K.ifB (!y3) (K [] (0 : Int) (0 : Int) (0 : Int) Bool.false)
            (Go.K.heights.impl_isSeed.wp a6 fun y4 =>
              Go.K.ifB (!y4) (K [] (0 : Int) (0 : Int) (0 : Int) Bool.false)
                (Go.K.heights.impl_Heights_cloned.wp a1 a2 a3 fun y5 y6 y7 =>
                  ∀ (J8 : Int → Int → Int → Int → Int → List Int → List Int → Int → Int → Prop),
                    (∀ (x9 x10 x11 x12 x13 : Int) (x14 x15 : List Int) (x16 x17 : Int),
                        Go.K.ifB (Decidable.decide (x17 < x16))
                            (Go.K.heights.impl_use.wp x11 x9 fun y18 y19 =>
                              Go.K.heights.impl_use.wp y18 x10 fun y20 y21 =>
                                Go.K.heights.impl_Heights_fell.wp x14 x9 x10 a4 y19 y21 fun y22 =>
                                  J8 x9 x10 y20 x12 x13 y22 x15 x16 (Go.IntKind.wrap Go.IntKind.i64 (x17 + (1 : Int))))
                            (Go.K.heights.impl_ValidHeights.wp x14 x9 x10 fun y23 => Go.K.ifB (!y23) (K [] (0 : Int) (0 : Int) (0 : Int) Bool.false) (K x14 x9 x10 x11 Bool.true)) →
                          J8 x9 x10 x11 x12 x13 x14 x15 x16 x17) →
                      J8 y6 y7 a6 (0 : Int) (0 : Int) y5 [] a5 (0 : Int)))))) := impl_RainOn.tx impl_ValidHeights.wp impl_within.wp impl_isSeed.wp impl_Heights_cloned.wp impl_use.wp impl_Heights_fell.wp a1 a2 a3 a4 a5 a6 K

theorem impl_ShiftHeights_1.tx (w_impl_Heights_top : List Int → Int → Int → Int → Int → (Int → Prop) → Prop) (a1 : Int) (a2 : Int) (a3 : List Int) (a4 : Int) (a5 : Int) (a6 : Int) (a7 : Int) (K : Int → Prop) : impl_ShiftHeights_1.bd w_impl_Heights_top a1 a2 a3 a4 a5 a6 a7 K =
  (w_impl_Heights_top a3 a1 a2 (Go.IntKind.wrap Go.IntKind.i64 (a6 - a4)) (Go.IntKind.wrap Go.IntKind.i64 (a7 - a5)) fun y1 => K y1) := by kernel_rfl
theorem impl_ShiftHeights_1.eq (a1 : Int) (a2 : Int) (a3 : List Int) (a4 : Int) (a5 : Int) (a6 : Int) (a7 : Int) (K : Int → Prop) : impl_ShiftHeights_1.wp a1 a2 a3 a4 a5 a6 a7 K =
  (Go.K.heights.impl_Heights_top.wp a3 a1 a2 (Go.IntKind.wrap Go.IntKind.i64 (a6 - a4)) (Go.IntKind.wrap Go.IntKind.i64 (a7 - a5)) fun y1 => K y1) := impl_ShiftHeights_1.tx impl_Heights_top.wp a1 a2 a3 a4 a5 a6 a7 K

theorem impl_Heights_told.tx (w_impl_ValidHeights : List Int → Int → Int → (Bool → Prop) → Prop) (a1 : List Int) (a2 : Int) (a3 : Int) (K : List Int → Int → Int → Bool → Prop) : impl_Heights_told.bd w_impl_ValidHeights a1 a2 a3 K =
  (w_impl_ValidHeights a1 a2 a3 fun y1 => Go.K.ifB (!y1) (K [] (0 : Int) (0 : Int) Bool.false) (K a1 a2 a3 Bool.true)) := by kernel_rfl
theorem impl_Heights_told.eq (a1 : List Int) (a2 : Int) (a3 : Int) (K : List Int → Int → Int → Bool → Prop) : impl_Heights_told.wp a1 a2 a3 K =
  (Go.K.heights.impl_ValidHeights.wp a1 a2 a3 fun y1 => Go.K.ifB (!y1) (K [] (0 : Int) (0 : Int) Bool.false) (K a1 a2 a3 Bool.true)) := impl_Heights_told.tx impl_ValidHeights.wp a1 a2 a3 K

theorem impl_built__ShiftHeights_1.tx (w_impl_areWithin : List Int → Int → Int → (Bool → Prop) → Prop) (w_impl_ShiftHeights_1 : Int → Int → List Int → Int → Int → Int → Int → (Int → Prop) → Prop) (w_impl_Heights_told : List Int → Int → Int → (List Int → Int → Int → Bool → Prop) → Prop) (a1 : Int) (a2 : Int) (a3 : List
  Int) (a4 : Int) (a5 : Int) (a6 : Int) (a7 : Int) (K : List Int → Int → Int → Bool → Prop) : impl_built__ShiftHeights_1.bd w_impl_areWithin w_impl_ShiftHeights_1 w_impl_Heights_told a1 a2 a3 a4 a5 a6 a7 K =
  (w_impl_areWithin (a6 :: a7 :: List.replicate (0 : Nat) (0 : Int)) (2 : Int) (16 : Int) fun y1 =>
  Go.K.ifB (!y1) (K [] (0 : Int) (0 : Int) Bool.false)
    (∀ (J2 : Int → Int → Int → Int → List Int → List Int → Int → Int → Prop),
      (∀ (x3 x4 x5 x6 : Int) (x7 x8 : List Int) (x9 x10 : Int),
          Go.K.ifB (Decidable.decide (x10 < x9))
              (∀ (J11 : Int → Int → Int → Int → List Int → List Int → Int → Int → Int → Int → Int → Prop),
                (∀ (x12 x13 x14 x15 : Int) (x16 x17 : List Int) (x18 x19 x20 x21 x22 : Int),
                    Go.K.ifB (Decidable.decide (x22 < x21))
                        (w_impl_ShiftHeights_1 a1 a2 a3 a4 a5 x22 x18 fun y23 =>
                          List.length (x17 ++ y23 :: List.replicate (0 : Nat) (0 : Int)) ≤ (1099511627776 : Nat) ∧
                            J11 x12 x13 x14 x15 x16 (x17 ++ y23 :: List.replicate (0 : Nat) (0 : Int)) x18 x19 x20 x21 (Go.IntKind.wrap Go.IntKind.i64 (x22 + (1 : Int))))
                        (J2 x12 x13 x14 x15 x16 x17 x19 (Go.IntKind.wrap Go.IntKind.i64 (x20 + (1 : Int)))) →
                      J11 x12 x13 x14 x15 x16 x17 x18 x19 x20 x21 x22) →
                  J11 x3 x4 x5 x6 x7 x8 x10 x9 x10 a6 (0 : Int))
              (w_impl_Heights_told x8 x5 x6 fun y26 y27 y28 y29 => K y26 y27 y28 y29) →
            J2 x3 x4 x5 x6 x7 x8 x9 x10) →
        J2 (0 : Int) (0 : Int) a6 a7 [] [] a7 (0 : Int))) := by kernel_rfl
theorem impl_built__ShiftHeights_1.eq (a1 : Int) (a2 : Int) (a3 : List
  Int) (a4 : Int) (a5 : Int) (a6 : Int) (a7 : Int) (K : List Int → Int → Int → Bool → Prop) : impl_built__ShiftHeights_1.wp a1 a2 a3 a4 a5 a6 a7 K =
  (Go.K.heights.impl_areWithin.wp (a6 :: a7 :: List.replicate (0 : Nat) (0 : Int)) (2 : Int) (16 : Int) fun y1 =>
  Go.K.ifB (!y1) (K [] (0 : Int) (0 : Int) Bool.false)
    (∀ (J2 : Int → Int → Int → Int → List Int → List Int → Int → Int → Prop),
      (∀ (x3 x4 x5 x6 : Int) (x7 x8 : List Int) (x9 x10 : Int),
          Go.K.ifB (Decidable.decide (x10 < x9))
              (∀ (J11 : Int → Int → Int → Int → List Int → List Int → Int → Int → Int → Int → Int → Prop),
                (∀ (x12 x13 x14 x15 : Int) (x16 x17 : List Int) (x18 x19 x20 x21 x22 : Int),
                    Go.K.ifB (Decidable.decide (x22 < x21))
                        (Go.K.heights.impl_ShiftHeights_1.wp a1 a2 a3 a4 a5 x22 x18 fun y23 =>
                          List.length (x17 ++ y23 :: List.replicate (0 : Nat) (0 : Int)) ≤ (1099511627776 : Nat) ∧
                            J11 x12 x13 x14 x15 x16 (x17 ++ y23 :: List.replicate (0 : Nat) (0 : Int)) x18 x19 x20 x21 (Go.IntKind.wrap Go.IntKind.i64 (x22 + (1 : Int))))
                        (J2 x12 x13 x14 x15 x16 x17 x19 (Go.IntKind.wrap Go.IntKind.i64 (x20 + (1 : Int)))) →
                      J11 x12 x13 x14 x15 x16 x17 x18 x19 x20 x21 x22) →
                  J11 x3 x4 x5 x6 x7 x8 x10 x9 x10 a6 (0 : Int))
              (Go.K.heights.impl_Heights_told.wp x8 x5 x6 fun y26 y27 y28 y29 => K y26 y27 y28 y29) →
            J2 x3 x4 x5 x6 x7 x8 x9 x10) →
        J2 (0 : Int) (0 : Int) a6 a7 [] [] a7 (0 : Int))) := impl_built__ShiftHeights_1.tx impl_areWithin.wp impl_ShiftHeights_1.wp impl_Heights_told.wp a1 a2 a3 a4 a5 a6 a7 K

theorem impl_ShiftHeights.tx (w_impl_ValidHeights : List Int → Int → Int → (Bool → Prop) → Prop) (w_impl_areWithin : List Int → Int → Int → (Bool → Prop) → Prop) (w_impl_built__ShiftHeights_1 : Int → Int → List Int → Int → Int → Int → Int → (List Int → Int → Int → Bool → Prop) → Prop) (a1 : List Int) (a2 : Int) (a3 : Int) (a4 : Int) (a5 : Int) (K : List Int → Int → Int → Bool → Prop) : impl_ShiftHeights.bd w_impl_ValidHeights w_impl_areWithin w_impl_built__ShiftHeights_1 a1 a2 a3 a4 a5 K =
  (w_impl_ValidHeights a1 a2 a3 fun y1 =>
  Go.K.ifB (!y1) (K [] (0 : Int) (0 : Int) Bool.false)
    (w_impl_areWithin (a4 :: a5 :: List.replicate (0 : Nat) (0 : Int)) (-16 : Int) (16 : Int) fun y2 =>
      Go.K.ifB (!y2) (K [] (0 : Int) (0 : Int) Bool.false) (w_impl_built__ShiftHeights_1 a2 a3 a1 a4 a5 a2 a3 fun y3 y4 y5 y6 => K y3 y4 y5 y6))) := by kernel_rfl
theorem impl_ShiftHeights.eq (a1 : List Int) (a2 : Int) (a3 : Int) (a4 : Int) (a5 : Int) (K : List Int → Int → Int → Bool → Prop) : impl_ShiftHeights.wp a1 a2 a3 a4 a5 K =
  (Go.K.heights.impl_ValidHeights.wp a1 a2 a3 fun y1 =>
  Go.K.ifB (!y1) (K [] (0 : Int) (0 : Int) Bool.false)
    (Go.K.heights.impl_areWithin.wp (a4 :: a5 :: List.replicate (0 : Nat) (0 : Int)) (-16 : Int) (16 : Int) fun y2 =>
      Go.K.ifB (!y2) (K [] (0 : Int) (0 : Int) Bool.false) (Go.K.heights.impl_built__ShiftHeights_1.wp a2 a3 a1 a4 a5 a2 a3 fun y3 y4 y5 y6 => K y3 y4 y5 y6))) := impl_ShiftHeights.tx impl_ValidHeights.wp impl_areWithin.wp impl_built__ShiftHeights_1.wp a1 a2 a3 a4 a5 K

theorem impl_AddHeights_1.tx (w_impl_Heights_top : List Int → Int → Int → Int → Int → (Int → Prop) → Prop) (a1 : Int) (a2 : Int) (a3 : List
  Int) (a4 : Int) (a5 : Int) (a6 : List Int) (a7 : Int) (a8 : Int) (K : Int → Prop) : impl_AddHeights_1.bd w_impl_Heights_top a1 a2 a3 a4 a5 a6 a7 a8 K =
  (w_impl_Heights_top a3 a1 a2 a7 a8 fun y1 =>
  w_impl_Heights_top a6 a4 a5 a7 a8 fun y2 => K (Go.IntKind.wrap Go.IntKind.i64 (y1 + y2))) := by kernel_rfl
theorem impl_AddHeights_1.eq (a1 : Int) (a2 : Int) (a3 : List
  Int) (a4 : Int) (a5 : Int) (a6 : List Int) (a7 : Int) (a8 : Int) (K : Int → Prop) : impl_AddHeights_1.wp a1 a2 a3 a4 a5 a6 a7 a8 K =
  (Go.K.heights.impl_Heights_top.wp a3 a1 a2 a7 a8 fun y1 =>
  Go.K.heights.impl_Heights_top.wp a6 a4 a5 a7 a8 fun y2 => K (Go.IntKind.wrap Go.IntKind.i64 (y1 + y2))) := impl_AddHeights_1.tx impl_Heights_top.wp a1 a2 a3 a4 a5 a6 a7 a8 K

theorem impl_built__AddHeights_1.tx (w_impl_areWithin : List Int → Int → Int → (Bool → Prop) → Prop) (w_impl_AddHeights_1 : Int → Int → List Int → Int → Int → List Int → Int → Int → (Int → Prop) → Prop) (w_impl_Heights_told : List Int → Int → Int → (List Int → Int → Int → Bool → Prop) → Prop) (a1 : Int) (a2 : Int) (a3 : List
  Int) (a4 : Int) (a5 : Int) (a6 : List Int) (a7 : Int) (a8 : Int) (K : List Int → Int → Int → Bool → Prop) : impl_built__AddHeights_1.bd w_impl_areWithin w_impl_AddHeights_1 w_impl_Heights_told a1 a2 a3 a4 a5 a6 a7 a8 K =
  (w_impl_areWithin (a7 :: a8 :: List.replicate (0 : Nat) (0 : Int)) (2 : Int) (16 : Int) fun y1 =>
  Go.K.ifB (!y1) (K [] (0 : Int) (0 : Int) Bool.false)
    (∀ (J2 : Int → Int → Int → Int → List Int → List Int → Int → Int → Prop),
      (∀ (x3 x4 x5 x6 : Int) (x7 x8 : List Int) (x9 x10 : Int),
          Go.K.ifB (Decidable.decide (x10 < x9))
              (∀ (J11 : Int → Int → Int → Int → List Int → List Int → Int → Int → Int → Int → Int → Prop),
                (∀ (x12 x13 x14 x15 : Int) (x16 x17 : List Int) (x18 x19 x20 x21 x22 : Int),
                    Go.K.ifB (Decidable.decide (x22 < x21))
                        (w_impl_AddHeights_1 a1 a2 a3 a4 a5 a6 x22 x18 fun y23 =>
                          List.length (x17 ++ y23 :: List.replicate (0 : Nat) (0 : Int)) ≤ (1099511627776 : Nat) ∧
                            J11 x12 x13 x14 x15 x16 (x17 ++ y23 :: List.replicate (0 : Nat) (0 : Int)) x18 x19 x20 x21 (Go.IntKind.wrap Go.IntKind.i64 (x22 + (1 : Int))))
                        (J2 x12 x13 x14 x15 x16 x17 x19 (Go.IntKind.wrap Go.IntKind.i64 (x20 + (1 : Int)))) →
                      J11 x12 x13 x14 x15 x16 x17 x18 x19 x20 x21 x22) →
                  J11 x3 x4 x5 x6 x7 x8 x10 x9 x10 a7 (0 : Int))
              (w_impl_Heights_told x8 x5 x6 fun y26 y27 y28 y29 => K y26 y27 y28 y29) →
            J2 x3 x4 x5 x6 x7 x8 x9 x10) →
        J2 (0 : Int) (0 : Int) a7 a8 [] [] a8 (0 : Int))) := by kernel_rfl
theorem impl_built__AddHeights_1.eq (a1 : Int) (a2 : Int) (a3 : List
  Int) (a4 : Int) (a5 : Int) (a6 : List Int) (a7 : Int) (a8 : Int) (K : List Int → Int → Int → Bool → Prop) : impl_built__AddHeights_1.wp a1 a2 a3 a4 a5 a6 a7 a8 K =
  (Go.K.heights.impl_areWithin.wp (a7 :: a8 :: List.replicate (0 : Nat) (0 : Int)) (2 : Int) (16 : Int) fun y1 =>
  Go.K.ifB (!y1) (K [] (0 : Int) (0 : Int) Bool.false)
    (∀ (J2 : Int → Int → Int → Int → List Int → List Int → Int → Int → Prop),
      (∀ (x3 x4 x5 x6 : Int) (x7 x8 : List Int) (x9 x10 : Int),
          Go.K.ifB (Decidable.decide (x10 < x9))
              (∀ (J11 : Int → Int → Int → Int → List Int → List Int → Int → Int → Int → Int → Int → Prop),
                (∀ (x12 x13 x14 x15 : Int) (x16 x17 : List Int) (x18 x19 x20 x21 x22 : Int),
                    Go.K.ifB (Decidable.decide (x22 < x21))
                        (Go.K.heights.impl_AddHeights_1.wp a1 a2 a3 a4 a5 a6 x22 x18 fun y23 =>
                          List.length (x17 ++ y23 :: List.replicate (0 : Nat) (0 : Int)) ≤ (1099511627776 : Nat) ∧
                            J11 x12 x13 x14 x15 x16 (x17 ++ y23 :: List.replicate (0 : Nat) (0 : Int)) x18 x19 x20 x21 (Go.IntKind.wrap Go.IntKind.i64 (x22 + (1 : Int))))
                        (J2 x12 x13 x14 x15 x16 x17 x19 (Go.IntKind.wrap Go.IntKind.i64 (x20 + (1 : Int)))) →
                      J11 x12 x13 x14 x15 x16 x17 x18 x19 x20 x21 x22) →
                  J11 x3 x4 x5 x6 x7 x8 x10 x9 x10 a7 (0 : Int))
              (Go.K.heights.impl_Heights_told.wp x8 x5 x6 fun y26 y27 y28 y29 => K y26 y27 y28 y29) →
            J2 x3 x4 x5 x6 x7 x8 x9 x10) →
        J2 (0 : Int) (0 : Int) a7 a8 [] [] a8 (0 : Int))) := impl_built__AddHeights_1.tx impl_areWithin.wp impl_AddHeights_1.wp impl_Heights_told.wp a1 a2 a3 a4 a5 a6 a7 a8 K

theorem impl_AddHeights.tx (w_impl_ValidHeights : List Int → Int → Int → (Bool → Prop) → Prop) (w_impl_built__AddHeights_1 : Int → Int → List Int → Int → Int → List Int → Int → Int → (List Int → Int → Int → Bool → Prop) → Prop) (a1 : List
  Int) (a2 : List Int) (a3 : Int) (a4 : Int) (a5 : Int) (a6 : Int) (K : List Int → Int → Int → Bool → Prop) : impl_AddHeights.bd w_impl_ValidHeights w_impl_built__AddHeights_1 a1 a2 a3 a4 a5 a6 K =
  (w_impl_ValidHeights a1 a3 a4 fun y1 =>
  Go.K.ifB (!y1) (K [] (0 : Int) (0 : Int) Bool.false)
    (w_impl_ValidHeights a2 a5 a6 fun y2 =>
      Go.K.ifB (!y2) (K [] (0 : Int) (0 : Int) Bool.false)
        (Go.K.ifB (a3 != a5) (K [] (0 : Int) (0 : Int) Bool.false)
          (Go.K.ifB (a4 != a6) (K [] (0 : Int) (0 : Int) Bool.false)
            (w_impl_built__AddHeights_1 a3 a4 a1 a5 a6 a2 a3 a4 fun y3 y4 y5 y6 => K y3 y4 y5 y6))))) := by kernel_rfl
theorem impl_AddHeights.eq (a1 : List
  Int) (a2 : List Int) (a3 : Int) (a4 : Int) (a5 : Int) (a6 : Int) (K : List Int → Int → Int → Bool → Prop) : impl_AddHeights.wp a1 a2 a3 a4 a5 a6 K =
  (Go.K.heights.impl_ValidHeights.wp a1 a3 a4 fun y1 =>
  Go.K.ifB (!y1) (K [] (0 : Int) (0 : Int) Bool.false)
    (Go.K.heights.impl_ValidHeights.wp a2 a5 a6 fun y2 =>
      Go.K.ifB (!y2) (K [] (0 : Int) (0 : Int) Bool.false)
        (Go.K.ifB (a3 != a5) (K [] (0 : Int) (0 : Int) Bool.false)
          (Go.K.ifB (a4 != a6) (K [] (0 : Int) (0 : Int) Bool.false)
            (Go.K.heights.impl_built__AddHeights_1.wp a3 a4 a1 a5 a6 a2 a3 a4 fun y3 y4 y5 y6 => K y3 y4 y5 y6))))) := impl_AddHeights.tx impl_ValidHeights.wp impl_built__AddHeights_1.wp a1 a2 a3 a4 a5 a6 K

theorem impl_UseSeed.tx (w_impl_isSeed : Int → (Bool → Prop) → Prop) (w_impl_within : Int → Int → Int → (Bool → Prop) → Prop) (w_impl_use : Int → Int → (Int → Int → Prop) → Prop) (a1 : Int) (a2 : Int) (K : Int → Int → Bool → Prop) : impl_UseSeed.bd w_impl_isSeed w_impl_within w_impl_use a1 a2 K =
  (w_impl_isSeed a1 fun y1 =>
  Go.K.ifB (!y1) (K (0 : Int) (0 : Int) Bool.false)
    (w_impl_within a2 (1 : Int) (32768 : Int) fun y2 =>
      Go.K.ifB (!y2) (K (0 : Int) (0 : Int) Bool.false) (w_impl_use a1 a2 fun y3 y4 => K y4 y3 Bool.true))) := by kernel_rfl
theorem impl_UseSeed.eq (a1 : Int) (a2 : Int) (K : Int → Int → Bool → Prop) : impl_UseSeed.wp a1 a2 K =
  (Go.K.heights.impl_isSeed.wp a1 fun y1 =>
  Go.K.ifB (!y1) (K (0 : Int) (0 : Int) Bool.false)
    (Go.K.heights.impl_within.wp a2 (1 : Int) (32768 : Int) fun y2 =>
      Go.K.ifB (!y2) (K (0 : Int) (0 : Int) Bool.false) (Go.K.heights.impl_use.wp a1 a2 fun y3 y4 => K y4 y3 Bool.true))) := impl_UseSeed.tx impl_isSeed.wp impl_within.wp impl_use.wp a1 a2 K

theorem impl_FallAt.tx (w_impl_Heights_has : List Int → Int → Int → Int → Int → (Bool → Prop) → Prop) (w_impl_within : Int → Int → Int → (Bool → Prop) → Prop) (w_impl_Heights_cloned : List Int → Int → Int → (List Int → Int → Int → Prop) → Prop) (w_impl_Heights_fell : List Int → Int → Int → Int → Int → Int → (List Int → Prop) → Prop) (w_impl_Heights_told : List Int → Int → Int → (List Int → Int → Int → Bool → Prop) → Prop) (a1 : List Int) (a2 : Int) (a3 : Int) (a4 : Int) (a5 : Int) (a6 : Int) (K : List Int → Int → Int → Bool → Prop) : impl_FallAt.bd w_impl_Heights_has w_impl_within w_impl_Heights_cloned w_impl_Heights_fell w_impl_Heights_told a1 a2 a3 a4 a5 a6 K =
  (w_impl_Heights_has a1 a2 a3 a5 a6 fun y1 =>
  Go.K.ifB (!y1) (K [] (0 : Int) (0 : Int) Bool.false)
    (w_impl_within a4 (0 : Int) (2 : Int) fun y2 =>
      Go.K.ifB (!y2) (K [] (0 : Int) (0 : Int) Bool.false)
        (w_impl_Heights_cloned a1 a2 a3 fun y3 y4 y5 =>
          w_impl_Heights_fell y3 y4 y5 a4 a5 a6 fun y6 => w_impl_Heights_told y6 y4 y5 fun y7 y8 y9 y10 => K y7 y8 y9 y10))) := by kernel_rfl
theorem impl_FallAt.eq (a1 : List Int) (a2 : Int) (a3 : Int) (a4 : Int) (a5 : Int) (a6 : Int) (K : List Int → Int → Int → Bool → Prop) : impl_FallAt.wp a1 a2 a3 a4 a5 a6 K =
  (Go.K.heights.impl_Heights_has.wp a1 a2 a3 a5 a6 fun y1 =>
  Go.K.ifB (!y1) (K [] (0 : Int) (0 : Int) Bool.false)
    (Go.K.heights.impl_within.wp a4 (0 : Int) (2 : Int) fun y2 =>
      Go.K.ifB (!y2) (K [] (0 : Int) (0 : Int) Bool.false)
        (Go.K.heights.impl_Heights_cloned.wp a1 a2 a3 fun y3 y4 y5 =>
          Go.K.heights.impl_Heights_fell.wp y3 y4 y5 a4 a5 a6 fun y6 => Go.K.heights.impl_Heights_told.wp y6 y4 y5 fun y7 y8 y9 y10 => K y7 y8 y9 y10))) := impl_FallAt.tx impl_Heights_has.wp impl_within.wp impl_Heights_cloned.wp impl_Heights_fell.wp impl_Heights_told.wp a1 a2 a3 a4 a5 a6 K

theorem impl_NextSeed.tx (w_impl_isSeed : Int → (Bool → Prop) → Prop) (w_impl_draw : Int → (Int → Int → Prop) → Prop) (a1 : Int) (K : Int → Bool → Prop) : impl_NextSeed.bd w_impl_isSeed w_impl_draw a1 K =
  (w_impl_isSeed a1 fun y1 => Go.K.ifB (!y1) (K (0 : Int) Bool.false) (w_impl_draw a1 fun y2 y3 => K y2 Bool.true)) := by kernel_rfl
theorem impl_NextSeed.eq (a1 : Int) (K : Int → Bool → Prop) : impl_NextSeed.wp a1 K =
  (Go.K.heights.impl_isSeed.wp a1 fun y1 => Go.K.ifB (!y1) (K (0 : Int) Bool.false) (Go.K.heights.impl_draw.wp a1 fun y2 y3 => K y2 Bool.true)) := impl_NextSeed.tx impl_isSeed.wp impl_draw.wp a1 K

theorem spec_l05Rule.tx (w_spec_l00In : Int → Int → Int → (Bool → Prop) → Prop) (a1 : Int) (K : Bool → Prop) : spec_l05Rule.bd w_spec_l00In a1 K =
  (w_spec_l00In a1 (0 : Int) (2 : Int) fun y1 => K y1) := by kernel_rfl
theorem spec_l05Rule.eq (a1 : Int) (K : Bool → Prop) : spec_l05Rule.wp a1 K =
  (Go.K.heights.spec_l00In.wp a1 (0 : Int) (2 : Int) fun y1 => K y1) := spec_l05Rule.tx spec_l00In.wp a1 K

theorem spec_l00Max.tx  (a1 : Int) (a2 : Int) (K : Int → Prop) : spec_l00Max.bd  a1 a2 K =
  (Go.K.ifB (Decidable.decide (a1 > a2)) (K a1) (K a2)) := by kernel_rfl
theorem spec_l00Max.eq (a1 : Int) (a2 : Int) (K : Int → Prop) : spec_l00Max.wp a1 a2 K =
  (Go.K.ifB (Decidable.decide (a1 > a2)) (K a1) (K a2)) := spec_l00Max.tx  a1 a2 K

theorem spec_l05Fall.tx (w_spec_l05Near : Int → Int → List Int → Int → (List Int → Prop) → Prop) (w_spec_l00Max : Int → Int → (Int → Prop) → Prop) (a1 : Int) (a2 : Int) (a3 : List Int) (a4 : Int) (a5 : Int) (K : List Int → Prop) : spec_l05Fall.bd w_spec_l05Near w_spec_l00Max a1 a2 a3 a4 a5 K =
  (w_spec_l05Near a1 a2 a3 a5 fun y1 =>
  Go.K.ifB (a4 == (1 : Int))
    (∀ (J2 : List Int → List Int → Int → Int → Int → Prop),
      (∀ (x3 x4 : List Int) (x5 x6 x7 : Int),
          Go.K.ifB (Decidable.decide (x7 < x6))
              (((0 : Int) ≤ x7 ∧ x7 < (↑(List.length x4) : Int)) ∧
                ((0 : Int) ≤ List.getD x4 (Int.toNat x7) (0 : Int) ∧ List.getD x4 (Int.toNat x7) (0 : Int) < (↑(List.length a3) : Int)) ∧
                  ((0 : Int) ≤ x5 ∧ x5 < (↑(List.length a3) : Int)) ∧
                    Go.K.ifB (Decidable.decide (List.getD x3 (Int.toNat (List.getD x4 (Int.toNat x7) (0 : Int))) (0 : Int) < List.getD x3 (Int.toNat x5) (0 : Int)))
                      (((0 : Int) ≤ x7 ∧ x7 < (↑(List.length x4) : Int)) ∧ J2 x3 x4 (List.getD x4 (Int.toNat x7) (0 : Int)) x6 (Go.IntKind.wrap Go.IntKind.i64 (x7 + (1 : Int))))
                      (J2 x3 x4 x5 x6 (Go.IntKind.wrap Go.IntKind.i64 (x7 + (1 : Int)))))
              (((0 : Int) ≤ x5 ∧ x5 < (↑(List.length a3) : Int)) ∧
                ((0 : Int) ≤ x5 ∧ x5 < (↑(List.length a3) : Int)) ∧
                  K (List.set x3 (Int.toNat x5) (Go.IntKind.wrap Go.IntKind.i64 (List.getD x3 (Int.toNat x5) (0 : Int) + (1 : Int))))) →
            J2 x3 x4 x5 x6 x7) →
        J2 a3 y1 a5 (↑(List.length y1) : Int) (0 : Int))
    (Go.K.ifB (a4 == (2 : Int))
      (((0 : Int) ≤ a5 ∧ a5 < (↑(List.length a3) : Int)) ∧
        ∀ (J10 : List Int → List Int → Int → Int → Int → Prop),
          (∀ (x11 x12 : List Int) (x13 x14 x15 : Int),
              Go.K.ifB (Decidable.decide (x15 < x14))
                  (((0 : Int) ≤ x15 ∧ x15 < (↑(List.length x12) : Int)) ∧
                    ((0 : Int) ≤ List.getD x12 (Int.toNat x15) (0 : Int) ∧ List.getD x12 (Int.toNat x15) (0 : Int) < (↑(List.length a3) : Int)) ∧
                      w_spec_l00Max x13 (List.getD x11 (Int.toNat (List.getD x12 (Int.toNat x15) (0 : Int))) (0 : Int)) fun y16 =>
                        J10 x11 x12 y16 x14 (Go.IntKind.wrap Go.IntKind.i64 (x15 + (1 : Int))))
                  (((0 : Int) ≤ a5 ∧ a5 < (↑(List.length a3) : Int)) ∧ K (List.set x11 (Int.toNat a5) x13)) →
                J10 x11 x12 x13 x14 x15) →
            J10 a3 y1 (Go.IntKind.wrap Go.IntKind.i64 (List.getD a3 (Int.toNat a5) (0 : Int) + (1 : Int))) (↑(List.length y1) : Int) (0 : Int))
      (((0 : Int) ≤ a5 ∧ a5 < (↑(List.length a3) : Int)) ∧
        ((0 : Int) ≤ a5 ∧ a5 < (↑(List.length a3) : Int)) ∧
          K (List.set a3 (Int.toNat a5) (Go.IntKind.wrap Go.IntKind.i64 (List.getD a3 (Int.toNat a5) (0 : Int) + (1 : Int))))))) := by kernel_rfl
theorem spec_l05Fall.eq (a1 : Int) (a2 : Int) (a3 : List Int) (a4 : Int) (a5 : Int) (K : List Int → Prop) : spec_l05Fall.wp a1 a2 a3 a4 a5 K =
  (Go.K.heights.spec_l05Near.wp a1 a2 a3 a5 fun y1 =>
  Go.K.ifB (a4 == (1 : Int))
    (∀ (J2 : List Int → List Int → Int → Int → Int → Prop),
      (∀ (x3 x4 : List Int) (x5 x6 x7 : Int),
          Go.K.ifB (Decidable.decide (x7 < x6))
              (((0 : Int) ≤ x7 ∧ x7 < (↑(List.length x4) : Int)) ∧
                ((0 : Int) ≤ List.getD x4 (Int.toNat x7) (0 : Int) ∧ List.getD x4 (Int.toNat x7) (0 : Int) < (↑(List.length a3) : Int)) ∧
                  ((0 : Int) ≤ x5 ∧ x5 < (↑(List.length a3) : Int)) ∧
                    Go.K.ifB (Decidable.decide (List.getD x3 (Int.toNat (List.getD x4 (Int.toNat x7) (0 : Int))) (0 : Int) < List.getD x3 (Int.toNat x5) (0 : Int)))
                      (((0 : Int) ≤ x7 ∧ x7 < (↑(List.length x4) : Int)) ∧ J2 x3 x4 (List.getD x4 (Int.toNat x7) (0 : Int)) x6 (Go.IntKind.wrap Go.IntKind.i64 (x7 + (1 : Int))))
                      (J2 x3 x4 x5 x6 (Go.IntKind.wrap Go.IntKind.i64 (x7 + (1 : Int)))))
              (((0 : Int) ≤ x5 ∧ x5 < (↑(List.length a3) : Int)) ∧
                ((0 : Int) ≤ x5 ∧ x5 < (↑(List.length a3) : Int)) ∧
                  K (List.set x3 (Int.toNat x5) (Go.IntKind.wrap Go.IntKind.i64 (List.getD x3 (Int.toNat x5) (0 : Int) + (1 : Int))))) →
            J2 x3 x4 x5 x6 x7) →
        J2 a3 y1 a5 (↑(List.length y1) : Int) (0 : Int))
    (Go.K.ifB (a4 == (2 : Int))
      (((0 : Int) ≤ a5 ∧ a5 < (↑(List.length a3) : Int)) ∧
        ∀ (J10 : List Int → List Int → Int → Int → Int → Prop),
          (∀ (x11 x12 : List Int) (x13 x14 x15 : Int),
              Go.K.ifB (Decidable.decide (x15 < x14))
                  (((0 : Int) ≤ x15 ∧ x15 < (↑(List.length x12) : Int)) ∧
                    ((0 : Int) ≤ List.getD x12 (Int.toNat x15) (0 : Int) ∧ List.getD x12 (Int.toNat x15) (0 : Int) < (↑(List.length a3) : Int)) ∧
                      Go.K.heights.spec_l00Max.wp x13 (List.getD x11 (Int.toNat (List.getD x12 (Int.toNat x15) (0 : Int))) (0 : Int)) fun y16 =>
                        J10 x11 x12 y16 x14 (Go.IntKind.wrap Go.IntKind.i64 (x15 + (1 : Int))))
                  (((0 : Int) ≤ a5 ∧ a5 < (↑(List.length a3) : Int)) ∧ K (List.set x11 (Int.toNat a5) x13)) →
                J10 x11 x12 x13 x14 x15) →
            J10 a3 y1 (Go.IntKind.wrap Go.IntKind.i64 (List.getD a3 (Int.toNat a5) (0 : Int) + (1 : Int))) (↑(List.length y1) : Int) (0 : Int))
      (((0 : Int) ≤ a5 ∧ a5 < (↑(List.length a3) : Int)) ∧
        ((0 : Int) ≤ a5 ∧ a5 < (↑(List.length a3) : Int)) ∧
          K (List.set a3 (Int.toNat a5) (Go.IntKind.wrap Go.IntKind.i64 (List.getD a3 (Int.toNat a5) (0 : Int) + (1 : Int))))))) := spec_l05Fall.tx spec_l05Near.wp spec_l00Max.wp a1 a2 a3 a4 a5 K

theorem spec_l05Give.tx (w_spec_l05Is : Int → Int → List Int → (Bool → Prop) → Prop) (a1 : List Int) (a2 : Int) (a3 : Int) (K : List Int → Int → Int → Bool → Prop) : spec_l05Give.bd w_spec_l05Is a1 a2 a3 K =
  (w_spec_l05Is a2 a3 a1 fun y1 => Go.K.ifB (!y1) (K [] (0 : Int) (0 : Int) Bool.false) (K a1 a2 a3 Bool.true)) := by kernel_rfl
theorem spec_l05Give.eq (a1 : List Int) (a2 : Int) (a3 : Int) (K : List Int → Int → Int → Bool → Prop) : spec_l05Give.wp a1 a2 a3 K =
  (Go.K.heights.spec_l05Is.wp a2 a3 a1 fun y1 => Go.K.ifB (!y1) (K [] (0 : Int) (0 : Int) Bool.false) (K a1 a2 a3 Bool.true)) := spec_l05Give.tx spec_l05Is.wp a1 a2 a3 K

theorem spec_FallAt.tx (w_spec_l05Cell : Int → Int → List Int → Int → Int → (Bool → Prop) → Prop) (w_spec_l05Rule : Int → (Bool → Prop) → Prop) (w_spec_l05Own : Int → Int → List Int → (List Int → Int → Int → Prop) → Prop) (w_spec_l05Fall : Int → Int → List Int → Int → Int → (List Int → Prop) → Prop) (w_spec_l05Give : List Int → Int → Int → (List Int → Int → Int → Bool → Prop) → Prop) (a1 : List Int) (a2 : Int) (a3 : Int) (a4 : Int) (a5 : Int) (a6 : Int) (K : List Int → Int → Int → Bool → Prop) : spec_FallAt.bd w_spec_l05Cell w_spec_l05Rule w_spec_l05Own w_spec_l05Fall w_spec_l05Give a1 a2 a3 a4 a5 a6 K =
  (w_spec_l05Cell a2 a3 a1 a5 a6 fun y1 =>
  Go.K.ifB (!y1) (K [] (0 : Int) (0 : Int) Bool.false)
    (w_spec_l05Rule a4 fun y2 =>
      Go.K.ifB (!y2) (K [] (0 : Int) (0 : Int) Bool.false)
        (w_spec_l05Own a2 a3 a1 fun y3 y4 y5 =>
          w_spec_l05Fall y4 y5 y3 a4 (Go.IntKind.wrap Go.IntKind.i64 (a5 + Go.IntKind.wrap Go.IntKind.i64 (a2 * a6))) fun y6 =>
            w_spec_l05Give y6 y4 y5 fun y7 y8 y9 y10 => K y7 y8 y9 y10))) := by kernel_rfl
theorem spec_FallAt.eq (a1 : List Int) (a2 : Int) (a3 : Int) (a4 : Int) (a5 : Int) (a6 : Int) (K : List Int → Int → Int → Bool → Prop) : spec_FallAt.wp a1 a2 a3 a4 a5 a6 K =
  (Go.K.heights.spec_l05Cell.wp a2 a3 a1 a5 a6 fun y1 =>
  Go.K.ifB (!y1) (K [] (0 : Int) (0 : Int) Bool.false)
    (Go.K.heights.spec_l05Rule.wp a4 fun y2 =>
      Go.K.ifB (!y2) (K [] (0 : Int) (0 : Int) Bool.false)
        (Go.K.heights.spec_l05Own.wp a2 a3 a1 fun y3 y4 y5 =>
          Go.K.heights.spec_l05Fall.wp y4 y5 y3 a4 (Go.IntKind.wrap Go.IntKind.i64 (a5 + Go.IntKind.wrap Go.IntKind.i64 (a2 * a6))) fun y6 =>
            Go.K.heights.spec_l05Give.wp y6 y4 y5 fun y7 y8 y9 y10 => K y7 y8 y9 y10))) := spec_FallAt.tx spec_l05Cell.wp spec_l05Rule.wp spec_l05Own.wp spec_l05Fall.wp spec_l05Give.wp a1 a2 a3 a4 a5 a6 K

theorem laws_FnExactFallAt.tx (w_laws_szHeights : List Int → Int → Int → Int → (Int → Prop) → Prop) (w_laws_toHeights : List Int → Int → Int → (List Int → Int → Int → Prop) → Prop) (w_spec_FallAt : List Int → Int → Int → Int → Int → Int → (List Int → Int → Int → Bool → Prop) → Prop) (w_impl_FallAt : List Int → Int → Int → Int → Int → Int → (List Int → Int → Int → Bool → Prop) → Prop) (w_laws_eqHeights : List Int → List Int → Int → Int → Int → Int → (Bool → Prop) → Prop) (w_laws_markHeights : List Int → Int → Int → Int → (List Int → Int → Prop) → Prop) (w_laws_heldHeights : List Int → Int → Int → Int → (Int → Prop) → Prop) (a1 : List Int) (a2 : Int) (a3 : Int) (a4 : Int) (a5 : Int) (a6 : Int) (K : Bool → Prop) : laws_FnExactFallAt.bd w_laws_szHeights w_laws_toHeights w_spec_FallAt w_impl_FallAt w_laws_eqHeights w_laws_markHeights w_laws_heldHeights a1 a2 a3 a4 a5 a6 K =
  (w_laws_szHeights a1 a2 a3 (1048576 : Int) fun y1 =>
  Go.K.ifB (Decidable.decide (y1 < (0 : Int))) (K Bool.true)
    (w_laws_toHeights a1 a2 a3 fun y2 y3 y4 =>
      w_spec_FallAt y2 y3 y4 a4 a5 a6 fun y5 y6 y7 y8 =>
        w_laws_toHeights a1 a2 a3 fun y9 y10 y11 =>
          w_impl_FallAt y9 y10 y11 a4 a5 a6 fun y12 y13 y14 y15 =>
            w_laws_eqHeights y12 y5 y13 y14 y6 y7 fun y16 =>
              Go.K.ifB (!y16) (K Bool.false)
                (Go.K.ifB (y15 != y8) (K Bool.false)
                  (w_laws_toHeights a1 a2 a3 fun y17 y18 y19 =>
                    w_laws_eqHeights y9 y17 y10 y11 y18 y19 fun y20 =>
                      Go.K.ifB (!y20) (K Bool.false)
                        (w_laws_markHeights y9 y10 y11 (1 : Int) fun y21 y22 =>
                          Go.K.ifB (Decidable.decide (y22 < (0 : Int))) (K Bool.false)
                            (w_laws_eqHeights y12 y5 y13 y14 y6 y7 fun y23 =>
                              Go.K.ifB (!y23) (K Bool.false)
                                (Go.K.ifB (y15 != y8) (K Bool.false)
                                  (w_laws_markHeights y12 y13 y14 (1 : Int) fun y24 y25 =>
                                    w_laws_heldHeights y24 y13 y14 (1 : Int) fun y26 =>
                                      Go.K.ifB (Decidable.decide (y26 < (0 : Int))) (K Bool.false)
                                        (Go.K.ifB (y26 != y25) (K Bool.false)
                                          (w_laws_toHeights a1 a2 a3 fun y27 y28 y29 =>
                                            w_impl_FallAt y27 y28 y29 a4 a5 a6 fun y30 y31 y32 y33 =>
                                              w_laws_eqHeights y30 y5 y31 y32 y6 y7 fun y34 =>
                                                Go.K.ifB (!y34) (K Bool.false)
                                                  (Go.K.ifB (y33 != y8) (K Bool.false)
                                                    (w_laws_heldHeights y24 y13 y14 (1 : Int) fun y35 =>
                                                      Go.K.ifB (Decidable.decide (y35 < (0 : Int))) (K Bool.false)
                                                        (Go.K.ifB (y35 != y25) (K Bool.false) (K Bool.true)))))))))))))) := by kernel_rfl
theorem laws_FnExactFallAt.eq (a1 : List Int) (a2 : Int) (a3 : Int) (a4 : Int) (a5 : Int) (a6 : Int) (K : Bool → Prop) : laws_FnExactFallAt.wp a1 a2 a3 a4 a5 a6 K =
  (Go.K.heights.laws_szHeights.wp a1 a2 a3 (1048576 : Int) fun y1 =>
  Go.K.ifB (Decidable.decide (y1 < (0 : Int))) (K Bool.true)
    (Go.K.heights.laws_toHeights.wp a1 a2 a3 fun y2 y3 y4 =>
      Go.K.heights.spec_FallAt.wp y2 y3 y4 a4 a5 a6 fun y5 y6 y7 y8 =>
        Go.K.heights.laws_toHeights.wp a1 a2 a3 fun y9 y10 y11 =>
          Go.K.heights.impl_FallAt.wp y9 y10 y11 a4 a5 a6 fun y12 y13 y14 y15 =>
            Go.K.heights.laws_eqHeights.wp y12 y5 y13 y14 y6 y7 fun y16 =>
              Go.K.ifB (!y16) (K Bool.false)
                (Go.K.ifB (y15 != y8) (K Bool.false)
                  (Go.K.heights.laws_toHeights.wp a1 a2 a3 fun y17 y18 y19 =>
                    Go.K.heights.laws_eqHeights.wp y9 y17 y10 y11 y18 y19 fun y20 =>
                      Go.K.ifB (!y20) (K Bool.false)
                        (Go.K.heights.laws_markHeights.wp y9 y10 y11 (1 : Int) fun y21 y22 =>
                          Go.K.ifB (Decidable.decide (y22 < (0 : Int))) (K Bool.false)
                            (Go.K.heights.laws_eqHeights.wp y12 y5 y13 y14 y6 y7 fun y23 =>
                              Go.K.ifB (!y23) (K Bool.false)
                                (Go.K.ifB (y15 != y8) (K Bool.false)
                                  (Go.K.heights.laws_markHeights.wp y12 y13 y14 (1 : Int) fun y24 y25 =>
                                    Go.K.heights.laws_heldHeights.wp y24 y13 y14 (1 : Int) fun y26 =>
                                      Go.K.ifB (Decidable.decide (y26 < (0 : Int))) (K Bool.false)
                                        (Go.K.ifB (y26 != y25) (K Bool.false)
                                          (Go.K.heights.laws_toHeights.wp a1 a2 a3 fun y27 y28 y29 =>
                                            Go.K.heights.impl_FallAt.wp y27 y28 y29 a4 a5 a6 fun y30 y31 y32 y33 =>
                                              Go.K.heights.laws_eqHeights.wp y30 y5 y31 y32 y6 y7 fun y34 =>
                                                Go.K.ifB (!y34) (K Bool.false)
                                                  (Go.K.ifB (y33 != y8) (K Bool.false)
                                                    (Go.K.heights.laws_heldHeights.wp y24 y13 y14 (1 : Int) fun y35 =>
                                                      Go.K.ifB (Decidable.decide (y35 < (0 : Int))) (K Bool.false)
                                                        (Go.K.ifB (y35 != y25) (K Bool.false) (K Bool.true)))))))))))))) := laws_FnExactFallAt.tx laws_szHeights.wp laws_toHeights.wp spec_FallAt.wp impl_FallAt.wp laws_eqHeights.wp laws_markHeights.wp laws_heldHeights.wp a1 a2 a3 a4 a5 a6 K

theorem spec_l05Seed.tx (w_spec_l00In : Int → Int → Int → (Bool → Prop) → Prop) (a1 : Int) (K : Bool → Prop) : spec_l05Seed.bd w_spec_l00In a1 K =
  (w_spec_l00In a1 (0 : Int) (2147483647 : Int) fun y1 => K y1) := by kernel_rfl
theorem spec_l05Seed.eq (a1 : Int) (K : Bool → Prop) : spec_l05Seed.wp a1 K =
  (Go.K.heights.spec_l00In.wp a1 (0 : Int) (2147483647 : Int) fun y1 => K y1) := spec_l05Seed.tx spec_l00In.wp a1 K

theorem spec_l05Next.tx  (a1 : Int) (K : Int → Prop) : spec_l05Next.bd  a1 K =
  (K (Int.tmod (Go.IntKind.wrap Go.IntKind.i64 (Go.IntKind.wrap Go.IntKind.i64 ((1103515245 : Int) * a1) + (12345 : Int))) (2147483648 : Int))) := by kernel_rfl
theorem spec_l05Next.eq (a1 : Int) (K : Int → Prop) : spec_l05Next.wp a1 K =
  (K (Int.tmod (Go.IntKind.wrap Go.IntKind.i64 (Go.IntKind.wrap Go.IntKind.i64 ((1103515245 : Int) * a1) + (12345 : Int))) (2147483648 : Int))) := spec_l05Next.tx  a1 K

theorem spec_l05Draw.tx (w_spec_l05Next : Int → (Int → Prop) → Prop) (a1 : Int) (a2 : Int) (K : Int → Int → Prop) : spec_l05Draw.bd w_spec_l05Next a1 a2 K =
  (w_spec_l05Next a1 fun y1 => a2 ≠ (0 : Int) ∧ K (Int.tmod (Go.IntKind.wrap Go.IntKind.i64 (Int.tdiv y1 (65536 : Int))) a2) y1) := by kernel_rfl
theorem spec_l05Draw.eq (a1 : Int) (a2 : Int) (K : Int → Int → Prop) : spec_l05Draw.wp a1 a2 K =
  (Go.K.heights.spec_l05Next.wp a1 fun y1 => a2 ≠ (0 : Int) ∧ K (Int.tmod (Go.IntKind.wrap Go.IntKind.i64 (Int.tdiv y1 (65536 : Int))) a2) y1) := spec_l05Draw.tx spec_l05Next.wp a1 a2 K

theorem spec_RainOn.tx (w_spec_l05Is : Int → Int → List Int → (Bool → Prop) → Prop) (w_spec_l05Rule : Int → (Bool → Prop) → Prop) (w_spec_l00In : Int → Int → Int → (Bool → Prop) → Prop) (w_spec_l05Seed : Int → (Bool → Prop) → Prop) (w_spec_l05Own : Int → Int → List Int → (List Int → Int → Int → Prop) → Prop) (w_spec_l05Draw : Int → Int → (Int → Int → Prop) → Prop) (w_spec_l05Fall : Int → Int → List Int → Int → Int → (List Int → Prop) → Prop) (a1 : List Int) (a2 : Int) (a3 : Int) (a4 : Int) (a5 : Int) (a6 : Int) (K : List Int → Int → Int → Int → Bool → Prop) : spec_RainOn.bd w_spec_l05Is w_spec_l05Rule w_spec_l00In w_spec_l05Seed w_spec_l05Own w_spec_l05Draw w_spec_l05Fall a1 a2 a3 a4 a5 a6 K =
  (w_spec_l05Is a2 a3 a1 fun y1 =>
  Go.K.ifB (!y1) (K [] (0 : Int) (0 : Int) (0 : Int) Bool.false)
    (w_spec_l05Rule a4 fun y2 =>
      Go.K.ifB (!y2) (K [] (0 : Int) (0 : Int) (0 : Int) Bool.false)
        (w_spec_l00In a5 (0 : Int) (500 : Int) fun y3 =>
          Go.K.ifB (!y3) (K [] (0 : Int) (0 : Int) (0 : Int) Bool.false)
            (w_spec_l05Seed a6 fun y4 =>
              Go.K.ifB (!y4) (K [] (0 : Int) (0 : Int) (0 : Int) Bool.false)
                (w_spec_l05Own a2 a3 a1 fun y5 y6 y7 =>
                  ∀ (J8 : Int → Int → Int → Int → Int → Int → List Int → List Int → Int → Int → Prop),
                    (∀ (x9 x10 x11 x12 x13 x14 : Int) (x15 x16 : List Int) (x17 x18 : Int),
                        Go.K.ifB (Decidable.decide (x17 > (0 : Int)))
                            (w_spec_l05Draw x18 x9 fun y19 y20 =>
                              w_spec_l05Draw y20 x10 fun y21 y22 =>
                                w_spec_l05Fall x13 x14 x16 a4 (Go.IntKind.wrap Go.IntKind.i64 (y19 + Go.IntKind.wrap Go.IntKind.i64 (x9 * y21))) fun y23 =>
                                  J8 x9 x10 x11 x12 x13 x14 x15 y23 (Go.IntKind.wrap Go.IntKind.i64 (x17 - (1 : Int))) y22)
                            (w_spec_l05Is x13 x14 x16 fun y24 => Go.K.ifB (!y24) (K [] (0 : Int) (0 : Int) (0 : Int) Bool.false) (K x16 x13 x14 x18 Bool.true)) →
                          J8 x9 x10 x11 x12 x13 x14 x15 x16 x17 x18) →
                      J8 a2 a3 (0 : Int) (0 : Int) y6 y7 [] y5 a5 a6))))) := by kernel_rfl
theorem spec_RainOn.eq (a1 : List Int) (a2 : Int) (a3 : Int) (a4 : Int) (a5 : Int) (a6 : Int) (K : List Int → Int → Int → Int → Bool → Prop) : spec_RainOn.wp a1 a2 a3 a4 a5 a6 K =
  (Go.K.heights.spec_l05Is.wp a2 a3 a1 fun y1 =>
  Go.K.ifB (!y1) (K [] (0 : Int) (0 : Int) (0 : Int) Bool.false)
    (Go.K.heights.spec_l05Rule.wp a4 fun y2 =>
      Go.K.ifB (!y2) (K [] (0 : Int) (0 : Int) (0 : Int) Bool.false)
        (Go.K.heights.spec_l00In.wp a5 (0 : Int) (500 : Int) fun y3 =>
          Go.K.ifB (!y3) (K [] (0 : Int) (0 : Int) (0 : Int) Bool.false)
            (Go.K.heights.spec_l05Seed.wp a6 fun y4 =>
              Go.K.ifB (!y4) (K [] (0 : Int) (0 : Int) (0 : Int) Bool.false)
                (Go.K.heights.spec_l05Own.wp a2 a3 a1 fun y5 y6 y7 =>
                  ∀ (J8 : Int → Int → Int → Int → Int → Int → List Int → List Int → Int → Int → Prop),
                    (∀ (x9 x10 x11 x12 x13 x14 : Int) (x15 x16 : List Int) (x17 x18 : Int),
                        Go.K.ifB (Decidable.decide (x17 > (0 : Int)))
                            (Go.K.heights.spec_l05Draw.wp x18 x9 fun y19 y20 =>
                              Go.K.heights.spec_l05Draw.wp y20 x10 fun y21 y22 =>
                                Go.K.heights.spec_l05Fall.wp x13 x14 x16 a4 (Go.IntKind.wrap Go.IntKind.i64 (y19 + Go.IntKind.wrap Go.IntKind.i64 (x9 * y21))) fun y23 =>
                                  J8 x9 x10 x11 x12 x13 x14 x15 y23 (Go.IntKind.wrap Go.IntKind.i64 (x17 - (1 : Int))) y22)
                            (Go.K.heights.spec_l05Is.wp x13 x14 x16 fun y24 => Go.K.ifB (!y24) (K [] (0 : Int) (0 : Int) (0 : Int) Bool.false) (K x16 x13 x14 x18 Bool.true)) →
                          J8 x9 x10 x11 x12 x13 x14 x15 x16 x17 x18) →
                      J8 a2 a3 (0 : Int) (0 : Int) y6 y7 [] y5 a5 a6))))) := spec_RainOn.tx spec_l05Is.wp spec_l05Rule.wp spec_l00In.wp spec_l05Seed.wp spec_l05Own.wp spec_l05Draw.wp spec_l05Fall.wp a1 a2 a3 a4 a5 a6 K

theorem laws_FnExactRainOn.tx (w_laws_szHeights : List Int → Int → Int → Int → (Int → Prop) → Prop) (w_laws_toHeights : List Int → Int → Int → (List Int → Int → Int → Prop) → Prop) (w_spec_RainOn : List Int → Int → Int → Int → Int → Int → (List Int → Int → Int → Int → Bool → Prop) → Prop) (w_impl_RainOn : List Int → Int → Int → Int → Int → Int → (List Int → Int → Int → Int → Bool → Prop) → Prop) (w_laws_eqHeights : List Int → List Int → Int → Int → Int → Int → (Bool → Prop) → Prop) (w_laws_markHeights : List Int → Int → Int → Int → (List Int → Int → Prop) → Prop) (w_laws_heldHeights : List Int → Int → Int → Int → (Int → Prop) → Prop) (a1 : List Int) (a2 : Int) (a3 : Int) (a4 : Int) (a5 : Int) (a6 : Int) (K : Bool → Prop) : laws_FnExactRainOn.bd w_laws_szHeights w_laws_toHeights w_spec_RainOn w_impl_RainOn w_laws_eqHeights w_laws_markHeights w_laws_heldHeights a1 a2 a3 a4 a5 a6 K =
  (w_laws_szHeights a1 a2 a3 (1048576 : Int) fun y1 =>
  Go.K.ifB (Decidable.decide (y1 < (0 : Int))) (K Bool.true)
    (w_laws_toHeights a1 a2 a3 fun y2 y3 y4 =>
      w_spec_RainOn y2 y3 y4 a4 a5 a6 fun y5 y6 y7 y8 y9 =>
        w_laws_toHeights a1 a2 a3 fun y10 y11 y12 =>
          w_impl_RainOn y10 y11 y12 a4 a5 a6 fun y13 y14 y15 y16 y17 =>
            w_laws_eqHeights y13 y5 y14 y15 y6 y7 fun y18 =>
              Go.K.ifB (!y18) (K Bool.false)
                (Go.K.ifB (y16 != y8) (K Bool.false)
                  (Go.K.ifB (y17 != y9) (K Bool.false)
                    (w_laws_toHeights a1 a2 a3 fun y19 y20 y21 =>
                      w_laws_eqHeights y10 y19 y11 y12 y20 y21 fun y22 =>
                        Go.K.ifB (!y22) (K Bool.false)
                          (w_laws_markHeights y10 y11 y12 (1 : Int) fun y23 y24 =>
                            Go.K.ifB (Decidable.decide (y24 < (0 : Int))) (K Bool.false)
                              (w_laws_eqHeights y13 y5 y14 y15 y6 y7 fun y25 =>
                                Go.K.ifB (!y25) (K Bool.false)
                                  (Go.K.ifB (y16 != y8) (K Bool.false)
                                    (Go.K.ifB (y17 != y9) (K Bool.false)
                                      (w_laws_markHeights y13 y14 y15 (1 : Int) fun y26 y27 =>
                                        w_laws_heldHeights y26 y14 y15 (1 : Int) fun y28 =>
                                          Go.K.ifB (Decidable.decide (y28 < (0 : Int))) (K Bool.false)
                                            (Go.K.ifB (y28 != y27) (K Bool.false)
                                              (w_laws_toHeights a1 a2 a3 fun y29 y30 y31 =>
                                                w_impl_RainOn y29 y30 y31 a4 a5 a6 fun y32 y33 y34 y35 y36 =>
                                                  w_laws_eqHeights y32 y5 y33 y34 y6 y7 fun y37 =>
                                                    Go.K.ifB (!y37) (K Bool.false)
                                                      (Go.K.ifB (y35 != y8) (K Bool.false)
                                                        (Go.K.ifB (y36 != y9) (K Bool.false)
                                                          (w_laws_heldHeights y26 y14 y15 (1 : Int) fun y38 =>
                                                            Go.K.ifB (Decidable.decide (y38 < (0 : Int))) (K Bool.false)
                                                              (Go.K.ifB (y38 != y27) (K Bool.false) (K Bool.true))))))))))))))))) := by kernel_rfl
theorem laws_FnExactRainOn.eq (a1 : List Int) (a2 : Int) (a3 : Int) (a4 : Int) (a5 : Int) (a6 : Int) (K : Bool → Prop) : laws_FnExactRainOn.wp a1 a2 a3 a4 a5 a6 K =
  (Go.K.heights.laws_szHeights.wp a1 a2 a3 (1048576 : Int) fun y1 =>
  Go.K.ifB (Decidable.decide (y1 < (0 : Int))) (K Bool.true)
    (Go.K.heights.laws_toHeights.wp a1 a2 a3 fun y2 y3 y4 =>
      Go.K.heights.spec_RainOn.wp y2 y3 y4 a4 a5 a6 fun y5 y6 y7 y8 y9 =>
        Go.K.heights.laws_toHeights.wp a1 a2 a3 fun y10 y11 y12 =>
          Go.K.heights.impl_RainOn.wp y10 y11 y12 a4 a5 a6 fun y13 y14 y15 y16 y17 =>
            Go.K.heights.laws_eqHeights.wp y13 y5 y14 y15 y6 y7 fun y18 =>
              Go.K.ifB (!y18) (K Bool.false)
                (Go.K.ifB (y16 != y8) (K Bool.false)
                  (Go.K.ifB (y17 != y9) (K Bool.false)
                    (Go.K.heights.laws_toHeights.wp a1 a2 a3 fun y19 y20 y21 =>
                      Go.K.heights.laws_eqHeights.wp y10 y19 y11 y12 y20 y21 fun y22 =>
                        Go.K.ifB (!y22) (K Bool.false)
                          (Go.K.heights.laws_markHeights.wp y10 y11 y12 (1 : Int) fun y23 y24 =>
                            Go.K.ifB (Decidable.decide (y24 < (0 : Int))) (K Bool.false)
                              (Go.K.heights.laws_eqHeights.wp y13 y5 y14 y15 y6 y7 fun y25 =>
                                Go.K.ifB (!y25) (K Bool.false)
                                  (Go.K.ifB (y16 != y8) (K Bool.false)
                                    (Go.K.ifB (y17 != y9) (K Bool.false)
                                      (Go.K.heights.laws_markHeights.wp y13 y14 y15 (1 : Int) fun y26 y27 =>
                                        Go.K.heights.laws_heldHeights.wp y26 y14 y15 (1 : Int) fun y28 =>
                                          Go.K.ifB (Decidable.decide (y28 < (0 : Int))) (K Bool.false)
                                            (Go.K.ifB (y28 != y27) (K Bool.false)
                                              (Go.K.heights.laws_toHeights.wp a1 a2 a3 fun y29 y30 y31 =>
                                                Go.K.heights.impl_RainOn.wp y29 y30 y31 a4 a5 a6 fun y32 y33 y34 y35 y36 =>
                                                  Go.K.heights.laws_eqHeights.wp y32 y5 y33 y34 y6 y7 fun y37 =>
                                                    Go.K.ifB (!y37) (K Bool.false)
                                                      (Go.K.ifB (y35 != y8) (K Bool.false)
                                                        (Go.K.ifB (y36 != y9) (K Bool.false)
                                                          (Go.K.heights.laws_heldHeights.wp y26 y14 y15 (1 : Int) fun y38 =>
                                                            Go.K.ifB (Decidable.decide (y38 < (0 : Int))) (K Bool.false)
                                                              (Go.K.ifB (y38 != y27) (K Bool.false) (K Bool.true))))))))))))))))) := laws_FnExactRainOn.tx laws_szHeights.wp laws_toHeights.wp spec_RainOn.wp impl_RainOn.wp laws_eqHeights.wp laws_markHeights.wp laws_heldHeights.wp a1 a2 a3 a4 a5 a6 K

theorem spec_l05Flow.tx (w_spec_l05Own : Int → Int → List Int → (List Int → Int → Int → Prop) → Prop) (w_spec_l05Near : Int → Int → List Int → Int → (List Int → Prop) → Prop) (a1 : Int) (a2 : Int) (a3 : List Int) (a4 : Int) (a5 : Int) (K : List Int → Int → Int → Bool → Prop) : spec_l05Flow.bd w_spec_l05Own w_spec_l05Near a1 a2 a3 a4 a5 K =
  (w_spec_l05Own a1 a2 a3 fun y1 y2 y3 =>
  ∀ (J4 : Int → Int → Int → Int → List Int → List Int → Bool → Int → Int → Prop),
    (∀ (x5 x6 x7 x8 : Int) (x9 x10 : List Int) (x11 : Bool) (x12 x13 : Int),
        Go.K.ifB (Decidable.decide (x13 < x12))
            (w_spec_l05Near a1 a2 a3 x13 fun y14 =>
              ∀ (J15 : Int → Int → Int → Int → List Int → List Int → List Int → Bool → Int → Int → Int → Int → Int → Int → Prop),
                (∀ (x16 x17 x18 x19 : Int) (x20 x21 x22 : List Int) (x23 : Bool) (x24 x25 x26 x27 x28 x29 : Int),
                    Go.K.ifB (Decidable.decide (x29 < x28))
                        (((0 : Int) ≤ x29 ∧ x29 < (↑(List.length x20) : Int)) ∧
                          ((0 : Int) ≤ List.getD x20 (Int.toNat x29) (0 : Int) ∧ List.getD x20 (Int.toNat x29) (0 : Int) < (↑(List.length a3) : Int)) ∧
                            ((0 : Int) ≤ x24 ∧ x24 < (↑(List.length a3) : Int)) ∧
                              Go.K.ifB
                                (Decidable.decide
                                  (Go.IntKind.wrap Go.IntKind.i64
                                      (a5 *
                                        Go.IntKind.wrap Go.IntKind.i64
                                          (List.getD a3 (Int.toNat (List.getD x20 (Int.toNat x29) (0 : Int))) (0 : Int) - List.getD a3 (Int.toNat x24) (0 : Int))) >
                                    (0 : Int)))
                                (J15 x16 x17 x18 x19 x20 x21 x22 x23 x24 (Go.IntKind.wrap Go.IntKind.i64 (x25 + (1 : Int))) x26 x27 x28
                                  (Go.IntKind.wrap Go.IntKind.i64 (x29 + (1 : Int))))
                                (J15 x16 x17 x18 x19 x20 x21 x22 x23 x24 x25 x26 x27 x28 (Go.IntKind.wrap Go.IntKind.i64 (x29 + (1 : Int)))))
                        (Go.K.ifB (Decidable.decide (x25 ≥ a4))
                          (((0 : Int) ≤ x24 ∧ x24 < (↑(List.length a3) : Int)) ∧
                            Go.K.ifB (Decidable.decide (Go.IntKind.wrap Go.IntKind.i64 (List.getD a3 (Int.toNat x24) (0 : Int) + a5) ≥ (0 : Int)))
                              (((0 : Int) ≤ x24 ∧ x24 < (↑(List.length x22) : Int)) ∧
                                ((0 : Int) ≤ x24 ∧ x24 < (↑(List.length x22) : Int)) ∧
                                  J4 x16 x17 x18 x19 x21 (List.set x22 (Int.toNat x24) (Go.IntKind.wrap Go.IntKind.i64 (List.getD x22 (Int.toNat x24) (0 : Int) + a5))) Bool.true
                                    x26 (Go.IntKind.wrap Go.IntKind.i64 (x27 + (1 : Int))))
                              (J4 x16 x17 x18 x19 x21 x22 x23 x26 (Go.IntKind.wrap Go.IntKind.i64 (x27 + (1 : Int)))))
                          (J4 x16 x17 x18 x19 x21 x22 x23 x26 (Go.IntKind.wrap Go.IntKind.i64 (x27 + (1 : Int))))) →
                      J15 x16 x17 x18 x19 x20 x21 x22 x23 x24 x25 x26 x27 x28 x29) →
                  J15 x5 x6 x7 x8 y14 x9 x10 x11 x13 (0 : Int) x12 x13 (↑(List.length y14) : Int) (0 : Int))
            (K x10 x7 x8 x11) →
          J4 x5 x6 x7 x8 x9 x10 x11 x12 x13) →
      J4 (0 : Int) (0 : Int) y2 y3 [] y1 Bool.false (↑(List.length a3) : Int) (0 : Int)) := by kernel_rfl
theorem spec_l05Flow.eq (a1 : Int) (a2 : Int) (a3 : List Int) (a4 : Int) (a5 : Int) (K : List Int → Int → Int → Bool → Prop) : spec_l05Flow.wp a1 a2 a3 a4 a5 K =
  (Go.K.heights.spec_l05Own.wp a1 a2 a3 fun y1 y2 y3 =>
  ∀ (J4 : Int → Int → Int → Int → List Int → List Int → Bool → Int → Int → Prop),
    (∀ (x5 x6 x7 x8 : Int) (x9 x10 : List Int) (x11 : Bool) (x12 x13 : Int),
        Go.K.ifB (Decidable.decide (x13 < x12))
            (Go.K.heights.spec_l05Near.wp a1 a2 a3 x13 fun y14 =>
              ∀ (J15 : Int → Int → Int → Int → List Int → List Int → List Int → Bool → Int → Int → Int → Int → Int → Int → Prop),
                (∀ (x16 x17 x18 x19 : Int) (x20 x21 x22 : List Int) (x23 : Bool) (x24 x25 x26 x27 x28 x29 : Int),
                    Go.K.ifB (Decidable.decide (x29 < x28))
                        (((0 : Int) ≤ x29 ∧ x29 < (↑(List.length x20) : Int)) ∧
                          ((0 : Int) ≤ List.getD x20 (Int.toNat x29) (0 : Int) ∧ List.getD x20 (Int.toNat x29) (0 : Int) < (↑(List.length a3) : Int)) ∧
                            ((0 : Int) ≤ x24 ∧ x24 < (↑(List.length a3) : Int)) ∧
                              Go.K.ifB
                                (Decidable.decide
                                  (Go.IntKind.wrap Go.IntKind.i64
                                      (a5 *
                                        Go.IntKind.wrap Go.IntKind.i64
                                          (List.getD a3 (Int.toNat (List.getD x20 (Int.toNat x29) (0 : Int))) (0 : Int) - List.getD a3 (Int.toNat x24) (0 : Int))) >
                                    (0 : Int)))
                                (J15 x16 x17 x18 x19 x20 x21 x22 x23 x24 (Go.IntKind.wrap Go.IntKind.i64 (x25 + (1 : Int))) x26 x27 x28
                                  (Go.IntKind.wrap Go.IntKind.i64 (x29 + (1 : Int))))
                                (J15 x16 x17 x18 x19 x20 x21 x22 x23 x24 x25 x26 x27 x28 (Go.IntKind.wrap Go.IntKind.i64 (x29 + (1 : Int)))))
                        (Go.K.ifB (Decidable.decide (x25 ≥ a4))
                          (((0 : Int) ≤ x24 ∧ x24 < (↑(List.length a3) : Int)) ∧
                            Go.K.ifB (Decidable.decide (Go.IntKind.wrap Go.IntKind.i64 (List.getD a3 (Int.toNat x24) (0 : Int) + a5) ≥ (0 : Int)))
                              (((0 : Int) ≤ x24 ∧ x24 < (↑(List.length x22) : Int)) ∧
                                ((0 : Int) ≤ x24 ∧ x24 < (↑(List.length x22) : Int)) ∧
                                  J4 x16 x17 x18 x19 x21 (List.set x22 (Int.toNat x24) (Go.IntKind.wrap Go.IntKind.i64 (List.getD x22 (Int.toNat x24) (0 : Int) + a5))) Bool.true
                                    x26 (Go.IntKind.wrap Go.IntKind.i64 (x27 + (1 : Int))))
                              (J4 x16 x17 x18 x19 x21 x22 x23 x26 (Go.IntKind.wrap Go.IntKind.i64 (x27 + (1 : Int)))))
                          (J4 x16 x17 x18 x19 x21 x22 x23 x26 (Go.IntKind.wrap Go.IntKind.i64 (x27 + (1 : Int))))) →
                      J15 x16 x17 x18 x19 x20 x21 x22 x23 x24 x25 x26 x27 x28 x29) →
                  J15 x5 x6 x7 x8 y14 x9 x10 x11 x13 (0 : Int) x12 x13 (↑(List.length y14) : Int) (0 : Int))
            (K x10 x7 x8 x11) →
          J4 x5 x6 x7 x8 x9 x10 x11 x12 x13) →
      J4 (0 : Int) (0 : Int) y2 y3 [] y1 Bool.false (↑(List.length a3) : Int) (0 : Int)) := spec_l05Flow.tx spec_l05Own.wp spec_l05Near.wp a1 a2 a3 a4 a5 K

theorem spec_l05Flows.tx (w_spec_l05Is : Int → Int → List Int → (Bool → Prop) → Prop) (w_spec_l00In : Int → Int → Int → (Bool → Prop) → Prop) (w_spec_l05Own : Int → Int → List Int → (List Int → Int → Int → Prop) → Prop) (w_spec_l05Flow : Int → Int → List Int → Int → Int → (List Int → Int → Int → Bool → Prop) → Prop) (w_spec_l05Give : List Int → Int → Int → (List Int → Int → Int → Bool → Prop) → Prop) (a1 : Int) (a2 : Int) (a3 : List Int) (a4 : Int) (a5 : Int) (a6 : Int) (K : List Int → Int → Int → Bool → Prop) : spec_l05Flows.bd w_spec_l05Is w_spec_l00In w_spec_l05Own w_spec_l05Flow w_spec_l05Give a1 a2 a3 a4 a5 a6 K =
  (w_spec_l05Is a1 a2 a3 fun y1 =>
  Go.K.ifB (!y1) (K [] (0 : Int) (0 : Int) Bool.false)
    (w_spec_l00In a4 (1 : Int) (4 : Int) fun y2 =>
      Go.K.ifB (!y2) (K [] (0 : Int) (0 : Int) Bool.false)
        (w_spec_l00In a5 (0 : Int) (50 : Int) fun y3 =>
          Go.K.ifB (!y3) (K [] (0 : Int) (0 : Int) Bool.false)
            (w_spec_l05Own a1 a2 a3 fun y4 y5 y6 =>
              ∀ (J7 : Int → Int → Int → Int → List Int → List Int → Int → Prop),
                (∀ (x8 x9 x10 x11 : Int) (x12 x13 : List Int) (x14 : Int),
                    Go.K.ifB (Decidable.decide (x14 > (0 : Int)))
                        (w_spec_l05Flow x10 x11 x13 a4 a6 fun y15 y16 y17 y18 =>
                          Go.K.ifB (!y18) (w_spec_l05Give x13 x10 x11 fun y19 y20 y21 y22 => K y19 y20 y21 y22)
                            (J7 x8 x9 y16 y17 x12 y15 (Go.IntKind.wrap Go.IntKind.i64 (x14 - (1 : Int)))))
                        (w_spec_l05Give x13 x10 x11 fun y23 y24 y25 y26 => K y23 y24 y25 y26) →
                      J7 x8 x9 x10 x11 x12 x13 x14) →
                  J7 (0 : Int) (0 : Int) y5 y6 [] y4 a5)))) := by kernel_rfl
theorem spec_l05Flows.eq (a1 : Int) (a2 : Int) (a3 : List Int) (a4 : Int) (a5 : Int) (a6 : Int) (K : List Int → Int → Int → Bool → Prop) : spec_l05Flows.wp a1 a2 a3 a4 a5 a6 K =
  (Go.K.heights.spec_l05Is.wp a1 a2 a3 fun y1 =>
  Go.K.ifB (!y1) (K [] (0 : Int) (0 : Int) Bool.false)
    (Go.K.heights.spec_l00In.wp a4 (1 : Int) (4 : Int) fun y2 =>
      Go.K.ifB (!y2) (K [] (0 : Int) (0 : Int) Bool.false)
        (Go.K.heights.spec_l00In.wp a5 (0 : Int) (50 : Int) fun y3 =>
          Go.K.ifB (!y3) (K [] (0 : Int) (0 : Int) Bool.false)
            (Go.K.heights.spec_l05Own.wp a1 a2 a3 fun y4 y5 y6 =>
              ∀ (J7 : Int → Int → Int → Int → List Int → List Int → Int → Prop),
                (∀ (x8 x9 x10 x11 : Int) (x12 x13 : List Int) (x14 : Int),
                    Go.K.ifB (Decidable.decide (x14 > (0 : Int)))
                        (Go.K.heights.spec_l05Flow.wp x10 x11 x13 a4 a6 fun y15 y16 y17 y18 =>
                          Go.K.ifB (!y18) (Go.K.heights.spec_l05Give.wp x13 x10 x11 fun y19 y20 y21 y22 => K y19 y20 y21 y22)
                            (J7 x8 x9 y16 y17 x12 y15 (Go.IntKind.wrap Go.IntKind.i64 (x14 - (1 : Int)))))
                        (Go.K.heights.spec_l05Give.wp x13 x10 x11 fun y23 y24 y25 y26 => K y23 y24 y25 y26) →
                      J7 x8 x9 x10 x11 x12 x13 x14) →
                  J7 (0 : Int) (0 : Int) y5 y6 [] y4 a5)))) := spec_l05Flows.tx spec_l05Is.wp spec_l00In.wp spec_l05Own.wp spec_l05Flow.wp spec_l05Give.wp a1 a2 a3 a4 a5 a6 K

theorem spec_FlowSteps.tx (w_spec_l05Flows : Int → Int → List Int → Int → Int → Int → (List Int → Int → Int → Bool → Prop) → Prop) (a1 : List Int) (a2 : Int) (a3 : Int) (a4 : Int) (a5 : Int) (K : List Int → Int → Int → Bool → Prop) : spec_FlowSteps.bd w_spec_l05Flows a1 a2 a3 a4 a5 K =
  (w_spec_l05Flows a2 a3 a1 a4 a5 (1 : Int) fun y1 y2 y3 y4 => K y1 y2 y3 y4) := by kernel_rfl
theorem spec_FlowSteps.eq (a1 : List Int) (a2 : Int) (a3 : Int) (a4 : Int) (a5 : Int) (K : List Int → Int → Int → Bool → Prop) : spec_FlowSteps.wp a1 a2 a3 a4 a5 K =
  (Go.K.heights.spec_l05Flows.wp a2 a3 a1 a4 a5 (1 : Int) fun y1 y2 y3 y4 => K y1 y2 y3 y4) := spec_FlowSteps.tx spec_l05Flows.wp a1 a2 a3 a4 a5 K

theorem impl_FlowSteps_1_1.tx  (a1 : Int) (a2 : Int) (K : Bool → Prop) : impl_FlowSteps_1_1.bd  a1 a2 K =
  (K (Decidable.decide (a2 > a1))) := by kernel_rfl
theorem impl_FlowSteps_1_1.eq (a1 : Int) (a2 : Int) (K : Bool → Prop) : impl_FlowSteps_1_1.wp a1 a2 K =
  (K (Decidable.decide (a2 > a1))) := impl_FlowSteps_1_1.tx  a1 a2 K

theorem impl_Heights_count__FlowSteps_1_1.tx (w_impl_Heights_beside : List Int → Int → Int → Int → Int → (List Int → Prop) → Prop) (w_impl_FlowSteps_1_1 : Int → Int → (Bool → Prop) → Prop) (a1 : List
  Int) (a2 : Int) (a3 : Int) (a4 : Int) (a5 : Int) (a6 : Int) (K : Int → Prop) : impl_Heights_count__FlowSteps_1_1.bd w_impl_Heights_beside w_impl_FlowSteps_1_1 a1 a2 a3 a4 a5 a6 K =
  (w_impl_Heights_beside a1 a3 a4 a5 a6 fun y1 =>
  ∀ (J2 : Int → Int → List Int → Int → Int → Int → Prop),
    (∀ (x3 x4 : Int) (x5 : List Int) (x6 x7 x8 : Int),
        Go.K.ifB (Decidable.decide (x8 < x7))
            (((0 : Int) ≤ x8 ∧ x8 < (↑(List.length x5) : Int)) ∧
              ((0 : Int) ≤ List.getD x5 (Int.toNat x8) (0 : Int) ∧ List.getD x5 (Int.toNat x8) (0 : Int) < (↑(List.length a1) : Int)) ∧
                w_impl_FlowSteps_1_1 a2 (List.getD a1 (Int.toNat (List.getD x5 (Int.toNat x8) (0 : Int))) (0 : Int)) fun y9 =>
                  Go.K.ifB y9 (J2 x3 x4 x5 (Go.IntKind.wrap Go.IntKind.i64 (x6 + (1 : Int))) x7 (Go.IntKind.wrap Go.IntKind.i64 (x8 + (1 : Int))))
                    (J2 x3 x4 x5 x6 x7 (Go.IntKind.wrap Go.IntKind.i64 (x8 + (1 : Int)))))
            (K x6) →
          J2 x3 x4 x5 x6 x7 x8) →
      J2 a3 a4 y1 (0 : Int) (↑(List.length y1) : Int) (0 : Int)) := by kernel_rfl
theorem impl_Heights_count__FlowSteps_1_1.eq (a1 : List
  Int) (a2 : Int) (a3 : Int) (a4 : Int) (a5 : Int) (a6 : Int) (K : Int → Prop) : impl_Heights_count__FlowSteps_1_1.wp a1 a2 a3 a4 a5 a6 K =
  (Go.K.heights.impl_Heights_beside.wp a1 a3 a4 a5 a6 fun y1 =>
  ∀ (J2 : Int → Int → List Int → Int → Int → Int → Prop),
    (∀ (x3 x4 : Int) (x5 : List Int) (x6 x7 x8 : Int),
        Go.K.ifB (Decidable.decide (x8 < x7))
            (((0 : Int) ≤ x8 ∧ x8 < (↑(List.length x5) : Int)) ∧
              ((0 : Int) ≤ List.getD x5 (Int.toNat x8) (0 : Int) ∧ List.getD x5 (Int.toNat x8) (0 : Int) < (↑(List.length a1) : Int)) ∧
                Go.K.heights.impl_FlowSteps_1_1.wp a2 (List.getD a1 (Int.toNat (List.getD x5 (Int.toNat x8) (0 : Int))) (0 : Int)) fun y9 =>
                  Go.K.ifB y9 (J2 x3 x4 x5 (Go.IntKind.wrap Go.IntKind.i64 (x6 + (1 : Int))) x7 (Go.IntKind.wrap Go.IntKind.i64 (x8 + (1 : Int))))
                    (J2 x3 x4 x5 x6 x7 (Go.IntKind.wrap Go.IntKind.i64 (x8 + (1 : Int)))))
            (K x6) →
          J2 x3 x4 x5 x6 x7 x8) →
      J2 a3 a4 y1 (0 : Int) (↑(List.length y1) : Int) (0 : Int)) := impl_Heights_count__FlowSteps_1_1.tx impl_Heights_beside.wp impl_FlowSteps_1_1.wp a1 a2 a3 a4 a5 a6 K

theorem impl_FlowSteps_1.tx (w_impl_Heights_top : List Int → Int → Int → Int → Int → (Int → Prop) → Prop) (w_impl_Heights_count__FlowSteps_1_1 : List Int → Int → Int → Int → Int → Int → (Int → Prop) → Prop) (a1 : List Int) (a2 : Int) (a3 : Int) (a4 : Int) (a5 : Int) (a6 : Int) (K : Int → Prop) : impl_FlowSteps_1.bd w_impl_Heights_top w_impl_Heights_count__FlowSteps_1_1 a1 a2 a3 a4 a5 a6 K =
  (w_impl_Heights_top a1 a2 a3 a4 a5 fun y1 =>
  w_impl_Heights_count__FlowSteps_1_1 a1 y1 a2 a3 a4 a5 fun y2 =>
    Go.K.ifB (Decidable.decide (y2 ≥ a6)) (K (Go.IntKind.wrap Go.IntKind.i64 (y1 + (1 : Int)))) (K y1)) := by kernel_rfl
theorem impl_FlowSteps_1.eq (a1 : List Int) (a2 : Int) (a3 : Int) (a4 : Int) (a5 : Int) (a6 : Int) (K : Int → Prop) : impl_FlowSteps_1.wp a1 a2 a3 a4 a5 a6 K =
  (Go.K.heights.impl_Heights_top.wp a1 a2 a3 a4 a5 fun y1 =>
  Go.K.heights.impl_Heights_count__FlowSteps_1_1.wp a1 y1 a2 a3 a4 a5 fun y2 =>
    Go.K.ifB (Decidable.decide (y2 ≥ a6)) (K (Go.IntKind.wrap Go.IntKind.i64 (y1 + (1 : Int)))) (K y1)) := impl_FlowSteps_1.tx impl_Heights_top.wp impl_Heights_count__FlowSteps_1_1.wp a1 a2 a3 a4 a5 a6 K

theorem slices_Equal_int64_int64.tx  (a1 : List Int) (a2 : List Int) (K : Bool → Prop) : slices_Equal_int64_int64.bd  a1 a2 K =
  (Go.K.ifB ((↑(List.length a1) : Int) != (↑(List.length a2) : Int)) (K Bool.false)
  (∀ (J1 : Int → Int → Prop),
    (∀ (x2 x3 : Int),
        Go.K.ifB (Decidable.decide (x3 < x2))
            (((0 : Int) ≤ x3 ∧ x3 < (↑(List.length a1) : Int)) ∧
              ((0 : Int) ≤ x3 ∧ x3 < (↑(List.length a2) : Int)) ∧
                Go.K.ifB (List.getD a1 (Int.toNat x3) (0 : Int) != List.getD a2 (Int.toNat x3) (0 : Int)) (K Bool.false) (J1 x2 (Go.IntKind.wrap Go.IntKind.i64 (x3 + (1 : Int)))))
            (K Bool.true) →
          J1 x2 x3) →
      J1 (↑(List.length a1) : Int) (0 : Int))) := by kernel_rfl
theorem slices_Equal_int64_int64.eq (a1 : List Int) (a2 : List Int) (K : Bool → Prop) : slices_Equal_int64_int64.wp a1 a2 K =
  (Go.K.ifB ((↑(List.length a1) : Int) != (↑(List.length a2) : Int)) (K Bool.false)
  (∀ (J1 : Int → Int → Prop),
    (∀ (x2 x3 : Int),
        Go.K.ifB (Decidable.decide (x3 < x2))
            (((0 : Int) ≤ x3 ∧ x3 < (↑(List.length a1) : Int)) ∧
              ((0 : Int) ≤ x3 ∧ x3 < (↑(List.length a2) : Int)) ∧
                Go.K.ifB (List.getD a1 (Int.toNat x3) (0 : Int) != List.getD a2 (Int.toNat x3) (0 : Int)) (K Bool.false) (J1 x2 (Go.IntKind.wrap Go.IntKind.i64 (x3 + (1 : Int)))))
            (K Bool.true) →
          J1 x2 x3) →
      J1 (↑(List.length a1) : Int) (0 : Int))) := slices_Equal_int64_int64.tx  a1 a2 K

theorem impl_SameHeights.tx (w_slices_Equal_int64_int64 : List Int → List Int → (Bool → Prop) → Prop) (a1 : List Int) (a2 : List Int) (a3 : Int) (a4 : Int) (a5 : Int) (a6 : Int) (K : Bool → Prop) : impl_SameHeights.bd w_slices_Equal_int64_int64 a1 a2 a3 a4 a5 a6 K =
  (Go.K.ifB (a3 == a5) (Go.K.ifB (a4 == a6) (w_slices_Equal_int64_int64 a1 a2 fun y1 => K y1) (K Bool.false)) (K Bool.false)) := by kernel_rfl
theorem impl_SameHeights.eq (a1 : List Int) (a2 : List Int) (a3 : Int) (a4 : Int) (a5 : Int) (a6 : Int) (K : Bool → Prop) : impl_SameHeights.wp a1 a2 a3 a4 a5 a6 K =
  (Go.K.ifB (a3 == a5) (Go.K.ifB (a4 == a6) (Go.K.heights.slices_Equal_int64_int64.wp a1 a2 fun y1 => K y1) (K Bool.false)) (K Bool.false)) := impl_SameHeights.tx slices_Equal_int64_int64.wp a1 a2 a3 a4 a5 a6 K

theorem impl_Heights_turned__FlowSteps_1.tx (w_impl_ValidHeights : List Int → Int → Int → (Bool → Prop) → Prop) (w_impl_within : Int → Int → Int → (Bool → Prop) → Prop) (w_impl_Heights_cloned : List Int → Int → Int → (List Int → Int → Int → Prop) → Prop) (w_impl_FlowSteps_1 : List Int → Int → Int → Int → Int → Int → (Int → Prop) → Prop) (w_impl_SameHeights : List Int → List Int → Int → Int → Int → Int → (Bool → Prop) → Prop) (w_impl_Heights_told : List Int → Int → Int → (List Int → Int → Int → Bool → Prop) → Prop) (a1 : List
  Int) (a2 : Int) (a3 : Int) (a4 : Int) (a5 : Int) (K : List Int → Int → Int → Bool → Prop) : impl_Heights_turned__FlowSteps_1.bd w_impl_ValidHeights w_impl_within w_impl_Heights_cloned w_impl_FlowSteps_1 w_impl_SameHeights w_impl_Heights_told a1 a2 a3 a4 a5 K =
  (w_impl_ValidHeights a1 a2 a3 fun y1 =>
  Go.K.ifB (!y1) (K [] (0 : Int) (0 : Int) Bool.false)
    (w_impl_within a4 (1 : Int) (4 : Int) fun y2 =>
      Go.K.ifB (!y2) (K [] (0 : Int) (0 : Int) Bool.false)
        (w_impl_within a5 (0 : Int) (50 : Int) fun y3 =>
          Go.K.ifB (!y3) (K [] (0 : Int) (0 : Int) Bool.false)
            (w_impl_Heights_cloned a1 a2 a3 fun y4 y5 y6 =>
              ∀ (J7 : Int → Int → Int → Int → List Int → List Int → Int → Int → Prop),
                (∀ (x8 x9 x10 x11 : Int) (x12 x13 : List Int) (x14 x15 : Int),
                    Go.K.ifB (Decidable.decide (x15 < x14))
                        (w_impl_Heights_cloned x12 x8 x9 fun y16 y17 y18 =>
                          ∀ (J19 : Int → Int → Int → Int → Int → Int → List Int → List Int → List Int → Int → Int → Int → Int → Prop),
                            (∀ (x20 x21 x22 x23 x24 x25 : Int) (x26 x27 x28 : List Int) (x29 x30 x31 x32 : Int),
                                Go.K.ifB (Decidable.decide (x32 < x31))
                                    (x20 ≠ (0 : Int) ∧
                                      x20 ≠ (0 : Int) ∧
                                        w_impl_FlowSteps_1 x26 x20 x21 (Int.tmod x32 x20) (Go.IntKind.wrap Go.IntKind.i64 (Int.tdiv x32 x20)) a4 fun y33 =>
                                          ((0 : Int) ≤ x32 ∧ x32 < (↑(List.length x28) : Int)) ∧
                                            J19 x20 x21 x22 x23 x24 x25 x26 x27 (List.set x28 (Int.toNat x32) y33) x29 x30 x31 (Go.IntKind.wrap Go.IntKind.i64 (x32 + (1 : Int))))
                                    (w_impl_SameHeights x28 x26 x24 x25 x20 x21 fun y34 =>
                                      Go.K.ifB y34 (w_impl_Heights_told x26 x20 x21 fun y35 y36 y37 y38 => K y35 y36 y37 y38)
                                        (J7 x24 x25 x22 x23 x28 x27 x29 (Go.IntKind.wrap Go.IntKind.i64 (x30 + (1 : Int))))) →
                                  J19 x20 x21 x22 x23 x24 x25 x26 x27 x28 x29 x30 x31 x32) →
                              J19 x8 x9 x10 x11 y17 y18 x12 x13 y16 x14 x15 (↑(List.length y16) : Int) (0 : Int))
                        (w_impl_Heights_told x12 x8 x9 fun y41 y42 y43 y44 => K y41 y42 y43 y44) →
                      J7 x8 x9 x10 x11 x12 x13 x14 x15) →
                  J7 y5 y6 (0 : Int) (0 : Int) y4 [] a5 (0 : Int))))) := by kernel_rfl
theorem impl_Heights_turned__FlowSteps_1.eq (a1 : List
  Int) (a2 : Int) (a3 : Int) (a4 : Int) (a5 : Int) (K : List Int → Int → Int → Bool → Prop) : impl_Heights_turned__FlowSteps_1.wp a1 a2 a3 a4 a5 K =
  (Go.K.heights.impl_ValidHeights.wp a1 a2 a3 fun y1 =>
  Go.K.ifB (!y1) (K [] (0 : Int) (0 : Int) Bool.false)
    (Go.K.heights.impl_within.wp a4 (1 : Int) (4 : Int) fun y2 =>
      Go.K.ifB (!y2) (K [] (0 : Int) (0 : Int) Bool.false)
        (Go.K.heights.impl_within.wp a5 (0 : Int) (50 : Int) fun y3 =>
          Go.K.ifB (!y3) (K [] (0 : Int) (0 : Int) Bool.false)
            (Go.K.heights.impl_Heights_cloned.wp a1 a2 a3 fun y4 y5 y6 =>
              ∀ (J7 : Int → Int → Int → Int → List Int → List Int → Int → Int → Prop),
                (∀ (x8 x9 x10 x11 : Int) (x12 x13 : List Int) (x14 x15 : Int),
                    Go.K.ifB (Decidable.decide (x15 < x14))
                        (Go.K.heights.impl_Heights_cloned.wp x12 x8 x9 fun y16 y17 y18 =>
                          ∀ (J19 : Int → Int → Int → Int → Int → Int → List Int → List Int → List Int → Int → Int → Int → Int → Prop),
                            (∀ (x20 x21 x22 x23 x24 x25 : Int) (x26 x27 x28 : List Int) (x29 x30 x31 x32 : Int),
                                Go.K.ifB (Decidable.decide (x32 < x31))
                                    (x20 ≠ (0 : Int) ∧
                                      x20 ≠ (0 : Int) ∧
                                        Go.K.heights.impl_FlowSteps_1.wp x26 x20 x21 (Int.tmod x32 x20) (Go.IntKind.wrap Go.IntKind.i64 (Int.tdiv x32 x20)) a4 fun y33 =>
                                          ((0 : Int) ≤ x32 ∧ x32 < (↑(List.length x28) : Int)) ∧
                                            J19 x20 x21 x22 x23 x24 x25 x26 x27 (List.set x28 (Int.toNat x32) y33) x29 x30 x31 (Go.IntKind.wrap Go.IntKind.i64 (x32 + (1 : Int))))
                                    (Go.K.heights.impl_SameHeights.wp x28 x26 x24 x25 x20 x21 fun y34 =>
                                      Go.K.ifB y34 (Go.K.heights.impl_Heights_told.wp x26 x20 x21 fun y35 y36 y37 y38 => K y35 y36 y37 y38)
                                        (J7 x24 x25 x22 x23 x28 x27 x29 (Go.IntKind.wrap Go.IntKind.i64 (x30 + (1 : Int))))) →
                                  J19 x20 x21 x22 x23 x24 x25 x26 x27 x28 x29 x30 x31 x32) →
                              J19 x8 x9 x10 x11 y17 y18 x12 x13 y16 x14 x15 (↑(List.length y16) : Int) (0 : Int))
                        (Go.K.heights.impl_Heights_told.wp x12 x8 x9 fun y41 y42 y43 y44 => K y41 y42 y43 y44) →
                      J7 x8 x9 x10 x11 x12 x13 x14 x15) →
                  J7 y5 y6 (0 : Int) (0 : Int) y4 [] a5 (0 : Int))))) := impl_Heights_turned__FlowSteps_1.tx impl_ValidHeights.wp impl_within.wp impl_Heights_cloned.wp impl_FlowSteps_1.wp impl_SameHeights.wp impl_Heights_told.wp a1 a2 a3 a4 a5 K

theorem impl_FlowSteps.tx (w_impl_Heights_turned__FlowSteps_1 : List Int → Int → Int → Int → Int → (List Int → Int → Int → Bool → Prop) → Prop) (a1 : List Int) (a2 : Int) (a3 : Int) (a4 : Int) (a5 : Int) (K : List Int → Int → Int → Bool → Prop) : impl_FlowSteps.bd w_impl_Heights_turned__FlowSteps_1 a1 a2 a3 a4 a5 K =
  (w_impl_Heights_turned__FlowSteps_1 a1 a2 a3 a4 a5 fun y1 y2 y3 y4 => K y1 y2 y3 y4) := by kernel_rfl
theorem impl_FlowSteps.eq (a1 : List Int) (a2 : Int) (a3 : Int) (a4 : Int) (a5 : Int) (K : List Int → Int → Int → Bool → Prop) : impl_FlowSteps.wp a1 a2 a3 a4 a5 K =
  (Go.K.heights.impl_Heights_turned__FlowSteps_1.wp a1 a2 a3 a4 a5 fun y1 y2 y3 y4 => K y1 y2 y3 y4) := impl_FlowSteps.tx impl_Heights_turned__FlowSteps_1.wp a1 a2 a3 a4 a5 K

theorem laws_FnExactFlowSteps.tx (w_laws_szHeights : List Int → Int → Int → Int → (Int → Prop) → Prop) (w_laws_toHeights : List Int → Int → Int → (List Int → Int → Int → Prop) → Prop) (w_spec_FlowSteps : List Int → Int → Int → Int → Int → (List Int → Int → Int → Bool → Prop) → Prop) (w_impl_FlowSteps : List Int → Int → Int → Int → Int → (List Int → Int → Int → Bool → Prop) → Prop) (w_laws_eqHeights : List Int → List Int → Int → Int → Int → Int → (Bool → Prop) → Prop) (w_laws_markHeights : List Int → Int → Int → Int → (List Int → Int → Prop) → Prop) (w_laws_heldHeights : List Int → Int → Int → Int → (Int → Prop) → Prop) (a1 : List Int) (a2 : Int) (a3 : Int) (a4 : Int) (a5 : Int) (K : Bool → Prop) : laws_FnExactFlowSteps.bd w_laws_szHeights w_laws_toHeights w_spec_FlowSteps w_impl_FlowSteps w_laws_eqHeights w_laws_markHeights w_laws_heldHeights a1 a2 a3 a4 a5 K =
  (w_laws_szHeights a1 a2 a3 (1048576 : Int) fun y1 =>
  Go.K.ifB (Decidable.decide (y1 < (0 : Int))) (K Bool.true)
    (w_laws_toHeights a1 a2 a3 fun y2 y3 y4 =>
      w_spec_FlowSteps y2 y3 y4 a4 a5 fun y5 y6 y7 y8 =>
        w_laws_toHeights a1 a2 a3 fun y9 y10 y11 =>
          w_impl_FlowSteps y9 y10 y11 a4 a5 fun y12 y13 y14 y15 =>
            w_laws_eqHeights y12 y5 y13 y14 y6 y7 fun y16 =>
              Go.K.ifB (!y16) (K Bool.false)
                (Go.K.ifB (y15 != y8) (K Bool.false)
                  (w_laws_toHeights a1 a2 a3 fun y17 y18 y19 =>
                    w_laws_eqHeights y9 y17 y10 y11 y18 y19 fun y20 =>
                      Go.K.ifB (!y20) (K Bool.false)
                        (w_laws_markHeights y9 y10 y11 (1 : Int) fun y21 y22 =>
                          Go.K.ifB (Decidable.decide (y22 < (0 : Int))) (K Bool.false)
                            (w_laws_eqHeights y12 y5 y13 y14 y6 y7 fun y23 =>
                              Go.K.ifB (!y23) (K Bool.false)
                                (Go.K.ifB (y15 != y8) (K Bool.false)
                                  (w_laws_markHeights y12 y13 y14 (1 : Int) fun y24 y25 =>
                                    w_laws_heldHeights y24 y13 y14 (1 : Int) fun y26 =>
                                      Go.K.ifB (Decidable.decide (y26 < (0 : Int))) (K Bool.false)
                                        (Go.K.ifB (y26 != y25) (K Bool.false)
                                          (w_laws_toHeights a1 a2 a3 fun y27 y28 y29 =>
                                            w_impl_FlowSteps y27 y28 y29 a4 a5 fun y30 y31 y32 y33 =>
                                              w_laws_eqHeights y30 y5 y31 y32 y6 y7 fun y34 =>
                                                Go.K.ifB (!y34) (K Bool.false)
                                                  (Go.K.ifB (y33 != y8) (K Bool.false)
                                                    (w_laws_heldHeights y24 y13 y14 (1 : Int) fun y35 =>
                                                      Go.K.ifB (Decidable.decide (y35 < (0 : Int))) (K Bool.false)
                                                        (Go.K.ifB (y35 != y25) (K Bool.false) (K Bool.true)))))))))))))) := by kernel_rfl
theorem laws_FnExactFlowSteps.eq (a1 : List Int) (a2 : Int) (a3 : Int) (a4 : Int) (a5 : Int) (K : Bool → Prop) : laws_FnExactFlowSteps.wp a1 a2 a3 a4 a5 K =
  (Go.K.heights.laws_szHeights.wp a1 a2 a3 (1048576 : Int) fun y1 =>
  Go.K.ifB (Decidable.decide (y1 < (0 : Int))) (K Bool.true)
    (Go.K.heights.laws_toHeights.wp a1 a2 a3 fun y2 y3 y4 =>
      Go.K.heights.spec_FlowSteps.wp y2 y3 y4 a4 a5 fun y5 y6 y7 y8 =>
        Go.K.heights.laws_toHeights.wp a1 a2 a3 fun y9 y10 y11 =>
          Go.K.heights.impl_FlowSteps.wp y9 y10 y11 a4 a5 fun y12 y13 y14 y15 =>
            Go.K.heights.laws_eqHeights.wp y12 y5 y13 y14 y6 y7 fun y16 =>
              Go.K.ifB (!y16) (K Bool.false)
                (Go.K.ifB (y15 != y8) (K Bool.false)
                  (Go.K.heights.laws_toHeights.wp a1 a2 a3 fun y17 y18 y19 =>
                    Go.K.heights.laws_eqHeights.wp y9 y17 y10 y11 y18 y19 fun y20 =>
                      Go.K.ifB (!y20) (K Bool.false)
                        (Go.K.heights.laws_markHeights.wp y9 y10 y11 (1 : Int) fun y21 y22 =>
                          Go.K.ifB (Decidable.decide (y22 < (0 : Int))) (K Bool.false)
                            (Go.K.heights.laws_eqHeights.wp y12 y5 y13 y14 y6 y7 fun y23 =>
                              Go.K.ifB (!y23) (K Bool.false)
                                (Go.K.ifB (y15 != y8) (K Bool.false)
                                  (Go.K.heights.laws_markHeights.wp y12 y13 y14 (1 : Int) fun y24 y25 =>
                                    Go.K.heights.laws_heldHeights.wp y24 y13 y14 (1 : Int) fun y26 =>
                                      Go.K.ifB (Decidable.decide (y26 < (0 : Int))) (K Bool.false)
                                        (Go.K.ifB (y26 != y25) (K Bool.false)
                                          (Go.K.heights.laws_toHeights.wp a1 a2 a3 fun y27 y28 y29 =>
                                            Go.K.heights.impl_FlowSteps.wp y27 y28 y29 a4 a5 fun y30 y31 y32 y33 =>
                                              Go.K.heights.laws_eqHeights.wp y30 y5 y31 y32 y6 y7 fun y34 =>
                                                Go.K.ifB (!y34) (K Bool.false)
                                                  (Go.K.ifB (y33 != y8) (K Bool.false)
                                                    (Go.K.heights.laws_heldHeights.wp y24 y13 y14 (1 : Int) fun y35 =>
                                                      Go.K.ifB (Decidable.decide (y35 < (0 : Int))) (K Bool.false)
                                                        (Go.K.ifB (y35 != y25) (K Bool.false) (K Bool.true)))))))))))))) := laws_FnExactFlowSteps.tx laws_szHeights.wp laws_toHeights.wp spec_FlowSteps.wp impl_FlowSteps.wp laws_eqHeights.wp laws_markHeights.wp laws_heldHeights.wp a1 a2 a3 a4 a5 K

theorem math_NaN.tx  (K : Nat → Prop) : math_NaN.bd  K =
  (K (Go.K.cF Go.FloatKind.f64 (Int.toNat (9221120237041090561 : Int)))) := by kernel_rfl
theorem math_NaN.eq (K : Nat → Prop) : math_NaN.wp K =
  (K (Go.K.cF Go.FloatKind.f64 (Int.toNat (9221120237041090561 : Int)))) := math_NaN.tx  K

theorem math_Abs.tx  (a1 : Nat) (K : Nat → Prop) : math_Abs.bd  a1 K =
  (Go.K.isNaNW Go.FloatKind.f64 a1 = Bool.false ∧
  K (Go.K.cF Go.FloatKind.f64 (Int.toNat (Go.K.ibits Go.BinOp.andNot Go.IntKind.u64 (↑a1 : Int) (9223372036854775808 : Int))))) := by kernel_rfl
theorem math_Abs.eq (a1 : Nat) (K : Nat → Prop) : math_Abs.wp a1 K =
  (Go.K.isNaNW Go.FloatKind.f64 a1 = Bool.false ∧
  K (Go.K.cF Go.FloatKind.f64 (Int.toNat (Go.K.ibits Go.BinOp.andNot Go.IntKind.u64 (↑a1 : Int) (9223372036854775808 : Int))))) := math_Abs.tx  a1 K

theorem math_Sqrt.tx  (a1 : Nat) (K : Nat → Prop) : math_Sqrt.bd  a1 K =
  (K (Go.K.fsqrt a1)) := by kernel_rfl
theorem math_Sqrt.eq (a1 : Nat) (K : Nat → Prop) : math_Sqrt.wp a1 K =
  (K (Go.K.fsqrt a1)) := math_Sqrt.tx  a1 K

theorem spec_l01AngleWide.tx (w_math_NaN : (Nat → Prop) → Prop) (w_math_Abs : Nat → (Nat → Prop) → Prop) (w_math_Sqrt : Nat → (Nat → Prop) → Prop) (a1 : Nat) (a2 : Nat) (K : Nat → Prop) : spec_l01AngleWide.bd w_math_NaN w_math_Abs w_math_Sqrt a1 a2 K =
  (Go.K.ifB (Go.K.fne Go.FloatKind.f64 (Go.K.farith Go.BinOp.sub Go.FloatKind.f64 a1 a1) (0 : Nat)) (w_math_NaN fun y1 => K y1)
  (Go.K.ifB (Go.K.fne Go.FloatKind.f64 (Go.K.farith Go.BinOp.sub Go.FloatKind.f64 a2 a2) (0 : Nat)) (w_math_NaN fun y2 => K y2)
    (Go.K.ifB (Go.K.feq Go.FloatKind.f64 a2 (0 : Nat))
      (Go.K.ifB (Go.K.feq Go.FloatKind.f64 a1 (0 : Nat)) (K (0 : Nat))
        (w_math_Abs a1 fun y3 =>
          w_math_Abs a2 fun y4 =>
            ∀ (J5 : Bool → Nat → Prop),
              (∀ (x6 : Bool) (x7 : Nat),
                  (∀ (J8 : Bool → Nat → Int → Prop),
                      (∀ (x9 : Bool) (x10 : Nat) (x11 : Int),
                          Go.K.ifB (Decidable.decide (x11 < (3 : Int)))
                              (w_math_Sqrt (Go.K.farith Go.BinOp.add Go.FloatKind.f64 (4607182418800017408 : Nat) (Go.K.farith Go.BinOp.mul Go.FloatKind.f64 x10 x10))
                                fun y12 =>
                                J8 x9 (Go.K.farith Go.BinOp.quo Go.FloatKind.f64 x10 (Go.K.farith Go.BinOp.add Go.FloatKind.f64 (4607182418800017408 : Nat) y12))
                                  (Go.IntKind.wrap Go.IntKind.i64 (x11 + (1 : Int))))
                              (∀ (J13 : Bool → Nat → Nat → Nat → Int → Prop),
                                (∀ (x14 : Bool) (x15 x16 x17 : Nat) (x18 : Int),
                                    Go.K.ifB (Decidable.decide (x18 ≥ (1 : Int)))
                                        (J13 x14 x15 x16
                                          (Go.K.farith Go.BinOp.sub Go.FloatKind.f64
                                            (Go.K.farith Go.BinOp.quo Go.FloatKind.f64 (4607182418800017408 : Nat) (Go.K.fofint Go.FloatKind.f64 x18))
                                            (Go.K.farith Go.BinOp.mul Go.FloatKind.f64 x16 x17))
                                          (Go.IntKind.wrap Go.IntKind.i64 (x18 - (2 : Int))))
                                        (Go.K.ifB x14
                                          (Go.K.ifB (Go.K.flt Go.FloatKind.f64 a2 (0 : Nat))
                                            (Go.K.ifB (Go.K.flt Go.FloatKind.f64 a1 (0 : Nat))
                                              (K
                                                (Go.K.fneg Go.FloatKind.f64
                                                  (Go.K.farith Go.BinOp.sub Go.FloatKind.f64 (4602678819172646912 : Nat)
                                                    (Go.K.farith Go.BinOp.sub Go.FloatKind.f64 (4598175219545276416 : Nat)
                                                      (Go.K.farith Go.BinOp.quo Go.FloatKind.f64
                                                        (Go.K.farith Go.BinOp.mul Go.FloatKind.f64 (4620693217682128896 : Nat) (Go.K.farith Go.BinOp.mul Go.FloatKind.f64 x15 x17))
                                                        (4618760256179416344 : Nat))))))
                                              (K
                                                (Go.K.farith Go.BinOp.sub Go.FloatKind.f64 (4602678819172646912 : Nat)
                                                  (Go.K.farith Go.BinOp.sub Go.FloatKind.f64 (4598175219545276416 : Nat)
                                                    (Go.K.farith Go.BinOp.quo Go.FloatKind.f64
                                                      (Go.K.farith Go.BinOp.mul Go.FloatKind.f64 (4620693217682128896 : Nat) (Go.K.farith Go.BinOp.mul Go.FloatKind.f64 x15 x17))
                                                      (4618760256179416344 : Nat))))))
                                            (Go.K.ifB (Go.K.flt Go.FloatKind.f64 a1 (0 : Nat))
                                              (K
                                                (Go.K.fneg Go.FloatKind.f64
                                                  (Go.K.farith Go.BinOp.sub Go.FloatKind.f64 (4598175219545276416 : Nat)
                                                    (Go.K.farith Go.BinOp.quo Go.FloatKind.f64
                                                      (Go.K.farith Go.BinOp.mul Go.FloatKind.f64 (4620693217682128896 : Nat) (Go.K.farith Go.BinOp.mul Go.FloatKind.f64 x15 x17))
                                                      (4618760256179416344 : Nat)))))
                                              (K
                                                (Go.K.farith Go.BinOp.sub Go.FloatKind.f64 (4598175219545276416 : Nat)
                                                  (Go.K.farith Go.BinOp.quo Go.FloatKind.f64
                                                    (Go.K.farith Go.BinOp.mul Go.FloatKind.f64 (4620693217682128896 : Nat) (Go.K.farith Go.BinOp.mul Go.FloatKind.f64 x15 x17))
                                                    (4618760256179416344 : Nat))))))
                                          (Go.K.ifB (Go.K.flt Go.FloatKind.f64 a2 (0 : Nat))
                                            (Go.K.ifB (Go.K.flt Go.FloatKind.f64 a1 (0 : Nat))
                                              (K
                                                (Go.K.fneg Go.FloatKind.f64
                                                  (Go.K.farith Go.BinOp.sub Go.FloatKind.f64 (4602678819172646912 : Nat)
                                                    (Go.K.farith Go.BinOp.quo Go.FloatKind.f64
                                                      (Go.K.farith Go.BinOp.mul Go.FloatKind.f64 (4620693217682128896 : Nat) (Go.K.farith Go.BinOp.mul Go.FloatKind.f64 x15 x17))
                                                      (4618760256179416344 : Nat)))))
                                              (K
                                                (Go.K.farith Go.BinOp.sub Go.FloatKind.f64 (4602678819172646912 : Nat)
                                                  (Go.K.farith Go.BinOp.quo Go.FloatKind.f64
                                                    (Go.K.farith Go.BinOp.mul Go.FloatKind.f64 (4620693217682128896 : Nat) (Go.K.farith Go.BinOp.mul Go.FloatKind.f64 x15 x17))
                                                    (4618760256179416344 : Nat)))))
                                            (Go.K.ifB (Go.K.flt Go.FloatKind.f64 a1 (0 : Nat))
                                              (K
                                                (Go.K.fneg Go.FloatKind.f64
                                                  (Go.K.farith Go.BinOp.quo Go.FloatKind.f64
                                                    (Go.K.farith Go.BinOp.mul Go.FloatKind.f64 (4620693217682128896 : Nat) (Go.K.farith Go.BinOp.mul Go.FloatKind.f64 x15 x17))
                                                    (4618760256179416344 : Nat))))
                                              (K
                                                (Go.K.farith Go.BinOp.quo Go.FloatKind.f64
                                                  (Go.K.farith Go.BinOp.mul Go.FloatKind.f64 (4620693217682128896 : Nat) (Go.K.farith Go.BinOp.mul Go.FloatKind.f64 x15 x17))
                                                  (4618760256179416344 : Nat)))))) →
                                      J13 x14 x15 x16 x17 x18) →
                                  J13 x9 x10 (Go.K.farith Go.BinOp.mul Go.FloatKind.f64 x10 x10) (0 : Nat) (15 : Int)) →
                            J8 x9 x10 x11) →
                        J8 x6 x7 (0 : Int)) →
                    J5 x6 x7) →
                Go.K.ifB (Go.K.fgt Go.FloatKind.f64 y3 y4) (J5 (Go.K.fgt Go.FloatKind.f64 y3 y4) (Go.K.farith Go.BinOp.quo Go.FloatKind.f64 y4 y3))
                  (J5 (Go.K.fgt Go.FloatKind.f64 y3 y4) (Go.K.farith Go.BinOp.quo Go.FloatKind.f64 y3 y4))))
      (w_math_Abs a1 fun y25 =>
        w_math_Abs a2 fun y26 =>
          ∀ (J27 : Bool → Nat → Prop),
            (∀ (x28 : Bool) (x29 : Nat),
                (∀ (J30 : Bool → Nat → Int → Prop),
                    (∀ (x31 : Bool) (x32 : Nat) (x33 : Int),
                        Go.K.ifB (Decidable.decide (x33 < (3 : Int)))
                            (w_math_Sqrt (Go.K.farith Go.BinOp.add Go.FloatKind.f64 (4607182418800017408 : Nat) (Go.K.farith Go.BinOp.mul Go.FloatKind.f64 x32 x32))
                              fun y34 =>
                              J30 x31 (Go.K.farith Go.BinOp.quo Go.FloatKind.f64 x32 (Go.K.farith Go.BinOp.add Go.FloatKind.f64 (4607182418800017408 : Nat) y34))
                                (Go.IntKind.wrap Go.IntKind.i64 (x33 + (1 : Int))))
                            (∀ (J35 : Bool → Nat → Nat → Nat → Int → Prop),
                              (∀ (x36 : Bool) (x37 x38 x39 : Nat) (x40 : Int),
                                  Go.K.ifB (Decidable.decide (x40 ≥ (1 : Int)))
                                      (J35 x36 x37 x38
                                        (Go.K.farith Go.BinOp.sub Go.FloatKind.f64
                                          (Go.K.farith Go.BinOp.quo Go.FloatKind.f64 (4607182418800017408 : Nat) (Go.K.fofint Go.FloatKind.f64 x40))
                                          (Go.K.farith Go.BinOp.mul Go.FloatKind.f64 x38 x39))
                                        (Go.IntKind.wrap Go.IntKind.i64 (x40 - (2 : Int))))
                                      (Go.K.ifB x36
                                        (Go.K.ifB (Go.K.flt Go.FloatKind.f64 a2 (0 : Nat))
                                          (Go.K.ifB (Go.K.flt Go.FloatKind.f64 a1 (0 : Nat))
                                            (K
                                              (Go.K.fneg Go.FloatKind.f64
                                                (Go.K.farith Go.BinOp.sub Go.FloatKind.f64 (4602678819172646912 : Nat)
                                                  (Go.K.farith Go.BinOp.sub Go.FloatKind.f64 (4598175219545276416 : Nat)
                                                    (Go.K.farith Go.BinOp.quo Go.FloatKind.f64
                                                      (Go.K.farith Go.BinOp.mul Go.FloatKind.f64 (4620693217682128896 : Nat) (Go.K.farith Go.BinOp.mul Go.FloatKind.f64 x37 x39))
                                                      (4618760256179416344 : Nat))))))
                                            (K
                                              (Go.K.farith Go.BinOp.sub Go.FloatKind.f64 (4602678819172646912 : Nat)
                                                (Go.K.farith Go.BinOp.sub Go.FloatKind.f64 (4598175219545276416 : Nat)
                                                  (Go.K.farith Go.BinOp.quo Go.FloatKind.f64
                                                    (Go.K.farith Go.BinOp.mul Go.FloatKind.f64 (4620693217682128896 : Nat) (Go.K.farith Go.BinOp.mul Go.FloatKind.f64 x37 x39))
                                                    (4618760256179416344 : Nat))))))
                                          (Go.K.ifB (Go.K.flt Go.FloatKind.f64 a1 (0 : Nat))
                                            (K
                                              (Go.K.fneg Go.FloatKind.f64
                                                (Go.K.farith Go.BinOp.sub Go.FloatKind.f64 (4598175219545276416 : Nat)
                                                  (Go.K.farith Go.BinOp.quo Go.FloatKind.f64
                                                    (Go.K.farith Go.BinOp.mul Go.FloatKind.f64 (4620693217682128896 : Nat) (Go.K.farith Go.BinOp.mul Go.FloatKind.f64 x37 x39))
                                                    (4618760256179416344 : Nat)))))
                                            (K
                                              (Go.K.farith Go.BinOp.sub Go.FloatKind.f64 (4598175219545276416 : Nat)
                                                (Go.K.farith Go.BinOp.quo Go.FloatKind.f64
                                                  (Go.K.farith Go.BinOp.mul Go.FloatKind.f64 (4620693217682128896 : Nat) (Go.K.farith Go.BinOp.mul Go.FloatKind.f64 x37 x39))
                                                  (4618760256179416344 : Nat))))))
                                        (Go.K.ifB (Go.K.flt Go.FloatKind.f64 a2 (0 : Nat))
                                          (Go.K.ifB (Go.K.flt Go.FloatKind.f64 a1 (0 : Nat))
                                            (K
                                              (Go.K.fneg Go.FloatKind.f64
                                                (Go.K.farith Go.BinOp.sub Go.FloatKind.f64 (4602678819172646912 : Nat)
                                                  (Go.K.farith Go.BinOp.quo Go.FloatKind.f64
                                                    (Go.K.farith Go.BinOp.mul Go.FloatKind.f64 (4620693217682128896 : Nat) (Go.K.farith Go.BinOp.mul Go.FloatKind.f64 x37 x39))
                                                    (4618760256179416344 : Nat)))))
                                            (K
                                              (Go.K.farith Go.BinOp.sub Go.FloatKind.f64 (4602678819172646912 : Nat)
                                                (Go.K.farith Go.BinOp.quo Go.FloatKind.f64
                                                  (Go.K.farith Go.BinOp.mul Go.FloatKind.f64 (4620693217682128896 : Nat) (Go.K.farith Go.BinOp.mul Go.FloatKind.f64 x37 x39))
                                                  (4618760256179416344 : Nat)))))
                                          (Go.K.ifB (Go.K.flt Go.FloatKind.f64 a1 (0 : Nat))
                                            (K
                                              (Go.K.fneg Go.FloatKind.f64
                                                (Go.K.farith Go.BinOp.quo Go.FloatKind.f64
                                                  (Go.K.farith Go.BinOp.mul Go.FloatKind.f64 (4620693217682128896 : Nat) (Go.K.farith Go.BinOp.mul Go.FloatKind.f64 x37 x39))
                                                  (4618760256179416344 : Nat))))
                                            (K
                                              (Go.K.farith Go.BinOp.quo Go.FloatKind.f64
                                                (Go.K.farith Go.BinOp.mul Go.FloatKind.f64 (4620693217682128896 : Nat) (Go.K.farith Go.BinOp.mul Go.FloatKind.f64 x37 x39))
                                                (4618760256179416344 : Nat)))))) →
                                    J35 x36 x37 x38 x39 x40) →
                                J35 x31 x32 (Go.K.farith Go.BinOp.mul Go.FloatKind.f64 x32 x32) (0 : Nat) (15 : Int)) →
                          J30 x31 x32 x33) →
                      J30 x28 x29 (0 : Int)) →
                  J27 x28 x29) →
              Go.K.ifB (Go.K.fgt Go.FloatKind.f64 y25 y26) (J27 (Go.K.fgt Go.FloatKind.f64 y25 y26) (Go.K.farith Go.BinOp.quo Go.FloatKind.f64 y26 y25))
                (J27 (Go.K.fgt Go.FloatKind.f64 y25 y26) (Go.K.farith Go.BinOp.quo Go.FloatKind.f64 y25 y26)))))) := by kernel_rfl
theorem spec_l01AngleWide.eq (a1 : Nat) (a2 : Nat) (K : Nat → Prop) : spec_l01AngleWide.wp a1 a2 K =
  (Go.K.ifB (Go.K.fne Go.FloatKind.f64 (Go.K.farith Go.BinOp.sub Go.FloatKind.f64 a1 a1) (0 : Nat)) (Go.K.heights.math_NaN.wp fun y1 => K y1)
  (Go.K.ifB (Go.K.fne Go.FloatKind.f64 (Go.K.farith Go.BinOp.sub Go.FloatKind.f64 a2 a2) (0 : Nat)) (Go.K.heights.math_NaN.wp fun y2 => K y2)
    (Go.K.ifB (Go.K.feq Go.FloatKind.f64 a2 (0 : Nat))
      (Go.K.ifB (Go.K.feq Go.FloatKind.f64 a1 (0 : Nat)) (K (0 : Nat))
        (Go.K.heights.math_Abs.wp a1 fun y3 =>
          Go.K.heights.math_Abs.wp a2 fun y4 =>
            ∀ (J5 : Bool → Nat → Prop),
              (∀ (x6 : Bool) (x7 : Nat),
                  (∀ (J8 : Bool → Nat → Int → Prop),
                      (∀ (x9 : Bool) (x10 : Nat) (x11 : Int),
                          Go.K.ifB (Decidable.decide (x11 < (3 : Int)))
                              (Go.K.heights.math_Sqrt.wp (Go.K.farith Go.BinOp.add Go.FloatKind.f64 (4607182418800017408 : Nat) (Go.K.farith Go.BinOp.mul Go.FloatKind.f64 x10 x10))
                                fun y12 =>
                                J8 x9 (Go.K.farith Go.BinOp.quo Go.FloatKind.f64 x10 (Go.K.farith Go.BinOp.add Go.FloatKind.f64 (4607182418800017408 : Nat) y12))
                                  (Go.IntKind.wrap Go.IntKind.i64 (x11 + (1 : Int))))
                              (∀ (J13 : Bool → Nat → Nat → Nat → Int → Prop),
                                (∀ (x14 : Bool) (x15 x16 x17 : Nat) (x18 : Int),
                                    Go.K.ifB (Decidable.decide (x18 ≥ (1 : Int)))
                                        (J13 x14 x15 x16
                                          (Go.K.farith Go.BinOp.sub Go.FloatKind.f64
                                            (Go.K.farith Go.BinOp.quo Go.FloatKind.f64 (4607182418800017408 : Nat) (Go.K.fofint Go.FloatKind.f64 x18))
                                            (Go.K.farith Go.BinOp.mul Go.FloatKind.f64 x16 x17))
                                          (Go.IntKind.wrap Go.IntKind.i64 (x18 - (2 : Int))))
                                        (Go.K.ifB x14
                                          (Go.K.ifB (Go.K.flt Go.FloatKind.f64 a2 (0 : Nat))
                                            (Go.K.ifB (Go.K.flt Go.FloatKind.f64 a1 (0 : Nat))
                                              (K
                                                (Go.K.fneg Go.FloatKind.f64
                                                  (Go.K.farith Go.BinOp.sub Go.FloatKind.f64 (4602678819172646912 : Nat)
                                                    (Go.K.farith Go.BinOp.sub Go.FloatKind.f64 (4598175219545276416 : Nat)
                                                      (Go.K.farith Go.BinOp.quo Go.FloatKind.f64
                                                        (Go.K.farith Go.BinOp.mul Go.FloatKind.f64 (4620693217682128896 : Nat) (Go.K.farith Go.BinOp.mul Go.FloatKind.f64 x15 x17))
                                                        (4618760256179416344 : Nat))))))
                                              (K
                                                (Go.K.farith Go.BinOp.sub Go.FloatKind.f64 (4602678819172646912 : Nat)
                                                  (Go.K.farith Go.BinOp.sub Go.FloatKind.f64 (4598175219545276416 : Nat)
                                                    (Go.K.farith Go.BinOp.quo Go.FloatKind.f64
                                                      (Go.K.farith Go.BinOp.mul Go.FloatKind.f64 (4620693217682128896 : Nat) (Go.K.farith Go.BinOp.mul Go.FloatKind.f64 x15 x17))
                                                      (4618760256179416344 : Nat))))))
                                            (Go.K.ifB (Go.K.flt Go.FloatKind.f64 a1 (0 : Nat))
                                              (K
                                                (Go.K.fneg Go.FloatKind.f64
                                                  (Go.K.farith Go.BinOp.sub Go.FloatKind.f64 (4598175219545276416 : Nat)
                                                    (Go.K.farith Go.BinOp.quo Go.FloatKind.f64
                                                      (Go.K.farith Go.BinOp.mul Go.FloatKind.f64 (4620693217682128896 : Nat) (Go.K.farith Go.BinOp.mul Go.FloatKind.f64 x15 x17))
                                                      (4618760256179416344 : Nat)))))
                                              (K
                                                (Go.K.farith Go.BinOp.sub Go.FloatKind.f64 (4598175219545276416 : Nat)
                                                  (Go.K.farith Go.BinOp.quo Go.FloatKind.f64
                                                    (Go.K.farith Go.BinOp.mul Go.FloatKind.f64 (4620693217682128896 : Nat) (Go.K.farith Go.BinOp.mul Go.FloatKind.f64 x15 x17))
                                                    (4618760256179416344 : Nat))))))
                                          (Go.K.ifB (Go.K.flt Go.FloatKind.f64 a2 (0 : Nat))
                                            (Go.K.ifB (Go.K.flt Go.FloatKind.f64 a1 (0 : Nat))
                                              (K
                                                (Go.K.fneg Go.FloatKind.f64
                                                  (Go.K.farith Go.BinOp.sub Go.FloatKind.f64 (4602678819172646912 : Nat)
                                                    (Go.K.farith Go.BinOp.quo Go.FloatKind.f64
                                                      (Go.K.farith Go.BinOp.mul Go.FloatKind.f64 (4620693217682128896 : Nat) (Go.K.farith Go.BinOp.mul Go.FloatKind.f64 x15 x17))
                                                      (4618760256179416344 : Nat)))))
                                              (K
                                                (Go.K.farith Go.BinOp.sub Go.FloatKind.f64 (4602678819172646912 : Nat)
                                                  (Go.K.farith Go.BinOp.quo Go.FloatKind.f64
                                                    (Go.K.farith Go.BinOp.mul Go.FloatKind.f64 (4620693217682128896 : Nat) (Go.K.farith Go.BinOp.mul Go.FloatKind.f64 x15 x17))
                                                    (4618760256179416344 : Nat)))))
                                            (Go.K.ifB (Go.K.flt Go.FloatKind.f64 a1 (0 : Nat))
                                              (K
                                                (Go.K.fneg Go.FloatKind.f64
                                                  (Go.K.farith Go.BinOp.quo Go.FloatKind.f64
                                                    (Go.K.farith Go.BinOp.mul Go.FloatKind.f64 (4620693217682128896 : Nat) (Go.K.farith Go.BinOp.mul Go.FloatKind.f64 x15 x17))
                                                    (4618760256179416344 : Nat))))
                                              (K
                                                (Go.K.farith Go.BinOp.quo Go.FloatKind.f64
                                                  (Go.K.farith Go.BinOp.mul Go.FloatKind.f64 (4620693217682128896 : Nat) (Go.K.farith Go.BinOp.mul Go.FloatKind.f64 x15 x17))
                                                  (4618760256179416344 : Nat)))))) →
                                      J13 x14 x15 x16 x17 x18) →
                                  J13 x9 x10 (Go.K.farith Go.BinOp.mul Go.FloatKind.f64 x10 x10) (0 : Nat) (15 : Int)) →
                            J8 x9 x10 x11) →
                        J8 x6 x7 (0 : Int)) →
                    J5 x6 x7) →
                Go.K.ifB (Go.K.fgt Go.FloatKind.f64 y3 y4) (J5 (Go.K.fgt Go.FloatKind.f64 y3 y4) (Go.K.farith Go.BinOp.quo Go.FloatKind.f64 y4 y3))
                  (J5 (Go.K.fgt Go.FloatKind.f64 y3 y4) (Go.K.farith Go.BinOp.quo Go.FloatKind.f64 y3 y4))))
      (Go.K.heights.math_Abs.wp a1 fun y25 =>
        Go.K.heights.math_Abs.wp a2 fun y26 =>
          ∀ (J27 : Bool → Nat → Prop),
            (∀ (x28 : Bool) (x29 : Nat),
                (∀ (J30 : Bool → Nat → Int → Prop),
                    (∀ (x31 : Bool) (x32 : Nat) (x33 : Int),
                        Go.K.ifB (Decidable.decide (x33 < (3 : Int)))
                            (Go.K.heights.math_Sqrt.wp (Go.K.farith Go.BinOp.add Go.FloatKind.f64 (4607182418800017408 : Nat) (Go.K.farith Go.BinOp.mul Go.FloatKind.f64 x32 x32))
                              fun y34 =>
                              J30 x31 (Go.K.farith Go.BinOp.quo Go.FloatKind.f64 x32 (Go.K.farith Go.BinOp.add Go.FloatKind.f64 (4607182418800017408 : Nat) y34))
                                (Go.IntKind.wrap Go.IntKind.i64 (x33 + (1 : Int))))
                            (∀ (J35 : Bool → Nat → Nat → Nat → Int → Prop),
                              (∀ (x36 : Bool) (x37 x38 x39 : Nat) (x40 : Int),
                                  Go.K.ifB (Decidable.decide (x40 ≥ (1 : Int)))
                                      (J35 x36 x37 x38
                                        (Go.K.farith Go.BinOp.sub Go.FloatKind.f64
                                          (Go.K.farith Go.BinOp.quo Go.FloatKind.f64 (4607182418800017408 : Nat) (Go.K.fofint Go.FloatKind.f64 x40))
                                          (Go.K.farith Go.BinOp.mul Go.FloatKind.f64 x38 x39))
                                        (Go.IntKind.wrap Go.IntKind.i64 (x40 - (2 : Int))))
                                      (Go.K.ifB x36
                                        (Go.K.ifB (Go.K.flt Go.FloatKind.f64 a2 (0 : Nat))
                                          (Go.K.ifB (Go.K.flt Go.FloatKind.f64 a1 (0 : Nat))
                                            (K
                                              (Go.K.fneg Go.FloatKind.f64
                                                (Go.K.farith Go.BinOp.sub Go.FloatKind.f64 (4602678819172646912 : Nat)
                                                  (Go.K.farith Go.BinOp.sub Go.FloatKind.f64 (4598175219545276416 : Nat)
                                                    (Go.K.farith Go.BinOp.quo Go.FloatKind.f64
                                                      (Go.K.farith Go.BinOp.mul Go.FloatKind.f64 (4620693217682128896 : Nat) (Go.K.farith Go.BinOp.mul Go.FloatKind.f64 x37 x39))
                                                      (4618760256179416344 : Nat))))))
                                            (K
                                              (Go.K.farith Go.BinOp.sub Go.FloatKind.f64 (4602678819172646912 : Nat)
                                                (Go.K.farith Go.BinOp.sub Go.FloatKind.f64 (4598175219545276416 : Nat)
                                                  (Go.K.farith Go.BinOp.quo Go.FloatKind.f64
                                                    (Go.K.farith Go.BinOp.mul Go.FloatKind.f64 (4620693217682128896 : Nat) (Go.K.farith Go.BinOp.mul Go.FloatKind.f64 x37 x39))
                                                    (4618760256179416344 : Nat))))))
                                          (Go.K.ifB (Go.K.flt Go.FloatKind.f64 a1 (0 : Nat))
                                            (K
                                              (Go.K.fneg Go.FloatKind.f64
                                                (Go.K.farith Go.BinOp.sub Go.FloatKind.f64 (4598175219545276416 : Nat)
                                                  (Go.K.farith Go.BinOp.quo Go.FloatKind.f64
                                                    (Go.K.farith Go.BinOp.mul Go.FloatKind.f64 (4620693217682128896 : Nat) (Go.K.farith Go.BinOp.mul Go.FloatKind.f64 x37 x39))
                                                    (4618760256179416344 : Nat)))))
                                            (K
                                              (Go.K.farith Go.BinOp.sub Go.FloatKind.f64 (4598175219545276416 : Nat)
                                                (Go.K.farith Go.BinOp.quo Go.FloatKind.f64
                                                  (Go.K.farith Go.BinOp.mul Go.FloatKind.f64 (4620693217682128896 : Nat) (Go.K.farith Go.BinOp.mul Go.FloatKind.f64 x37 x39))
                                                  (4618760256179416344 : Nat))))))
                                        (Go.K.ifB (Go.K.flt Go.FloatKind.f64 a2 (0 : Nat))
                                          (Go.K.ifB (Go.K.flt Go.FloatKind.f64 a1 (0 : Nat))
                                            (K
                                              (Go.K.fneg Go.FloatKind.f64
                                                (Go.K.farith Go.BinOp.sub Go.FloatKind.f64 (4602678819172646912 : Nat)
                                                  (Go.K.farith Go.BinOp.quo Go.FloatKind.f64
                                                    (Go.K.farith Go.BinOp.mul Go.FloatKind.f64 (4620693217682128896 : Nat) (Go.K.farith Go.BinOp.mul Go.FloatKind.f64 x37 x39))
                                                    (4618760256179416344 : Nat)))))
                                            (K
                                              (Go.K.farith Go.BinOp.sub Go.FloatKind.f64 (4602678819172646912 : Nat)
                                                (Go.K.farith Go.BinOp.quo Go.FloatKind.f64
                                                  (Go.K.farith Go.BinOp.mul Go.FloatKind.f64 (4620693217682128896 : Nat) (Go.K.farith Go.BinOp.mul Go.FloatKind.f64 x37 x39))
                                                  (4618760256179416344 : Nat)))))
                                          (Go.K.ifB (Go.K.flt Go.FloatKind.f64 a1 (0 : Nat))
                                            (K
                                              (Go.K.fneg Go.FloatKind.f64
                                                (Go.K.farith Go.BinOp.quo Go.FloatKind.f64
                                                  (Go.K.farith Go.BinOp.mul Go.FloatKind.f64 (4620693217682128896 : Nat) (Go.K.farith Go.BinOp.mul Go.FloatKind.f64 x37 x39))
                                                  (4618760256179416344 : Nat))))
                                            (K
                                              (Go.K.farith Go.BinOp.quo Go.FloatKind.f64
                                                (Go.K.farith Go.BinOp.mul Go.FloatKind.f64 (4620693217682128896 : Nat) (Go.K.farith Go.BinOp.mul Go.FloatKind.f64 x37 x39))
                                                (4618760256179416344 : Nat)))))) →
                                    J35 x36 x37 x38 x39 x40) →
                                J35 x31 x32 (Go.K.farith Go.BinOp.mul Go.FloatKind.f64 x32 x32) (0 : Nat) (15 : Int)) →
                          J30 x31 x32 x33) →
                      J30 x28 x29 (0 : Int)) →
                  J27 x28 x29) →
              Go.K.ifB (Go.K.fgt Go.FloatKind.f64 y25 y26) (J27 (Go.K.fgt Go.FloatKind.f64 y25 y26) (Go.K.farith Go.BinOp.quo Go.FloatKind.f64 y26 y25))
                (J27 (Go.K.fgt Go.FloatKind.f64 y25 y26) (Go.K.farith Go.BinOp.quo Go.FloatKind.f64 y25 y26)))))) := spec_l01AngleWide.tx math_NaN.wp math_Abs.wp math_Sqrt.wp a1 a2 K

theorem spec_l01Narrow.tx  (a1 : Nat) (K : Nat → Prop) : spec_l01Narrow.bd  a1 K =
  (Go.K.fitsF Go.FloatKind.f64 Go.FloatKind.f32 a1 = Bool.true ∧ K (Go.K.fconv Go.FloatKind.f64 Go.FloatKind.f32 a1)) := by kernel_rfl
theorem spec_l01Narrow.eq (a1 : Nat) (K : Nat → Prop) : spec_l01Narrow.wp a1 K =
  (Go.K.fitsF Go.FloatKind.f64 Go.FloatKind.f32 a1 = Bool.true ∧ K (Go.K.fconv Go.FloatKind.f64 Go.FloatKind.f32 a1)) := spec_l01Narrow.tx  a1 K

theorem spec_l01Angle.tx (w_spec_l01AngleWide : Nat → Nat → (Nat → Prop) → Prop) (w_spec_l01Narrow : Nat → (Nat → Prop) → Prop) (a1 : Nat) (a2 : Nat) (K : Nat → Prop) : spec_l01Angle.bd w_spec_l01AngleWide w_spec_l01Narrow a1 a2 K =
  (w_spec_l01AngleWide (Go.K.fconv Go.FloatKind.f32 Go.FloatKind.f64 a1) (Go.K.fconv Go.FloatKind.f32 Go.FloatKind.f64 a2) fun y1 =>
  w_spec_l01Narrow y1 fun y2 => K y2) := by kernel_rfl
theorem spec_l01Angle.eq (a1 : Nat) (a2 : Nat) (K : Nat → Prop) : spec_l01Angle.wp a1 a2 K =
  (Go.K.heights.spec_l01AngleWide.wp (Go.K.fconv Go.FloatKind.f32 Go.FloatKind.f64 a1) (Go.K.fconv Go.FloatKind.f32 Go.FloatKind.f64 a2) fun y1 =>
  Go.K.heights.spec_l01Narrow.wp y1 fun y2 => K y2) := spec_l01Angle.tx spec_l01AngleWide.wp spec_l01Narrow.wp a1 a2 K

theorem math_IsNaN.tx  (a1 : Nat) (K : Bool → Prop) : math_IsNaN.bd  a1 K =
  (K (Go.K.fne Go.FloatKind.f64 a1 a1)) := by kernel_rfl
theorem math_IsNaN.eq (a1 : Nat) (K : Bool → Prop) : math_IsNaN.wp a1 K =
  (K (Go.K.fne Go.FloatKind.f64 a1 a1)) := math_IsNaN.tx  a1 K

theorem math_IsInf.tx (w_math_Abs : Nat → (Nat → Prop) → Prop) (a1 : Nat) (a2 : Int) (K : Bool → Prop) : math_IsInf.bd w_math_Abs a1 a2 K =
  (Go.K.ifB (a2 == (0 : Int)) (w_math_Abs a1 fun y1 => K (Go.K.fgt Go.FloatKind.f64 y1 (9218868437227405311 : Nat)))
  (Go.K.ifB (Decidable.decide (a2 < (0 : Int))) (K (Go.K.fgt Go.FloatKind.f64 (Go.K.fneg Go.FloatKind.f64 a1) (9218868437227405311 : Nat)))
    (K (Go.K.fgt Go.FloatKind.f64 a1 (9218868437227405311 : Nat))))) := by kernel_rfl
theorem math_IsInf.eq (a1 : Nat) (a2 : Int) (K : Bool → Prop) : math_IsInf.wp a1 a2 K =
  (Go.K.ifB (a2 == (0 : Int)) (Go.K.heights.math_Abs.wp a1 fun y1 => K (Go.K.fgt Go.FloatKind.f64 y1 (9218868437227405311 : Nat)))
  (Go.K.ifB (Decidable.decide (a2 < (0 : Int))) (K (Go.K.fgt Go.FloatKind.f64 (Go.K.fneg Go.FloatKind.f64 a1) (9218868437227405311 : Nat)))
    (K (Go.K.fgt Go.FloatKind.f64 a1 (9218868437227405311 : Nat))))) := math_IsInf.tx math_Abs.wp a1 a2 K

theorem math_Copysign.tx  (a1 : Nat) (a2 : Nat) (K : Nat → Prop) : math_Copysign.bd  a1 a2 K =
  (Go.K.isNaNW Go.FloatKind.f64 a1 = Bool.false ∧
  Go.K.isNaNW Go.FloatKind.f64 a2 = Bool.false ∧
    K
      (Go.K.cF Go.FloatKind.f64
        (Int.toNat
          (Go.K.ibits Go.BinOp.or Go.IntKind.u64 (Go.K.ibits Go.BinOp.andNot Go.IntKind.u64 (↑a1 : Int) (9223372036854775808 : Int))
            (Go.K.ibits Go.BinOp.and Go.IntKind.u64 (↑a2 : Int) (9223372036854775808 : Int)))))) := by kernel_rfl
theorem math_Copysign.eq (a1 : Nat) (a2 : Nat) (K : Nat → Prop) : math_Copysign.wp a1 a2 K =
  (Go.K.isNaNW Go.FloatKind.f64 a1 = Bool.false ∧
  Go.K.isNaNW Go.FloatKind.f64 a2 = Bool.false ∧
    K
      (Go.K.cF Go.FloatKind.f64
        (Int.toNat
          (Go.K.ibits Go.BinOp.or Go.IntKind.u64 (Go.K.ibits Go.BinOp.andNot Go.IntKind.u64 (↑a1 : Int) (9223372036854775808 : Int))
            (Go.K.ibits Go.BinOp.and Go.IntKind.u64 (↑a2 : Int) (9223372036854775808 : Int)))))) := math_Copysign.tx  a1 a2 K

theorem math_trunc.tx (w_math_Abs : Nat → (Nat → Prop) → Prop) (w_math_Copysign : Nat → Nat → (Nat → Prop) → Prop) (a1 : Nat) (K : Nat → Prop) : math_trunc.bd w_math_Abs w_math_Copysign a1 K =
  (w_math_Abs a1 fun y1 =>
  Go.K.ifB (Go.K.flt Go.FloatKind.f64 y1 (4607182418800017408 : Nat)) (w_math_Copysign (0 : Nat) a1 fun y2 => K y2)
    (Go.K.isNaNW Go.FloatKind.f64 a1 = Bool.false ∧
      Go.K.ifB
        (Decidable.decide
          (Go.IntKind.wrap Go.IntKind.u64 (Go.K.ibits Go.BinOp.and Go.IntKind.u64 (Go.K.ishr Go.IntKind.u64 (↑a1 : Int) (52 : Int)) (2047 : Int) - (1023 : Int)) < (52 : Int)))
        ((0 : Int) ≤
            Go.IntKind.wrap Go.IntKind.u64
              ((52 : Int) - Go.IntKind.wrap Go.IntKind.u64 (Go.K.ibits Go.BinOp.and Go.IntKind.u64 (Go.K.ishr Go.IntKind.u64 (↑a1 : Int) (52 : Int)) (2047 : Int) - (1023 : Int))) ∧
          K
            (Go.K.cF Go.FloatKind.f64
              (Int.toNat
                (Go.K.ibits Go.BinOp.andNot Go.IntKind.u64 (↑a1 : Int)
                  (Go.IntKind.wrap Go.IntKind.u64
                    (Go.K.ishl Go.IntKind.u64 (1 : Int)
                        (Go.IntKind.wrap Go.IntKind.u64
                          ((52 : Int) -
                            Go.IntKind.wrap Go.IntKind.u64
                              (Go.K.ibits Go.BinOp.and Go.IntKind.u64 (Go.K.ishr Go.IntKind.u64 (↑a1 : Int) (52 : Int)) (2047 : Int) - (1023 : Int)))) -
                      (1 : Int)))))))
        (K (Go.K.cF Go.FloatKind.f64 (Int.toNat (↑a1 : Int)))))) := by kernel_rfl
theorem math_trunc.eq (a1 : Nat) (K : Nat → Prop) : math_trunc.wp a1 K =
  (Go.K.heights.math_Abs.wp a1 fun y1 =>
  Go.K.ifB (Go.K.flt Go.FloatKind.f64 y1 (4607182418800017408 : Nat)) (Go.K.heights.math_Copysign.wp (0 : Nat) a1 fun y2 => K y2)
    (Go.K.isNaNW Go.FloatKind.f64 a1 = Bool.false ∧
      Go.K.ifB
        (Decidable.decide
          (Go.IntKind.wrap Go.IntKind.u64 (Go.K.ibits Go.BinOp.and Go.IntKind.u64 (Go.K.ishr Go.IntKind.u64 (↑a1 : Int) (52 : Int)) (2047 : Int) - (1023 : Int)) < (52 : Int)))
        ((0 : Int) ≤
            Go.IntKind.wrap Go.IntKind.u64
              ((52 : Int) - Go.IntKind.wrap Go.IntKind.u64 (Go.K.ibits Go.BinOp.and Go.IntKind.u64 (Go.K.ishr Go.IntKind.u64 (↑a1 : Int) (52 : Int)) (2047 : Int) - (1023 : Int))) ∧
          K
            (Go.K.cF Go.FloatKind.f64
              (Int.toNat
                (Go.K.ibits Go.BinOp.andNot Go.IntKind.u64 (↑a1 : Int)
                  (Go.IntKind.wrap Go.IntKind.u64
                    (Go.K.ishl Go.IntKind.u64 (1 : Int)
                        (Go.IntKind.wrap Go.IntKind.u64
                          ((52 : Int) -
                            Go.IntKind.wrap Go.IntKind.u64
                              (Go.K.ibits Go.BinOp.and Go.IntKind.u64 (Go.K.ishr Go.IntKind.u64 (↑a1 : Int) (52 : Int)) (2047 : Int) - (1023 : Int)))) -
                      (1 : Int)))))))
        (K (Go.K.cF Go.FloatKind.f64 (Int.toNat (↑a1 : Int)))))) := math_trunc.tx math_Abs.wp math_Copysign.wp a1 K

theorem math_Trunc.tx (w_math_trunc : Nat → (Nat → Prop) → Prop) (a1 : Nat) (K : Nat → Prop) : math_Trunc.bd w_math_trunc a1 K =
  (K (Go.K.fwhole Ieee.Toward.zero a1)) := by kernel_rfl
theorem math_Trunc.eq (a1 : Nat) (K : Nat → Prop) : math_Trunc.wp a1 K =
  (K (Go.K.fwhole Ieee.Toward.zero a1)) := math_Trunc.tx math_trunc.wp a1 K

theorem math_Modf.tx (w_math_Trunc : Nat → (Nat → Prop) → Prop) (w_math_Copysign : Nat → Nat → (Nat → Prop) → Prop) (a1 : Nat) (K : Nat → Nat → Prop) : math_Modf.bd w_math_Trunc w_math_Copysign a1 K =
  (w_math_Trunc a1 fun y1 => w_math_Copysign (Go.K.farith Go.BinOp.sub Go.FloatKind.f64 a1 y1) a1 fun y2 => K y1 y2) := by kernel_rfl
theorem math_Modf.eq (a1 : Nat) (K : Nat → Nat → Prop) : math_Modf.wp a1 K =
  (Go.K.heights.math_Trunc.wp a1 fun y1 => Go.K.heights.math_Copysign.wp (Go.K.farith Go.BinOp.sub Go.FloatKind.f64 a1 y1) a1 fun y2 => K y1 y2) := math_Modf.tx math_Trunc.wp math_Copysign.wp a1 K

theorem math_floor.tx (w_math_IsNaN : Nat → (Bool → Prop) → Prop) (w_math_IsInf : Nat → Int → (Bool → Prop) → Prop) (w_math_Modf : Nat → (Nat → Nat → Prop) → Prop) (a1 : Nat) (K : Nat → Prop) : math_floor.bd w_math_IsNaN w_math_IsInf w_math_Modf a1 K =
  (Go.K.ifB (Go.K.feq Go.FloatKind.f64 a1 (0 : Nat)) (K a1)
  (w_math_IsNaN a1 fun y1 =>
    Go.K.ifB y1 (K a1)
      (w_math_IsInf a1 (0 : Int) fun y2 =>
        Go.K.ifB y2 (K a1)
          (Go.K.ifB (Go.K.flt Go.FloatKind.f64 a1 (0 : Nat))
            (w_math_Modf (Go.K.fneg Go.FloatKind.f64 a1) fun y3 y4 =>
              Go.K.ifB (Go.K.fne Go.FloatKind.f64 y4 (0 : Nat)) (K (Go.K.fneg Go.FloatKind.f64 (Go.K.farith Go.BinOp.add Go.FloatKind.f64 y3 (4607182418800017408 : Nat))))
                (K (Go.K.fneg Go.FloatKind.f64 y3)))
            (w_math_Modf a1 fun y5 y6 => K y5))))) := by kernel_rfl
theorem math_floor.eq (a1 : Nat) (K : Nat → Prop) : math_floor.wp a1 K =
  (Go.K.ifB (Go.K.feq Go.FloatKind.f64 a1 (0 : Nat)) (K a1)
  (Go.K.heights.math_IsNaN.wp a1 fun y1 =>
    Go.K.ifB y1 (K a1)
      (Go.K.heights.math_IsInf.wp a1 (0 : Int) fun y2 =>
        Go.K.ifB y2 (K a1)
          (Go.K.ifB (Go.K.flt Go.FloatKind.f64 a1 (0 : Nat))
            (Go.K.heights.math_Modf.wp (Go.K.fneg Go.FloatKind.f64 a1) fun y3 y4 =>
              Go.K.ifB (Go.K.fne Go.FloatKind.f64 y4 (0 : Nat)) (K (Go.K.fneg Go.FloatKind.f64 (Go.K.farith Go.BinOp.add Go.FloatKind.f64 y3 (4607182418800017408 : Nat))))
                (K (Go.K.fneg Go.FloatKind.f64 y3)))
            (Go.K.heights.math_Modf.wp a1 fun y5 y6 => K y5))))) := math_floor.tx math_IsNaN.wp math_IsInf.wp math_Modf.wp a1 K

theorem math_Floor.tx (w_math_floor : Nat → (Nat → Prop) → Prop) (a1 : Nat) (K : Nat → Prop) : math_Floor.bd w_math_floor a1 K =
  (K (Go.K.fwhole Ieee.Toward.down a1)) := by kernel_rfl
theorem math_Floor.eq (a1 : Nat) (K : Nat → Prop) : math_Floor.wp a1 K =
  (K (Go.K.fwhole Ieee.Toward.down a1)) := math_Floor.tx math_floor.wp a1 K

theorem spec_ScrewHeights.tx (w_spec_l05Size : Int → Int → (Bool → Prop) → Prop) (w_spec_l00In : Int → Int → Int → (Bool → Prop) → Prop) (w_spec_l01Angle : Nat → Nat → (Nat → Prop) → Prop) (w_math_Floor : Nat → (Nat → Prop) → Prop) (w_spec_l05Give : List Int → Int → Int → (List Int → Int → Int → Bool → Prop) → Prop) (a1 : Int) (a2 : Int) (a3 : Int) (a4 : Int) (a5 : Int) (K : List Int → Int → Int → Bool → Prop) : spec_ScrewHeights.bd w_spec_l05Size w_spec_l00In w_spec_l01Angle w_math_Floor w_spec_l05Give a1 a2 a3 a4 a5 K =
  (w_spec_l05Size a1 a2 fun y1 =>
  Go.K.ifB (!y1) (K [] (0 : Int) (0 : Int) Bool.false)
    (w_spec_l00In a3 (0 : Int) (Go.IntKind.wrap Go.IntKind.i64 (a1 - (1 : Int))) fun y2 =>
      Go.K.ifB (!y2) (K [] (0 : Int) (0 : Int) Bool.false)
        (w_spec_l00In a4 (0 : Int) (Go.IntKind.wrap Go.IntKind.i64 (a2 - (1 : Int))) fun y3 =>
          Go.K.ifB (!y3) (K [] (0 : Int) (0 : Int) Bool.false)
            (w_spec_l00In a5 (1 : Int) (100 : Int) fun y4 =>
              Go.K.ifB (!y4) (K [] (0 : Int) (0 : Int) Bool.false)
                (∀ (J5 : Int → Int → Int → Int → List Int → List Int → Int → Prop),
                  (∀ (x6 x7 x8 x9 : Int) (x10 x11 : List Int) (x12 : Int),
                      Go.K.ifB (Decidable.decide (x12 < a2))
                          (∀ (J13 : Int → Int → Int → Int → List Int → List Int → Int → Int → Prop),
                            (∀ (x14 x15 x16 x17 : Int) (x18 x19 : List Int) (x20 x21 : Int),
                                Go.K.ifB (Decidable.decide (x21 < a1))
                                    (w_spec_l01Angle (Go.K.fofint Go.FloatKind.f32 (Go.IntKind.wrap Go.IntKind.i64 (x20 - a4)))
                                      (Go.K.fofint Go.FloatKind.f32 (Go.IntKind.wrap Go.IntKind.i64 (x21 - a3))) fun y22 =>
                                      w_math_Floor
                                        (Go.K.fconv Go.FloatKind.f32 Go.FloatKind.f64
                                          (Go.K.farith Go.BinOp.mul Go.FloatKind.f32 (Go.K.fofint Go.FloatKind.f32 a5)
                                            (Go.K.farith Go.BinOp.add Go.FloatKind.f32 y22 (1056964608 : Nat))))
                                        fun y23 =>
                                        Option.isSome (Go.K.ftoint Go.FloatKind.f64 y23 Go.IntKind.i64) = Bool.true ∧
                                          List.length (x19 ++ Option.getD (Go.K.ftoint Go.FloatKind.f64 y23 Go.IntKind.i64) (0 : Int) :: List.replicate (0 : Nat) (0 : Int)) ≤
                                              (1099511627776 : Nat) ∧
                                            J13 x14 x15 x16 x17 x18
                                              (x19 ++ Option.getD (Go.K.ftoint Go.FloatKind.f64 y23 Go.IntKind.i64) (0 : Int) :: List.replicate (0 : Nat) (0 : Int)) x20
                                              (Go.IntKind.wrap Go.IntKind.i64 (x21 + (1 : Int))))
                                    (J5 x14 x15 x16 x17 x18 x19 (Go.IntKind.wrap Go.IntKind.i64 (x20 + (1 : Int)))) →
                                  J13 x14 x15 x16 x17 x18 x19 x20 x21) →
                              J13 x6 x7 x8 x9 x10 x11 x12 (0 : Int))
                          (w_spec_l05Give x11 x8 x9 fun y26 y27 y28 y29 => K y26 y27 y28 y29) →
                        J5 x6 x7 x8 x9 x10 x11 x12) →
                    J5 (0 : Int) (0 : Int) a1 a2 [] [] (0 : Int)))))) := by kernel_rfl
theorem spec_ScrewHeights.eq (a1 : Int) (a2 : Int) (a3 : Int) (a4 : Int) (a5 : Int) (K : List Int → Int → Int → Bool → Prop) : spec_ScrewHeights.wp a1 a2 a3 a4 a5 K =
  (Go.K.heights.spec_l05Size.wp a1 a2 fun y1 =>
  Go.K.ifB (!y1) (K [] (0 : Int) (0 : Int) Bool.false)
    (Go.K.heights.spec_l00In.wp a3 (0 : Int) (Go.IntKind.wrap Go.IntKind.i64 (a1 - (1 : Int))) fun y2 =>
      Go.K.ifB (!y2) (K [] (0 : Int) (0 : Int) Bool.false)
        (Go.K.heights.spec_l00In.wp a4 (0 : Int) (Go.IntKind.wrap Go.IntKind.i64 (a2 - (1 : Int))) fun y3 =>
          Go.K.ifB (!y3) (K [] (0 : Int) (0 : Int) Bool.false)
            (Go.K.heights.spec_l00In.wp a5 (1 : Int) (100 : Int) fun y4 =>
              Go.K.ifB (!y4) (K [] (0 : Int) (0 : Int) Bool.false)
                (∀ (J5 : Int → Int → Int → Int → List Int → List Int → Int → Prop),
                  (∀ (x6 x7 x8 x9 : Int) (x10 x11 : List Int) (x12 : Int),
                      Go.K.ifB (Decidable.decide (x12 < a2))
                          (∀ (J13 : Int → Int → Int → Int → List Int → List Int → Int → Int → Prop),
                            (∀ (x14 x15 x16 x17 : Int) (x18 x19 : List Int) (x20 x21 : Int),
                                Go.K.ifB (Decidable.decide (x21 < a1))
                                    (Go.K.heights.spec_l01Angle.wp (Go.K.fofint Go.FloatKind.f32 (Go.IntKind.wrap Go.IntKind.i64 (x20 - a4)))
                                      (Go.K.fofint Go.FloatKind.f32 (Go.IntKind.wrap Go.IntKind.i64 (x21 - a3))) fun y22 =>
                                      Go.K.heights.math_Floor.wp
                                        (Go.K.fconv Go.FloatKind.f32 Go.FloatKind.f64
                                          (Go.K.farith Go.BinOp.mul Go.FloatKind.f32 (Go.K.fofint Go.FloatKind.f32 a5)
                                            (Go.K.farith Go.BinOp.add Go.FloatKind.f32 y22 (1056964608 : Nat))))
                                        fun y23 =>
                                        Option.isSome (Go.K.ftoint Go.FloatKind.f64 y23 Go.IntKind.i64) = Bool.true ∧
                                          List.length (x19 ++ Option.getD (Go.K.ftoint Go.FloatKind.f64 y23 Go.IntKind.i64) (0 : Int) :: List.replicate (0 : Nat) (0 : Int)) ≤
                                              (1099511627776 : Nat) ∧
                                            J13 x14 x15 x16 x17 x18
                                              (x19 ++ Option.getD (Go.K.ftoint Go.FloatKind.f64 y23 Go.IntKind.i64) (0 : Int) :: List.replicate (0 : Nat) (0 : Int)) x20
                                              (Go.IntKind.wrap Go.IntKind.i64 (x21 + (1 : Int))))
                                    (J5 x14 x15 x16 x17 x18 x19 (Go.IntKind.wrap Go.IntKind.i64 (x20 + (1 : Int)))) →
                                  J13 x14 x15 x16 x17 x18 x19 x20 x21) →
                              J13 x6 x7 x8 x9 x10 x11 x12 (0 : Int))
                          (Go.K.heights.spec_l05Give.wp x11 x8 x9 fun y26 y27 y28 y29 => K y26 y27 y28 y29) →
                        J5 x6 x7 x8 x9 x10 x11 x12) →
                    J5 (0 : Int) (0 : Int) a1 a2 [] [] (0 : Int)))))) := spec_ScrewHeights.tx spec_l05Size.wp spec_l00In.wp spec_l01Angle.wp math_Floor.wp spec_l05Give.wp a1 a2 a3 a4 a5 K

theorem impl_finite.tx (w_math_IsNaN : Nat → (Bool → Prop) → Prop) (w_math_IsInf : Nat → Int → (Bool → Prop) → Prop) (a1 : Nat) (K : Bool → Prop) : impl_finite.bd w_math_IsNaN w_math_IsInf a1 K =
  (w_math_IsNaN a1 fun y1 => Go.K.ifB (!y1) (w_math_IsInf a1 (0 : Int) fun y2 => K !y2) (K Bool.false)) := by kernel_rfl
theorem impl_finite.eq (a1 : Nat) (K : Bool → Prop) : impl_finite.wp a1 K =
  (Go.K.heights.math_IsNaN.wp a1 fun y1 => Go.K.ifB (!y1) (Go.K.heights.math_IsInf.wp a1 (0 : Int) fun y2 => K !y2) (K Bool.false)) := impl_finite.tx math_IsNaN.wp math_IsInf.wp a1 K

theorem impl_IsFinite.tx (w_impl_finite : Nat → (Bool → Prop) → Prop) (a1 : Nat) (K : Bool → Prop) : impl_IsFinite.bd w_impl_finite a1 K =
  (w_impl_finite (Go.K.fconv Go.FloatKind.f32 Go.FloatKind.f64 a1) fun y1 => K y1) := by kernel_rfl
theorem impl_IsFinite.eq (a1 : Nat) (K : Bool → Prop) : impl_IsFinite.wp a1 K =
  (Go.K.heights.impl_finite.wp (Go.K.fconv Go.FloatKind.f32 Go.FloatKind.f64 a1) fun y1 => K y1) := impl_IsFinite.tx impl_finite.wp a1 K

theorem impl_angle.tx (w_math_Abs : Nat → (Nat → Prop) → Prop) (w_math_Sqrt : Nat → (Nat → Prop) → Prop) (a1 : Nat) (a2 : Nat) (K : Nat → Prop) : impl_angle.bd w_math_Abs w_math_Sqrt a1 a2 K =
  (w_math_Abs a1 fun y1 =>
  w_math_Abs a2 fun y2 =>
    ∀ (J3 : Nat → Nat → Nat → Prop),
      (∀ (x4 x5 x6 : Nat),
          (∀ (J7 : Nat → Nat → Nat → Int → Prop),
              (∀ (x8 x9 x10 : Nat) (x11 : Int),
                  Go.K.ifB (Decidable.decide (x11 < (3 : Int)))
                      (w_math_Sqrt (Go.K.farith Go.BinOp.add Go.FloatKind.f64 (4607182418800017408 : Nat) (Go.K.farith Go.BinOp.mul Go.FloatKind.f64 x10 x10))
                        fun y12 =>
                        J7 x8 x9 (Go.K.farith Go.BinOp.quo Go.FloatKind.f64 x10 (Go.K.farith Go.BinOp.add Go.FloatKind.f64 (4607182418800017408 : Nat) y12))
                          (Go.IntKind.wrap Go.IntKind.i64 (x11 + (1 : Int))))
                      (∀ (J13 : Nat → Nat → Nat → Nat → Nat → Int → Prop),
                        (∀ (x14 x15 x16 x17 x18 : Nat) (x19 : Int),
                            Go.K.ifB (Decidable.decide (x19 ≥ (1 : Int)))
                                (J13 x14 x15 x16 x17
                                  (Go.K.farith Go.BinOp.sub Go.FloatKind.f64
                                    (Go.K.farith Go.BinOp.quo Go.FloatKind.f64 (4607182418800017408 : Nat) (Go.K.fofint Go.FloatKind.f64 x19))
                                    (Go.K.farith Go.BinOp.mul Go.FloatKind.f64 x17 x18))
                                  (Go.IntKind.wrap Go.IntKind.i64 (x19 - (2 : Int))))
                                (Go.K.ifB (Go.K.fgt Go.FloatKind.f64 x14 x15)
                                  (Go.K.ifB (Go.K.flt Go.FloatKind.f64 a2 (0 : Nat))
                                    (Go.K.ifB (Go.K.flt Go.FloatKind.f64 a1 (0 : Nat))
                                      (K
                                        (Go.K.fneg Go.FloatKind.f64
                                          (Go.K.farith Go.BinOp.sub Go.FloatKind.f64 (4602678819172646912 : Nat)
                                            (Go.K.farith Go.BinOp.sub Go.FloatKind.f64 (4598175219545276416 : Nat)
                                              (Go.K.farith Go.BinOp.quo Go.FloatKind.f64
                                                (Go.K.farith Go.BinOp.mul Go.FloatKind.f64 (4620693217682128896 : Nat) (Go.K.farith Go.BinOp.mul Go.FloatKind.f64 x16 x18))
                                                (4618760256179416344 : Nat))))))
                                      (K
                                        (Go.K.farith Go.BinOp.sub Go.FloatKind.f64 (4602678819172646912 : Nat)
                                          (Go.K.farith Go.BinOp.sub Go.FloatKind.f64 (4598175219545276416 : Nat)
                                            (Go.K.farith Go.BinOp.quo Go.FloatKind.f64
                                              (Go.K.farith Go.BinOp.mul Go.FloatKind.f64 (4620693217682128896 : Nat) (Go.K.farith Go.BinOp.mul Go.FloatKind.f64 x16 x18))
                                              (4618760256179416344 : Nat))))))
                                    (Go.K.ifB (Go.K.flt Go.FloatKind.f64 a1 (0 : Nat))
                                      (K
                                        (Go.K.fneg Go.FloatKind.f64
                                          (Go.K.farith Go.BinOp.sub Go.FloatKind.f64 (4598175219545276416 : Nat)
                                            (Go.K.farith Go.BinOp.quo Go.FloatKind.f64
                                              (Go.K.farith Go.BinOp.mul Go.FloatKind.f64 (4620693217682128896 : Nat) (Go.K.farith Go.BinOp.mul Go.FloatKind.f64 x16 x18))
                                              (4618760256179416344 : Nat)))))
                                      (K
                                        (Go.K.farith Go.BinOp.sub Go.FloatKind.f64 (4598175219545276416 : Nat)
                                          (Go.K.farith Go.BinOp.quo Go.FloatKind.f64
                                            (Go.K.farith Go.BinOp.mul Go.FloatKind.f64 (4620693217682128896 : Nat) (Go.K.farith Go.BinOp.mul Go.FloatKind.f64 x16 x18))
                                            (4618760256179416344 : Nat))))))
                                  (Go.K.ifB (Go.K.flt Go.FloatKind.f64 a2 (0 : Nat))
                                    (Go.K.ifB (Go.K.flt Go.FloatKind.f64 a1 (0 : Nat))
                                      (K
                                        (Go.K.fneg Go.FloatKind.f64
                                          (Go.K.farith Go.BinOp.sub Go.FloatKind.f64 (4602678819172646912 : Nat)
                                            (Go.K.farith Go.BinOp.quo Go.FloatKind.f64
                                              (Go.K.farith Go.BinOp.mul Go.FloatKind.f64 (4620693217682128896 : Nat) (Go.K.farith Go.BinOp.mul Go.FloatKind.f64 x16 x18))
                                              (4618760256179416344 : Nat)))))
                                      (K
                                        (Go.K.farith Go.BinOp.sub Go.FloatKind.f64 (4602678819172646912 : Nat)
                                          (Go.K.farith Go.BinOp.quo Go.FloatKind.f64
                                            (Go.K.farith Go.BinOp.mul Go.FloatKind.f64 (4620693217682128896 : Nat) (Go.K.farith Go.BinOp.mul Go.FloatKind.f64 x16 x18))
                                            (4618760256179416344 : Nat)))))
                                    (Go.K.ifB (Go.K.flt Go.FloatKind.f64 a1 (0 : Nat))
                                      (K
                                        (Go.K.fneg Go.FloatKind.f64
                                          (Go.K.farith Go.BinOp.quo Go.FloatKind.f64
                                            (Go.K.farith Go.BinOp.mul Go.FloatKind.f64 (4620693217682128896 : Nat) (Go.K.farith Go.BinOp.mul Go.FloatKind.f64 x16 x18))
                                            (4618760256179416344 : Nat))))
                                      (K
                                        (Go.K.farith Go.BinOp.quo Go.FloatKind.f64
                                          (Go.K.farith Go.BinOp.mul Go.FloatKind.f64 (4620693217682128896 : Nat) (Go.K.farith Go.BinOp.mul Go.FloatKind.f64 x16 x18))
                                          (4618760256179416344 : Nat)))))) →
                              J13 x14 x15 x16 x17 x18 x19) →
                          J13 x8 x9 x10 (Go.K.farith Go.BinOp.mul Go.FloatKind.f64 x10 x10) (0 : Nat) (15 : Int)) →
                    J7 x8 x9 x10 x11) →
                J7 x4 x5 x6 (0 : Int)) →
            J3 x4 x5 x6) →
        Go.K.ifB (Go.K.fgt Go.FloatKind.f64 y1 y2) (J3 y1 y2 (Go.K.farith Go.BinOp.quo Go.FloatKind.f64 y2 y1))
          (J3 y1 y2 (Go.K.farith Go.BinOp.quo Go.FloatKind.f64 y1 y2))) := by kernel_rfl
theorem impl_angle.eq (a1 : Nat) (a2 : Nat) (K : Nat → Prop) : impl_angle.wp a1 a2 K =
  (Go.K.heights.math_Abs.wp a1 fun y1 =>
  Go.K.heights.math_Abs.wp a2 fun y2 =>
    ∀ (J3 : Nat → Nat → Nat → Prop),
      (∀ (x4 x5 x6 : Nat),
          (∀ (J7 : Nat → Nat → Nat → Int → Prop),
              (∀ (x8 x9 x10 : Nat) (x11 : Int),
                  Go.K.ifB (Decidable.decide (x11 < (3 : Int)))
                      (Go.K.heights.math_Sqrt.wp (Go.K.farith Go.BinOp.add Go.FloatKind.f64 (4607182418800017408 : Nat) (Go.K.farith Go.BinOp.mul Go.FloatKind.f64 x10 x10))
                        fun y12 =>
                        J7 x8 x9 (Go.K.farith Go.BinOp.quo Go.FloatKind.f64 x10 (Go.K.farith Go.BinOp.add Go.FloatKind.f64 (4607182418800017408 : Nat) y12))
                          (Go.IntKind.wrap Go.IntKind.i64 (x11 + (1 : Int))))
                      (∀ (J13 : Nat → Nat → Nat → Nat → Nat → Int → Prop),
                        (∀ (x14 x15 x16 x17 x18 : Nat) (x19 : Int),
                            Go.K.ifB (Decidable.decide (x19 ≥ (1 : Int)))
                                (J13 x14 x15 x16 x17
                                  (Go.K.farith Go.BinOp.sub Go.FloatKind.f64
                                    (Go.K.farith Go.BinOp.quo Go.FloatKind.f64 (4607182418800017408 : Nat) (Go.K.fofint Go.FloatKind.f64 x19))
                                    (Go.K.farith Go.BinOp.mul Go.FloatKind.f64 x17 x18))
                                  (Go.IntKind.wrap Go.IntKind.i64 (x19 - (2 : Int))))
                                (Go.K.ifB (Go.K.fgt Go.FloatKind.f64 x14 x15)
                                  (Go.K.ifB (Go.K.flt Go.FloatKind.f64 a2 (0 : Nat))
                                    (Go.K.ifB (Go.K.flt Go.FloatKind.f64 a1 (0 : Nat))
                                      (K
                                        (Go.K.fneg Go.FloatKind.f64
                                          (Go.K.farith Go.BinOp.sub Go.FloatKind.f64 (4602678819172646912 : Nat)
                                            (Go.K.farith Go.BinOp.sub Go.FloatKind.f64 (4598175219545276416 : Nat)
                                              (Go.K.farith Go.BinOp.quo Go.FloatKind.f64
                                                (Go.K.farith Go.BinOp.mul Go.FloatKind.f64 (4620693217682128896 : Nat) (Go.K.farith Go.BinOp.mul Go.FloatKind.f64 x16 x18))
                                                (4618760256179416344 : Nat))))))
                                      (K
                                        (Go.K.farith Go.BinOp.sub Go.FloatKind.f64 (4602678819172646912 : Nat)
                                          (Go.K.farith Go.BinOp.sub Go.FloatKind.f64 (4598175219545276416 : Nat)
                                            (Go.K.farith Go.BinOp.quo Go.FloatKind.f64
                                              (Go.K.farith Go.BinOp.mul Go.FloatKind.f64 (4620693217682128896 : Nat) (Go.K.farith Go.BinOp.mul Go.FloatKind.f64 x16 x18))
                                              (4618760256179416344 : Nat))))))
                                    (Go.K.ifB (Go.K.flt Go.FloatKind.f64 a1 (0 : Nat))
                                      (K
                                        (Go.K.fneg Go.FloatKind.f64
                                          (Go.K.farith Go.BinOp.sub Go.FloatKind.f64 (4598175219545276416 : Nat)
                                            (Go.K.farith Go.BinOp.quo Go.FloatKind.f64
                                              (Go.K.farith Go.BinOp.mul Go.FloatKind.f64 (4620693217682128896 : Nat) (Go.K.farith Go.BinOp.mul Go.FloatKind.f64 x16 x18))
                                              (4618760256179416344 : Nat)))))
                                      (K
                                        (Go.K.farith Go.BinOp.sub Go.FloatKind.f64 (4598175219545276416 : Nat)
                                          (Go.K.farith Go.BinOp.quo Go.FloatKind.f64
                                            (Go.K.farith Go.BinOp.mul Go.FloatKind.f64 (4620693217682128896 : Nat) (Go.K.farith Go.BinOp.mul Go.FloatKind.f64 x16 x18))
                                            (4618760256179416344 : Nat))))))
                                  (Go.K.ifB (Go.K.flt Go.FloatKind.f64 a2 (0 : Nat))
                                    (Go.K.ifB (Go.K.flt Go.FloatKind.f64 a1 (0 : Nat))
                                      (K
                                        (Go.K.fneg Go.FloatKind.f64
                                          (Go.K.farith Go.BinOp.sub Go.FloatKind.f64 (4602678819172646912 : Nat)
                                            (Go.K.farith Go.BinOp.quo Go.FloatKind.f64
                                              (Go.K.farith Go.BinOp.mul Go.FloatKind.f64 (4620693217682128896 : Nat) (Go.K.farith Go.BinOp.mul Go.FloatKind.f64 x16 x18))
                                              (4618760256179416344 : Nat)))))
                                      (K
                                        (Go.K.farith Go.BinOp.sub Go.FloatKind.f64 (4602678819172646912 : Nat)
                                          (Go.K.farith Go.BinOp.quo Go.FloatKind.f64
                                            (Go.K.farith Go.BinOp.mul Go.FloatKind.f64 (4620693217682128896 : Nat) (Go.K.farith Go.BinOp.mul Go.FloatKind.f64 x16 x18))
                                            (4618760256179416344 : Nat)))))
                                    (Go.K.ifB (Go.K.flt Go.FloatKind.f64 a1 (0 : Nat))
                                      (K
                                        (Go.K.fneg Go.FloatKind.f64
                                          (Go.K.farith Go.BinOp.quo Go.FloatKind.f64
                                            (Go.K.farith Go.BinOp.mul Go.FloatKind.f64 (4620693217682128896 : Nat) (Go.K.farith Go.BinOp.mul Go.FloatKind.f64 x16 x18))
                                            (4618760256179416344 : Nat))))
                                      (K
                                        (Go.K.farith Go.BinOp.quo Go.FloatKind.f64
                                          (Go.K.farith Go.BinOp.mul Go.FloatKind.f64 (4620693217682128896 : Nat) (Go.K.farith Go.BinOp.mul Go.FloatKind.f64 x16 x18))
                                          (4618760256179416344 : Nat)))))) →
                              J13 x14 x15 x16 x17 x18 x19) →
                          J13 x8 x9 x10 (Go.K.farith Go.BinOp.mul Go.FloatKind.f64 x10 x10) (0 : Nat) (15 : Int)) →
                    J7 x8 x9 x10 x11) →
                J7 x4 x5 x6 (0 : Int)) →
            J3 x4 x5 x6) →
        Go.K.ifB (Go.K.fgt Go.FloatKind.f64 y1 y2) (J3 y1 y2 (Go.K.farith Go.BinOp.quo Go.FloatKind.f64 y2 y1))
          (J3 y1 y2 (Go.K.farith Go.BinOp.quo Go.FloatKind.f64 y1 y2))) := impl_angle.tx math_Abs.wp math_Sqrt.wp a1 a2 K

theorem impl_AngleTurns.tx (w_impl_IsFinite : Nat → (Bool → Prop) → Prop) (w_math_NaN : (Nat → Prop) → Prop) (w_impl_angle : Nat → Nat → (Nat → Prop) → Prop) (a1 : Nat) (a2 : Nat) (K : Nat → Prop) : impl_AngleTurns.bd w_impl_IsFinite w_math_NaN w_impl_angle a1 a2 K =
  (w_impl_IsFinite a1 fun y1 =>
  Go.K.ifB (!y1) (w_math_NaN fun y2 => Go.K.fitsF Go.FloatKind.f64 Go.FloatKind.f32 y2 = Bool.true ∧ K (Go.K.fconv Go.FloatKind.f64 Go.FloatKind.f32 y2))
    (w_impl_IsFinite a2 fun y3 =>
      Go.K.ifB (!y3) (w_math_NaN fun y4 => Go.K.fitsF Go.FloatKind.f64 Go.FloatKind.f32 y4 = Bool.true ∧ K (Go.K.fconv Go.FloatKind.f64 Go.FloatKind.f32 y4))
        (Go.K.ifB (Go.K.feq Go.FloatKind.f32 a1 (0 : Nat))
          (Go.K.ifB (Go.K.feq Go.FloatKind.f32 a2 (0 : Nat)) (K (0 : Nat))
            (w_impl_angle (Go.K.fconv Go.FloatKind.f32 Go.FloatKind.f64 a1) (Go.K.fconv Go.FloatKind.f32 Go.FloatKind.f64 a2) fun y5 =>
              Go.K.fitsF Go.FloatKind.f64 Go.FloatKind.f32 y5 = Bool.true ∧ K (Go.K.fconv Go.FloatKind.f64 Go.FloatKind.f32 y5)))
          (w_impl_angle (Go.K.fconv Go.FloatKind.f32 Go.FloatKind.f64 a1) (Go.K.fconv Go.FloatKind.f32 Go.FloatKind.f64 a2) fun y6 =>
            Go.K.fitsF Go.FloatKind.f64 Go.FloatKind.f32 y6 = Bool.true ∧ K (Go.K.fconv Go.FloatKind.f64 Go.FloatKind.f32 y6))))) := by kernel_rfl
theorem impl_AngleTurns.eq (a1 : Nat) (a2 : Nat) (K : Nat → Prop) : impl_AngleTurns.wp a1 a2 K =
  (Go.K.heights.impl_IsFinite.wp a1 fun y1 =>
  Go.K.ifB (!y1) (Go.K.heights.math_NaN.wp fun y2 => Go.K.fitsF Go.FloatKind.f64 Go.FloatKind.f32 y2 = Bool.true ∧ K (Go.K.fconv Go.FloatKind.f64 Go.FloatKind.f32 y2))
    (Go.K.heights.impl_IsFinite.wp a2 fun y3 =>
      Go.K.ifB (!y3) (Go.K.heights.math_NaN.wp fun y4 => Go.K.fitsF Go.FloatKind.f64 Go.FloatKind.f32 y4 = Bool.true ∧ K (Go.K.fconv Go.FloatKind.f64 Go.FloatKind.f32 y4))
        (Go.K.ifB (Go.K.feq Go.FloatKind.f32 a1 (0 : Nat))
          (Go.K.ifB (Go.K.feq Go.FloatKind.f32 a2 (0 : Nat)) (K (0 : Nat))
            (Go.K.heights.impl_angle.wp (Go.K.fconv Go.FloatKind.f32 Go.FloatKind.f64 a1) (Go.K.fconv Go.FloatKind.f32 Go.FloatKind.f64 a2) fun y5 =>
              Go.K.fitsF Go.FloatKind.f64 Go.FloatKind.f32 y5 = Bool.true ∧ K (Go.K.fconv Go.FloatKind.f64 Go.FloatKind.f32 y5)))
          (Go.K.heights.impl_angle.wp (Go.K.fconv Go.FloatKind.f32 Go.FloatKind.f64 a1) (Go.K.fconv Go.FloatKind.f32 Go.FloatKind.f64 a2) fun y6 =>
            Go.K.fitsF Go.FloatKind.f64 Go.FloatKind.f32 y6 = Bool.true ∧ K (Go.K.fconv Go.FloatKind.f64 Go.FloatKind.f32 y6))))) := impl_AngleTurns.tx impl_IsFinite.wp math_NaN.wp impl_angle.wp a1 a2 K

theorem impl_floor32.tx (w_math_Floor : Nat → (Nat → Prop) → Prop) (a1 : Nat) (K : Nat → Prop) : impl_floor32.bd w_math_Floor a1 K =
  (w_math_Floor (Go.K.fconv Go.FloatKind.f32 Go.FloatKind.f64 a1) fun y1 =>
  Go.K.fitsF Go.FloatKind.f64 Go.FloatKind.f32 y1 = Bool.true ∧ K (Go.K.fconv Go.FloatKind.f64 Go.FloatKind.f32 y1)) := by kernel_rfl
theorem impl_floor32.eq (a1 : Nat) (K : Nat → Prop) : impl_floor32.wp a1 K =
  (Go.K.heights.math_Floor.wp (Go.K.fconv Go.FloatKind.f32 Go.FloatKind.f64 a1) fun y1 =>
  Go.K.fitsF Go.FloatKind.f64 Go.FloatKind.f32 y1 = Bool.true ∧ K (Go.K.fconv Go.FloatKind.f64 Go.FloatKind.f32 y1)) := impl_floor32.tx math_Floor.wp a1 K

theorem impl_ScrewHeights_1.tx (w_impl_AngleTurns : Nat → Nat → (Nat → Prop) → Prop) (w_impl_floor32 : Nat → (Nat → Prop) → Prop) (a1 : Int) (a2 : Int) (a3 : Int) (a4 : Int) (a5 : Int) (K : Int → Prop) : impl_ScrewHeights_1.bd w_impl_AngleTurns w_impl_floor32 a1 a2 a3 a4 a5 K =
  (w_impl_AngleTurns (Go.K.fofint Go.FloatKind.f32 (Go.IntKind.wrap Go.IntKind.i64 (a5 - a2)))
  (Go.K.fofint Go.FloatKind.f32 (Go.IntKind.wrap Go.IntKind.i64 (a4 - a3))) fun y1 =>
  w_impl_floor32 (Go.K.farith Go.BinOp.mul Go.FloatKind.f32 (Go.K.fofint Go.FloatKind.f32 a1) (Go.K.farith Go.BinOp.add Go.FloatKind.f32 y1 (1056964608 : Nat)))
    fun y2 =>
    Option.isSome (Go.K.ftoint Go.FloatKind.f32 y2 Go.IntKind.i64) = Bool.true ∧ K (Option.getD (Go.K.ftoint Go.FloatKind.f32 y2 Go.IntKind.i64) (0 : Int))) := by kernel_rfl
theorem impl_ScrewHeights_1.eq (a1 : Int) (a2 : Int) (a3 : Int) (a4 : Int) (a5 : Int) (K : Int → Prop) : impl_ScrewHeights_1.wp a1 a2 a3 a4 a5 K =
  (Go.K.heights.impl_AngleTurns.wp (Go.K.fofint Go.FloatKind.f32 (Go.IntKind.wrap Go.IntKind.i64 (a5 - a2)))
  (Go.K.fofint Go.FloatKind.f32 (Go.IntKind.wrap Go.IntKind.i64 (a4 - a3))) fun y1 =>
  Go.K.heights.impl_floor32.wp (Go.K.farith Go.BinOp.mul Go.FloatKind.f32 (Go.K.fofint Go.FloatKind.f32 a1) (Go.K.farith Go.BinOp.add Go.FloatKind.f32 y1 (1056964608 : Nat)))
    fun y2 =>
    Option.isSome (Go.K.ftoint Go.FloatKind.f32 y2 Go.IntKind.i64) = Bool.true ∧ K (Option.getD (Go.K.ftoint Go.FloatKind.f32 y2 Go.IntKind.i64) (0 : Int))) := impl_ScrewHeights_1.tx impl_AngleTurns.wp impl_floor32.wp a1 a2 a3 a4 a5 K

theorem impl_built__ScrewHeights_1.tx (w_impl_areWithin : List Int → Int → Int → (Bool → Prop) → Prop) (w_impl_ScrewHeights_1 : Int → Int → Int → Int → Int → (Int → Prop) → Prop) (w_impl_Heights_told : List Int → Int → Int → (List Int → Int → Int → Bool → Prop) → Prop) (a1 : Int) (a2 : Int) (a3 : Int) (a4 : Int) (a5 : Int) (K : List Int →
  Int → Int → Bool → Prop) : impl_built__ScrewHeights_1.bd w_impl_areWithin w_impl_ScrewHeights_1 w_impl_Heights_told a1 a2 a3 a4 a5 K =
  (w_impl_areWithin (a4 :: a5 :: List.replicate (0 : Nat) (0 : Int)) (2 : Int) (16 : Int) fun y1 =>
  Go.K.ifB (!y1) (K [] (0 : Int) (0 : Int) Bool.false)
    (∀ (J2 : Int → Int → Int → Int → List Int → List Int → Int → Int → Prop),
      (∀ (x3 x4 x5 x6 : Int) (x7 x8 : List Int) (x9 x10 : Int),
          Go.K.ifB (Decidable.decide (x10 < x9))
              (∀ (J11 : Int → Int → Int → Int → List Int → List Int → Int → Int → Int → Int → Int → Prop),
                (∀ (x12 x13 x14 x15 : Int) (x16 x17 : List Int) (x18 x19 x20 x21 x22 : Int),
                    Go.K.ifB (Decidable.decide (x22 < x21))
                        (w_impl_ScrewHeights_1 a1 a2 a3 x22 x18 fun y23 =>
                          List.length (x17 ++ y23 :: List.replicate (0 : Nat) (0 : Int)) ≤ (1099511627776 : Nat) ∧
                            J11 x12 x13 x14 x15 x16 (x17 ++ y23 :: List.replicate (0 : Nat) (0 : Int)) x18 x19 x20 x21 (Go.IntKind.wrap Go.IntKind.i64 (x22 + (1 : Int))))
                        (J2 x12 x13 x14 x15 x16 x17 x19 (Go.IntKind.wrap Go.IntKind.i64 (x20 + (1 : Int)))) →
                      J11 x12 x13 x14 x15 x16 x17 x18 x19 x20 x21 x22) →
                  J11 x3 x4 x5 x6 x7 x8 x10 x9 x10 a4 (0 : Int))
              (w_impl_Heights_told x8 x5 x6 fun y26 y27 y28 y29 => K y26 y27 y28 y29) →
            J2 x3 x4 x5 x6 x7 x8 x9 x10) →
        J2 (0 : Int) (0 : Int) a4 a5 [] [] a5 (0 : Int))) := by kernel_rfl
theorem impl_built__ScrewHeights_1.eq (a1 : Int) (a2 : Int) (a3 : Int) (a4 : Int) (a5 : Int) (K : List Int →
  Int → Int → Bool → Prop) : impl_built__ScrewHeights_1.wp a1 a2 a3 a4 a5 K =
  (Go.K.heights.impl_areWithin.wp (a4 :: a5 :: List.replicate (0 : Nat) (0 : Int)) (2 : Int) (16 : Int) fun y1 =>
  Go.K.ifB (!y1) (K [] (0 : Int) (0 : Int) Bool.false)
    (∀ (J2 : Int → Int → Int → Int → List Int → List Int → Int → Int → Prop),
      (∀ (x3 x4 x5 x6 : Int) (x7 x8 : List Int) (x9 x10 : Int),
          Go.K.ifB (Decidable.decide (x10 < x9))
              (∀ (J11 : Int → Int → Int → Int → List Int → List Int → Int → Int → Int → Int → Int → Prop),
                (∀ (x12 x13 x14 x15 : Int) (x16 x17 : List Int) (x18 x19 x20 x21 x22 : Int),
                    Go.K.ifB (Decidable.decide (x22 < x21))
                        (Go.K.heights.impl_ScrewHeights_1.wp a1 a2 a3 x22 x18 fun y23 =>
                          List.length (x17 ++ y23 :: List.replicate (0 : Nat) (0 : Int)) ≤ (1099511627776 : Nat) ∧
                            J11 x12 x13 x14 x15 x16 (x17 ++ y23 :: List.replicate (0 : Nat) (0 : Int)) x18 x19 x20 x21 (Go.IntKind.wrap Go.IntKind.i64 (x22 + (1 : Int))))
                        (J2 x12 x13 x14 x15 x16 x17 x19 (Go.IntKind.wrap Go.IntKind.i64 (x20 + (1 : Int)))) →
                      J11 x12 x13 x14 x15 x16 x17 x18 x19 x20 x21 x22) →
                  J11 x3 x4 x5 x6 x7 x8 x10 x9 x10 a4 (0 : Int))
              (Go.K.heights.impl_Heights_told.wp x8 x5 x6 fun y26 y27 y28 y29 => K y26 y27 y28 y29) →
            J2 x3 x4 x5 x6 x7 x8 x9 x10) →
        J2 (0 : Int) (0 : Int) a4 a5 [] [] a5 (0 : Int))) := impl_built__ScrewHeights_1.tx impl_areWithin.wp impl_ScrewHeights_1.wp impl_Heights_told.wp a1 a2 a3 a4 a5 K

theorem impl_ScrewHeights.tx (w_impl_within : Int → Int → Int → (Bool → Prop) → Prop) (w_impl_built__ScrewHeights_1 : Int → Int → Int → Int → Int → (List Int → Int → Int → Bool → Prop) → Prop) (a1 : Int) (a2 : Int) (a3 : Int) (a4 : Int) (a5 : Int) (K : List Int → Int → Int → Bool → Prop) : impl_ScrewHeights.bd w_impl_within w_impl_built__ScrewHeights_1 a1 a2 a3 a4 a5 K =
  (w_impl_within a3 (0 : Int) (Go.IntKind.wrap Go.IntKind.i64 (a1 - (1 : Int))) fun y1 =>
  Go.K.ifB (!y1) (K [] (0 : Int) (0 : Int) Bool.false)
    (w_impl_within a4 (0 : Int) (Go.IntKind.wrap Go.IntKind.i64 (a2 - (1 : Int))) fun y2 =>
      Go.K.ifB (!y2) (K [] (0 : Int) (0 : Int) Bool.false)
        (w_impl_within a5 (1 : Int) (100 : Int) fun y3 =>
          Go.K.ifB (!y3) (K [] (0 : Int) (0 : Int) Bool.false) (w_impl_built__ScrewHeights_1 a5 a4 a3 a1 a2 fun y4 y5 y6 y7 => K y4 y5 y6 y7)))) := by kernel_rfl
theorem impl_ScrewHeights.eq (a1 : Int) (a2 : Int) (a3 : Int) (a4 : Int) (a5 : Int) (K : List Int → Int → Int → Bool → Prop) : impl_ScrewHeights.wp a1 a2 a3 a4 a5 K =
  (Go.K.heights.impl_within.wp a3 (0 : Int) (Go.IntKind.wrap Go.IntKind.i64 (a1 - (1 : Int))) fun y1 =>
  Go.K.ifB (!y1) (K [] (0 : Int) (0 : Int) Bool.false)
    (Go.K.heights.impl_within.wp a4 (0 : Int) (Go.IntKind.wrap Go.IntKind.i64 (a2 - (1 : Int))) fun y2 =>
      Go.K.ifB (!y2) (K [] (0 : Int) (0 : Int) Bool.false)
        (Go.K.heights.impl_within.wp a5 (1 : Int) (100 : Int) fun y3 =>
          Go.K.ifB (!y3) (K [] (0 : Int) (0 : Int) Bool.false) (Go.K.heights.impl_built__ScrewHeights_1.wp a5 a4 a3 a1 a2 fun y4 y5 y6 y7 => K y4 y5 y6 y7)))) := impl_ScrewHeights.tx impl_within.wp impl_built__ScrewHeights_1.wp a1 a2 a3 a4 a5 K

theorem laws_FnExactScrewHeights.tx (w_spec_ScrewHeights : Int → Int → Int → Int → Int → (List Int → Int → Int → Bool → Prop) → Prop) (w_impl_ScrewHeights : Int → Int → Int → Int → Int → (List Int → Int → Int → Bool → Prop) → Prop) (w_laws_eqHeights : List Int → List Int → Int → Int → Int → Int → (Bool → Prop) → Prop) (w_laws_markHeights : List Int → Int → Int → Int → (List Int → Int → Prop) → Prop) (w_laws_heldHeights : List Int → Int → Int → Int → (Int → Prop) → Prop) (a1 : Int) (a2 : Int) (a3 : Int) (a4 : Int) (a5 : Int) (K : Bool → Prop) : laws_FnExactScrewHeights.bd w_spec_ScrewHeights w_impl_ScrewHeights w_laws_eqHeights w_laws_markHeights w_laws_heldHeights a1 a2 a3 a4 a5 K =
  (w_spec_ScrewHeights a1 a2 a3 a4 a5 fun y1 y2 y3 y4 =>
  w_impl_ScrewHeights a1 a2 a3 a4 a5 fun y5 y6 y7 y8 =>
    w_laws_eqHeights y5 y1 y6 y7 y2 y3 fun y9 =>
      Go.K.ifB (!y9) (K Bool.false)
        (Go.K.ifB (y8 != y4) (K Bool.false)
          (w_laws_markHeights y5 y6 y7 (1 : Int) fun y10 y11 =>
            w_laws_heldHeights y10 y6 y7 (1 : Int) fun y12 =>
              Go.K.ifB (Decidable.decide (y12 < (0 : Int))) (K Bool.false)
                (Go.K.ifB (y12 != y11) (K Bool.false)
                  (w_impl_ScrewHeights a1 a2 a3 a4 a5 fun y13 y14 y15 y16 =>
                    w_laws_eqHeights y13 y1 y14 y15 y2 y3 fun y17 =>
                      Go.K.ifB (!y17) (K Bool.false)
                        (Go.K.ifB (y16 != y4) (K Bool.false)
                          (w_laws_heldHeights y10 y6 y7 (1 : Int) fun y18 =>
                            Go.K.ifB (Decidable.decide (y18 < (0 : Int))) (K Bool.false) (Go.K.ifB (y18 != y11) (K Bool.false) (K Bool.true))))))))) := by kernel_rfl
theorem laws_FnExactScrewHeights.eq (a1 : Int) (a2 : Int) (a3 : Int) (a4 : Int) (a5 : Int) (K : Bool → Prop) : laws_FnExactScrewHeights.wp a1 a2 a3 a4 a5 K =
  (Go.K.heights.spec_ScrewHeights.wp a1 a2 a3 a4 a5 fun y1 y2 y3 y4 =>
  Go.K.heights.impl_ScrewHeights.wp a1 a2 a3 a4 a5 fun y5 y6 y7 y8 =>
    Go.K.heights.laws_eqHeights.wp y5 y1 y6 y7 y2 y3 fun y9 =>
      Go.K.ifB (!y9) (K Bool.false)
        (Go.K.ifB (y8 != y4) (K Bool.false)
          (Go.K.heights.laws_markHeights.wp y5 y6 y7 (1 : Int) fun y10 y11 =>
            Go.K.heights.laws_heldHeights.wp y10 y6 y7 (1 : Int) fun y12 =>
              Go.K.ifB (Decidable.decide (y12 < (0 : Int))) (K Bool.false)
                (Go.K.ifB (y12 != y11) (K Bool.false)
                  (Go.K.heights.impl_ScrewHeights.wp a1 a2 a3 a4 a5 fun y13 y14 y15 y16 =>
                    Go.K.heights.laws_eqHeights.wp y13 y1 y14 y15 y2 y3 fun y17 =>
                      Go.K.ifB (!y17) (K Bool.false)
                        (Go.K.ifB (y16 != y4) (K Bool.false)
                          (Go.K.heights.laws_heldHeights.wp y10 y6 y7 (1 : Int) fun y18 =>
                            Go.K.ifB (Decidable.decide (y18 < (0 : Int))) (K Bool.false) (Go.K.ifB (y18 != y11) (K Bool.false) (K Bool.true))))))))) := laws_FnExactScrewHeights.tx spec_ScrewHeights.wp impl_ScrewHeights.wp laws_eqHeights.wp laws_markHeights.wp laws_heldHeights.wp a1 a2 a3 a4 a5 K

theorem impl_Heights_alike.tx (w_impl_Heights_atoms : List Int → Int → Int → (Int → Prop) → Prop) (w_impl_Heights_top : List Int → Int → Int → Int → Int → (Int → Prop) → Prop) (a1 : List Int) (a2 : Int) (a3 : Int) (a4 : Int) (a5 : Int) (K : Nat → Prop) : impl_Heights_alike.bd w_impl_Heights_atoms w_impl_Heights_top a1 a2 a3 a4 a5 K =
  (w_impl_Heights_atoms a1 a2 a3 fun y1 =>
  ∀ (J2 : Int → Int → Nat → Nat → Nat → Int → Int → Prop),
    (∀ (x3 x4 : Int) (x5 x6 x7 : Nat) (x8 x9 : Int),
        Go.K.ifB (Decidable.decide (x9 < x8))
            (((0 : Int) ≤ x9 ∧ x9 < (↑(List.length a1) : Int)) ∧
              x3 ≠ (0 : Int) ∧
                x3 ≠ (0 : Int) ∧
                  w_impl_Heights_top a1 x3 x4 (Go.IntKind.wrap Go.IntKind.i64 (Int.tmod x9 x3 + a4))
                    (Go.IntKind.wrap Go.IntKind.i64 (Go.IntKind.wrap Go.IntKind.i64 (Int.tdiv x9 x3) + a5)) fun y10 =>
                    J2 x3 x4 x5 x6
                      (Go.K.farith Go.BinOp.add Go.FloatKind.f64 x7
                        (Go.K.farith Go.BinOp.mul Go.FloatKind.f64
                          (Go.K.farith Go.BinOp.sub Go.FloatKind.f64 (Go.K.fofint Go.FloatKind.f64 (List.getD a1 (Int.toNat x9) (0 : Int))) x6)
                          (Go.K.farith Go.BinOp.sub Go.FloatKind.f64 (Go.K.fofint Go.FloatKind.f64 y10) x6)))
                      x8 (Go.IntKind.wrap Go.IntKind.i64 (x9 + (1 : Int))))
            (K (Go.K.farith Go.BinOp.quo Go.FloatKind.f64 x7 x5)) →
          J2 x3 x4 x5 x6 x7 x8 x9) →
      J2 a2 a3 (Go.K.fofint Go.FloatKind.f64 (↑(List.length a1) : Int))
        (Go.K.farith Go.BinOp.quo Go.FloatKind.f64 (Go.K.fofint Go.FloatKind.f64 y1) (Go.K.fofint Go.FloatKind.f64 (↑(List.length a1) : Int))) (0 : Nat) (↑(List.length a1) : Int)
        (0 : Int)) := by kernel_rfl
theorem impl_Heights_alike.eq (a1 : List Int) (a2 : Int) (a3 : Int) (a4 : Int) (a5 : Int) (K : Nat → Prop) : impl_Heights_alike.wp a1 a2 a3 a4 a5 K =
  (Go.K.heights.impl_Heights_atoms.wp a1 a2 a3 fun y1 =>
  ∀ (J2 : Int → Int → Nat → Nat → Nat → Int → Int → Prop),
    (∀ (x3 x4 : Int) (x5 x6 x7 : Nat) (x8 x9 : Int),
        Go.K.ifB (Decidable.decide (x9 < x8))
            (((0 : Int) ≤ x9 ∧ x9 < (↑(List.length a1) : Int)) ∧
              x3 ≠ (0 : Int) ∧
                x3 ≠ (0 : Int) ∧
                  Go.K.heights.impl_Heights_top.wp a1 x3 x4 (Go.IntKind.wrap Go.IntKind.i64 (Int.tmod x9 x3 + a4))
                    (Go.IntKind.wrap Go.IntKind.i64 (Go.IntKind.wrap Go.IntKind.i64 (Int.tdiv x9 x3) + a5)) fun y10 =>
                    J2 x3 x4 x5 x6
                      (Go.K.farith Go.BinOp.add Go.FloatKind.f64 x7
                        (Go.K.farith Go.BinOp.mul Go.FloatKind.f64
                          (Go.K.farith Go.BinOp.sub Go.FloatKind.f64 (Go.K.fofint Go.FloatKind.f64 (List.getD a1 (Int.toNat x9) (0 : Int))) x6)
                          (Go.K.farith Go.BinOp.sub Go.FloatKind.f64 (Go.K.fofint Go.FloatKind.f64 y10) x6)))
                      x8 (Go.IntKind.wrap Go.IntKind.i64 (x9 + (1 : Int))))
            (K (Go.K.farith Go.BinOp.quo Go.FloatKind.f64 x7 x5)) →
          J2 x3 x4 x5 x6 x7 x8 x9) →
      J2 a2 a3 (Go.K.fofint Go.FloatKind.f64 (↑(List.length a1) : Int))
        (Go.K.farith Go.BinOp.quo Go.FloatKind.f64 (Go.K.fofint Go.FloatKind.f64 y1) (Go.K.fofint Go.FloatKind.f64 (↑(List.length a1) : Int))) (0 : Nat) (↑(List.length a1) : Int)
        (0 : Int)) := impl_Heights_alike.tx impl_Heights_atoms.wp impl_Heights_top.wp a1 a2 a3 a4 a5 K

theorem impl_RoughnessOf.tx (w_impl_ValidHeights : List Int → Int → Int → (Bool → Prop) → Prop) (w_impl_Heights_alike : List Int → Int → Int → Int → Int → (Nat → Prop) → Prop) (w_math_Sqrt : Nat → (Nat → Prop) → Prop) (a1 : List Int) (a2 : Int) (a3 : Int) (K : Nat → Bool → Prop) : impl_RoughnessOf.bd w_impl_ValidHeights w_impl_Heights_alike w_math_Sqrt a1 a2 a3 K =
  (w_impl_ValidHeights a1 a2 a3 fun y1 =>
  Go.K.ifB (!y1) (K (0 : Nat) Bool.false)
    (w_impl_Heights_alike a1 a2 a3 (0 : Int) (0 : Int) fun y2 =>
      w_math_Sqrt y2 fun y3 =>
        Go.K.fitsF Go.FloatKind.f64 Go.FloatKind.f32 y3 = Bool.true ∧ K (Go.K.fconv Go.FloatKind.f64 Go.FloatKind.f32 y3) Bool.true)) := by kernel_rfl
theorem impl_RoughnessOf.eq (a1 : List Int) (a2 : Int) (a3 : Int) (K : Nat → Bool → Prop) : impl_RoughnessOf.wp a1 a2 a3 K =
  (Go.K.heights.impl_ValidHeights.wp a1 a2 a3 fun y1 =>
  Go.K.ifB (!y1) (K (0 : Nat) Bool.false)
    (Go.K.heights.impl_Heights_alike.wp a1 a2 a3 (0 : Int) (0 : Int) fun y2 =>
      Go.K.heights.math_Sqrt.wp y2 fun y3 =>
        Go.K.fitsF Go.FloatKind.f64 Go.FloatKind.f32 y3 = Bool.true ∧ K (Go.K.fconv Go.FloatKind.f64 Go.FloatKind.f32 y3) Bool.true)) := impl_RoughnessOf.tx impl_ValidHeights.wp impl_Heights_alike.wp math_Sqrt.wp a1 a2 a3 K

theorem impl_AlikeAt.tx (w_impl_ValidHeights : List Int → Int → Int → (Bool → Prop) → Prop) (w_impl_areWithin : List Int → Int → Int → (Bool → Prop) → Prop) (w_impl_Heights_alike : List Int → Int → Int → Int → Int → (Nat → Prop) → Prop) (a1 : List Int) (a2 : Int) (a3 : Int) (a4 : Int) (a5 : Int) (K : Nat → Bool → Prop) : impl_AlikeAt.bd w_impl_ValidHeights w_impl_areWithin w_impl_Heights_alike a1 a2 a3 a4 a5 K =
  (w_impl_ValidHeights a1 a2 a3 fun y1 =>
  Go.K.ifB (!y1) (K (0 : Nat) Bool.false)
    (w_impl_areWithin (a4 :: a5 :: List.replicate (0 : Nat) (0 : Int)) (-16 : Int) (16 : Int) fun y2 =>
      Go.K.ifB (!y2) (K (0 : Nat) Bool.false)
        (w_impl_Heights_alike a1 a2 a3 (0 : Int) (0 : Int) fun y3 =>
          Go.K.ifB (!Go.K.fgt Go.FloatKind.f64 y3 (0 : Nat)) (K (0 : Nat) Bool.false)
            (w_impl_Heights_alike a1 a2 a3 a4 a5 fun y4 =>
              w_impl_Heights_alike a1 a2 a3 (0 : Int) (0 : Int) fun y5 =>
                Go.K.fitsF Go.FloatKind.f64 Go.FloatKind.f32 (Go.K.farith Go.BinOp.quo Go.FloatKind.f64 y4 y5) = Bool.true ∧
                  K (Go.K.fconv Go.FloatKind.f64 Go.FloatKind.f32 (Go.K.farith Go.BinOp.quo Go.FloatKind.f64 y4 y5)) Bool.true)))) := by kernel_rfl
theorem impl_AlikeAt.eq (a1 : List Int) (a2 : Int) (a3 : Int) (a4 : Int) (a5 : Int) (K : Nat → Bool → Prop) : impl_AlikeAt.wp a1 a2 a3 a4 a5 K =
  (Go.K.heights.impl_ValidHeights.wp a1 a2 a3 fun y1 =>
  Go.K.ifB (!y1) (K (0 : Nat) Bool.false)
    (Go.K.heights.impl_areWithin.wp (a4 :: a5 :: List.replicate (0 : Nat) (0 : Int)) (-16 : Int) (16 : Int) fun y2 =>
      Go.K.ifB (!y2) (K (0 : Nat) Bool.false)
        (Go.K.heights.impl_Heights_alike.wp a1 a2 a3 (0 : Int) (0 : Int) fun y3 =>
          Go.K.ifB (!Go.K.fgt Go.FloatKind.f64 y3 (0 : Nat)) (K (0 : Nat) Bool.false)
            (Go.K.heights.impl_Heights_alike.wp a1 a2 a3 a4 a5 fun y4 =>
              Go.K.heights.impl_Heights_alike.wp a1 a2 a3 (0 : Int) (0 : Int) fun y5 =>
                Go.K.fitsF Go.FloatKind.f64 Go.FloatKind.f32 (Go.K.farith Go.BinOp.quo Go.FloatKind.f64 y4 y5) = Bool.true ∧
                  K (Go.K.fconv Go.FloatKind.f64 Go.FloatKind.f32 (Go.K.farith Go.BinOp.quo Go.FloatKind.f64 y4 y5)) Bool.true)))) := impl_AlikeAt.tx impl_ValidHeights.wp impl_areWithin.wp impl_Heights_alike.wp a1 a2 a3 a4 a5 K

theorem impl_MeanTop.tx (w_impl_ValidHeights : List Int → Int → Int → (Bool → Prop) → Prop) (w_impl_Heights_atoms : List Int → Int → Int → (Int → Prop) → Prop) (a1 : List Int) (a2 : Int) (a3 : Int) (K : Nat → Bool → Prop) : impl_MeanTop.bd w_impl_ValidHeights w_impl_Heights_atoms a1 a2 a3 K =
  (w_impl_ValidHeights a1 a2 a3 fun y1 =>
  Go.K.ifB (!y1) (K (0 : Nat) Bool.false)
    (w_impl_Heights_atoms a1 a2 a3 fun y2 =>
      K (Go.K.farith Go.BinOp.quo Go.FloatKind.f32 (Go.K.fofint Go.FloatKind.f32 y2) (Go.K.fofint Go.FloatKind.f32 (↑(List.length a1) : Int))) Bool.true)) := by kernel_rfl
theorem impl_MeanTop.eq (a1 : List Int) (a2 : Int) (a3 : Int) (K : Nat → Bool → Prop) : impl_MeanTop.wp a1 a2 a3 K =
  (Go.K.heights.impl_ValidHeights.wp a1 a2 a3 fun y1 =>
  Go.K.ifB (!y1) (K (0 : Nat) Bool.false)
    (Go.K.heights.impl_Heights_atoms.wp a1 a2 a3 fun y2 =>
      K (Go.K.farith Go.BinOp.quo Go.FloatKind.f32 (Go.K.fofint Go.FloatKind.f32 y2) (Go.K.fofint Go.FloatKind.f32 (↑(List.length a1) : Int))) Bool.true)) := impl_MeanTop.tx impl_ValidHeights.wp impl_Heights_atoms.wp a1 a2 a3 K

theorem laws_b10Gap.tx  (a1 : Nat) (a2 : Nat) (K : Nat → Prop) : laws_b10Gap.bd  a1 a2 K =
  (Go.K.ifB (Go.K.flt Go.FloatKind.f64 a1 a2) (K (Go.K.farith Go.BinOp.sub Go.FloatKind.f64 a2 a1)) (K (Go.K.farith Go.BinOp.sub Go.FloatKind.f64 a1 a2))) := by kernel_rfl
theorem laws_b10Gap.eq (a1 : Nat) (a2 : Nat) (K : Nat → Prop) : laws_b10Gap.wp a1 a2 K =
  (Go.K.ifB (Go.K.flt Go.FloatKind.f64 a1 a2) (K (Go.K.farith Go.BinOp.sub Go.FloatKind.f64 a2 a1)) (K (Go.K.farith Go.BinOp.sub Go.FloatKind.f64 a1 a2))) := laws_b10Gap.tx  a1 a2 K

theorem impl_TopAt.tx (w_impl_Heights_has : List Int → Int → Int → Int → Int → (Bool → Prop) → Prop) (w_impl_Heights_top : List Int → Int → Int → Int → Int → (Int → Prop) → Prop) (a1 : List Int) (a2 : Int) (a3 : Int) (a4 : Int) (a5 : Int) (K : Int → Bool → Prop) : impl_TopAt.bd w_impl_Heights_has w_impl_Heights_top a1 a2 a3 a4 a5 K =
  (w_impl_Heights_has a1 a2 a3 a4 a5 fun y1 =>
  Go.K.ifB (!y1) (K (0 : Int) Bool.false) (w_impl_Heights_top a1 a2 a3 a4 a5 fun y2 => K y2 Bool.true)) := by kernel_rfl
theorem impl_TopAt.eq (a1 : List Int) (a2 : Int) (a3 : Int) (a4 : Int) (a5 : Int) (K : Int → Bool → Prop) : impl_TopAt.wp a1 a2 a3 a4 a5 K =
  (Go.K.heights.impl_Heights_has.wp a1 a2 a3 a4 a5 fun y1 =>
  Go.K.ifB (!y1) (K (0 : Int) Bool.false) (Go.K.heights.impl_Heights_top.wp a1 a2 a3 a4 a5 fun y2 => K y2 Bool.true)) := impl_TopAt.tx impl_Heights_has.wp impl_Heights_top.wp a1 a2 a3 a4 a5 K

theorem laws_FnRough.tx (w_laws_b10Long : List Int → List Int → (Bool → Prop) → Prop) (w_spec_B10Heights : List Int → (List Int → Int → Int → Prop) → Prop) (w_laws_b10At : List Int → Int → Int → (Int → Prop) → Prop) (w_impl_ShiftHeights : List Int → Int → Int → Int → Int → (List Int → Int → Int → Bool → Prop) → Prop) (w_impl_RoughnessOf : List Int → Int → Int → (Nat → Bool → Prop) → Prop) (w_impl_StepsIn : List Int → Int → Int → (Int → Bool → Prop) → Prop) (w_impl_AlikeAt : List Int → Int → Int → Int → Int → (Nat → Bool → Prop) → Prop) (w_impl_MeanTop : List Int → Int → Int → (Nat → Bool → Prop) → Prop) (w_impl_AtomsIn : List Int → Int → Int → (Int → Bool → Prop) → Prop) (w_laws_b10Gap : Nat → Nat → (Nat → Prop) → Prop) (w_impl_ScrewHeights : Int → Int → Int → Int → Int → (List Int → Int → Int → Bool → Prop) → Prop) (w_impl_ValidHeights : List Int → Int → Int → (Bool → Prop) → Prop) (w_impl_TopAt : List Int → Int → Int → Int → Int → (Int → Bool → Prop) → Prop) (a1 : List Int) (a2 : List Int) (K : Bool → Prop) : laws_FnRough.bd w_laws_b10Long w_spec_B10Heights w_laws_b10At w_impl_ShiftHeights w_impl_RoughnessOf w_impl_StepsIn w_impl_AlikeAt w_impl_MeanTop w_impl_AtomsIn w_laws_b10Gap w_impl_ScrewHeights w_impl_ValidHeights w_impl_TopAt a1 a2 K =
  (w_laws_b10Long a1 a2 fun y1 =>
  Go.K.ifB y1 (K Bool.true)
    (w_spec_B10Heights a1 fun y2 y3 y4 =>
      w_laws_b10At a2 (0 : Int) (9 : Int) fun y5 =>
        w_laws_b10At a2 (1 : Int) (9 : Int) fun y6 =>
          w_impl_ShiftHeights y2 y3 y4 (Go.IntKind.wrap Go.IntKind.i64 (y5 - (4 : Int))) (Go.IntKind.wrap Go.IntKind.i64 (y6 - (4 : Int))) fun y7 y8 y9 y10 =>
            w_impl_RoughnessOf y2 y3 y4 fun y11 y12 =>
              w_impl_RoughnessOf y7 y8 y9 fun y13 y14 =>
                w_impl_StepsIn y2 y3 y4 fun y15 y16 =>
                  w_impl_AlikeAt y2 y3 y4 (0 : Int) (0 : Int) fun y17 y18 =>
                    w_impl_AlikeAt y2 y3 y4 (1 : Int) (1 : Int) fun y19 y20 =>
                      w_impl_MeanTop y2 y3 y4 fun y21 y22 =>
                        w_impl_AtomsIn y2 y3 y4 fun y23 y24 =>
                          Go.K.ifB (!y10) (K Bool.false)
                            (Go.K.ifB (!y12) (K Bool.false)
                              (Go.K.ifB (!y14) (K Bool.false)
                                (Go.K.ifB (!y16) (K Bool.false)
                                  (Go.K.ifB (!y22) (K Bool.false)
                                    (Go.K.ifB (!y24) (K Bool.false)
                                      (Go.K.ifB (y18 != Go.K.fgt Go.FloatKind.f32 y11 (0 : Nat)) (K Bool.false)
                                        (Go.K.ifB (y20 != y18) (K Bool.false)
                                          (w_laws_b10Gap (Go.K.fconv Go.FloatKind.f32 Go.FloatKind.f64 y11) (Go.K.fconv Go.FloatKind.f32 Go.FloatKind.f64 y13)
                                            fun y25 =>
                                            Go.K.ifB (Go.K.fgt Go.FloatKind.f64 y25 (4562254508917369340 : Nat)) (K Bool.false)
                                              (Go.K.ifB ((y15 == (0 : Int)) != Go.K.feq Go.FloatKind.f32 y11 (0 : Nat)) (K Bool.false)
                                                (w_laws_b10Gap
                                                  (Go.K.farith Go.BinOp.mul Go.FloatKind.f64 (Go.K.fconv Go.FloatKind.f32 Go.FloatKind.f64 y21)
                                                    (Go.K.fofint Go.FloatKind.f64 (↑(List.length y2) : Int)))
                                                  (Go.K.fofint Go.FloatKind.f64 y23) fun y26 =>
                                                  Go.K.ifB (Go.K.fgt Go.FloatKind.f64 y26 (4562254508917369340 : Nat)) (K Bool.false)
                                                    (Go.K.ifB y18
                                                      (w_laws_b10Gap (Go.K.fconv Go.FloatKind.f32 Go.FloatKind.f64 y17) (4607182418800017408 : Nat) fun y27 =>
                                                        Go.K.ifB (Go.K.fgt Go.FloatKind.f64 y27 (4562254508917369340 : Nat)) (K Bool.false)
                                                          (Go.K.ifB (Go.K.fgt Go.FloatKind.f32 y19 (1065361605 : Nat)) (K Bool.false)
                                                            (Go.K.ifB (Go.K.flt Go.FloatKind.f32 y19 (3212845253 : Nat)) (K Bool.false)
                                                              (w_laws_b10At a2 (2 : Int) (20 : Int) fun y28 =>
                                                                w_impl_ScrewHeights y3 y4 (0 : Int) (0 : Int) (Go.IntKind.wrap Go.IntKind.i64 ((1 : Int) + y28))
                                                                  fun y29 y30 y31 y32 =>
                                                                  Go.K.ifB (!y32) (K Bool.false)
                                                                    (w_impl_ValidHeights y29 y30 y31 fun y33 =>
                                                                      Go.K.ifB (!y33) (K Bool.false)
                                                                        (∀ (J34 : Int → Int → List Int → Int → Int → Int → Prop),
                                                                          (∀ (x35 x36 : Int) (x37 : List Int) (x38 x39 x40 : Int),
                                                                              Go.K.ifB (Decidable.decide (x40 < x39))
                                                                                  (((0 : Int) ≤ x40 ∧ x40 < (↑(List.length x37) : Int)) ∧
                                                                                    Go.K.ifB (Decidable.decide (List.getD x37 (Int.toNat x40) (0 : Int) < (0 : Int))) (K Bool.false)
                                                                                      (((0 : Int) ≤ x40 ∧ x40 < (↑(List.length x37) : Int)) ∧
                                                                                        Go.K.ifB (Decidable.decide (List.getD x37 (Int.toNat x40) (0 : Int) > x38)) (K Bool.false)
                                                                                          (J34 x35 x36 x37 x38 x39 (Go.IntKind.wrap Go.IntKind.i64 (x40 + (1 : Int))))))
                                                                                  (w_impl_TopAt x37 x35 x36 (1 : Int) (0 : Int) fun y41 y42 =>
                                                                                    Go.K.ifB y42 (K (y41 == Go.IntKind.wrap Go.IntKind.i64 (Int.tdiv x38 (2 : Int))))
                                                                                      (K Bool.false)) →
                                                                                J34 x35 x36 x37 x38 x39 x40) →
                                                                            J34 y30 y31 y29 (Go.IntKind.wrap Go.IntKind.i64 ((1 : Int) + y28)) (↑(List.length y29) : Int)
                                                                              (0 : Int)))))))
                                                      False))))))))))))) := by kernel_rfl
theorem laws_FnRough.eq (a1 : List Int) (a2 : List Int) (K : Bool → Prop) : laws_FnRough.wp a1 a2 K =
  (Go.K.heights.laws_b10Long.wp a1 a2 fun y1 =>
  Go.K.ifB y1 (K Bool.true)
    (Go.K.heights.spec_B10Heights.wp a1 fun y2 y3 y4 =>
      Go.K.heights.laws_b10At.wp a2 (0 : Int) (9 : Int) fun y5 =>
        Go.K.heights.laws_b10At.wp a2 (1 : Int) (9 : Int) fun y6 =>
          Go.K.heights.impl_ShiftHeights.wp y2 y3 y4 (Go.IntKind.wrap Go.IntKind.i64 (y5 - (4 : Int))) (Go.IntKind.wrap Go.IntKind.i64 (y6 - (4 : Int))) fun y7 y8 y9 y10 =>
            Go.K.heights.impl_RoughnessOf.wp y2 y3 y4 fun y11 y12 =>
              Go.K.heights.impl_RoughnessOf.wp y7 y8 y9 fun y13 y14 =>
                Go.K.heights.impl_StepsIn.wp y2 y3 y4 fun y15 y16 =>
                  Go.K.heights.impl_AlikeAt.wp y2 y3 y4 (0 : Int) (0 : Int) fun y17 y18 =>
                    Go.K.heights.impl_AlikeAt.wp y2 y3 y4 (1 : Int) (1 : Int) fun y19 y20 =>
                      Go.K.heights.impl_MeanTop.wp y2 y3 y4 fun y21 y22 =>
                        Go.K.heights.impl_AtomsIn.wp y2 y3 y4 fun y23 y24 =>
                          Go.K.ifB (!y10) (K Bool.false)
                            (Go.K.ifB (!y12) (K Bool.false)
                              (Go.K.ifB (!y14) (K Bool.false)
                                (Go.K.ifB (!y16) (K Bool.false)
                                  (Go.K.ifB (!y22) (K Bool.false)
                                    (Go.K.ifB (!y24) (K Bool.false)
                                      (Go.K.ifB (y18 != Go.K.fgt Go.FloatKind.f32 y11 (0 : Nat)) (K Bool.false)
                                        (Go.K.ifB (y20 != y18) (K Bool.false)
                                          (Go.K.heights.laws_b10Gap.wp (Go.K.fconv Go.FloatKind.f32 Go.FloatKind.f64 y11) (Go.K.fconv Go.FloatKind.f32 Go.FloatKind.f64 y13)
                                            fun y25 =>
                                            Go.K.ifB (Go.K.fgt Go.FloatKind.f64 y25 (4562254508917369340 : Nat)) (K Bool.false)
                                              (Go.K.ifB ((y15 == (0 : Int)) != Go.K.feq Go.FloatKind.f32 y11 (0 : Nat)) (K Bool.false)
                                                (Go.K.heights.laws_b10Gap.wp
                                                  (Go.K.farith Go.BinOp.mul Go.FloatKind.f64 (Go.K.fconv Go.FloatKind.f32 Go.FloatKind.f64 y21)
                                                    (Go.K.fofint Go.FloatKind.f64 (↑(List.length y2) : Int)))
                                                  (Go.K.fofint Go.FloatKind.f64 y23) fun y26 =>
                                                  Go.K.ifB (Go.K.fgt Go.FloatKind.f64 y26 (4562254508917369340 : Nat)) (K Bool.false)
                                                    (Go.K.ifB y18
                                                      (Go.K.heights.laws_b10Gap.wp (Go.K.fconv Go.FloatKind.f32 Go.FloatKind.f64 y17) (4607182418800017408 : Nat) fun y27 =>
                                                        Go.K.ifB (Go.K.fgt Go.FloatKind.f64 y27 (4562254508917369340 : Nat)) (K Bool.false)
                                                          (Go.K.ifB (Go.K.fgt Go.FloatKind.f32 y19 (1065361605 : Nat)) (K Bool.false)
                                                            (Go.K.ifB (Go.K.flt Go.FloatKind.f32 y19 (3212845253 : Nat)) (K Bool.false)
                                                              (Go.K.heights.laws_b10At.wp a2 (2 : Int) (20 : Int) fun y28 =>
                                                                Go.K.heights.impl_ScrewHeights.wp y3 y4 (0 : Int) (0 : Int) (Go.IntKind.wrap Go.IntKind.i64 ((1 : Int) + y28))
                                                                  fun y29 y30 y31 y32 =>
                                                                  Go.K.ifB (!y32) (K Bool.false)
                                                                    (Go.K.heights.impl_ValidHeights.wp y29 y30 y31 fun y33 =>
                                                                      Go.K.ifB (!y33) (K Bool.false)
                                                                        (∀ (J34 : Int → Int → List Int → Int → Int → Int → Prop),
                                                                          (∀ (x35 x36 : Int) (x37 : List Int) (x38 x39 x40 : Int),
                                                                              Go.K.ifB (Decidable.decide (x40 < x39))
                                                                                  (((0 : Int) ≤ x40 ∧ x40 < (↑(List.length x37) : Int)) ∧
                                                                                    Go.K.ifB (Decidable.decide (List.getD x37 (Int.toNat x40) (0 : Int) < (0 : Int))) (K Bool.false)
                                                                                      (((0 : Int) ≤ x40 ∧ x40 < (↑(List.length x37) : Int)) ∧
                                                                                        Go.K.ifB (Decidable.decide (List.getD x37 (Int.toNat x40) (0 : Int) > x38)) (K Bool.false)
                                                                                          (J34 x35 x36 x37 x38 x39 (Go.IntKind.wrap Go.IntKind.i64 (x40 + (1 : Int))))))
                                                                                  (Go.K.heights.impl_TopAt.wp x37 x35 x36 (1 : Int) (0 : Int) fun y41 y42 =>
                                                                                    Go.K.ifB y42 (K (y41 == Go.IntKind.wrap Go.IntKind.i64 (Int.tdiv x38 (2 : Int))))
                                                                                      (K Bool.false)) →
                                                                                J34 x35 x36 x37 x38 x39 x40) →
                                                                            J34 y30 y31 y29 (Go.IntKind.wrap Go.IntKind.i64 ((1 : Int) + y28)) (↑(List.length y29) : Int)
                                                                              (0 : Int)))))))
                                                      False))))))))))))) := laws_FnRough.tx laws_b10Long.wp spec_B10Heights.wp laws_b10At.wp impl_ShiftHeights.wp impl_RoughnessOf.wp impl_StepsIn.wp impl_AlikeAt.wp impl_MeanTop.wp impl_AtomsIn.wp laws_b10Gap.wp impl_ScrewHeights.wp impl_ValidHeights.wp impl_TopAt.wp a1 a2 K

end Go.K.heights
