/- What the functions compute, written out. -/
import Derived.Test.YtcmbpondkipbkaaD
import Derived.KernelRfl
set_option maxRecDepth 100000
set_option linter.unusedVariables false
namespace Go.K.heights
open Go.K Go

theorem laws_b10Long.tx  (a1 : List Int) (a2 : List Int) (K : Bool → Prop) : laws_b10Long.bd  a1 a2 K =
  (Go.K.ifB (Decidable.decide ((↑(List.length a1) : Int) > (1048576 : Int))) (K Bool.true) (K (Decidable.decide ((↑(List.length a2) : Int) > (1048576 : Int))))) := by kernel_rfl
theorem laws_b10Long.eq (a1 : List Int) (a2 : List Int) (K : Bool → Prop) : laws_b10Long.wp a1 a2 K =
  (Go.K.ifB (Decidable.decide ((↑(List.length a1) : Int) > (1048576 : Int))) (K Bool.true) (K (Decidable.decide ((↑(List.length a2) : Int) > (1048576 : Int))))) := laws_b10Long.tx  a1 a2 K

theorem spec_l00From.tx  (a1 : List Int) (K : Int → Int → Prop) : spec_l00From.bd  a1 K =
  (K (0 : Int) (0 : Int)) := by kernel_rfl
theorem spec_l00From.eq (a1 : List Int) (K : Int → Int → Prop) : spec_l00From.wp a1 K =
  (K (0 : Int) (0 : Int)) := spec_l00From.tx  a1 K

theorem spec_l00Src_next.tx  (a1 : Int) (a2 : Int) (a3 : List Int) (K : Int → Int → Int → Prop) : spec_l00Src_next.bd  a1 a2 a3 K =
  (∀ (J1 : Int → Int → Int → Prop),
  (∀ (x2 x3 x4 : Int),
      Go.K.ifB (Decidable.decide (Go.IntKind.wrap Go.IntKind.i64 (x2 + (1 : Int)) ≤ (↑(List.length a3) : Int)))
          (K (Go.IntKind.wrap Go.IntKind.i64 (x2 + (1 : Int)))
            (Go.IntKind.wrap Go.IntKind.u64
              (Go.IntKind.wrap Go.IntKind.u64 (Go.IntKind.wrap Go.IntKind.u64 (x3 * (6364136223846793005 : Int)) + Go.IntKind.wrap Go.IntKind.u64 x4) +
                (1442695040888963407 : Int)))
            x4)
          (K (Go.IntKind.wrap Go.IntKind.i64 (x2 + (1 : Int)))
            (Go.IntKind.wrap Go.IntKind.u64
              (Go.IntKind.wrap Go.IntKind.u64 (Go.IntKind.wrap Go.IntKind.u64 (x3 * (6364136223846793005 : Int)) + Go.IntKind.wrap Go.IntKind.u64 x4) +
                (1442695040888963407 : Int)))
            (Go.IntKind.wrap Go.IntKind.i64
              (Go.K.ibits Go.BinOp.and Go.IntKind.u64
                (Go.K.ishr Go.IntKind.u64
                  (Go.IntKind.wrap Go.IntKind.u64
                    (Go.IntKind.wrap Go.IntKind.u64 (Go.IntKind.wrap Go.IntKind.u64 (x3 * (6364136223846793005 : Int)) + Go.IntKind.wrap Go.IntKind.u64 x4) +
                      (1442695040888963407 : Int)))
                  (40 : Int))
                (255 : Int)))) →
        J1 x2 x3 x4) →
    Go.K.ifB (Decidable.decide (a1 < (↑(List.length a3) : Int)))
      (((0 : Int) ≤ a1 ∧ a1 < (↑(List.length a3) : Int)) ∧ J1 a1 a2 (Go.IntKind.wrap Go.IntKind.i64 (List.getD a3 (Int.toNat a1) (0 : Int)))) (J1 a1 a2 (0 : Int))) := by kernel_rfl
theorem spec_l00Src_next.eq (a1 : Int) (a2 : Int) (a3 : List Int) (K : Int → Int → Int → Prop) : spec_l00Src_next.wp a1 a2 a3 K =
  (∀ (J1 : Int → Int → Int → Prop),
  (∀ (x2 x3 x4 : Int),
      Go.K.ifB (Decidable.decide (Go.IntKind.wrap Go.IntKind.i64 (x2 + (1 : Int)) ≤ (↑(List.length a3) : Int)))
          (K (Go.IntKind.wrap Go.IntKind.i64 (x2 + (1 : Int)))
            (Go.IntKind.wrap Go.IntKind.u64
              (Go.IntKind.wrap Go.IntKind.u64 (Go.IntKind.wrap Go.IntKind.u64 (x3 * (6364136223846793005 : Int)) + Go.IntKind.wrap Go.IntKind.u64 x4) +
                (1442695040888963407 : Int)))
            x4)
          (K (Go.IntKind.wrap Go.IntKind.i64 (x2 + (1 : Int)))
            (Go.IntKind.wrap Go.IntKind.u64
              (Go.IntKind.wrap Go.IntKind.u64 (Go.IntKind.wrap Go.IntKind.u64 (x3 * (6364136223846793005 : Int)) + Go.IntKind.wrap Go.IntKind.u64 x4) +
                (1442695040888963407 : Int)))
            (Go.IntKind.wrap Go.IntKind.i64
              (Go.K.ibits Go.BinOp.and Go.IntKind.u64
                (Go.K.ishr Go.IntKind.u64
                  (Go.IntKind.wrap Go.IntKind.u64
                    (Go.IntKind.wrap Go.IntKind.u64 (Go.IntKind.wrap Go.IntKind.u64 (x3 * (6364136223846793005 : Int)) + Go.IntKind.wrap Go.IntKind.u64 x4) +
                      (1442695040888963407 : Int)))
                  (40 : Int))
                (255 : Int)))) →
        J1 x2 x3 x4) →
    Go.K.ifB (Decidable.decide (a1 < (↑(List.length a3) : Int)))
      (((0 : Int) ≤ a1 ∧ a1 < (↑(List.length a3) : Int)) ∧ J1 a1 a2 (Go.IntKind.wrap Go.IntKind.i64 (List.getD a3 (Int.toNat a1) (0 : Int)))) (J1 a1 a2 (0 : Int))) := spec_l00Src_next.tx  a1 a2 a3 K

theorem spec_l00Src_pick.tx (w_spec_l00Src_next : Int → Int → List Int → (Int → Int → Int → Prop) → Prop) (a1 : Int) (a2 : Int) (a3 : List Int) (a4 : Int) (K : Int → Int → Int → Prop) : spec_l00Src_pick.bd w_spec_l00Src_next a1 a2 a3 a4 K =
  (Go.K.ifB (Decidable.decide (a4 ≤ (1 : Int))) (K a1 a2 (0 : Int))
  (w_spec_l00Src_next a1 a2 a3 fun y1 y2 y3 =>
    Go.K.ifB (Decidable.decide (a4 > (200 : Int)))
      (w_spec_l00Src_next y1 y2 a3 fun y4 y5 y6 =>
        a4 ≠ (0 : Int) ∧ K y4 y5 (Int.tmod (Go.IntKind.wrap Go.IntKind.i64 (Go.IntKind.wrap Go.IntKind.i64 (y3 * (256 : Int)) + y6)) a4))
      (a4 ≠ (0 : Int) ∧ K y1 y2 (Int.tmod y3 a4)))) := by kernel_rfl
theorem spec_l00Src_pick.eq (a1 : Int) (a2 : Int) (a3 : List Int) (a4 : Int) (K : Int → Int → Int → Prop) : spec_l00Src_pick.wp a1 a2 a3 a4 K =
  (Go.K.ifB (Decidable.decide (a4 ≤ (1 : Int))) (K a1 a2 (0 : Int))
  (Go.K.heights.spec_l00Src_next.wp a1 a2 a3 fun y1 y2 y3 =>
    Go.K.ifB (Decidable.decide (a4 > (200 : Int)))
      (Go.K.heights.spec_l00Src_next.wp y1 y2 a3 fun y4 y5 y6 =>
        a4 ≠ (0 : Int) ∧ K y4 y5 (Int.tmod (Go.IntKind.wrap Go.IntKind.i64 (Go.IntKind.wrap Go.IntKind.i64 (y3 * (256 : Int)) + y6)) a4))
      (a4 ≠ (0 : Int) ∧ K y1 y2 (Int.tmod y3 a4)))) := spec_l00Src_pick.tx spec_l00Src_next.wp a1 a2 a3 a4 K

theorem spec_l05DrawOk.tx (w_spec_l00Src_pick : Int → Int → List Int → Int → (Int → Int → Int → Prop) → Prop) (a1 : Int) (a2 : Int) (a3 : List Int) (K : Int → Int → List Int → Int → Int → Prop) : spec_l05DrawOk.bd w_spec_l00Src_pick a1 a2 a3 K =
  (w_spec_l00Src_pick a1 a2 a3 (4 : Int) fun y1 y2 y3 =>
  w_spec_l00Src_pick y1 y2 a3 (4 : Int) fun y4 y5 y6 =>
    w_spec_l00Src_pick y4 y5 a3 (3 : Int) fun y7 y8 y9 =>
      ∀ (J10 : Int → Int → Int → Int → Int → Int → List Int → List Int → Int → Int → Prop),
        (∀ (x11 x12 x13 x14 x15 x16 : Int) (x17 x18 : List Int) (x19 x20 : Int),
            Go.K.ifB (Decidable.decide (x20 < Go.IntKind.wrap Go.IntKind.i64 (x15 * x16)))
                (w_spec_l00Src_pick x11 x12 a3 (4 : Int) fun y21 y22 y23 =>
                  Go.K.ifB (x19 == (0 : Int))
                    (w_spec_l00Src_pick y21 y22 a3 (2 : Int) fun y24 y25 y26 =>
                      List.length (x18 ++ y26 :: List.replicate (0 : Nat) (0 : Int)) ≤ (1099511627776 : Nat) ∧
                        J10 y24 y25 x13 x14 x15 x16 x17 (x18 ++ y26 :: List.replicate (0 : Nat) (0 : Int)) x19 (Go.IntKind.wrap Go.IntKind.i64 (x20 + (1 : Int))))
                    (List.length (x18 ++ y23 :: List.replicate (0 : Nat) (0 : Int)) ≤ (1099511627776 : Nat) ∧
                      J10 y21 y22 x13 x14 x15 x16 x17 (x18 ++ y23 :: List.replicate (0 : Nat) (0 : Int)) x19 (Go.IntKind.wrap Go.IntKind.i64 (x20 + (1 : Int)))))
                (K x11 x12 x18 x15 x16) →
              J10 x11 x12 x13 x14 x15 x16 x17 x18 x19 x20) →
          J10 y7 y8 (0 : Int) (0 : Int) (Go.IntKind.wrap Go.IntKind.i64 ((2 : Int) + y3)) (Go.IntKind.wrap Go.IntKind.i64 ((2 : Int) + y6)) [] [] y9 (0 : Int)) := by kernel_rfl
theorem spec_l05DrawOk.eq (a1 : Int) (a2 : Int) (a3 : List Int) (K : Int → Int → List Int → Int → Int → Prop) : spec_l05DrawOk.wp a1 a2 a3 K =
  (Go.K.heights.spec_l00Src_pick.wp a1 a2 a3 (4 : Int) fun y1 y2 y3 =>
  Go.K.heights.spec_l00Src_pick.wp y1 y2 a3 (4 : Int) fun y4 y5 y6 =>
    Go.K.heights.spec_l00Src_pick.wp y4 y5 a3 (3 : Int) fun y7 y8 y9 =>
      ∀ (J10 : Int → Int → Int → Int → Int → Int → List Int → List Int → Int → Int → Prop),
        (∀ (x11 x12 x13 x14 x15 x16 : Int) (x17 x18 : List Int) (x19 x20 : Int),
            Go.K.ifB (Decidable.decide (x20 < Go.IntKind.wrap Go.IntKind.i64 (x15 * x16)))
                (Go.K.heights.spec_l00Src_pick.wp x11 x12 a3 (4 : Int) fun y21 y22 y23 =>
                  Go.K.ifB (x19 == (0 : Int))
                    (Go.K.heights.spec_l00Src_pick.wp y21 y22 a3 (2 : Int) fun y24 y25 y26 =>
                      List.length (x18 ++ y26 :: List.replicate (0 : Nat) (0 : Int)) ≤ (1099511627776 : Nat) ∧
                        J10 y24 y25 x13 x14 x15 x16 x17 (x18 ++ y26 :: List.replicate (0 : Nat) (0 : Int)) x19 (Go.IntKind.wrap Go.IntKind.i64 (x20 + (1 : Int))))
                    (List.length (x18 ++ y23 :: List.replicate (0 : Nat) (0 : Int)) ≤ (1099511627776 : Nat) ∧
                      J10 y21 y22 x13 x14 x15 x16 x17 (x18 ++ y23 :: List.replicate (0 : Nat) (0 : Int)) x19 (Go.IntKind.wrap Go.IntKind.i64 (x20 + (1 : Int)))))
                (K x11 x12 x18 x15 x16) →
              J10 x11 x12 x13 x14 x15 x16 x17 x18 x19 x20) →
          J10 y7 y8 (0 : Int) (0 : Int) (Go.IntKind.wrap Go.IntKind.i64 ((2 : Int) + y3)) (Go.IntKind.wrap Go.IntKind.i64 ((2 : Int) + y6)) [] [] y9 (0 : Int)) := spec_l05DrawOk.tx spec_l00Src_pick.wp a1 a2 a3 K

theorem spec_B10Heights.tx (w_spec_l00From : List Int → (Int → Int → Prop) → Prop) (w_spec_l05DrawOk : Int → Int → List Int → (Int → Int → List Int → Int → Int → Prop) → Prop) (a1 : List Int) (K : List Int → Int → Int → Prop) : spec_B10Heights.bd w_spec_l00From w_spec_l05DrawOk a1 K =
  (w_spec_l00From a1 fun y1 y2 => w_spec_l05DrawOk y1 y2 a1 fun y3 y4 y5 y6 y7 => K y5 y6 y7) := by kernel_rfl
theorem spec_B10Heights.eq (a1 : List Int) (K : List Int → Int → Int → Prop) : spec_B10Heights.wp a1 K =
  (Go.K.heights.spec_l00From.wp a1 fun y1 y2 => Go.K.heights.spec_l05DrawOk.wp y1 y2 a1 fun y3 y4 y5 y6 y7 => K y5 y6 y7) := spec_B10Heights.tx spec_l00From.wp spec_l05DrawOk.wp a1 K

theorem laws_b10At.tx  (a1 : List Int) (a2 : Int) (a3 : Int) (K : Int → Prop) : laws_b10At.bd  a1 a2 a3 K =
  (Go.K.ifB (Decidable.decide (a3 ≤ (1 : Int))) (K (0 : Int))
  (Go.K.ifB (Decidable.decide (a2 < (↑(List.length a1) : Int)))
    (((0 : Int) ≤ a2 ∧ a2 < (↑(List.length a1) : Int)) ∧ a3 ≠ (0 : Int) ∧ K (Int.tmod (Go.IntKind.wrap Go.IntKind.i64 (List.getD a1 (Int.toNat a2) (0 : Int))) a3))
    (a3 ≠ (0 : Int) ∧ K (Int.tmod (Go.IntKind.wrap Go.IntKind.i64 (Go.IntKind.wrap Go.IntKind.i64 (a2 * (37 : Int)) + (11 : Int))) a3)))) := by kernel_rfl
theorem laws_b10At.eq (a1 : List Int) (a2 : Int) (a3 : Int) (K : Int → Prop) : laws_b10At.wp a1 a2 a3 K =
  (Go.K.ifB (Decidable.decide (a3 ≤ (1 : Int))) (K (0 : Int))
  (Go.K.ifB (Decidable.decide (a2 < (↑(List.length a1) : Int)))
    (((0 : Int) ≤ a2 ∧ a2 < (↑(List.length a1) : Int)) ∧ a3 ≠ (0 : Int) ∧ K (Int.tmod (Go.IntKind.wrap Go.IntKind.i64 (List.getD a1 (Int.toNat a2) (0 : Int))) a3))
    (a3 ≠ (0 : Int) ∧ K (Int.tmod (Go.IntKind.wrap Go.IntKind.i64 (Go.IntKind.wrap Go.IntKind.i64 (a2 * (37 : Int)) + (11 : Int))) a3)))) := laws_b10At.tx  a1 a2 a3 K

theorem impl_within.tx  (a1 : Int) (a2 : Int) (a3 : Int) (K : Bool → Prop) : impl_within.bd  a1 a2 a3 K =
  (Go.K.ifB (Decidable.decide (a2 ≤ a1)) (K (Decidable.decide (a1 ≤ a3))) (K Bool.false)) := by kernel_rfl
theorem impl_within.eq (a1 : Int) (a2 : Int) (a3 : Int) (K : Bool → Prop) : impl_within.wp a1 a2 a3 K =
  (Go.K.ifB (Decidable.decide (a2 ≤ a1)) (K (Decidable.decide (a1 ≤ a3))) (K Bool.false)) := impl_within.tx  a1 a2 a3 K

theorem impl_areWithin_1.tx (w_impl_within : Int → Int → Int → (Bool → Prop) → Prop) (a1 : Int) (a2 : Int) (a3 : Int) (K : Bool → Prop) : impl_areWithin_1.bd w_impl_within a1 a2 a3 K =
  (w_impl_within a3 a1 a2 fun y1 => K !y1) := by kernel_rfl
theorem impl_areWithin_1.eq (a1 : Int) (a2 : Int) (a3 : Int) (K : Bool → Prop) : impl_areWithin_1.wp a1 a2 a3 K =
  (Go.K.heights.impl_within.wp a3 a1 a2 fun y1 => K !y1) := impl_areWithin_1.tx impl_within.wp a1 a2 a3 K

theorem slices_IndexFunc_int64_int64__areWithin_1.tx (w_impl_areWithin_1 : Int → Int → Int → (Bool → Prop) → Prop) (a1 : List Int) (a2 : Int) (a3 : Int) (K : Int → Prop) : slices_IndexFunc_int64_int64__areWithin_1.bd w_impl_areWithin_1 a1 a2 a3 K =
  (∀ (J1 : Int → Int → Prop),
  (∀ (x2 x3 : Int),
      Go.K.ifB (Decidable.decide (x3 < x2))
          (((0 : Int) ≤ x3 ∧ x3 < (↑(List.length a1) : Int)) ∧
            w_impl_areWithin_1 a2 a3 (List.getD a1 (Int.toNat x3) (0 : Int)) fun y4 => Go.K.ifB y4 (K x3) (J1 x2 (Go.IntKind.wrap Go.IntKind.i64 (x3 + (1 : Int)))))
          (K (-1 : Int)) →
        J1 x2 x3) →
    J1 (↑(List.length a1) : Int) (0 : Int)) := by kernel_rfl
theorem slices_IndexFunc_int64_int64__areWithin_1.eq (a1 : List Int) (a2 : Int) (a3 : Int) (K : Int → Prop) : slices_IndexFunc_int64_int64__areWithin_1.wp a1 a2 a3 K =
  (∀ (J1 : Int → Int → Prop),
  (∀ (x2 x3 : Int),
      Go.K.ifB (Decidable.decide (x3 < x2))
          (((0 : Int) ≤ x3 ∧ x3 < (↑(List.length a1) : Int)) ∧
            Go.K.heights.impl_areWithin_1.wp a2 a3 (List.getD a1 (Int.toNat x3) (0 : Int)) fun y4 => Go.K.ifB y4 (K x3) (J1 x2 (Go.IntKind.wrap Go.IntKind.i64 (x3 + (1 : Int)))))
          (K (-1 : Int)) →
        J1 x2 x3) →
    J1 (↑(List.length a1) : Int) (0 : Int)) := slices_IndexFunc_int64_int64__areWithin_1.tx impl_areWithin_1.wp a1 a2 a3 K

theorem slices_ContainsFunc_int64_int64__areWithin_1.tx (w_slices_IndexFunc_int64_int64__areWithin_1 : List Int → Int → Int → (Int → Prop) → Prop) (a1 : List Int) (a2 : Int) (a3 : Int) (K : Bool → Prop) : slices_ContainsFunc_int64_int64__areWithin_1.bd w_slices_IndexFunc_int64_int64__areWithin_1 a1 a2 a3 K =
  (w_slices_IndexFunc_int64_int64__areWithin_1 a1 a2 a3 fun y1 => K (Decidable.decide (y1 ≥ (0 : Int)))) := by kernel_rfl
theorem slices_ContainsFunc_int64_int64__areWithin_1.eq (a1 : List Int) (a2 : Int) (a3 : Int) (K : Bool → Prop) : slices_ContainsFunc_int64_int64__areWithin_1.wp a1 a2 a3 K =
  (Go.K.heights.slices_IndexFunc_int64_int64__areWithin_1.wp a1 a2 a3 fun y1 => K (Decidable.decide (y1 ≥ (0 : Int)))) := slices_ContainsFunc_int64_int64__areWithin_1.tx slices_IndexFunc_int64_int64__areWithin_1.wp a1 a2 a3 K

theorem impl_areWithin.tx (w_slices_ContainsFunc_int64_int64__areWithin_1 : List Int → Int → Int → (Bool → Prop) → Prop) (a1 : List Int) (a2 : Int) (a3 : Int) (K : Bool → Prop) : impl_areWithin.bd w_slices_ContainsFunc_int64_int64__areWithin_1 a1 a2 a3 K =
  (w_slices_ContainsFunc_int64_int64__areWithin_1 a1 a2 a3 fun y1 => K !y1) := by kernel_rfl
theorem impl_areWithin.eq (a1 : List Int) (a2 : Int) (a3 : Int) (K : Bool → Prop) : impl_areWithin.wp a1 a2 a3 K =
  (Go.K.heights.slices_ContainsFunc_int64_int64__areWithin_1.wp a1 a2 a3 fun y1 => K !y1) := impl_areWithin.tx slices_ContainsFunc_int64_int64__areWithin_1.wp a1 a2 a3 K

theorem impl_ValidHeights.tx (w_impl_areWithin : List Int → Int → Int → (Bool → Prop) → Prop) (a1 : List Int) (a2 : Int) (a3 : Int) (K : Bool → Prop) : impl_ValidHeights.bd w_impl_areWithin a1 a2 a3 K =
  (w_impl_areWithin (a2 :: a3 :: List.replicate (0 : Nat) (0 : Int)) (2 : Int) (16 : Int) fun y1 =>
  Go.K.ifB y1
    (Go.K.ifB ((↑(List.length a1) : Int) == Go.IntKind.wrap Go.IntKind.i64 (a2 * a3)) (w_impl_areWithin a1 (0 : Int) (1000 : Int) fun y2 => K y2) (K Bool.false))
    (K Bool.false)) := by kernel_rfl
theorem impl_ValidHeights.eq (a1 : List Int) (a2 : Int) (a3 : Int) (K : Bool → Prop) : impl_ValidHeights.wp a1 a2 a3 K =
  (Go.K.heights.impl_areWithin.wp (a2 :: a3 :: List.replicate (0 : Nat) (0 : Int)) (2 : Int) (16 : Int) fun y1 =>
  Go.K.ifB y1
    (Go.K.ifB ((↑(List.length a1) : Int) == Go.IntKind.wrap Go.IntKind.i64 (a2 * a3)) (Go.K.heights.impl_areWithin.wp a1 (0 : Int) (1000 : Int) fun y2 => K y2) (K Bool.false))
    (K Bool.false)) := impl_ValidHeights.tx impl_areWithin.wp a1 a2 a3 K

theorem impl_Heights_atoms.tx  (a1 : List Int) (a2 : Int) (a3 : Int) (K : Int → Prop) : impl_Heights_atoms.bd  a1 a2 a3 K =
  (∀ (J1 : Int → Int → Int → Prop),
  (∀ (x2 x3 x4 : Int),
      Go.K.ifB (Decidable.decide (x4 < x3))
          (((0 : Int) ≤ x4 ∧ x4 < (↑(List.length a1) : Int)) ∧
            J1 (Go.IntKind.wrap Go.IntKind.i64 (x2 + List.getD a1 (Int.toNat x4) (0 : Int))) x3 (Go.IntKind.wrap Go.IntKind.i64 (x4 + (1 : Int))))
          (K x2) →
        J1 x2 x3 x4) →
    J1 (0 : Int) (↑(List.length a1) : Int) (0 : Int)) := by kernel_rfl
theorem impl_Heights_atoms.eq (a1 : List Int) (a2 : Int) (a3 : Int) (K : Int → Prop) : impl_Heights_atoms.wp a1 a2 a3 K =
  (∀ (J1 : Int → Int → Int → Prop),
  (∀ (x2 x3 x4 : Int),
      Go.K.ifB (Decidable.decide (x4 < x3))
          (((0 : Int) ≤ x4 ∧ x4 < (↑(List.length a1) : Int)) ∧
            J1 (Go.IntKind.wrap Go.IntKind.i64 (x2 + List.getD a1 (Int.toNat x4) (0 : Int))) x3 (Go.IntKind.wrap Go.IntKind.i64 (x4 + (1 : Int))))
          (K x2) →
        J1 x2 x3 x4) →
    J1 (0 : Int) (↑(List.length a1) : Int) (0 : Int)) := impl_Heights_atoms.tx  a1 a2 a3 K

theorem impl_AtomsIn.tx (w_impl_ValidHeights : List Int → Int → Int → (Bool → Prop) → Prop) (w_impl_Heights_atoms : List Int → Int → Int → (Int → Prop) → Prop) (a1 : List Int) (a2 : Int) (a3 : Int) (K : Int → Bool → Prop) : impl_AtomsIn.bd w_impl_ValidHeights w_impl_Heights_atoms a1 a2 a3 K =
  (w_impl_ValidHeights a1 a2 a3 fun y1 =>
  Go.K.ifB (!y1) (K (0 : Int) Bool.false) (w_impl_Heights_atoms a1 a2 a3 fun y2 => K y2 Bool.true)) := by kernel_rfl
theorem impl_AtomsIn.eq (a1 : List Int) (a2 : Int) (a3 : Int) (K : Int → Bool → Prop) : impl_AtomsIn.wp a1 a2 a3 K =
  (Go.K.heights.impl_ValidHeights.wp a1 a2 a3 fun y1 =>
  Go.K.ifB (!y1) (K (0 : Int) Bool.false) (Go.K.heights.impl_Heights_atoms.wp a1 a2 a3 fun y2 => K y2 Bool.true)) := impl_AtomsIn.tx impl_ValidHeights.wp impl_Heights_atoms.wp a1 a2 a3 K

theorem impl_place.tx  (a1 : Int) (a2 : Int) (a3 : Bool) (K : Int → Prop) : impl_place.bd  a1 a2 a3 K =
  (Go.K.ifB a3 (a2 ≠ (0 : Int) ∧ a2 ≠ (0 : Int) ∧ K (Int.tmod (Go.IntKind.wrap Go.IntKind.i64 (Int.tmod a1 a2 + a2)) a2))
  (K (Go.K.mmI Bool.false (Go.K.mmI Bool.true a1 (0 : Int)) (Go.IntKind.wrap Go.IntKind.i64 (a2 - (1 : Int)))))) := by kernel_rfl
theorem impl_place.eq (a1 : Int) (a2 : Int) (a3 : Bool) (K : Int → Prop) : impl_place.wp a1 a2 a3 K =
  (Go.K.ifB a3 (a2 ≠ (0 : Int) ∧ a2 ≠ (0 : Int) ∧ K (Int.tmod (Go.IntKind.wrap Go.IntKind.i64 (Int.tmod a1 a2 + a2)) a2))
  (K (Go.K.mmI Bool.false (Go.K.mmI Bool.true a1 (0 : Int)) (Go.IntKind.wrap Go.IntKind.i64 (a2 - (1 : Int)))))) := impl_place.tx  a1 a2 a3 K

theorem impl_Heights_cell.tx (w_impl_place : Int → Int → Bool → (Int → Prop) → Prop) (a1 : List Int) (a2 : Int) (a3 : Int) (a4 : Int) (a5 : Int) (K : Int → Prop) : impl_Heights_cell.bd w_impl_place a1 a2 a3 a4 a5 K =
  (w_impl_place a4 a2 Bool.true fun y1 =>
  w_impl_place a5 a3 Bool.true fun y2 => K (Go.IntKind.wrap Go.IntKind.i64 (y1 + Go.IntKind.wrap Go.IntKind.i64 (a2 * y2)))) := by kernel_rfl
theorem impl_Heights_cell.eq (a1 : List Int) (a2 : Int) (a3 : Int) (a4 : Int) (a5 : Int) (K : Int → Prop) : impl_Heights_cell.wp a1 a2 a3 a4 a5 K =
  (Go.K.heights.impl_place.wp a4 a2 Bool.true fun y1 =>
  Go.K.heights.impl_place.wp a5 a3 Bool.true fun y2 => K (Go.IntKind.wrap Go.IntKind.i64 (y1 + Go.IntKind.wrap Go.IntKind.i64 (a2 * y2)))) := impl_Heights_cell.tx impl_place.wp a1 a2 a3 a4 a5 K

theorem impl_Heights_top.tx (w_impl_Heights_cell : List Int → Int → Int → Int → Int → (Int → Prop) → Prop) (a1 : List Int) (a2 : Int) (a3 : Int) (a4 : Int) (a5 : Int) (K : Int → Prop) : impl_Heights_top.bd w_impl_Heights_cell a1 a2 a3 a4 a5 K =
  (w_impl_Heights_cell a1 a2 a3 a4 a5 fun y1 => ((0 : Int) ≤ y1 ∧ y1 < (↑(List.length a1) : Int)) ∧ K (List.getD a1 (Int.toNat y1) (0 : Int))) := by kernel_rfl
theorem impl_Heights_top.eq (a1 : List Int) (a2 : Int) (a3 : Int) (a4 : Int) (a5 : Int) (K : Int → Prop) : impl_Heights_top.wp a1 a2 a3 a4 a5 K =
  (Go.K.heights.impl_Heights_cell.wp a1 a2 a3 a4 a5 fun y1 => ((0 : Int) ≤ y1 ∧ y1 < (↑(List.length a1) : Int)) ∧ K (List.getD a1 (Int.toNat y1) (0 : Int))) := impl_Heights_top.tx impl_Heights_cell.wp a1 a2 a3 a4 a5 K

theorem impl_Heights_bonds_1.tx  (a1 : Int) (a2 : Int) (K : Int → Prop) : impl_Heights_bonds_1.bd  a1 a2 K =
  (K (Go.K.mmI Bool.false a1 a2)) := by kernel_rfl
theorem impl_Heights_bonds_1.eq (a1 : Int) (a2 : Int) (K : Int → Prop) : impl_Heights_bonds_1.wp a1 a2 K =
  (K (Go.K.mmI Bool.false a1 a2)) := impl_Heights_bonds_1.tx  a1 a2 K

theorem impl_Heights_pairs__Heights_bonds_1.tx (w_impl_Heights_top : List Int → Int → Int → Int → Int → (Int → Prop) → Prop) (w_impl_Heights_bonds_1 : Int → Int → (Int → Prop) → Prop) (a1 : List Int) (a2 : Int) (a3 : Int) (K : Int → Prop) : impl_Heights_pairs__Heights_bonds_1.bd w_impl_Heights_top w_impl_Heights_bonds_1 a1 a2 a3 K =
  (∀ (J1 : Int → Int → Int → Int → Int → Prop),
  (∀ (x2 x3 x4 x5 x6 : Int),
      Go.K.ifB (Decidable.decide (x6 < x5))
          (((0 : Int) ≤ x6 ∧ x6 < (↑(List.length a1) : Int)) ∧
            x2 ≠ (0 : Int) ∧
              x2 ≠ (0 : Int) ∧
                w_impl_Heights_top a1 x2 x3 (Go.IntKind.wrap Go.IntKind.i64 (Int.tmod x6 x2 + (1 : Int))) (Go.IntKind.wrap Go.IntKind.i64 (Int.tdiv x6 x2)) fun y7 =>
                  w_impl_Heights_bonds_1 (List.getD a1 (Int.toNat x6) (0 : Int)) y7 fun y8 =>
                    w_impl_Heights_top a1 x2 x3 (Int.tmod x6 x2) (Go.IntKind.wrap Go.IntKind.i64 (Go.IntKind.wrap Go.IntKind.i64 (Int.tdiv x6 x2) + (1 : Int)))
                      fun y9 =>
                      w_impl_Heights_bonds_1 (List.getD a1 (Int.toNat x6) (0 : Int)) y9 fun y10 =>
                        J1 x2 x3 (Go.IntKind.wrap Go.IntKind.i64 (x4 + Go.IntKind.wrap Go.IntKind.i64 (y8 + y10))) x5 (Go.IntKind.wrap Go.IntKind.i64 (x6 + (1 : Int))))
          (K x4) →
        J1 x2 x3 x4 x5 x6) →
    J1 a2 a3 (0 : Int) (↑(List.length a1) : Int) (0 : Int)) := by kernel_rfl
theorem impl_Heights_pairs__Heights_bonds_1.eq (a1 : List Int) (a2 : Int) (a3 : Int) (K : Int → Prop) : impl_Heights_pairs__Heights_bonds_1.wp a1 a2 a3 K =
  (∀ (J1 : Int → Int → Int → Int → Int → Prop),
  (∀ (x2 x3 x4 x5 x6 : Int),
      Go.K.ifB (Decidable.decide (x6 < x5))
          (((0 : Int) ≤ x6 ∧ x6 < (↑(List.length a1) : Int)) ∧
            x2 ≠ (0 : Int) ∧
              x2 ≠ (0 : Int) ∧
                Go.K.heights.impl_Heights_top.wp a1 x2 x3 (Go.IntKind.wrap Go.IntKind.i64 (Int.tmod x6 x2 + (1 : Int))) (Go.IntKind.wrap Go.IntKind.i64 (Int.tdiv x6 x2)) fun y7 =>
                  Go.K.heights.impl_Heights_bonds_1.wp (List.getD a1 (Int.toNat x6) (0 : Int)) y7 fun y8 =>
                    Go.K.heights.impl_Heights_top.wp a1 x2 x3 (Int.tmod x6 x2) (Go.IntKind.wrap Go.IntKind.i64 (Go.IntKind.wrap Go.IntKind.i64 (Int.tdiv x6 x2) + (1 : Int)))
                      fun y9 =>
                      Go.K.heights.impl_Heights_bonds_1.wp (List.getD a1 (Int.toNat x6) (0 : Int)) y9 fun y10 =>
                        J1 x2 x3 (Go.IntKind.wrap Go.IntKind.i64 (x4 + Go.IntKind.wrap Go.IntKind.i64 (y8 + y10))) x5 (Go.IntKind.wrap Go.IntKind.i64 (x6 + (1 : Int))))
          (K x4) →
        J1 x2 x3 x4 x5 x6) →
    J1 a2 a3 (0 : Int) (↑(List.length a1) : Int) (0 : Int)) := impl_Heights_pairs__Heights_bonds_1.tx impl_Heights_top.wp impl_Heights_bonds_1.wp a1 a2 a3 K

theorem impl_Heights_bonds.tx (w_impl_Heights_pairs__Heights_bonds_1 : List Int → Int → Int → (Int → Prop) → Prop) (a1 : List Int) (a2 : Int) (a3 : Int) (K : Int → Prop) : impl_Heights_bonds.bd w_impl_Heights_pairs__Heights_bonds_1 a1 a2 a3 K =
  (w_impl_Heights_pairs__Heights_bonds_1 a1 a2 a3 fun y1 => K y1) := by kernel_rfl
theorem impl_Heights_bonds.eq (a1 : List Int) (a2 : Int) (a3 : Int) (K : Int → Prop) : impl_Heights_bonds.wp a1 a2 a3 K =
  (Go.K.heights.impl_Heights_pairs__Heights_bonds_1.wp a1 a2 a3 fun y1 => K y1) := impl_Heights_bonds.tx impl_Heights_pairs__Heights_bonds_1.wp a1 a2 a3 K

theorem impl_BondsIn.tx (w_impl_ValidHeights : List Int → Int → Int → (Bool → Prop) → Prop) (w_impl_Heights_bonds : List Int → Int → Int → (Int → Prop) → Prop) (a1 : List Int) (a2 : Int) (a3 : Int) (K : Int → Bool → Prop) : impl_BondsIn.bd w_impl_ValidHeights w_impl_Heights_bonds a1 a2 a3 K =
  (w_impl_ValidHeights a1 a2 a3 fun y1 =>
  Go.K.ifB (!y1) (K (0 : Int) Bool.false) (w_impl_Heights_bonds a1 a2 a3 fun y2 => K y2 Bool.true)) := by kernel_rfl
theorem impl_BondsIn.eq (a1 : List Int) (a2 : Int) (a3 : Int) (K : Int → Bool → Prop) : impl_BondsIn.wp a1 a2 a3 K =
  (Go.K.heights.impl_ValidHeights.wp a1 a2 a3 fun y1 =>
  Go.K.ifB (!y1) (K (0 : Int) Bool.false) (Go.K.heights.impl_Heights_bonds.wp a1 a2 a3 fun y2 => K y2 Bool.true)) := impl_BondsIn.tx impl_ValidHeights.wp impl_Heights_bonds.wp a1 a2 a3 K

theorem impl_StepsIn_1.tx  (a1 : Int) (a2 : Int) (K : Int → Prop) : impl_StepsIn_1.bd  a1 a2 K =
  (K (Go.K.mmI Bool.true (Go.IntKind.wrap Go.IntKind.i64 (a1 - a2)) (Go.IntKind.wrap Go.IntKind.i64 (a2 - a1)))) := by kernel_rfl
theorem impl_StepsIn_1.eq (a1 : Int) (a2 : Int) (K : Int → Prop) : impl_StepsIn_1.wp a1 a2 K =
  (K (Go.K.mmI Bool.true (Go.IntKind.wrap Go.IntKind.i64 (a1 - a2)) (Go.IntKind.wrap Go.IntKind.i64 (a2 - a1)))) := impl_StepsIn_1.tx  a1 a2 K

theorem impl_Heights_pairs__StepsIn_1.tx (w_impl_Heights_top : List Int → Int → Int → Int → Int → (Int → Prop) → Prop) (w_impl_StepsIn_1 : Int → Int → (Int → Prop) → Prop) (a1 : List Int) (a2 : Int) (a3 : Int) (K : Int → Prop) : impl_Heights_pairs__StepsIn_1.bd w_impl_Heights_top w_impl_StepsIn_1 a1 a2 a3 K =
  (∀ (J1 : Int → Int → Int → Int → Int → Prop),
  (∀ (x2 x3 x4 x5 x6 : Int),
      Go.K.ifB (Decidable.decide (x6 < x5))
          (((0 : Int) ≤ x6 ∧ x6 < (↑(List.length a1) : Int)) ∧
            x2 ≠ (0 : Int) ∧
              x2 ≠ (0 : Int) ∧
                w_impl_Heights_top a1 x2 x3 (Go.IntKind.wrap Go.IntKind.i64 (Int.tmod x6 x2 + (1 : Int))) (Go.IntKind.wrap Go.IntKind.i64 (Int.tdiv x6 x2)) fun y7 =>
                  w_impl_StepsIn_1 (List.getD a1 (Int.toNat x6) (0 : Int)) y7 fun y8 =>
                    w_impl_Heights_top a1 x2 x3 (Int.tmod x6 x2) (Go.IntKind.wrap Go.IntKind.i64 (Go.IntKind.wrap Go.IntKind.i64 (Int.tdiv x6 x2) + (1 : Int)))
                      fun y9 =>
                      w_impl_StepsIn_1 (List.getD a1 (Int.toNat x6) (0 : Int)) y9 fun y10 =>
                        J1 x2 x3 (Go.IntKind.wrap Go.IntKind.i64 (x4 + Go.IntKind.wrap Go.IntKind.i64 (y8 + y10))) x5 (Go.IntKind.wrap Go.IntKind.i64 (x6 + (1 : Int))))
          (K x4) →
        J1 x2 x3 x4 x5 x6) →
    J1 a2 a3 (0 : Int) (↑(List.length a1) : Int) (0 : Int)) := by kernel_rfl
theorem impl_Heights_pairs__StepsIn_1.eq (a1 : List Int) (a2 : Int) (a3 : Int) (K : Int → Prop) : impl_Heights_pairs__StepsIn_1.wp a1 a2 a3 K =
  (∀ (J1 : Int → Int → Int → Int → Int → Prop),
  (∀ (x2 x3 x4 x5 x6 : Int),
      Go.K.ifB (Decidable.decide (x6 < x5))
          (((0 : Int) ≤ x6 ∧ x6 < (↑(List.length a1) : Int)) ∧
            x2 ≠ (0 : Int) ∧
              x2 ≠ (0 : Int) ∧
                Go.K.heights.impl_Heights_top.wp a1 x2 x3 (Go.IntKind.wrap Go.IntKind.i64 (Int.tmod x6 x2 + (1 : Int))) (Go.IntKind.wrap Go.IntKind.i64 (Int.tdiv x6 x2)) fun y7 =>
                  Go.K.heights.impl_StepsIn_1.wp (List.getD a1 (Int.toNat x6) (0 : Int)) y7 fun y8 =>
                    Go.K.heights.impl_Heights_top.wp a1 x2 x3 (Int.tmod x6 x2) (Go.IntKind.wrap Go.IntKind.i64 (Go.IntKind.wrap Go.IntKind.i64 (Int.tdiv x6 x2) + (1 : Int)))
                      fun y9 =>
                      Go.K.heights.impl_StepsIn_1.wp (List.getD a1 (Int.toNat x6) (0 : Int)) y9 fun y10 =>
                        J1 x2 x3 (Go.IntKind.wrap Go.IntKind.i64 (x4 + Go.IntKind.wrap Go.IntKind.i64 (y8 + y10))) x5 (Go.IntKind.wrap Go.IntKind.i64 (x6 + (1 : Int))))
          (K x4) →
        J1 x2 x3 x4 x5 x6) →
    J1 a2 a3 (0 : Int) (↑(List.length a1) : Int) (0 : Int)) := impl_Heights_pairs__StepsIn_1.tx impl_Heights_top.wp impl_StepsIn_1.wp a1 a2 a3 K

theorem impl_StepsIn.tx (w_impl_ValidHeights : List Int → Int → Int → (Bool → Prop) → Prop) (w_impl_Heights_pairs__StepsIn_1 : List Int → Int → Int → (Int → Prop) → Prop) (a1 : List Int) (a2 : Int) (a3 : Int) (K : Int → Bool → Prop) : impl_StepsIn.bd w_impl_ValidHeights w_impl_Heights_pairs__StepsIn_1 a1 a2 a3 K =
  (w_impl_ValidHeights a1 a2 a3 fun y1 =>
  Go.K.ifB (!y1) (K (0 : Int) Bool.false) (w_impl_Heights_pairs__StepsIn_1 a1 a2 a3 fun y2 => K y2 Bool.true)) := by kernel_rfl
theorem impl_StepsIn.eq (a1 : List Int) (a2 : Int) (a3 : Int) (K : Int → Bool → Prop) : impl_StepsIn.wp a1 a2 a3 K =
  (Go.K.heights.impl_ValidHeights.wp a1 a2 a3 fun y1 =>
  Go.K.ifB (!y1) (K (0 : Int) Bool.false) (Go.K.heights.impl_Heights_pairs__StepsIn_1.wp a1 a2 a3 fun y2 => K y2 Bool.true)) := impl_StepsIn.tx impl_ValidHeights.wp impl_Heights_pairs__StepsIn_1.wp a1 a2 a3 K

theorem impl_Heights_has.tx (w_impl_ValidHeights : List Int → Int → Int → (Bool → Prop) → Prop) (w_impl_within : Int → Int → Int → (Bool → Prop) → Prop) (a1 : List Int) (a2 : Int) (a3 : Int) (a4 : Int) (a5 : Int) (K : Bool → Prop) : impl_Heights_has.bd w_impl_ValidHeights w_impl_within a1 a2 a3 a4 a5 K =
  (w_impl_ValidHeights a1 a2 a3 fun y1 =>
  Go.K.ifB y1
    (w_impl_within a4 (0 : Int) (Go.IntKind.wrap Go.IntKind.i64 (a2 - (1 : Int))) fun y2 =>
      Go.K.ifB y2 (w_impl_within a5 (0 : Int) (Go.IntKind.wrap Go.IntKind.i64 (a3 - (1 : Int))) fun y3 => K y3) (K Bool.false))
    (K Bool.false)) := by kernel_rfl
theorem impl_Heights_has.eq (a1 : List Int) (a2 : Int) (a3 : Int) (a4 : Int) (a5 : Int) (K : Bool → Prop) : impl_Heights_has.wp a1 a2 a3 a4 a5 K =
  (Go.K.heights.impl_ValidHeights.wp a1 a2 a3 fun y1 =>
  Go.K.ifB y1
    (Go.K.heights.impl_within.wp a4 (0 : Int) (Go.IntKind.wrap Go.IntKind.i64 (a2 - (1 : Int))) fun y2 =>
      Go.K.ifB y2 (Go.K.heights.impl_within.wp a5 (0 : Int) (Go.IntKind.wrap Go.IntKind.i64 (a3 - (1 : Int))) fun y3 => K y3) (K Bool.false))
    (K Bool.false)) := impl_Heights_has.tx impl_ValidHeights.wp impl_within.wp a1 a2 a3 a4 a5 K

theorem slices_Clone_int64_int64.tx  (a1 : List Int) (K : List Int → Prop) : slices_Clone_int64_int64.bd  a1 K =
  (List.length a1 ≠ (0 : Nat) ∧ List.length (List.replicate (0 : Nat) (0 : Int) ++ a1) ≤ (1099511627776 : Nat) ∧ K (List.replicate (0 : Nat) (0 : Int) ++ a1)) := by kernel_rfl
theorem slices_Clone_int64_int64.eq (a1 : List Int) (K : List Int → Prop) : slices_Clone_int64_int64.wp a1 K =
  (List.length a1 ≠ (0 : Nat) ∧ List.length (List.replicate (0 : Nat) (0 : Int) ++ a1) ≤ (1099511627776 : Nat) ∧ K (List.replicate (0 : Nat) (0 : Int) ++ a1)) := slices_Clone_int64_int64.tx  a1 K

theorem impl_Heights_cloned.tx (w_slices_Clone_int64_int64 : List Int → (List Int → Prop) → Prop) (a1 : List Int) (a2 : Int) (a3 : Int) (K : List Int → Int → Int → Prop) : impl_Heights_cloned.bd w_slices_Clone_int64_int64 a1 a2 a3 K =
  (w_slices_Clone_int64_int64 a1 fun y1 => K y1 a2 a3) := by kernel_rfl
theorem impl_Heights_cloned.eq (a1 : List Int) (a2 : Int) (a3 : Int) (K : List Int → Int → Int → Prop) : impl_Heights_cloned.wp a1 a2 a3 K =
  (Go.K.heights.slices_Clone_int64_int64.wp a1 fun y1 => K y1 a2 a3) := impl_Heights_cloned.tx slices_Clone_int64_int64.wp a1 a2 a3 K

theorem impl_steps4.tx  (K : Int → Int → Int → Int → Int → Int → Int → Int → Prop) : impl_steps4.bd  K =
  (K (-1 : Int) (0 : Int) (1 : Int) (0 : Int) (0 : Int) (-1 : Int) (0 : Int) (1 : Int)) := by kernel_rfl
theorem impl_steps4.eq (K : Int → Int → Int → Int → Int → Int → Int → Int → Prop) : impl_steps4.wp K =
  (K (-1 : Int) (0 : Int) (1 : Int) (0 : Int) (0 : Int) (-1 : Int) (0 : Int) (1 : Int)) := impl_steps4.tx  K

theorem impl_Heights_beside.tx (w_impl_steps4 : (Int → Int → Int → Int → Int → Int → Int → Int → Prop) → Prop) (w_impl_Heights_cell : List Int → Int → Int → Int → Int → (Int → Prop) → Prop) (a1 : List Int) (a2 : Int) (a3 : Int) (a4 : Int) (a5 : Int) (K : List Int → Prop) : impl_Heights_beside.bd w_impl_steps4 w_impl_Heights_cell a1 a2 a3 a4 a5 K =
  (w_impl_steps4 fun y1 y2 y3 y4 y5 y6 y7 y8 =>
  ∀ (J9 : Int → Int → List Int → Int → Int → Int → Int → Int → Int → Int → Int → Int → Prop),
    (∀ (x10 x11 : Int) (x12 : List Int) (x13 x14 x15 x16 x17 x18 x19 x20 x21 : Int),
        Go.K.ifB (Decidable.decide (x21 < (4 : Int)))
            (((0 : Int) ≤ x21 ∧ x21 < (4 : Int)) ∧
              (2 : Nat) = (2 : Nat) ∧
                ((0 : Int) ≤ (0 : Int) ∧ (0 : Int) < (2 : Int) ∧ Int.toNat (0 : Int) < (2 : Nat)) ∧
                  ((0 : Int) ≤ (1 : Int) ∧ (1 : Int) < (2 : Int) ∧ Int.toNat (1 : Int) < (2 : Nat)) ∧
                    w_impl_Heights_cell a1 x10 x11
                      (Go.IntKind.wrap Go.IntKind.i64
                        (a4 +
                          List.getD
                            (List.getD [x13, x14, x15, x16, x17, x18, x19, x20] (Int.toNat x21 * (2 : Nat)) (0 : Int) ::
                              List.getD [x13, x14, x15, x16, x17, x18, x19, x20] (Int.toNat x21 * (2 : Nat) + (1 : Nat)) (0 : Int) :: List.replicate (0 : Nat) (0 : Int))
                            (Int.toNat (0 : Int)) (0 : Int)))
                      (Go.IntKind.wrap Go.IntKind.i64
                        (a5 +
                          List.getD
                            (List.getD [x13, x14, x15, x16, x17, x18, x19, x20] (Int.toNat x21 * (2 : Nat)) (0 : Int) ::
                              List.getD [x13, x14, x15, x16, x17, x18, x19, x20] (Int.toNat x21 * (2 : Nat) + (1 : Nat)) (0 : Int) :: List.replicate (0 : Nat) (0 : Int))
                            (Int.toNat (1 : Int)) (0 : Int)))
                      fun y22 =>
                      List.length (x12 ++ y22 :: List.replicate (0 : Nat) (0 : Int)) ≤ (1099511627776 : Nat) ∧
                        J9 x10 x11 (x12 ++ y22 :: List.replicate (0 : Nat) (0 : Int)) x13 x14 x15 x16 x17 x18 x19 x20 (Go.IntKind.wrap Go.IntKind.i64 (x21 + (1 : Int))))
            (K x12) →
          J9 x10 x11 x12 x13 x14 x15 x16 x17 x18 x19 x20 x21) →
      J9 a2 a3 (List.replicate (0 : Nat) (0 : Int)) y1 y2 y3 y4 y5 y6 y7 y8 (0 : Int)) := by kernel_rfl
theorem impl_Heights_beside.eq (a1 : List Int) (a2 : Int) (a3 : Int) (a4 : Int) (a5 : Int) (K : List Int → Prop) : impl_Heights_beside.wp a1 a2 a3 a4 a5 K =
  (Go.K.heights.impl_steps4.wp fun y1 y2 y3 y4 y5 y6 y7 y8 =>
  ∀ (J9 : Int → Int → List Int → Int → Int → Int → Int → Int → Int → Int → Int → Int → Prop),
    (∀ (x10 x11 : Int) (x12 : List Int) (x13 x14 x15 x16 x17 x18 x19 x20 x21 : Int),
        Go.K.ifB (Decidable.decide (x21 < (4 : Int)))
            (((0 : Int) ≤ x21 ∧ x21 < (4 : Int)) ∧
              (2 : Nat) = (2 : Nat) ∧
                ((0 : Int) ≤ (0 : Int) ∧ (0 : Int) < (2 : Int) ∧ Int.toNat (0 : Int) < (2 : Nat)) ∧
                  ((0 : Int) ≤ (1 : Int) ∧ (1 : Int) < (2 : Int) ∧ Int.toNat (1 : Int) < (2 : Nat)) ∧
                    Go.K.heights.impl_Heights_cell.wp a1 x10 x11
                      (Go.IntKind.wrap Go.IntKind.i64
                        (a4 +
                          List.getD
                            (List.getD [x13, x14, x15, x16, x17, x18, x19, x20] (Int.toNat x21 * (2 : Nat)) (0 : Int) ::
                              List.getD [x13, x14, x15, x16, x17, x18, x19, x20] (Int.toNat x21 * (2 : Nat) + (1 : Nat)) (0 : Int) :: List.replicate (0 : Nat) (0 : Int))
                            (Int.toNat (0 : Int)) (0 : Int)))
                      (Go.IntKind.wrap Go.IntKind.i64
                        (a5 +
                          List.getD
                            (List.getD [x13, x14, x15, x16, x17, x18, x19, x20] (Int.toNat x21 * (2 : Nat)) (0 : Int) ::
                              List.getD [x13, x14, x15, x16, x17, x18, x19, x20] (Int.toNat x21 * (2 : Nat) + (1 : Nat)) (0 : Int) :: List.replicate (0 : Nat) (0 : Int))
                            (Int.toNat (1 : Int)) (0 : Int)))
                      fun y22 =>
                      List.length (x12 ++ y22 :: List.replicate (0 : Nat) (0 : Int)) ≤ (1099511627776 : Nat) ∧
                        J9 x10 x11 (x12 ++ y22 :: List.replicate (0 : Nat) (0 : Int)) x13 x14 x15 x16 x17 x18 x19 x20 (Go.IntKind.wrap Go.IntKind.i64 (x21 + (1 : Int))))
            (K x12) →
          J9 x10 x11 x12 x13 x14 x15 x16 x17 x18 x19 x20 x21) →
      J9 a2 a3 (List.replicate (0 : Nat) (0 : Int)) y1 y2 y3 y4 y5 y6 y7 y8 (0 : Int)) := impl_Heights_beside.tx impl_steps4.wp impl_Heights_cell.wp a1 a2 a3 a4 a5 K

theorem impl_HopTo.tx (w_impl_Heights_has : List Int → Int → Int → Int → Int → (Bool → Prop) → Prop) (w_impl_within : Int → Int → Int → (Bool → Prop) → Prop) (w_impl_Heights_top : List Int → Int → Int → Int → Int → (Int → Prop) → Prop) (w_impl_Heights_cloned : List Int → Int → Int → (List Int → Int → Int → Prop) → Prop) (w_impl_Heights_cell : List Int → Int → Int → Int → Int → (Int → Prop) → Prop) (w_impl_Heights_beside : List Int → Int → Int → Int → Int → (List Int → Prop) → Prop) (w_impl_ValidHeights : List Int → Int → Int → (Bool → Prop) → Prop) (w_impl_Heights_bonds : List Int → Int → Int → (Int → Prop) → Prop) (a1 : List Int) (a2 : Int) (a3 : Int) (a4 : Int) (a5 : Int) (a6 : Int) (K : List Int → Int → Int → Int → Bool → Prop) : impl_HopTo.bd w_impl_Heights_has w_impl_within w_impl_Heights_top w_impl_Heights_cloned w_impl_Heights_cell w_impl_Heights_beside w_impl_ValidHeights w_impl_Heights_bonds a1 a2 a3 a4 a5 a6 K =
  (w_impl_Heights_has a1 a2 a3 a4 a5 fun y1 =>
  Go.K.ifB (!y1) (K [] (0 : Int) (0 : Int) (0 : Int) Bool.false)
    (w_impl_within a6 (0 : Int) (3 : Int) fun y2 =>
      Go.K.ifB (!y2) (K [] (0 : Int) (0 : Int) (0 : Int) Bool.false)
        (w_impl_Heights_top a1 a2 a3 a4 a5 fun y3 =>
          Go.K.ifB (y3 == (0 : Int)) (K [] (0 : Int) (0 : Int) (0 : Int) Bool.false)
            (w_impl_Heights_cloned a1 a2 a3 fun y4 y5 y6 =>
              w_impl_Heights_cell a1 a2 a3 a4 a5 fun y7 =>
                ((0 : Int) ≤ y7 ∧ y7 < (↑(List.length y4) : Int)) ∧
                  ((0 : Int) ≤ y7 ∧ y7 < (↑(List.length y4) : Int)) ∧
                    w_impl_Heights_beside a1 a2 a3 a4 a5 fun y8 =>
                      ((0 : Int) ≤ a6 ∧ a6 < (↑(List.length y8) : Int)) ∧
                        ((0 : Int) ≤ List.getD y8 (Int.toNat a6) (0 : Int) ∧ List.getD y8 (Int.toNat a6) (0 : Int) < (↑(List.length y4) : Int)) ∧
                          ((0 : Int) ≤ List.getD y8 (Int.toNat a6) (0 : Int) ∧ List.getD y8 (Int.toNat a6) (0 : Int) < (↑(List.length y4) : Int)) ∧
                            w_impl_ValidHeights
                              (List.set (List.set y4 (Int.toNat y7) (Go.IntKind.wrap Go.IntKind.i64 (List.getD y4 (Int.toNat y7) (0 : Int) - (1 : Int))))
                                (Int.toNat (List.getD y8 (Int.toNat a6) (0 : Int)))
                                (Go.IntKind.wrap Go.IntKind.i64
                                  (List.getD (List.set y4 (Int.toNat y7) (Go.IntKind.wrap Go.IntKind.i64 (List.getD y4 (Int.toNat y7) (0 : Int) - (1 : Int))))
                                      (Int.toNat (List.getD y8 (Int.toNat a6) (0 : Int))) (0 : Int) +
                                    (1 : Int))))
                              y5 y6 fun y9 =>
                              Go.K.ifB (!y9) (K [] (0 : Int) (0 : Int) (0 : Int) Bool.false)
                                (w_impl_Heights_bonds a1 a2 a3 fun y10 =>
                                  w_impl_Heights_bonds
                                    (List.set (List.set y4 (Int.toNat y7) (Go.IntKind.wrap Go.IntKind.i64 (List.getD y4 (Int.toNat y7) (0 : Int) - (1 : Int))))
                                      (Int.toNat (List.getD y8 (Int.toNat a6) (0 : Int)))
                                      (Go.IntKind.wrap Go.IntKind.i64
                                        (List.getD (List.set y4 (Int.toNat y7) (Go.IntKind.wrap Go.IntKind.i64 (List.getD y4 (Int.toNat y7) (0 : Int) - (1 : Int))))
                                            (Int.toNat (List.getD y8 (Int.toNat a6) (0 : Int))) (0 : Int) +
                                          (1 : Int))))
                                    y5 y6 fun y11 =>
                                    K
                                      (List.set (List.set y4 (Int.toNat y7) (Go.IntKind.wrap Go.IntKind.i64 (List.getD y4 (Int.toNat y7) (0 : Int) - (1 : Int))))
                                        (Int.toNat (List.getD y8 (Int.toNat a6) (0 : Int)))
                                        (Go.IntKind.wrap Go.IntKind.i64
                                          (List.getD (List.set y4 (Int.toNat y7) (Go.IntKind.wrap Go.IntKind.i64 (List.getD y4 (Int.toNat y7) (0 : Int) - (1 : Int))))
                                              (Int.toNat (List.getD y8 (Int.toNat a6) (0 : Int))) (0 : Int) +
                                            (1 : Int))))
                                      y5 y6 (Go.IntKind.wrap Go.IntKind.i64 (y10 - y11)) Bool.true))))) := by kernel_rfl
theorem impl_HopTo.eq (a1 : List Int) (a2 : Int) (a3 : Int) (a4 : Int) (a5 : Int) (a6 : Int) (K : List Int → Int → Int → Int → Bool → Prop) : impl_HopTo.wp a1 a2 a3 a4 a5 a6 K =
  (Go.K.heights.impl_Heights_has.wp a1 a2 a3 a4 a5 fun y1 =>
  Go.K.ifB (!y1) (K [] (0 : Int) (0 : Int) (0 : Int) Bool.false)
    (Go.K.heights.impl_within.wp a6 (0 : Int) (3 : Int) fun y2 =>
      Go.K.ifB (!y2) (K [] (0 : Int) (0 : Int) (0 : Int) Bool.false)
        (Go.K.heights.impl_Heights_top.wp a1 a2 a3 a4 a5 fun y3 =>
          Go.K.ifB (y3 == (0 : Int)) (K [] (0 : Int) (0 : Int) (0 : Int) Bool.false)
            (Go.K.heights.impl_Heights_cloned.wp a1 a2 a3 fun y4 y5 y6 =>
              Go.K.heights.impl_Heights_cell.wp a1 a2 a3 a4 a5 fun y7 =>
                ((0 : Int) ≤ y7 ∧ y7 < (↑(List.length y4) : Int)) ∧
                  ((0 : Int) ≤ y7 ∧ y7 < (↑(List.length y4) : Int)) ∧
                    Go.K.heights.impl_Heights_beside.wp a1 a2 a3 a4 a5 fun y8 =>
                      ((0 : Int) ≤ a6 ∧ a6 < (↑(List.length y8) : Int)) ∧
                        ((0 : Int) ≤ List.getD y8 (Int.toNat a6) (0 : Int) ∧ List.getD y8 (Int.toNat a6) (0 : Int) < (↑(List.length y4) : Int)) ∧
                          ((0 : Int) ≤ List.getD y8 (Int.toNat a6) (0 : Int) ∧ List.getD y8 (Int.toNat a6) (0 : Int) < (↑(List.length y4) : Int)) ∧
                            Go.K.heights.impl_ValidHeights.wp
                              (List.set (List.set y4 (Int.toNat y7) (Go.IntKind.wrap Go.IntKind.i64 (List.getD y4 (Int.toNat y7) (0 : Int) - (1 : Int))))
                                (Int.toNat (List.getD y8 (Int.toNat a6) (0 : Int)))
                                (Go.IntKind.wrap Go.IntKind.i64
                                  (List.getD (List.set y4 (Int.toNat y7) (Go.IntKind.wrap Go.IntKind.i64 (List.getD y4 (Int.toNat y7) (0 : Int) - (1 : Int))))
                                      (Int.toNat (List.getD y8 (Int.toNat a6) (0 : Int))) (0 : Int) +
                                    (1 : Int))))
                              y5 y6 fun y9 =>
                              Go.K.ifB (!y9) (K [] (0 : Int) (0 : Int) (0 : Int) Bool.false)
                                (Go.K.heights.impl_Heights_bonds.wp a1 a2 a3 fun y10 =>
                                  Go.K.heights.impl_Heights_bonds.wp
                                    (List.set (List.set y4 (Int.toNat y7) (Go.IntKind.wrap Go.IntKind.i64 (List.getD y4 (Int.toNat y7) (0 : Int) - (1 : Int))))
                                      (Int.toNat (List.getD y8 (Int.toNat a6) (0 : Int)))
                                      (Go.IntKind.wrap Go.IntKind.i64
                                        (List.getD (List.set y4 (Int.toNat y7) (Go.IntKind.wrap Go.IntKind.i64 (List.getD y4 (Int.toNat y7) (0 : Int) - (1 : Int))))
                                            (Int.toNat (List.getD y8 (Int.toNat a6) (0 : Int))) (0 : Int) +
                                          (1 : Int))))
                                    y5 y6 fun y11 =>
                                    K
                                      (List.set (List.set y4 (Int.toNat y7) (Go.IntKind.wrap Go.IntKind.i64 (List.getD y4 (Int.toNat y7) (0 : Int) - (1 : Int))))
                                        (Int.toNat (List.getD y8 (Int.toNat a6) (0 : Int)))
                                        (Go.IntKind.wrap Go.IntKind.i64
                                          (List.getD (List.set y4 (Int.toNat y7) (Go.IntKind.wrap Go.IntKind.i64 (List.getD y4 (Int.toNat y7) (0 : Int) - (1 : Int))))
                                              (Int.toNat (List.getD y8 (Int.toNat a6) (0 : Int))) (0 : Int) +
                                            (1 : Int))))
                                      y5 y6 (Go.IntKind.wrap Go.IntKind.i64 (y10 - y11)) Bool.true))))) := impl_HopTo.tx impl_Heights_has.wp impl_within.wp impl_Heights_top.wp impl_Heights_cloned.wp impl_Heights_cell.wp impl_Heights_beside.wp impl_ValidHeights.wp impl_Heights_bonds.wp a1 a2 a3 a4 a5 a6 K

theorem spec_B10Seed.tx (w_spec_l00From : List Int → (Int → Int → Prop) → Prop) (w_spec_l00Src_pick : Int → Int → List Int → Int → (Int → Int → Int → Prop) → Prop) (a1 : List Int) (K : Int → Prop) : spec_B10Seed.bd w_spec_l00From w_spec_l00Src_pick a1 K =
  (w_spec_l00From a1 fun y1 y2 =>
  w_spec_l00Src_pick y1 y2 a1 (32768 : Int) fun y3 y4 y5 =>
    w_spec_l00Src_pick y3 y4 a1 (65536 : Int) fun y6 y7 y8 =>
      K (Go.IntKind.wrap Go.IntKind.i64 (Go.IntKind.wrap Go.IntKind.i64 (y5 * (65536 : Int)) + y8))) := by kernel_rfl
theorem spec_B10Seed.eq (a1 : List Int) (K : Int → Prop) : spec_B10Seed.wp a1 K =
  (Go.K.heights.spec_l00From.wp a1 fun y1 y2 =>
  Go.K.heights.spec_l00Src_pick.wp y1 y2 a1 (32768 : Int) fun y3 y4 y5 =>
    Go.K.heights.spec_l00Src_pick.wp y3 y4 a1 (65536 : Int) fun y6 y7 y8 =>
      K (Go.IntKind.wrap Go.IntKind.i64 (Go.IntKind.wrap Go.IntKind.i64 (y5 * (65536 : Int)) + y8))) := spec_B10Seed.tx spec_l00From.wp spec_l00Src_pick.wp a1 K

theorem impl_isSeed.tx (w_impl_within : Int → Int → Int → (Bool → Prop) → Prop) (a1 : Int) (K : Bool → Prop) : impl_isSeed.bd w_impl_within a1 K =
  (w_impl_within a1 (0 : Int) (2147483647 : Int) fun y1 => K y1) := by kernel_rfl
theorem impl_isSeed.eq (a1 : Int) (K : Bool → Prop) : impl_isSeed.wp a1 K =
  (Go.K.heights.impl_within.wp a1 (0 : Int) (2147483647 : Int) fun y1 => K y1) := impl_isSeed.tx impl_within.wp a1 K

theorem impl_draw.tx  (a1 : Int) (K : Int → Int → Prop) : impl_draw.bd  a1 K =
  (K (Int.tmod (Go.IntKind.wrap Go.IntKind.i64 (Go.IntKind.wrap Go.IntKind.i64 ((1103515245 : Int) * a1) + (12345 : Int))) (2147483648 : Int))
  (Go.IntKind.wrap Go.IntKind.i64
    (Int.tdiv (Int.tmod (Go.IntKind.wrap Go.IntKind.i64 (Go.IntKind.wrap Go.IntKind.i64 ((1103515245 : Int) * a1) + (12345 : Int))) (2147483648 : Int))
      (65536 : Int)))) := by kernel_rfl
theorem impl_draw.eq (a1 : Int) (K : Int → Int → Prop) : impl_draw.wp a1 K =
  (K (Int.tmod (Go.IntKind.wrap Go.IntKind.i64 (Go.IntKind.wrap Go.IntKind.i64 ((1103515245 : Int) * a1) + (12345 : Int))) (2147483648 : Int))
  (Go.IntKind.wrap Go.IntKind.i64
    (Int.tdiv (Int.tmod (Go.IntKind.wrap Go.IntKind.i64 (Go.IntKind.wrap Go.IntKind.i64 ((1103515245 : Int) * a1) + (12345 : Int))) (2147483648 : Int))
      (65536 : Int)))) := impl_draw.tx  a1 K

theorem impl_use.tx (w_impl_draw : Int → (Int → Int → Prop) → Prop) (a1 : Int) (a2 : Int) (K : Int → Int → Prop) : impl_use.bd w_impl_draw a1 a2 K =
  (w_impl_draw a1 fun y1 y2 => a2 ≠ (0 : Int) ∧ K y1 (Int.tmod y2 a2)) := by kernel_rfl
theorem impl_use.eq (a1 : Int) (a2 : Int) (K : Int → Int → Prop) : impl_use.wp a1 a2 K =
  (Go.K.heights.impl_draw.wp a1 fun y1 y2 => a2 ≠ (0 : Int) ∧ K y1 (Int.tmod y2 a2)) := impl_use.tx impl_draw.wp a1 a2 K

theorem impl_HopSome.tx (w_impl_ValidHeights : List Int → Int → Int → (Bool → Prop) → Prop) (w_impl_within : Int → Int → Int → (Bool → Prop) → Prop) (w_impl_isSeed : Int → (Bool → Prop) → Prop) (w_impl_areWithin : List Int → Int → Int → (Bool → Prop) → Prop) (w_impl_Heights_cloned : List Int → Int → Int → (List Int → Int → Int → Prop) → Prop) (w_impl_use : Int → Int → (Int → Int → Prop) → Prop) (w_impl_HopTo : List Int → Int → Int → Int → Int → Int → (List Int → Int → Int → Int → Bool → Prop) → Prop) (a1 : List
  Int) (a2 : List Int) (a3 : Int) (a4 : Int) (a5 : Int) (a6 : Int) (K : List Int → Int → Int → Int → Int → Bool → Prop) : impl_HopSome.bd w_impl_ValidHeights w_impl_within w_impl_isSeed w_impl_areWithin w_impl_Heights_cloned w_impl_use w_impl_HopTo a1 a2 a3 a4 a5 a6 K =
  (w_impl_ValidHeights a1 a3 a4 fun y1 =>
  Go.K.ifB (!y1) (K [] (0 : Int) (0 : Int) (0 : Int) (0 : Int) Bool.false)
    (w_impl_within a5 (0 : Int) (500 : Int) fun y2 =>
      Go.K.ifB (!y2) (K [] (0 : Int) (0 : Int) (0 : Int) (0 : Int) Bool.false)
        (w_impl_isSeed a6 fun y3 =>
          Go.K.ifB (!y3) (K [] (0 : Int) (0 : Int) (0 : Int) (0 : Int) Bool.false)
            (Go.K.ifB (Decidable.decide ((↑(List.length a2) : Int) > (8 : Int))) (K [] (0 : Int) (0 : Int) (0 : Int) (0 : Int) Bool.false)
              (w_impl_areWithin a2 (0 : Int) (32768 : Int) fun y4 =>
                Go.K.ifB (!y4) (K [] (0 : Int) (0 : Int) (0 : Int) (0 : Int) Bool.false)
                  (w_impl_Heights_cloned a1 a3 a4 fun y5 y6 y7 =>
                    ∀ (J8 : Int → Int → Int → Int → Int → List Int → List Int → Int → Int → Int → Prop),
                      (∀ (x9 x10 x11 x12 x13 : Int) (x14 x15 : List Int) (x16 x17 x18 : Int),
                          Go.K.ifB (Decidable.decide (x18 < x17))
                              (w_impl_use x11 x9 fun y19 y20 =>
                                w_impl_use y19 x10 fun y21 y22 =>
                                  w_impl_use y21 (4 : Int) fun y23 y24 =>
                                    w_impl_use y23 (32768 : Int) fun y25 y26 =>
                                      w_impl_HopTo x14 x9 x10 y20 y22 y24 fun y27 y28 y29 y30 y31 =>
                                        Go.K.ifB y31
                                          (Go.K.ifB (Decidable.decide (y30 ≤ (0 : Int)))
                                            (J8 y28 y29 y25 x12 x13 y27 x15 (Go.IntKind.wrap Go.IntKind.i64 (x16 + (1 : Int))) x17
                                              (Go.IntKind.wrap Go.IntKind.i64 (x18 + (1 : Int))))
                                            (Go.K.ifB (Decidable.decide (y30 ≤ (↑(List.length a2) : Int)))
                                              (((0 : Int) ≤ Go.IntKind.wrap Go.IntKind.i64 (y30 - (1 : Int)) ∧
                                                  Go.IntKind.wrap Go.IntKind.i64 (y30 - (1 : Int)) < (↑(List.length a2) : Int)) ∧
                                                Go.K.ifB (Decidable.decide (y26 < List.getD a2 (Int.toNat (Go.IntKind.wrap Go.IntKind.i64 (y30 - (1 : Int)))) (0 : Int)))
                                                  (J8 y28 y29 y25 x12 x13 y27 x15 (Go.IntKind.wrap Go.IntKind.i64 (x16 + (1 : Int))) x17
                                                    (Go.IntKind.wrap Go.IntKind.i64 (x18 + (1 : Int))))
                                                  (J8 x9 x10 y25 x12 x13 x14 x15 x16 x17 (Go.IntKind.wrap Go.IntKind.i64 (x18 + (1 : Int)))))
                                              (J8 x9 x10 y25 x12 x13 x14 x15 x16 x17 (Go.IntKind.wrap Go.IntKind.i64 (x18 + (1 : Int))))))
                                          (J8 x9 x10 y25 x12 x13 x14 x15 x16 x17 (Go.IntKind.wrap Go.IntKind.i64 (x18 + (1 : Int)))))
                              (K x14 x9 x10 x16 x11 Bool.true) →
                            J8 x9 x10 x11 x12 x13 x14 x15 x16 x17 x18) →
                        J8 y6 y7 a6 (0 : Int) (0 : Int) y5 [] (0 : Int) a5 (0 : Int))))))) := by kernel_rfl
theorem impl_HopSome.eq (a1 : List
  Int) (a2 : List Int) (a3 : Int) (a4 : Int) (a5 : Int) (a6 : Int) (K : List Int → Int → Int → Int → Int → Bool → Prop) : impl_HopSome.wp a1 a2 a3 a4 a5 a6 K =
  (Go.K.heights.impl_ValidHeights.wp a1 a3 a4 fun y1 =>
  Go.K.ifB (!y1) (K [] (0 : Int) (0 : Int) (0 : Int) (0 : Int) Bool.false)
    (Go.K.heights.impl_within.wp a5 (0 : Int) (500 : Int) fun y2 =>
      Go.K.ifB (!y2) (K [] (0 : Int) (0 : Int) (0 : Int) (0 : Int) Bool.false)
        (Go.K.heights.impl_isSeed.wp a6 fun y3 =>
          Go.K.ifB (!y3) (K [] (0 : Int) (0 : Int) (0 : Int) (0 : Int) Bool.false)
            (Go.K.ifB (Decidable.decide ((↑(List.length a2) : Int) > (8 : Int))) (K [] (0 : Int) (0 : Int) (0 : Int) (0 : Int) Bool.false)
              (Go.K.heights.impl_areWithin.wp a2 (0 : Int) (32768 : Int) fun y4 =>
                Go.K.ifB (!y4) (K [] (0 : Int) (0 : Int) (0 : Int) (0 : Int) Bool.false)
                  (Go.K.heights.impl_Heights_cloned.wp a1 a3 a4 fun y5 y6 y7 =>
                    ∀ (J8 : Int → Int → Int → Int → Int → List Int → List Int → Int → Int → Int → Prop),
                      (∀ (x9 x10 x11 x12 x13 : Int) (x14 x15 : List Int) (x16 x17 x18 : Int),
                          Go.K.ifB (Decidable.decide (x18 < x17))
                              (Go.K.heights.impl_use.wp x11 x9 fun y19 y20 =>
                                Go.K.heights.impl_use.wp y19 x10 fun y21 y22 =>
                                  Go.K.heights.impl_use.wp y21 (4 : Int) fun y23 y24 =>
                                    Go.K.heights.impl_use.wp y23 (32768 : Int) fun y25 y26 =>
                                      Go.K.heights.impl_HopTo.wp x14 x9 x10 y20 y22 y24 fun y27 y28 y29 y30 y31 =>
                                        Go.K.ifB y31
                                          (Go.K.ifB (Decidable.decide (y30 ≤ (0 : Int)))
                                            (J8 y28 y29 y25 x12 x13 y27 x15 (Go.IntKind.wrap Go.IntKind.i64 (x16 + (1 : Int))) x17
                                              (Go.IntKind.wrap Go.IntKind.i64 (x18 + (1 : Int))))
                                            (Go.K.ifB (Decidable.decide (y30 ≤ (↑(List.length a2) : Int)))
                                              (((0 : Int) ≤ Go.IntKind.wrap Go.IntKind.i64 (y30 - (1 : Int)) ∧
                                                  Go.IntKind.wrap Go.IntKind.i64 (y30 - (1 : Int)) < (↑(List.length a2) : Int)) ∧
                                                Go.K.ifB (Decidable.decide (y26 < List.getD a2 (Int.toNat (Go.IntKind.wrap Go.IntKind.i64 (y30 - (1 : Int)))) (0 : Int)))
                                                  (J8 y28 y29 y25 x12 x13 y27 x15 (Go.IntKind.wrap Go.IntKind.i64 (x16 + (1 : Int))) x17
                                                    (Go.IntKind.wrap Go.IntKind.i64 (x18 + (1 : Int))))
                                                  (J8 x9 x10 y25 x12 x13 x14 x15 x16 x17 (Go.IntKind.wrap Go.IntKind.i64 (x18 + (1 : Int)))))
                                              (J8 x9 x10 y25 x12 x13 x14 x15 x16 x17 (Go.IntKind.wrap Go.IntKind.i64 (x18 + (1 : Int))))))
                                          (J8 x9 x10 y25 x12 x13 x14 x15 x16 x17 (Go.IntKind.wrap Go.IntKind.i64 (x18 + (1 : Int)))))
                              (K x14 x9 x10 x16 x11 Bool.true) →
                            J8 x9 x10 x11 x12 x13 x14 x15 x16 x17 x18) →
                        J8 y6 y7 a6 (0 : Int) (0 : Int) y5 [] (0 : Int) a5 (0 : Int))))))) := impl_HopSome.tx impl_ValidHeights.wp impl_within.wp impl_isSeed.wp impl_areWithin.wp impl_Heights_cloned.wp impl_use.wp impl_HopTo.wp a1 a2 a3 a4 a5 a6 K

theorem laws_FnHops.tx (w_laws_b10Long : List Int → List Int → (Bool → Prop) → Prop) (w_spec_B10Heights : List Int → (List Int → Int → Int → Prop) → Prop) (w_laws_b10At : List Int → Int → Int → (Int → Prop) → Prop) (w_impl_AtomsIn : List Int → Int → Int → (Int → Bool → Prop) → Prop) (w_impl_BondsIn : List Int → Int → Int → (Int → Bool → Prop) → Prop) (w_impl_StepsIn : List Int → Int → Int → (Int → Bool → Prop) → Prop) (w_impl_HopTo : List Int → Int → Int → Int → Int → Int → (List Int → Int → Int → Int → Bool → Prop) → Prop) (w_spec_B10Seed : List Int → (Int → Prop) → Prop) (w_impl_HopSome : List Int → List Int → Int → Int → Int → Int → (List Int → Int → Int → Int → Int → Bool → Prop) → Prop) (a1 : List Int) (a2 : List Int) (K : Bool → Prop) : laws_FnHops.bd w_laws_b10Long w_spec_B10Heights w_laws_b10At w_impl_AtomsIn w_impl_BondsIn w_impl_StepsIn w_impl_HopTo w_spec_B10Seed w_impl_HopSome a1 a2 K =
  (w_laws_b10Long a1 a2 fun y1 =>
  Go.K.ifB y1 (K Bool.true)
    (w_spec_B10Heights a1 fun y2 y3 y4 =>
      w_laws_b10At a2 (0 : Int) y3 fun y5 =>
        w_laws_b10At a2 (1 : Int) y4 fun y6 =>
          w_impl_AtomsIn y2 y3 y4 fun y7 y8 =>
            w_impl_BondsIn y2 y3 y4 fun y9 y10 =>
              w_impl_StepsIn y2 y3 y4 fun y11 y12 =>
                w_laws_b10At a2 (2 : Int) (4 : Int) fun y13 =>
                  w_impl_HopTo y2 y3 y4 y5 y6 y13 fun y14 y15 y16 y17 y18 =>
                    Go.K.ifB (!y8) (K Bool.false)
                      (Go.K.ifB (!y10) (K Bool.false)
                        (Go.K.ifB (!y12) (K Bool.false)
                          (((0 : Int) ≤ Go.IntKind.wrap Go.IntKind.i64 (y5 + Go.IntKind.wrap Go.IntKind.i64 (y3 * y6)) ∧
                              Go.IntKind.wrap Go.IntKind.i64 (y5 + Go.IntKind.wrap Go.IntKind.i64 (y3 * y6)) < (↑(List.length y2) : Int)) ∧
                            Go.K.ifB
                              (y18 !=
                                Decidable.decide (List.getD y2 (Int.toNat (Go.IntKind.wrap Go.IntKind.i64 (y5 + Go.IntKind.wrap Go.IntKind.i64 (y3 * y6)))) (0 : Int) > (0 : Int)))
                              (K Bool.false)
                              (Go.K.ifB (Go.IntKind.wrap Go.IntKind.i64 (Go.IntKind.wrap Go.IntKind.i64 ((2 : Int) * y9) + y11) != Go.IntKind.wrap Go.IntKind.i64 ((4 : Int) * y7))
                                (K Bool.false)
                                (∀ (J19 : Int → Int → List Int → Int → Int → Prop),
                                  (∀ (x20 x21 : Int) (x22 : List Int) (x23 x24 : Int),
                                      (w_laws_b10At a2 (3 : Int) (40 : Int) fun y25 =>
                                          w_spec_B10Seed a2 fun y26 =>
                                            w_impl_HopSome x22 [] x20 x21 y25 y26 fun y27 y28 y29 y30 y31 y32 =>
                                              w_impl_AtomsIn y27 y28 y29 fun y33 y34 =>
                                                w_impl_BondsIn y27 y28 y29 fun y35 y36 =>
                                                  Go.K.ifB y32
                                                    (Go.K.ifB y34
                                                      (Go.K.ifB y36
                                                        (Go.K.ifB (y33 == x23)
                                                          (Go.K.ifB (Decidable.decide (y35 ≥ x24))
                                                            (Go.K.ifB (Decidable.decide (y30 ≥ (0 : Int))) (K (Decidable.decide (y30 ≤ y25))) (K Bool.false)) (K Bool.false))
                                                          (K Bool.false))
                                                        (K Bool.false))
                                                      (K Bool.false))
                                                    (K Bool.false)) →
                                        J19 x20 x21 x22 x23 x24) →
                                    Go.K.ifB y18
                                      (w_impl_AtomsIn y14 y15 y16 fun y39 y40 =>
                                        w_impl_BondsIn y14 y15 y16 fun y41 y42 =>
                                          Go.K.ifB (!y40) (K Bool.false)
                                            (Go.K.ifB (!y42) (K Bool.false)
                                              (Go.K.ifB (y39 != y7) (K Bool.false)
                                                (Go.K.ifB (y41 != Go.IntKind.wrap Go.IntKind.i64 (y9 - y17)) (K Bool.false) (J19 y3 y4 y2 y7 y9)))))
                                      (J19 y3 y4 y2 y7 y9)))))))) := by kernel_rfl
theorem laws_FnHops.eq (a1 : List Int) (a2 : List Int) (K : Bool → Prop) : laws_FnHops.wp a1 a2 K =
  (Go.K.heights.laws_b10Long.wp a1 a2 fun y1 =>
  Go.K.ifB y1 (K Bool.true)
    (Go.K.heights.spec_B10Heights.wp a1 fun y2 y3 y4 =>
      Go.K.heights.laws_b10At.wp a2 (0 : Int) y3 fun y5 =>
        Go.K.heights.laws_b10At.wp a2 (1 : Int) y4 fun y6 =>
          Go.K.heights.impl_AtomsIn.wp y2 y3 y4 fun y7 y8 =>
            Go.K.heights.impl_BondsIn.wp y2 y3 y4 fun y9 y10 =>
              Go.K.heights.impl_StepsIn.wp y2 y3 y4 fun y11 y12 =>
                Go.K.heights.laws_b10At.wp a2 (2 : Int) (4 : Int) fun y13 =>
                  Go.K.heights.impl_HopTo.wp y2 y3 y4 y5 y6 y13 fun y14 y15 y16 y17 y18 =>
                    Go.K.ifB (!y8) (K Bool.false)
                      (Go.K.ifB (!y10) (K Bool.false)
                        (Go.K.ifB (!y12) (K Bool.false)
                          (((0 : Int) ≤ Go.IntKind.wrap Go.IntKind.i64 (y5 + Go.IntKind.wrap Go.IntKind.i64 (y3 * y6)) ∧
                              Go.IntKind.wrap Go.IntKind.i64 (y5 + Go.IntKind.wrap Go.IntKind.i64 (y3 * y6)) < (↑(List.length y2) : Int)) ∧
                            Go.K.ifB
                              (y18 !=
                                Decidable.decide (List.getD y2 (Int.toNat (Go.IntKind.wrap Go.IntKind.i64 (y5 + Go.IntKind.wrap Go.IntKind.i64 (y3 * y6)))) (0 : Int) > (0 : Int)))
                              (K Bool.false)
                              (Go.K.ifB (Go.IntKind.wrap Go.IntKind.i64 (Go.IntKind.wrap Go.IntKind.i64 ((2 : Int) * y9) + y11) != Go.IntKind.wrap Go.IntKind.i64 ((4 : Int) * y7))
                                (K Bool.false)
                                (∀ (J19 : Int → Int → List Int → Int → Int → Prop),
                                  (∀ (x20 x21 : Int) (x22 : List Int) (x23 x24 : Int),
                                      (Go.K.heights.laws_b10At.wp a2 (3 : Int) (40 : Int) fun y25 =>
                                          Go.K.heights.spec_B10Seed.wp a2 fun y26 =>
                                            Go.K.heights.impl_HopSome.wp x22 [] x20 x21 y25 y26 fun y27 y28 y29 y30 y31 y32 =>
                                              Go.K.heights.impl_AtomsIn.wp y27 y28 y29 fun y33 y34 =>
                                                Go.K.heights.impl_BondsIn.wp y27 y28 y29 fun y35 y36 =>
                                                  Go.K.ifB y32
                                                    (Go.K.ifB y34
                                                      (Go.K.ifB y36
                                                        (Go.K.ifB (y33 == x23)
                                                          (Go.K.ifB (Decidable.decide (y35 ≥ x24))
                                                            (Go.K.ifB (Decidable.decide (y30 ≥ (0 : Int))) (K (Decidable.decide (y30 ≤ y25))) (K Bool.false)) (K Bool.false))
                                                          (K Bool.false))
                                                        (K Bool.false))
                                                      (K Bool.false))
                                                    (K Bool.false)) →
                                        J19 x20 x21 x22 x23 x24) →
                                    Go.K.ifB y18
                                      (Go.K.heights.impl_AtomsIn.wp y14 y15 y16 fun y39 y40 =>
                                        Go.K.heights.impl_BondsIn.wp y14 y15 y16 fun y41 y42 =>
                                          Go.K.ifB (!y40) (K Bool.false)
                                            (Go.K.ifB (!y42) (K Bool.false)
                                              (Go.K.ifB (y39 != y7) (K Bool.false)
                                                (Go.K.ifB (y41 != Go.IntKind.wrap Go.IntKind.i64 (y9 - y17)) (K Bool.false) (J19 y3 y4 y2 y7 y9)))))
                                      (J19 y3 y4 y2 y7 y9)))))))) := laws_FnHops.tx laws_b10Long.wp spec_B10Heights.wp laws_b10At.wp impl_AtomsIn.wp impl_BondsIn.wp impl_StepsIn.wp impl_HopTo.wp spec_B10Seed.wp impl_HopSome.wp a1 a2 K

end Go.K.heights
