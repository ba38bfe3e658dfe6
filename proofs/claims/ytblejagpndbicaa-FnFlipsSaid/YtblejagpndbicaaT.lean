/- What the functions compute, written out. -/
import Derived.Test.YtblejagpndbicaaD
import Derived.KernelRfl
set_option maxRecDepth 100000
set_option linter.unusedVariables false
namespace Go.K.grains
open Go.K Go

theorem laws_r8Long.tx  (a1 : List Int) (a2 : List Int) (K : Bool → Prop) : laws_r8Long.bd  a1 a2 K =
  (Go.K.ifB (Decidable.decide ((↑(List.length a1) : Int) > (48 : Int))) (K Bool.true) (K (Decidable.decide ((↑(List.length a2) : Int) > (48 : Int))))) := by kernel_rfl
theorem laws_r8Long.eq (a1 : List Int) (a2 : List Int) (K : Bool → Prop) : laws_r8Long.wp a1 a2 K =
  (Go.K.ifB (Decidable.decide ((↑(List.length a1) : Int) > (48 : Int))) (K Bool.true) (K (Decidable.decide ((↑(List.length a2) : Int) > (48 : Int))))) := laws_r8Long.tx  a1 a2 K

theorem spec_l00From.tx  (a1 : List Int) (K : Int → Int → Prop) : spec_l00From.bd  a1 K =
  (K (0 : Int) (0 : Int)) := by kernel_rfl
theorem spec_l00From.eq (a1 : List Int) (K : Int → Int → Prop) : spec_l00From.wp a1 K =
  (K (0 : Int) (0 : Int)) := spec_l00From.tx  a1 K

theorem spec_l00Src_next.tx  (a1 : Int) (a2 : Int) (a3 : List Int) (K : Int → Int → Int → Prop) : spec_l00Src_next.bd  a1 a2 a3 K =
  (∀ (J1 : Int → Int → Int → Prop),
  (∀ (x2 x3 x4 : Int),
      Go.K.ifB (Decidable.decide (Go.IntKind.wrap Go.IntKind.i64 (x2 + (1 : Int)) ≤ (↑(List.length a3) : Int)))
          (K (Go.IntKind.wrap Go.IntKind.i64 (x2 + (1 : Int)))
            (Go.IntKind.wrap Go.IntKind.u64
              (Go.IntKind.wrap Go.IntKind.u64 (Go.IntKind.wrap Go.IntKind.u64 (x3 * (6364136223846793005 : Int)) + Go.IntKind.wrap Go.IntKind.u64 x4) +
                (1442695040888963407 : Int)))
            x4)
          (K (Go.IntKind.wrap Go.IntKind.i64 (x2 + (1 : Int)))
            (Go.IntKind.wrap Go.IntKind.u64
              (Go.IntKind.wrap Go.IntKind.u64 (Go.IntKind.wrap Go.IntKind.u64 (x3 * (6364136223846793005 : Int)) + Go.IntKind.wrap Go.IntKind.u64 x4) +
                (1442695040888963407 : Int)))
            (Go.IntKind.wrap Go.IntKind.i64
              (Go.K.ibits Go.BinOp.and Go.IntKind.u64
                (Go.K.ishr Go.IntKind.u64
                  (Go.IntKind.wrap Go.IntKind.u64
                    (Go.IntKind.wrap Go.IntKind.u64 (Go.IntKind.wrap Go.IntKind.u64 (x3 * (6364136223846793005 : Int)) + Go.IntKind.wrap Go.IntKind.u64 x4) +
                      (1442695040888963407 : Int)))
                  (40 : Int))
                (255 : Int)))) →
        J1 x2 x3 x4) →
    Go.K.ifB (Decidable.decide (a1 < (↑(List.length a3) : Int)))
      (((0 : Int) ≤ a1 ∧ a1 < (↑(List.length a3) : Int)) ∧ J1 a1 a2 (Go.IntKind.wrap Go.IntKind.i64 (List.getD a3 (Int.toNat a1) (0 : Int)))) (J1 a1 a2 (0 : Int))) := by kernel_rfl
theorem spec_l00Src_next.eq (a1 : Int) (a2 : Int) (a3 : List Int) (K : Int → Int → Int → Prop) : spec_l00Src_next.wp a1 a2 a3 K =
  (∀ (J1 : Int → Int → Int → Prop),
  (∀ (x2 x3 x4 : Int),
      Go.K.ifB (Decidable.decide (Go.IntKind.wrap Go.IntKind.i64 (x2 + (1 : Int)) ≤ (↑(List.length a3) : Int)))
          (K (Go.IntKind.wrap Go.IntKind.i64 (x2 + (1 : Int)))
            (Go.IntKind.wrap Go.IntKind.u64
              (Go.IntKind.wrap Go.IntKind.u64 (Go.IntKind.wrap Go.IntKind.u64 (x3 * (6364136223846793005 : Int)) + Go.IntKind.wrap Go.IntKind.u64 x4) +
                (1442695040888963407 : Int)))
            x4)
          (K (Go.IntKind.wrap Go.IntKind.i64 (x2 + (1 : Int)))
            (Go.IntKind.wrap Go.IntKind.u64
              (Go.IntKind.wrap Go.IntKind.u64 (Go.IntKind.wrap Go.IntKind.u64 (x3 * (6364136223846793005 : Int)) + Go.IntKind.wrap Go.IntKind.u64 x4) +
                (1442695040888963407 : Int)))
            (Go.IntKind.wrap Go.IntKind.i64
              (Go.K.ibits Go.BinOp.and Go.IntKind.u64
                (Go.K.ishr Go.IntKind.u64
                  (Go.IntKind.wrap Go.IntKind.u64
                    (Go.IntKind.wrap Go.IntKind.u64 (Go.IntKind.wrap Go.IntKind.u64 (x3 * (6364136223846793005 : Int)) + Go.IntKind.wrap Go.IntKind.u64 x4) +
                      (1442695040888963407 : Int)))
                  (40 : Int))
                (255 : Int)))) →
        J1 x2 x3 x4) →
    Go.K.ifB (Decidable.decide (a1 < (↑(List.length a3) : Int)))
      (((0 : Int) ≤ a1 ∧ a1 < (↑(List.length a3) : Int)) ∧ J1 a1 a2 (Go.IntKind.wrap Go.IntKind.i64 (List.getD a3 (Int.toNat a1) (0 : Int)))) (J1 a1 a2 (0 : Int))) := spec_l00Src_next.tx  a1 a2 a3 K

theorem spec_l00Src_pick.tx (w_spec_l00Src_next : Int → Int → List Int → (Int → Int → Int → Prop) → Prop) (a1 : Int) (a2 : Int) (a3 : List Int) (a4 : Int) (K : Int → Int → Int → Prop) : spec_l00Src_pick.bd w_spec_l00Src_next a1 a2 a3 a4 K =
  (Go.K.ifB (Decidable.decide (a4 ≤ (1 : Int))) (K a1 a2 (0 : Int))
  (w_spec_l00Src_next a1 a2 a3 fun y1 y2 y3 =>
    Go.K.ifB (Decidable.decide (a4 > (200 : Int)))
      (w_spec_l00Src_next y1 y2 a3 fun y4 y5 y6 =>
        a4 ≠ (0 : Int) ∧ K y4 y5 (Int.tmod (Go.IntKind.wrap Go.IntKind.i64 (Go.IntKind.wrap Go.IntKind.i64 (y3 * (256 : Int)) + y6)) a4))
      (a4 ≠ (0 : Int) ∧ K y1 y2 (Int.tmod y3 a4)))) := by kernel_rfl
theorem spec_l00Src_pick.eq (a1 : Int) (a2 : Int) (a3 : List Int) (a4 : Int) (K : Int → Int → Int → Prop) : spec_l00Src_pick.wp a1 a2 a3 a4 K =
  (Go.K.ifB (Decidable.decide (a4 ≤ (1 : Int))) (K a1 a2 (0 : Int))
  (Go.K.grains.spec_l00Src_next.wp a1 a2 a3 fun y1 y2 y3 =>
    Go.K.ifB (Decidable.decide (a4 > (200 : Int)))
      (Go.K.grains.spec_l00Src_next.wp y1 y2 a3 fun y4 y5 y6 =>
        a4 ≠ (0 : Int) ∧ K y4 y5 (Int.tmod (Go.IntKind.wrap Go.IntKind.i64 (Go.IntKind.wrap Go.IntKind.i64 (y3 * (256 : Int)) + y6)) a4))
      (a4 ≠ (0 : Int) ∧ K y1 y2 (Int.tmod y3 a4)))) := spec_l00Src_pick.tx spec_l00Src_next.wp a1 a2 a3 a4 K

theorem spec_l04New.tx  (a1 : Int) (a2 : Int) (K : List Int → Int → Int → Prop) : spec_l04New.bd  a1 a2 K =
  (K (List.replicate (0 : Nat) (0 : Int)) a1 a2) := by kernel_rfl
theorem spec_l04New.eq (a1 : Int) (a2 : Int) (K : List Int → Int → Int → Prop) : spec_l04New.wp a1 a2 K =
  (K (List.replicate (0 : Nat) (0 : Int)) a1 a2) := spec_l04New.tx  a1 a2 K

theorem spec_l00Src_one.tx (w_spec_l00Src_pick : Int → Int → List Int → Int → (Int → Int → Int → Prop) → Prop) (a1 : Int) (a2 : Int) (a3 : List Int) (a4 : Int) (K : Int → Int → Bool → Prop) : spec_l00Src_one.bd w_spec_l00Src_pick a1 a2 a3 a4 K =
  (w_spec_l00Src_pick a1 a2 a3 a4 fun y1 y2 y3 => K y1 y2 (y3 == (0 : Int))) := by kernel_rfl
theorem spec_l00Src_one.eq (a1 : Int) (a2 : Int) (a3 : List Int) (a4 : Int) (K : Int → Int → Bool → Prop) : spec_l00Src_one.wp a1 a2 a3 a4 K =
  (Go.K.grains.spec_l00Src_pick.wp a1 a2 a3 a4 fun y1 y2 y3 => K y1 y2 (y3 == (0 : Int))) := spec_l00Src_one.tx spec_l00Src_pick.wp a1 a2 a3 a4 K

theorem spec_l04DrawOk.tx (w_spec_l00Src_pick : Int → Int → List Int → Int → (Int → Int → Int → Prop) → Prop) (w_spec_l04New : Int → Int → (List Int → Int → Int → Prop) → Prop) (w_spec_l00Src_one : Int → Int → List Int → Int → (Int → Int → Bool → Prop) → Prop) (a1 : Int) (a2 : Int) (a3 : List Int) (K : Int → Int → List Int → Int → Int → Prop) : spec_l04DrawOk.bd w_spec_l00Src_pick w_spec_l04New w_spec_l00Src_one a1 a2 a3 K =
  (w_spec_l00Src_pick a1 a2 a3 (6 : Int) fun y1 y2 y3 =>
  w_spec_l00Src_pick y1 y2 a3 (6 : Int) fun y4 y5 y6 =>
    w_spec_l04New (Go.IntKind.wrap Go.IntKind.i64 ((1 : Int) + y3)) (Go.IntKind.wrap Go.IntKind.i64 ((1 : Int) + y6)) fun y7 y8 y9 =>
      w_spec_l00Src_pick y4 y5 a3 (4 : Int) fun y10 y11 y12 =>
        ∀ (J13 : Int → Int → Int → Int → Int → Int → List Int → List Int → Int → Int → Prop),
          (∀ (x14 x15 x16 x17 x18 x19 : Int) (x20 x21 : List Int) (x22 x23 : Int),
              Go.K.ifB (Decidable.decide (x23 < Go.IntKind.wrap Go.IntKind.i64 (x18 * x19)))
                  (w_spec_l00Src_pick x14 x15 a3 x22 fun y24 y25 y26 =>
                    List.length (x21 ++ y26 :: List.replicate (0 : Nat) (0 : Int)) ≤ (1099511627776 : Nat) ∧
                      J13 y24 y25 x16 x17 x18 x19 x20 (x21 ++ y26 :: List.replicate (0 : Nat) (0 : Int)) x22 (Go.IntKind.wrap Go.IntKind.i64 (x23 + (1 : Int))))
                  (w_spec_l00Src_one x14 x15 a3 (4 : Int) fun y27 y28 y29 =>
                    Go.K.ifB y29 (((0 : Int) ≤ (0 : Int) ∧ (0 : Int) < (↑(List.length x21) : Int)) ∧ K y27 y28 (List.set x21 (Int.toNat (0 : Int)) (63 : Int)) x18 x19)
                      (K y27 y28 x21 x18 x19)) →
                J13 x14 x15 x16 x17 x18 x19 x20 x21 x22 x23) →
            J13 y10 y11 (0 : Int) (0 : Int) y8 y9 [] y7 (Go.IntKind.wrap Go.IntKind.i64 ((1 : Int) + y12)) (0 : Int)) := by kernel_rfl
theorem spec_l04DrawOk.eq (a1 : Int) (a2 : Int) (a3 : List Int) (K : Int → Int → List Int → Int → Int → Prop) : spec_l04DrawOk.wp a1 a2 a3 K =
  (Go.K.grains.spec_l00Src_pick.wp a1 a2 a3 (6 : Int) fun y1 y2 y3 =>
  Go.K.grains.spec_l00Src_pick.wp y1 y2 a3 (6 : Int) fun y4 y5 y6 =>
    Go.K.grains.spec_l04New.wp (Go.IntKind.wrap Go.IntKind.i64 ((1 : Int) + y3)) (Go.IntKind.wrap Go.IntKind.i64 ((1 : Int) + y6)) fun y7 y8 y9 =>
      Go.K.grains.spec_l00Src_pick.wp y4 y5 a3 (4 : Int) fun y10 y11 y12 =>
        ∀ (J13 : Int → Int → Int → Int → Int → Int → List Int → List Int → Int → Int → Prop),
          (∀ (x14 x15 x16 x17 x18 x19 : Int) (x20 x21 : List Int) (x22 x23 : Int),
              Go.K.ifB (Decidable.decide (x23 < Go.IntKind.wrap Go.IntKind.i64 (x18 * x19)))
                  (Go.K.grains.spec_l00Src_pick.wp x14 x15 a3 x22 fun y24 y25 y26 =>
                    List.length (x21 ++ y26 :: List.replicate (0 : Nat) (0 : Int)) ≤ (1099511627776 : Nat) ∧
                      J13 y24 y25 x16 x17 x18 x19 x20 (x21 ++ y26 :: List.replicate (0 : Nat) (0 : Int)) x22 (Go.IntKind.wrap Go.IntKind.i64 (x23 + (1 : Int))))
                  (Go.K.grains.spec_l00Src_one.wp x14 x15 a3 (4 : Int) fun y27 y28 y29 =>
                    Go.K.ifB y29 (((0 : Int) ≤ (0 : Int) ∧ (0 : Int) < (↑(List.length x21) : Int)) ∧ K y27 y28 (List.set x21 (Int.toNat (0 : Int)) (63 : Int)) x18 x19)
                      (K y27 y28 x21 x18 x19)) →
                J13 x14 x15 x16 x17 x18 x19 x20 x21 x22 x23) →
            J13 y10 y11 (0 : Int) (0 : Int) y8 y9 [] y7 (Go.IntKind.wrap Go.IntKind.i64 ((1 : Int) + y12)) (0 : Int)) := spec_l04DrawOk.tx spec_l00Src_pick.wp spec_l04New.wp spec_l00Src_one.wp a1 a2 a3 K

theorem spec_R8Grains.tx (w_spec_l00From : List Int → (Int → Int → Prop) → Prop) (w_spec_l04DrawOk : Int → Int → List Int → (Int → Int → List Int → Int → Int → Prop) → Prop) (a1 : List Int) (K : List Int → Int → Int → Prop) : spec_R8Grains.bd w_spec_l00From w_spec_l04DrawOk a1 K =
  (w_spec_l00From a1 fun y1 y2 => w_spec_l04DrawOk y1 y2 a1 fun y3 y4 y5 y6 y7 => K y5 y6 y7) := by kernel_rfl
theorem spec_R8Grains.eq (a1 : List Int) (K : List Int → Int → Int → Prop) : spec_R8Grains.wp a1 K =
  (Go.K.grains.spec_l00From.wp a1 fun y1 y2 => Go.K.grains.spec_l04DrawOk.wp y1 y2 a1 fun y3 y4 y5 y6 y7 => K y5 y6 y7) := spec_R8Grains.tx spec_l00From.wp spec_l04DrawOk.wp a1 K

theorem laws_r8At.tx  (a1 : List Int) (a2 : Int) (a3 : Int) (K : Int → Prop) : laws_r8At.bd  a1 a2 a3 K =
  (Go.K.ifB (Decidable.decide (a3 ≤ (1 : Int))) (K (0 : Int))
  (Go.K.ifB (Decidable.decide (a2 ≥ (↑(List.length a1) : Int))) (K (0 : Int))
    (((0 : Int) ≤ a2 ∧ a2 < (↑(List.length a1) : Int)) ∧
      a3 ≠ (0 : Int) ∧ K (Int.tmod (Go.IntKind.wrap Go.IntKind.i64 (List.getD a1 (Int.toNat a2) (0 : Int))) a3)))) := by kernel_rfl
theorem laws_r8At.eq (a1 : List Int) (a2 : Int) (a3 : Int) (K : Int → Prop) : laws_r8At.wp a1 a2 a3 K =
  (Go.K.ifB (Decidable.decide (a3 ≤ (1 : Int))) (K (0 : Int))
  (Go.K.ifB (Decidable.decide (a2 ≥ (↑(List.length a1) : Int))) (K (0 : Int))
    (((0 : Int) ≤ a2 ∧ a2 < (↑(List.length a1) : Int)) ∧
      a3 ≠ (0 : Int) ∧ K (Int.tmod (Go.IntKind.wrap Go.IntKind.i64 (List.getD a1 (Int.toNat a2) (0 : Int))) a3)))) := laws_r8At.tx  a1 a2 a3 K

theorem impl_within.tx  (a1 : Int) (a2 : Int) (a3 : Int) (K : Bool → Prop) : impl_within.bd  a1 a2 a3 K =
  (Go.K.ifB (Decidable.decide (a2 ≤ a1)) (K (Decidable.decide (a1 ≤ a3))) (K Bool.false)) := by kernel_rfl
theorem impl_within.eq (a1 : Int) (a2 : Int) (a3 : Int) (K : Bool → Prop) : impl_within.wp a1 a2 a3 K =
  (Go.K.ifB (Decidable.decide (a2 ≤ a1)) (K (Decidable.decide (a1 ≤ a3))) (K Bool.false)) := impl_within.tx  a1 a2 a3 K

theorem impl_areWithin_1.tx (w_impl_within : Int → Int → Int → (Bool → Prop) → Prop) (a1 : Int) (a2 : Int) (a3 : Int) (K : Bool → Prop) : impl_areWithin_1.bd w_impl_within a1 a2 a3 K =
  (w_impl_within a3 a1 a2 fun y1 => K !y1) := by kernel_rfl
theorem impl_areWithin_1.eq (a1 : Int) (a2 : Int) (a3 : Int) (K : Bool → Prop) : impl_areWithin_1.wp a1 a2 a3 K =
  (Go.K.grains.impl_within.wp a3 a1 a2 fun y1 => K !y1) := impl_areWithin_1.tx impl_within.wp a1 a2 a3 K

theorem slices_IndexFunc_int64_int64__areWithin_1.tx (w_impl_areWithin_1 : Int → Int → Int → (Bool → Prop) → Prop) (a1 : List Int) (a2 : Int) (a3 : Int) (K : Int → Prop) : slices_IndexFunc_int64_int64__areWithin_1.bd w_impl_areWithin_1 a1 a2 a3 K =
  (∀ (J1 : Int → Int → Prop),
  (∀ (x2 x3 : Int),
      Go.K.ifB (Decidable.decide (x3 < x2))
          (((0 : Int) ≤ x3 ∧ x3 < (↑(List.length a1) : Int)) ∧
            w_impl_areWithin_1 a2 a3 (List.getD a1 (Int.toNat x3) (0 : Int)) fun y4 => Go.K.ifB y4 (K x3) (J1 x2 (Go.IntKind.wrap Go.IntKind.i64 (x3 + (1 : Int)))))
          (K (-1 : Int)) →
        J1 x2 x3) →
    J1 (↑(List.length a1) : Int) (0 : Int)) := by kernel_rfl
theorem slices_IndexFunc_int64_int64__areWithin_1.eq (a1 : List Int) (a2 : Int) (a3 : Int) (K : Int → Prop) : slices_IndexFunc_int64_int64__areWithin_1.wp a1 a2 a3 K =
  (∀ (J1 : Int → Int → Prop),
  (∀ (x2 x3 : Int),
      Go.K.ifB (Decidable.decide (x3 < x2))
          (((0 : Int) ≤ x3 ∧ x3 < (↑(List.length a1) : Int)) ∧
            Go.K.grains.impl_areWithin_1.wp a2 a3 (List.getD a1 (Int.toNat x3) (0 : Int)) fun y4 => Go.K.ifB y4 (K x3) (J1 x2 (Go.IntKind.wrap Go.IntKind.i64 (x3 + (1 : Int)))))
          (K (-1 : Int)) →
        J1 x2 x3) →
    J1 (↑(List.length a1) : Int) (0 : Int)) := slices_IndexFunc_int64_int64__areWithin_1.tx impl_areWithin_1.wp a1 a2 a3 K

theorem slices_ContainsFunc_int64_int64__areWithin_1.tx (w_slices_IndexFunc_int64_int64__areWithin_1 : List Int → Int → Int → (Int → Prop) → Prop) (a1 : List Int) (a2 : Int) (a3 : Int) (K : Bool → Prop) : slices_ContainsFunc_int64_int64__areWithin_1.bd w_slices_IndexFunc_int64_int64__areWithin_1 a1 a2 a3 K =
  (w_slices_IndexFunc_int64_int64__areWithin_1 a1 a2 a3 fun y1 => K (Decidable.decide (y1 ≥ (0 : Int)))) := by kernel_rfl
theorem slices_ContainsFunc_int64_int64__areWithin_1.eq (a1 : List Int) (a2 : Int) (a3 : Int) (K : Bool → Prop) : slices_ContainsFunc_int64_int64__areWithin_1.wp a1 a2 a3 K =
  (Go.K.grains.slices_IndexFunc_int64_int64__areWithin_1.wp a1 a2 a3 fun y1 => K (Decidable.decide (y1 ≥ (0 : Int)))) := slices_ContainsFunc_int64_int64__areWithin_1.tx slices_IndexFunc_int64_int64__areWithin_1.wp a1 a2 a3 K

theorem impl_areWithin.tx (w_slices_ContainsFunc_int64_int64__areWithin_1 : List Int → Int → Int → (Bool → Prop) → Prop) (a1 : List Int) (a2 : Int) (a3 : Int) (K : Bool → Prop) : impl_areWithin.bd w_slices_ContainsFunc_int64_int64__areWithin_1 a1 a2 a3 K =
  (w_slices_ContainsFunc_int64_int64__areWithin_1 a1 a2 a3 fun y1 => K !y1) := by kernel_rfl
theorem impl_areWithin.eq (a1 : List Int) (a2 : Int) (a3 : Int) (K : Bool → Prop) : impl_areWithin.wp a1 a2 a3 K =
  (Go.K.grains.slices_ContainsFunc_int64_int64__areWithin_1.wp a1 a2 a3 fun y1 => K !y1) := impl_areWithin.tx slices_ContainsFunc_int64_int64__areWithin_1.wp a1 a2 a3 K

theorem impl_ValidGrains.tx (w_impl_areWithin : List Int → Int → Int → (Bool → Prop) → Prop) (a1 : List Int) (a2 : Int) (a3 : Int) (K : Bool → Prop) : impl_ValidGrains.bd w_impl_areWithin a1 a2 a3 K =
  (w_impl_areWithin (a2 :: a3 :: List.replicate (0 : Nat) (0 : Int)) (1 : Int) (16 : Int) fun y1 =>
  Go.K.ifB y1
    (Go.K.ifB ((↑(List.length a1) : Int) == Go.IntKind.wrap Go.IntKind.i64 (a2 * a3)) (w_impl_areWithin a1 (0 : Int) (63 : Int) fun y2 => K y2) (K Bool.false))
    (K Bool.false)) := by kernel_rfl
theorem impl_ValidGrains.eq (a1 : List Int) (a2 : Int) (a3 : Int) (K : Bool → Prop) : impl_ValidGrains.wp a1 a2 a3 K =
  (Go.K.grains.impl_areWithin.wp (a2 :: a3 :: List.replicate (0 : Nat) (0 : Int)) (1 : Int) (16 : Int) fun y1 =>
  Go.K.ifB y1
    (Go.K.ifB ((↑(List.length a1) : Int) == Go.IntKind.wrap Go.IntKind.i64 (a2 * a3)) (Go.K.grains.impl_areWithin.wp a1 (0 : Int) (63 : Int) fun y2 => K y2) (K Bool.false))
    (K Bool.false)) := impl_ValidGrains.tx impl_areWithin.wp a1 a2 a3 K

theorem slices_Clone_int64_int64.tx  (a1 : List Int) (K : List Int → Prop) : slices_Clone_int64_int64.bd  a1 K =
  (List.length a1 ≠ (0 : Nat) ∧ List.length (List.replicate (0 : Nat) (0 : Int) ++ a1) ≤ (1099511627776 : Nat) ∧ K (List.replicate (0 : Nat) (0 : Int) ++ a1)) := by kernel_rfl
theorem slices_Clone_int64_int64.eq (a1 : List Int) (K : List Int → Prop) : slices_Clone_int64_int64.wp a1 K =
  (List.length a1 ≠ (0 : Nat) ∧ List.length (List.replicate (0 : Nat) (0 : Int) ++ a1) ≤ (1099511627776 : Nat) ∧ K (List.replicate (0 : Nat) (0 : Int) ++ a1)) := slices_Clone_int64_int64.tx  a1 K

theorem impl_place.tx  (a1 : Int) (a2 : Int) (a3 : Bool) (K : Int → Prop) : impl_place.bd  a1 a2 a3 K =
  (Go.K.ifB a3 (a2 ≠ (0 : Int) ∧ a2 ≠ (0 : Int) ∧ K (Int.tmod (Go.IntKind.wrap Go.IntKind.i64 (Int.tmod a1 a2 + a2)) a2))
  (K (Go.K.mmI Bool.false (Go.K.mmI Bool.true a1 (0 : Int)) (Go.IntKind.wrap Go.IntKind.i64 (a2 - (1 : Int)))))) := by kernel_rfl
theorem impl_place.eq (a1 : Int) (a2 : Int) (a3 : Bool) (K : Int → Prop) : impl_place.wp a1 a2 a3 K =
  (Go.K.ifB a3 (a2 ≠ (0 : Int) ∧ a2 ≠ (0 : Int) ∧ K (Int.tmod (Go.IntKind.wrap Go.IntKind.i64 (Int.tmod a1 a2 + a2)) a2))
  (K (Go.K.mmI Bool.false (Go.K.mmI Bool.true a1 (0 : Int)) (Go.IntKind.wrap Go.IntKind.i64 (a2 - (1 : Int)))))) := impl_place.tx  a1 a2 a3 K

theorem impl_Grains_cell.tx (w_impl_place : Int → Int → Bool → (Int → Prop) → Prop) (a1 : List Int) (a2 : Int) (a3 : Int) (a4 : Int) (a5 : Int) (K : Int → Prop) : impl_Grains_cell.bd w_impl_place a1 a2 a3 a4 a5 K =
  (w_impl_place a4 a2 Bool.true fun y1 =>
  w_impl_place a5 a3 Bool.true fun y2 => K (Go.IntKind.wrap Go.IntKind.i64 (y1 + Go.IntKind.wrap Go.IntKind.i64 (a2 * y2)))) := by kernel_rfl
theorem impl_Grains_cell.eq (a1 : List Int) (a2 : Int) (a3 : Int) (a4 : Int) (a5 : Int) (K : Int → Prop) : impl_Grains_cell.wp a1 a2 a3 a4 a5 K =
  (Go.K.grains.impl_place.wp a4 a2 Bool.true fun y1 =>
  Go.K.grains.impl_place.wp a5 a3 Bool.true fun y2 => K (Go.IntKind.wrap Go.IntKind.i64 (y1 + Go.IntKind.wrap Go.IntKind.i64 (a2 * y2)))) := impl_Grains_cell.tx impl_place.wp a1 a2 a3 a4 a5 K

theorem impl_Grains_about.tx (w_impl_Grains_cell : List Int → Int → Int → Int → Int → (Int → Prop) → Prop) (a1 : List Int) (a2 : Int) (a3 : Int) (a4 : Int) (a5 : Int) (K : Int → Prop) : impl_Grains_about.bd w_impl_Grains_cell a1 a2 a3 a4 a5 K =
  (w_impl_Grains_cell a1 a2 a3 a4 a5 fun y1 => ((0 : Int) ≤ y1 ∧ y1 < (↑(List.length a1) : Int)) ∧ K (List.getD a1 (Int.toNat y1) (0 : Int))) := by kernel_rfl
theorem impl_Grains_about.eq (a1 : List Int) (a2 : Int) (a3 : Int) (a4 : Int) (a5 : Int) (K : Int → Prop) : impl_Grains_about.wp a1 a2 a3 a4 a5 K =
  (Go.K.grains.impl_Grains_cell.wp a1 a2 a3 a4 a5 fun y1 => ((0 : Int) ≤ y1 ∧ y1 < (↑(List.length a1) : Int)) ∧ K (List.getD a1 (Int.toNat y1) (0 : Int))) := impl_Grains_about.tx impl_Grains_cell.wp a1 a2 a3 a4 a5 K

theorem impl_Grains_around.tx (w_impl_Grains_about : List Int → Int → Int → Int → Int → (Int → Prop) → Prop) (a1 : List Int) (a2 : Int) (a3 : Int) (a4 : Int) (a5 : Int) (K : List Int → Prop) : impl_Grains_around.bd w_impl_Grains_about a1 a2 a3 a4 a5 K =
  (∀ (J1 : Int → Int → List Int → Int → Int → Int → Int → Int → Int → Int → Int → Int → Int → Int → Int → Int → Int → Int → Int → Int → Prop),
  (∀ (x2 x3 : Int) (x4 : List Int) (x5 x6 x7 x8 x9 x10 x11 x12 x13 x14 x15 x16 x17 x18 x19 x20 x21 : Int),
      Go.K.ifB (Decidable.decide (x21 < (8 : Int)))
          (((0 : Int) ≤ x21 ∧ x21 < (8 : Int)) ∧
            (2 : Nat) = (2 : Nat) ∧
              ((0 : Int) ≤ (0 : Int) ∧ (0 : Int) < (2 : Int) ∧ Int.toNat (0 : Int) < (2 : Nat)) ∧
                ((0 : Int) ≤ (1 : Int) ∧ (1 : Int) < (2 : Int) ∧ Int.toNat (1 : Int) < (2 : Nat)) ∧
                  w_impl_Grains_about a1 x2 x3
                    (Go.IntKind.wrap Go.IntKind.i64
                      (a4 +
                        List.getD
                          (List.getD [x5, x6, x7, x8, x9, x10, x11, x12, x13, x14, x15, x16, x17, x18, x19, x20] (Int.toNat x21 * (2 : Nat)) (0 : Int) ::
                            List.getD [x5, x6, x7, x8, x9, x10, x11, x12, x13, x14, x15, x16, x17, x18, x19, x20] (Int.toNat x21 * (2 : Nat) + (1 : Nat)) (0 : Int) ::
                              List.replicate (0 : Nat) (0 : Int))
                          (Int.toNat (0 : Int)) (0 : Int)))
                    (Go.IntKind.wrap Go.IntKind.i64
                      (a5 +
                        List.getD
                          (List.getD [x5, x6, x7, x8, x9, x10, x11, x12, x13, x14, x15, x16, x17, x18, x19, x20] (Int.toNat x21 * (2 : Nat)) (0 : Int) ::
                            List.getD [x5, x6, x7, x8, x9, x10, x11, x12, x13, x14, x15, x16, x17, x18, x19, x20] (Int.toNat x21 * (2 : Nat) + (1 : Nat)) (0 : Int) ::
                              List.replicate (0 : Nat) (0 : Int))
                          (Int.toNat (1 : Int)) (0 : Int)))
                    fun y22 =>
                    List.length (x4 ++ y22 :: List.replicate (0 : Nat) (0 : Int)) ≤ (1099511627776 : Nat) ∧
                      J1 x2 x3 (x4 ++ y22 :: List.replicate (0 : Nat) (0 : Int)) x5 x6 x7 x8 x9 x10 x11 x12 x13 x14 x15 x16 x17 x18 x19 x20
                        (Go.IntKind.wrap Go.IntKind.i64 (x21 + (1 : Int))))
          (K x4) →
        J1 x2 x3 x4 x5 x6 x7 x8 x9 x10 x11 x12 x13 x14 x15 x16 x17 x18 x19 x20 x21) →
    J1 a2 a3 (List.replicate (0 : Nat) (0 : Int)) (-1 : Int) (0 : Int) (1 : Int) (0 : Int) (0 : Int) (-1 : Int) (0 : Int) (1 : Int) (-1 : Int) (-1 : Int) (1 : Int) (-1 : Int)
      (-1 : Int) (1 : Int) (1 : Int) (1 : Int) (0 : Int)) := by kernel_rfl
theorem impl_Grains_around.eq (a1 : List Int) (a2 : Int) (a3 : Int) (a4 : Int) (a5 : Int) (K : List Int → Prop) : impl_Grains_around.wp a1 a2 a3 a4 a5 K =
  (∀ (J1 : Int → Int → List Int → Int → Int → Int → Int → Int → Int → Int → Int → Int → Int → Int → Int → Int → Int → Int → Int → Int → Prop),
  (∀ (x2 x3 : Int) (x4 : List Int) (x5 x6 x7 x8 x9 x10 x11 x12 x13 x14 x15 x16 x17 x18 x19 x20 x21 : Int),
      Go.K.ifB (Decidable.decide (x21 < (8 : Int)))
          (((0 : Int) ≤ x21 ∧ x21 < (8 : Int)) ∧
            (2 : Nat) = (2 : Nat) ∧
              ((0 : Int) ≤ (0 : Int) ∧ (0 : Int) < (2 : Int) ∧ Int.toNat (0 : Int) < (2 : Nat)) ∧
                ((0 : Int) ≤ (1 : Int) ∧ (1 : Int) < (2 : Int) ∧ Int.toNat (1 : Int) < (2 : Nat)) ∧
                  Go.K.grains.impl_Grains_about.wp a1 x2 x3
                    (Go.IntKind.wrap Go.IntKind.i64
                      (a4 +
                        List.getD
                          (List.getD [x5, x6, x7, x8, x9, x10, x11, x12, x13, x14, x15, x16, x17, x18, x19, x20] (Int.toNat x21 * (2 : Nat)) (0 : Int) ::
                            List.getD [x5, x6, x7, x8, x9, x10, x11, x12, x13, x14, x15, x16, x17, x18, x19, x20] (Int.toNat x21 * (2 : Nat) + (1 : Nat)) (0 : Int) ::
                              List.replicate (0 : Nat) (0 : Int))
                          (Int.toNat (0 : Int)) (0 : Int)))
                    (Go.IntKind.wrap Go.IntKind.i64
                      (a5 +
                        List.getD
                          (List.getD [x5, x6, x7, x8, x9, x10, x11, x12, x13, x14, x15, x16, x17, x18, x19, x20] (Int.toNat x21 * (2 : Nat)) (0 : Int) ::
                            List.getD [x5, x6, x7, x8, x9, x10, x11, x12, x13, x14, x15, x16, x17, x18, x19, x20] (Int.toNat x21 * (2 : Nat) + (1 : Nat)) (0 : Int) ::
                              List.replicate (0 : Nat) (0 : Int))
                          (Int.toNat (1 : Int)) (0 : Int)))
                    fun y22 =>
                    List.length (x4 ++ y22 :: List.replicate (0 : Nat) (0 : Int)) ≤ (1099511627776 : Nat) ∧
                      J1 x2 x3 (x4 ++ y22 :: List.replicate (0 : Nat) (0 : Int)) x5 x6 x7 x8 x9 x10 x11 x12 x13 x14 x15 x16 x17 x18 x19 x20
                        (Go.IntKind.wrap Go.IntKind.i64 (x21 + (1 : Int))))
          (K x4) →
        J1 x2 x3 x4 x5 x6 x7 x8 x9 x10 x11 x12 x13 x14 x15 x16 x17 x18 x19 x20 x21) →
    J1 a2 a3 (List.replicate (0 : Nat) (0 : Int)) (-1 : Int) (0 : Int) (1 : Int) (0 : Int) (0 : Int) (-1 : Int) (0 : Int) (1 : Int) (-1 : Int) (-1 : Int) (1 : Int) (-1 : Int)
      (-1 : Int) (1 : Int) (1 : Int) (1 : Int) (0 : Int)) := impl_Grains_around.tx impl_Grains_about.wp a1 a2 a3 a4 a5 K

theorem impl_Grains_majority.tx (w_impl_Grains_about : List Int → Int → Int → Int → Int → (Int → Prop) → Prop) (w_impl_Grains_around : List Int → Int → Int → Int → Int → (List Int → Prop) → Prop) (a1 : List Int) (a2 : Int) (a3 : Int) (a4 : Int) (a5 : Int) (K : Int → Prop) : impl_Grains_majority.bd w_impl_Grains_about w_impl_Grains_around a1 a2 a3 a4 a5 K =
  (w_impl_Grains_about a1 a2 a3 a4 a5 fun y1 =>
  (64 : Nat) = (64 : Nat) ∧
    w_impl_Grains_around a1 a2 a3 a4 a5 fun y2 =>
      List.length (y2 ++ y1 :: List.replicate (0 : Nat) (0 : Int)) ≤ (1099511627776 : Nat) ∧
        ∀ (J3 : List Int → List Int → Int → Int → Int → Prop),
          (∀ (x4 x5 : List Int) (x6 x7 x8 : Int),
              Go.K.ifB (Decidable.decide (x8 < x7))
                  (((0 : Int) ≤ x8 ∧ x8 < (↑(List.length x5) : Int)) ∧
                    ((0 : Int) ≤ List.getD x5 (Int.toNat x8) (0 : Int) ∧
                        List.getD x5 (Int.toNat x8) (0 : Int) < (64 : Int) ∧ Int.toNat (List.getD x5 (Int.toNat x8) (0 : Int)) < List.length x4) ∧
                      ((0 : Int) ≤ List.getD x5 (Int.toNat x8) (0 : Int) ∧
                          List.getD x5 (Int.toNat x8) (0 : Int) < (64 : Int) ∧ Int.toNat (List.getD x5 (Int.toNat x8) (0 : Int)) < List.length x4) ∧
                        J3
                          (List.set x4 (Int.toNat (List.getD x5 (Int.toNat x8) (0 : Int)))
                            (Go.IntKind.wrap Go.IntKind.i64 (List.getD x4 (Int.toNat (List.getD x5 (Int.toNat x8) (0 : Int))) (0 : Int) + (1 : Int))))
                          x5 x6 x7 (Go.IntKind.wrap Go.IntKind.i64 (x8 + (1 : Int))))
                  (List.length x4 = (64 : Nat) ∧
                    ∀ (J9 : List Int → List Int → Int → Int → Prop),
                      (∀ (x10 x11 : List Int) (x12 x13 : Int),
                          Go.K.ifB (Decidable.decide (x13 < (64 : Int)))
                              (((0 : Int) ≤ x13 ∧ x13 < (64 : Int) ∧ Int.toNat x13 < List.length x11) ∧
                                ((0 : Int) ≤ x12 ∧ x12 < (64 : Int) ∧ Int.toNat x12 < List.length x10) ∧
                                  Go.K.ifB (Decidable.decide (List.getD x11 (Int.toNat x13) (0 : Int) > List.getD x10 (Int.toNat x12) (0 : Int)))
                                    (J9 x10 x11 x13 (Go.IntKind.wrap Go.IntKind.i64 (x13 + (1 : Int)))) (J9 x10 x11 x12 (Go.IntKind.wrap Go.IntKind.i64 (x13 + (1 : Int)))))
                              (K x12) →
                            J9 x10 x11 x12 x13) →
                        J9 x4 x4 x6 (0 : Int)) →
                J3 x4 x5 x6 x7 x8) →
            J3
              ((0 : Int) ::
                (0 : Int) ::
                  (0 : Int) ::
                    (0 : Int) ::
                      (0 : Int) ::
                        (0 : Int) ::
                          (0 : Int) ::
                            (0 : Int) ::
                              (0 : Int) ::
                                (0 : Int) ::
                                  (0 : Int) ::
                                    (0 : Int) ::
                                      (0 : Int) ::
                                        (0 : Int) ::
                                          (0 : Int) ::
                                            (0 : Int) ::
                                              (0 : Int) ::
                                                (0 : Int) ::
                                                  (0 : Int) ::
                                                    (0 : Int) ::
                                                      (0 : Int) ::
                                                        (0 : Int) ::
                                                          (0 : Int) ::
                                                            (0 : Int) ::
                                                              (0 : Int) ::
                                                                (0 : Int) ::
                                                                  (0 : Int) ::
                                                                    (0 : Int) ::
                                                                      (0 : Int) ::
                                                                        (0 : Int) ::
                                                                          (0 : Int) ::
                                                                            (0 : Int) ::
                                                                              (0 : Int) ::
                                                                                (0 : Int) ::
                                                                                  (0 : Int) ::
                                                                                    (0 : Int) ::
                                                                                      (0 : Int) ::
                                                                                        (0 : Int) ::
                                                                                          (0 : Int) ::
                                                                                            (0 : Int) ::
                                                                                              (0 : Int) ::
                                                                                                (0 : Int) ::
                                                                                                  (0 : Int) ::
                                                                                                    (0 : Int) ::
                                                                                                      (0 : Int) ::
                                                                                                        (0 : Int) ::
                                                                                                          (0 : Int) ::
                                                                                                            (0 : Int) ::
                                                                                                              (0 : Int) ::
                                                                                                                (0 : Int) ::
                                                                                                                  (0 : Int) ::
                                                                                                                    (0 : Int) ::
                                                                                                                      (0 : Int) ::
                                                                                                                        (0 : Int) ::
                                                                                                                          (0 : Int) ::
                                                                                                                            (0 : Int) ::
                                                                                                                              (0 : Int) ::
                                                                                                                                (0 : Int) ::
                                                                                                                                  (0 : Int) ::
                                                                                                                                    (0 : Int) ::
                                                                                                                                      (0 : Int) ::
                                                                                                                                        (0 : Int) ::
                                                                                                                                          (0 : Int) ::
                                                                                                                                            (0 : Int) ::
                                                                                                                                              List.replicate (0 : Nat) (0 : Int))
              (y2 ++ y1 :: List.replicate (0 : Nat) (0 : Int)) y1 (↑(List.length (y2 ++ y1 :: List.replicate (0 : Nat) (0 : Int))) : Int) (0 : Int)) := by kernel_rfl
theorem impl_Grains_majority.eq (a1 : List Int) (a2 : Int) (a3 : Int) (a4 : Int) (a5 : Int) (K : Int → Prop) : impl_Grains_majority.wp a1 a2 a3 a4 a5 K =
  (Go.K.grains.impl_Grains_about.wp a1 a2 a3 a4 a5 fun y1 =>
  (64 : Nat) = (64 : Nat) ∧
    Go.K.grains.impl_Grains_around.wp a1 a2 a3 a4 a5 fun y2 =>
      List.length (y2 ++ y1 :: List.replicate (0 : Nat) (0 : Int)) ≤ (1099511627776 : Nat) ∧
        ∀ (J3 : List Int → List Int → Int → Int → Int → Prop),
          (∀ (x4 x5 : List Int) (x6 x7 x8 : Int),
              Go.K.ifB (Decidable.decide (x8 < x7))
                  (((0 : Int) ≤ x8 ∧ x8 < (↑(List.length x5) : Int)) ∧
                    ((0 : Int) ≤ List.getD x5 (Int.toNat x8) (0 : Int) ∧
                        List.getD x5 (Int.toNat x8) (0 : Int) < (64 : Int) ∧ Int.toNat (List.getD x5 (Int.toNat x8) (0 : Int)) < List.length x4) ∧
                      ((0 : Int) ≤ List.getD x5 (Int.toNat x8) (0 : Int) ∧
                          List.getD x5 (Int.toNat x8) (0 : Int) < (64 : Int) ∧ Int.toNat (List.getD x5 (Int.toNat x8) (0 : Int)) < List.length x4) ∧
                        J3
                          (List.set x4 (Int.toNat (List.getD x5 (Int.toNat x8) (0 : Int)))
                            (Go.IntKind.wrap Go.IntKind.i64 (List.getD x4 (Int.toNat (List.getD x5 (Int.toNat x8) (0 : Int))) (0 : Int) + (1 : Int))))
                          x5 x6 x7 (Go.IntKind.wrap Go.IntKind.i64 (x8 + (1 : Int))))
                  (List.length x4 = (64 : Nat) ∧
                    ∀ (J9 : List Int → List Int → Int → Int → Prop),
                      (∀ (x10 x11 : List Int) (x12 x13 : Int),
                          Go.K.ifB (Decidable.decide (x13 < (64 : Int)))
                              (((0 : Int) ≤ x13 ∧ x13 < (64 : Int) ∧ Int.toNat x13 < List.length x11) ∧
                                ((0 : Int) ≤ x12 ∧ x12 < (64 : Int) ∧ Int.toNat x12 < List.length x10) ∧
                                  Go.K.ifB (Decidable.decide (List.getD x11 (Int.toNat x13) (0 : Int) > List.getD x10 (Int.toNat x12) (0 : Int)))
                                    (J9 x10 x11 x13 (Go.IntKind.wrap Go.IntKind.i64 (x13 + (1 : Int)))) (J9 x10 x11 x12 (Go.IntKind.wrap Go.IntKind.i64 (x13 + (1 : Int)))))
                              (K x12) →
                            J9 x10 x11 x12 x13) →
                        J9 x4 x4 x6 (0 : Int)) →
                J3 x4 x5 x6 x7 x8) →
            J3
              ((0 : Int) ::
                (0 : Int) ::
                  (0 : Int) ::
                    (0 : Int) ::
                      (0 : Int) ::
                        (0 : Int) ::
                          (0 : Int) ::
                            (0 : Int) ::
                              (0 : Int) ::
                                (0 : Int) ::
                                  (0 : Int) ::
                                    (0 : Int) ::
                                      (0 : Int) ::
                                        (0 : Int) ::
                                          (0 : Int) ::
                                            (0 : Int) ::
                                              (0 : Int) ::
                                                (0 : Int) ::
                                                  (0 : Int) ::
                                                    (0 : Int) ::
                                                      (0 : Int) ::
                                                        (0 : Int) ::
                                                          (0 : Int) ::
                                                            (0 : Int) ::
                                                              (0 : Int) ::
                                                                (0 : Int) ::
                                                                  (0 : Int) ::
                                                                    (0 : Int) ::
                                                                      (0 : Int) ::
                                                                        (0 : Int) ::
                                                                          (0 : Int) ::
                                                                            (0 : Int) ::
                                                                              (0 : Int) ::
                                                                                (0 : Int) ::
                                                                                  (0 : Int) ::
                                                                                    (0 : Int) ::
                                                                                      (0 : Int) ::
                                                                                        (0 : Int) ::
                                                                                          (0 : Int) ::
                                                                                            (0 : Int) ::
                                                                                              (0 : Int) ::
                                                                                                (0 : Int) ::
                                                                                                  (0 : Int) ::
                                                                                                    (0 : Int) ::
                                                                                                      (0 : Int) ::
                                                                                                        (0 : Int) ::
                                                                                                          (0 : Int) ::
                                                                                                            (0 : Int) ::
                                                                                                              (0 : Int) ::
                                                                                                                (0 : Int) ::
                                                                                                                  (0 : Int) ::
                                                                                                                    (0 : Int) ::
                                                                                                                      (0 : Int) ::
                                                                                                                        (0 : Int) ::
                                                                                                                          (0 : Int) ::
                                                                                                                            (0 : Int) ::
                                                                                                                              (0 : Int) ::
                                                                                                                                (0 : Int) ::
                                                                                                                                  (0 : Int) ::
                                                                                                                                    (0 : Int) ::
                                                                                                                                      (0 : Int) ::
                                                                                                                                        (0 : Int) ::
                                                                                                                                          (0 : Int) ::
                                                                                                                                            (0 : Int) ::
                                                                                                                                              List.replicate (0 : Nat) (0 : Int))
              (y2 ++ y1 :: List.replicate (0 : Nat) (0 : Int)) y1 (↑(List.length (y2 ++ y1 :: List.replicate (0 : Nat) (0 : Int))) : Int) (0 : Int)) := impl_Grains_majority.tx impl_Grains_about.wp impl_Grains_around.wp a1 a2 a3 a4 a5 K

theorem impl_grown__Grains_majority.tx (w_impl_Grains_majority : List Int → Int → Int → Int → Int → (Int → Prop) → Prop) (a1 : List
  Int) (a2 : Int) (a3 : Int) (a4 : Int) (a5 : Int) (K : List Int → Int → Int → Prop) : impl_grown__Grains_majority.bd w_impl_Grains_majority a1 a2 a3 a4 a5 K =
  (∀ (J1 : Int → Int → Int → Int → List Int → List Int → Int → Int → Prop),
  (∀ (x2 x3 x4 x5 : Int) (x6 x7 : List Int) (x8 x9 : Int),
      Go.K.ifB (Decidable.decide (x9 < x8))
          (∀ (J10 : Int → Int → Int → Int → List Int → List Int → Int → Int → Int → Int → Int → Prop),
            (∀ (x11 x12 x13 x14 : Int) (x15 x16 : List Int) (x17 x18 x19 x20 x21 : Int),
                Go.K.ifB (Decidable.decide (x21 < x20))
                    (w_impl_Grains_majority a1 a4 a5 x21 x17 fun y22 =>
                      List.length (x16 ++ y22 :: List.replicate (0 : Nat) (0 : Int)) ≤ (1099511627776 : Nat) ∧
                        J10 x11 x12 x13 x14 x15 (x16 ++ y22 :: List.replicate (0 : Nat) (0 : Int)) x17 x18 x19 x20 (Go.IntKind.wrap Go.IntKind.i64 (x21 + (1 : Int))))
                    (J1 x11 x12 x13 x14 x15 x16 x18 (Go.IntKind.wrap Go.IntKind.i64 (x19 + (1 : Int)))) →
                  J10 x11 x12 x13 x14 x15 x16 x17 x18 x19 x20 x21) →
              J10 x2 x3 x4 x5 x6 x7 x9 x8 x9 a2 (0 : Int))
          (K x7 x4 x5) →
        J1 x2 x3 x4 x5 x6 x7 x8 x9) →
    J1 (0 : Int) (0 : Int) a2 a3 [] (List.replicate (0 : Nat) (0 : Int)) a3 (0 : Int)) := by kernel_rfl
theorem impl_grown__Grains_majority.eq (a1 : List
  Int) (a2 : Int) (a3 : Int) (a4 : Int) (a5 : Int) (K : List Int → Int → Int → Prop) : impl_grown__Grains_majority.wp a1 a2 a3 a4 a5 K =
  (∀ (J1 : Int → Int → Int → Int → List Int → List Int → Int → Int → Prop),
  (∀ (x2 x3 x4 x5 : Int) (x6 x7 : List Int) (x8 x9 : Int),
      Go.K.ifB (Decidable.decide (x9 < x8))
          (∀ (J10 : Int → Int → Int → Int → List Int → List Int → Int → Int → Int → Int → Int → Prop),
            (∀ (x11 x12 x13 x14 : Int) (x15 x16 : List Int) (x17 x18 x19 x20 x21 : Int),
                Go.K.ifB (Decidable.decide (x21 < x20))
                    (Go.K.grains.impl_Grains_majority.wp a1 a4 a5 x21 x17 fun y22 =>
                      List.length (x16 ++ y22 :: List.replicate (0 : Nat) (0 : Int)) ≤ (1099511627776 : Nat) ∧
                        J10 x11 x12 x13 x14 x15 (x16 ++ y22 :: List.replicate (0 : Nat) (0 : Int)) x17 x18 x19 x20 (Go.IntKind.wrap Go.IntKind.i64 (x21 + (1 : Int))))
                    (J1 x11 x12 x13 x14 x15 x16 x18 (Go.IntKind.wrap Go.IntKind.i64 (x19 + (1 : Int)))) →
                  J10 x11 x12 x13 x14 x15 x16 x17 x18 x19 x20 x21) →
              J10 x2 x3 x4 x5 x6 x7 x9 x8 x9 a2 (0 : Int))
          (K x7 x4 x5) →
        J1 x2 x3 x4 x5 x6 x7 x8 x9) →
    J1 (0 : Int) (0 : Int) a2 a3 [] (List.replicate (0 : Nat) (0 : Int)) a3 (0 : Int)) := impl_grown__Grains_majority.tx impl_Grains_majority.wp a1 a2 a3 a4 a5 K

theorem slices_Equal_int64_int64.tx  (a1 : List Int) (a2 : List Int) (K : Bool → Prop) : slices_Equal_int64_int64.bd  a1 a2 K =
  (Go.K.ifB ((↑(List.length a1) : Int) != (↑(List.length a2) : Int)) (K Bool.false)
  (∀ (J1 : Int → Int → Prop),
    (∀ (x2 x3 : Int),
        Go.K.ifB (Decidable.decide (x3 < x2))
            (((0 : Int) ≤ x3 ∧ x3 < (↑(List.length a1) : Int)) ∧
              ((0 : Int) ≤ x3 ∧ x3 < (↑(List.length a2) : Int)) ∧
                Go.K.ifB (List.getD a1 (Int.toNat x3) (0 : Int) != List.getD a2 (Int.toNat x3) (0 : Int)) (K Bool.false) (J1 x2 (Go.IntKind.wrap Go.IntKind.i64 (x3 + (1 : Int)))))
            (K Bool.true) →
          J1 x2 x3) →
      J1 (↑(List.length a1) : Int) (0 : Int))) := by kernel_rfl
theorem slices_Equal_int64_int64.eq (a1 : List Int) (a2 : List Int) (K : Bool → Prop) : slices_Equal_int64_int64.wp a1 a2 K =
  (Go.K.ifB ((↑(List.length a1) : Int) != (↑(List.length a2) : Int)) (K Bool.false)
  (∀ (J1 : Int → Int → Prop),
    (∀ (x2 x3 : Int),
        Go.K.ifB (Decidable.decide (x3 < x2))
            (((0 : Int) ≤ x3 ∧ x3 < (↑(List.length a1) : Int)) ∧
              ((0 : Int) ≤ x3 ∧ x3 < (↑(List.length a2) : Int)) ∧
                Go.K.ifB (List.getD a1 (Int.toNat x3) (0 : Int) != List.getD a2 (Int.toNat x3) (0 : Int)) (K Bool.false) (J1 x2 (Go.IntKind.wrap Go.IntKind.i64 (x3 + (1 : Int)))))
            (K Bool.true) →
          J1 x2 x3) →
      J1 (↑(List.length a1) : Int) (0 : Int))) := slices_Equal_int64_int64.tx  a1 a2 K

theorem impl_SameGrains.tx (w_slices_Equal_int64_int64 : List Int → List Int → (Bool → Prop) → Prop) (a1 : List Int) (a2 : List Int) (a3 : Int) (a4 : Int) (a5 : Int) (a6 : Int) (K : Bool → Prop) : impl_SameGrains.bd w_slices_Equal_int64_int64 a1 a2 a3 a4 a5 a6 K =
  (Go.K.ifB (a3 == a5) (Go.K.ifB (a4 == a6) (w_slices_Equal_int64_int64 a1 a2 fun y1 => K y1) (K Bool.false)) (K Bool.false)) := by kernel_rfl
theorem impl_SameGrains.eq (a1 : List Int) (a2 : List Int) (a3 : Int) (a4 : Int) (a5 : Int) (a6 : Int) (K : Bool → Prop) : impl_SameGrains.wp a1 a2 a3 a4 a5 a6 K =
  (Go.K.ifB (a3 == a5) (Go.K.ifB (a4 == a6) (Go.K.grains.slices_Equal_int64_int64.wp a1 a2 fun y1 => K y1) (K Bool.false)) (K Bool.false)) := impl_SameGrains.tx slices_Equal_int64_int64.wp a1 a2 a3 a4 a5 a6 K

theorem impl_MajorityGrains.tx (w_impl_ValidGrains : List Int → Int → Int → (Bool → Prop) → Prop) (w_impl_within : Int → Int → Int → (Bool → Prop) → Prop) (w_slices_Clone_int64_int64 : List Int → (List Int → Prop) → Prop) (w_impl_grown__Grains_majority : List Int → Int → Int → Int → Int → (List Int → Int → Int → Prop) → Prop) (w_impl_SameGrains : List Int → List Int → Int → Int → Int → Int → (Bool → Prop) → Prop) (a1 : List Int) (a2 : Int) (a3 : Int) (a4 : Int) (K : List Int → Int → Int → Int → Bool → Prop) : impl_MajorityGrains.bd w_impl_ValidGrains w_impl_within w_slices_Clone_int64_int64 w_impl_grown__Grains_majority w_impl_SameGrains a1 a2 a3 a4 K =
  (w_impl_ValidGrains a1 a2 a3 fun y1 =>
  Go.K.ifB (!y1) (K [] (0 : Int) (0 : Int) (0 : Int) Bool.false)
    (w_impl_within a4 (0 : Int) (64 : Int) fun y2 =>
      Go.K.ifB (!y2) (K [] (0 : Int) (0 : Int) (0 : Int) Bool.false)
        (w_slices_Clone_int64_int64 a1 fun y3 =>
          ∀ (J4 : Int → Int → Int → Int → List Int → List Int → Int → Int → Int → Prop),
            (∀ (x5 x6 x7 x8 : Int) (x9 x10 : List Int) (x11 x12 x13 : Int),
                Go.K.ifB (Decidable.decide (x13 < x12))
                    (w_impl_grown__Grains_majority x9 x5 x6 x5 x6 fun y14 y15 y16 =>
                      w_impl_SameGrains y14 x9 y15 y16 x5 x6 fun y17 =>
                        Go.K.ifB y17 (K x9 x5 x6 x11 Bool.true)
                          (J4 y15 y16 x7 x8 y14 x10 (Go.IntKind.wrap Go.IntKind.i64 (x11 + (1 : Int))) x12 (Go.IntKind.wrap Go.IntKind.i64 (x13 + (1 : Int)))))
                    (K x9 x5 x6 x11 Bool.true) →
                  J4 x5 x6 x7 x8 x9 x10 x11 x12 x13) →
              J4 a2 a3 (0 : Int) (0 : Int) y3 [] (0 : Int) a4 (0 : Int)))) := by kernel_rfl
theorem impl_MajorityGrains.eq (a1 : List Int) (a2 : Int) (a3 : Int) (a4 : Int) (K : List Int → Int → Int → Int → Bool → Prop) : impl_MajorityGrains.wp a1 a2 a3 a4 K =
  (Go.K.grains.impl_ValidGrains.wp a1 a2 a3 fun y1 =>
  Go.K.ifB (!y1) (K [] (0 : Int) (0 : Int) (0 : Int) Bool.false)
    (Go.K.grains.impl_within.wp a4 (0 : Int) (64 : Int) fun y2 =>
      Go.K.ifB (!y2) (K [] (0 : Int) (0 : Int) (0 : Int) Bool.false)
        (Go.K.grains.slices_Clone_int64_int64.wp a1 fun y3 =>
          ∀ (J4 : Int → Int → Int → Int → List Int → List Int → Int → Int → Int → Prop),
            (∀ (x5 x6 x7 x8 : Int) (x9 x10 : List Int) (x11 x12 x13 : Int),
                Go.K.ifB (Decidable.decide (x13 < x12))
                    (Go.K.grains.impl_grown__Grains_majority.wp x9 x5 x6 x5 x6 fun y14 y15 y16 =>
                      Go.K.grains.impl_SameGrains.wp y14 x9 y15 y16 x5 x6 fun y17 =>
                        Go.K.ifB y17 (K x9 x5 x6 x11 Bool.true)
                          (J4 y15 y16 x7 x8 y14 x10 (Go.IntKind.wrap Go.IntKind.i64 (x11 + (1 : Int))) x12 (Go.IntKind.wrap Go.IntKind.i64 (x13 + (1 : Int)))))
                    (K x9 x5 x6 x11 Bool.true) →
                  J4 x5 x6 x7 x8 x9 x10 x11 x12 x13) →
              J4 a2 a3 (0 : Int) (0 : Int) y3 [] (0 : Int) a4 (0 : Int)))) := impl_MajorityGrains.tx impl_ValidGrains.wp impl_within.wp slices_Clone_int64_int64.wp impl_grown__Grains_majority.wp impl_SameGrains.wp a1 a2 a3 a4 K

theorem impl_isLabel.tx (w_impl_within : Int → Int → Int → (Bool → Prop) → Prop) (a1 : Int) (K : Bool → Prop) : impl_isLabel.bd w_impl_within a1 K =
  (w_impl_within a1 (0 : Int) (63 : Int) fun y1 => K y1) := by kernel_rfl
theorem impl_isLabel.eq (a1 : Int) (K : Bool → Prop) : impl_isLabel.wp a1 K =
  (Go.K.grains.impl_within.wp a1 (0 : Int) (63 : Int) fun y1 => K y1) := impl_isLabel.tx impl_within.wp a1 K

theorem impl_FlatGrains_1.tx  (a1 : Int) (a2 : Int) (a3 : Int) (K : Int → Prop) : impl_FlatGrains_1.bd  a1 a2 a3 K =
  (K a1) := by kernel_rfl
theorem impl_FlatGrains_1.eq (a1 : Int) (a2 : Int) (a3 : Int) (K : Int → Prop) : impl_FlatGrains_1.wp a1 a2 a3 K =
  (K a1) := impl_FlatGrains_1.tx  a1 a2 a3 K

theorem impl_grown__FlatGrains_1.tx (w_impl_FlatGrains_1 : Int → Int → Int → (Int → Prop) → Prop) (a1 : Int) (a2 : Int) (a3 : Int) (K : List Int → Int → Int → Prop) : impl_grown__FlatGrains_1.bd w_impl_FlatGrains_1 a1 a2 a3 K =
  (∀ (J1 : Int → Int → Int → Int → List Int → List Int → Int → Int → Prop),
  (∀ (x2 x3 x4 x5 : Int) (x6 x7 : List Int) (x8 x9 : Int),
      Go.K.ifB (Decidable.decide (x9 < x8))
          (∀ (J10 : Int → Int → Int → Int → List Int → List Int → Int → Int → Int → Int → Int → Prop),
            (∀ (x11 x12 x13 x14 : Int) (x15 x16 : List Int) (x17 x18 x19 x20 x21 : Int),
                Go.K.ifB (Decidable.decide (x21 < x20))
                    (w_impl_FlatGrains_1 a1 x21 x17 fun y22 =>
                      List.length (x16 ++ y22 :: List.replicate (0 : Nat) (0 : Int)) ≤ (1099511627776 : Nat) ∧
                        J10 x11 x12 x13 x14 x15 (x16 ++ y22 :: List.replicate (0 : Nat) (0 : Int)) x17 x18 x19 x20 (Go.IntKind.wrap Go.IntKind.i64 (x21 + (1 : Int))))
                    (J1 x11 x12 x13 x14 x15 x16 x18 (Go.IntKind.wrap Go.IntKind.i64 (x19 + (1 : Int)))) →
                  J10 x11 x12 x13 x14 x15 x16 x17 x18 x19 x20 x21) →
              J10 x2 x3 x4 x5 x6 x7 x9 x8 x9 a2 (0 : Int))
          (K x7 x4 x5) →
        J1 x2 x3 x4 x5 x6 x7 x8 x9) →
    J1 (0 : Int) (0 : Int) a2 a3 [] (List.replicate (0 : Nat) (0 : Int)) a3 (0 : Int)) := by kernel_rfl
theorem impl_grown__FlatGrains_1.eq (a1 : Int) (a2 : Int) (a3 : Int) (K : List Int → Int → Int → Prop) : impl_grown__FlatGrains_1.wp a1 a2 a3 K =
  (∀ (J1 : Int → Int → Int → Int → List Int → List Int → Int → Int → Prop),
  (∀ (x2 x3 x4 x5 : Int) (x6 x7 : List Int) (x8 x9 : Int),
      Go.K.ifB (Decidable.decide (x9 < x8))
          (∀ (J10 : Int → Int → Int → Int → List Int → List Int → Int → Int → Int → Int → Int → Prop),
            (∀ (x11 x12 x13 x14 : Int) (x15 x16 : List Int) (x17 x18 x19 x20 x21 : Int),
                Go.K.ifB (Decidable.decide (x21 < x20))
                    (Go.K.grains.impl_FlatGrains_1.wp a1 x21 x17 fun y22 =>
                      List.length (x16 ++ y22 :: List.replicate (0 : Nat) (0 : Int)) ≤ (1099511627776 : Nat) ∧
                        J10 x11 x12 x13 x14 x15 (x16 ++ y22 :: List.replicate (0 : Nat) (0 : Int)) x17 x18 x19 x20 (Go.IntKind.wrap Go.IntKind.i64 (x21 + (1 : Int))))
                    (J1 x11 x12 x13 x14 x15 x16 x18 (Go.IntKind.wrap Go.IntKind.i64 (x19 + (1 : Int)))) →
                  J10 x11 x12 x13 x14 x15 x16 x17 x18 x19 x20 x21) →
              J10 x2 x3 x4 x5 x6 x7 x9 x8 x9 a2 (0 : Int))
          (K x7 x4 x5) →
        J1 x2 x3 x4 x5 x6 x7 x8 x9) →
    J1 (0 : Int) (0 : Int) a2 a3 [] (List.replicate (0 : Nat) (0 : Int)) a3 (0 : Int)) := impl_grown__FlatGrains_1.tx impl_FlatGrains_1.wp a1 a2 a3 K

theorem impl_FlatGrains.tx (w_impl_areWithin : List Int → Int → Int → (Bool → Prop) → Prop) (w_impl_isLabel : Int → (Bool → Prop) → Prop) (w_impl_grown__FlatGrains_1 : Int → Int → Int → (List Int → Int → Int → Prop) → Prop) (a1 : Int) (a2 : Int) (a3 : Int) (K : List Int → Int → Int → Bool → Prop) : impl_FlatGrains.bd w_impl_areWithin w_impl_isLabel w_impl_grown__FlatGrains_1 a1 a2 a3 K =
  (w_impl_areWithin (a1 :: a2 :: List.replicate (0 : Nat) (0 : Int)) (1 : Int) (16 : Int) fun y1 =>
  Go.K.ifB (!y1) (K [] (0 : Int) (0 : Int) Bool.false)
    (w_impl_isLabel a3 fun y2 =>
      Go.K.ifB (!y2) (K [] (0 : Int) (0 : Int) Bool.false) (w_impl_grown__FlatGrains_1 a3 a1 a2 fun y3 y4 y5 => K y3 y4 y5 Bool.true))) := by kernel_rfl
theorem impl_FlatGrains.eq (a1 : Int) (a2 : Int) (a3 : Int) (K : List Int → Int → Int → Bool → Prop) : impl_FlatGrains.wp a1 a2 a3 K =
  (Go.K.grains.impl_areWithin.wp (a1 :: a2 :: List.replicate (0 : Nat) (0 : Int)) (1 : Int) (16 : Int) fun y1 =>
  Go.K.ifB (!y1) (K [] (0 : Int) (0 : Int) Bool.false)
    (Go.K.grains.impl_isLabel.wp a3 fun y2 =>
      Go.K.ifB (!y2) (K [] (0 : Int) (0 : Int) Bool.false) (Go.K.grains.impl_grown__FlatGrains_1.wp a3 a1 a2 fun y3 y4 y5 => K y3 y4 y5 Bool.true))) := impl_FlatGrains.tx impl_areWithin.wp impl_isLabel.wp impl_grown__FlatGrains_1.wp a1 a2 a3 K

theorem impl_set.tx (w_slices_Sort_int64_int64 : List Int → (List Int → Prop) → Prop) (w_slices_Compact_int64_int64 : List Int → (List Int → Prop) → Prop) (a1 : List Int) (K : List Int → Prop) : impl_set.bd w_slices_Sort_int64_int64 w_slices_Compact_int64_int64 a1 K =
  (List.length (List.replicate (0 : Nat) (0 : Int) ++ a1) ≤ (1099511627776 : Nat) ∧
  w_slices_Sort_int64_int64 (List.replicate (0 : Nat) (0 : Int) ++ a1) fun y1 => w_slices_Compact_int64_int64 y1 fun y2 => K y2) := by kernel_rfl
theorem impl_set.eq (a1 : List Int) (K : List Int → Prop) : impl_set.wp a1 K =
  (List.length (List.replicate (0 : Nat) (0 : Int) ++ a1) ≤ (1099511627776 : Nat) ∧
  Go.K.grains.slices_Sort_int64_int64.wp (List.replicate (0 : Nat) (0 : Int) ++ a1) fun y1 => Go.K.grains.slices_Compact_int64_int64.wp y1 fun y2 => K y2) := impl_set.tx slices_Sort_int64_int64.wp slices_Compact_int64_int64.wp a1 K

theorem impl_LabelsOf.tx (w_impl_ValidGrains : List Int → Int → Int → (Bool → Prop) → Prop) (w_impl_set : List Int → (List Int → Prop) → Prop) (a1 : List Int) (a2 : Int) (a3 : Int) (K : List Int → Bool → Prop) : impl_LabelsOf.bd w_impl_ValidGrains w_impl_set a1 a2 a3 K =
  (w_impl_ValidGrains a1 a2 a3 fun y1 => Go.K.ifB (!y1) (K [] Bool.false) (w_impl_set a1 fun y2 => K y2 Bool.true)) := by kernel_rfl
theorem impl_LabelsOf.eq (a1 : List Int) (a2 : Int) (a3 : Int) (K : List Int → Bool → Prop) : impl_LabelsOf.wp a1 a2 a3 K =
  (Go.K.grains.impl_ValidGrains.wp a1 a2 a3 fun y1 => Go.K.ifB (!y1) (K [] Bool.false) (Go.K.grains.impl_set.wp a1 fun y2 => K y2 Bool.true)) := impl_LabelsOf.tx impl_ValidGrains.wp impl_set.wp a1 a2 a3 K

theorem laws_FnMajorities.tx (w_laws_r8Long : List Int → List Int → (Bool → Prop) → Prop) (w_spec_R8Grains : List Int → (List Int → Int → Int → Prop) → Prop) (w_laws_r8At : List Int → Int → Int → (Int → Prop) → Prop) (w_impl_MajorityGrains : List Int → Int → Int → Int → (List Int → Int → Int → Int → Bool → Prop) → Prop) (w_impl_SameGrains : List Int → List Int → Int → Int → Int → Int → (Bool → Prop) → Prop) (w_impl_FlatGrains : Int → Int → Int → (List Int → Int → Int → Bool → Prop) → Prop) (w_impl_LabelsOf : List Int → Int → Int → (List Int → Bool → Prop) → Prop) (a1 : List Int) (a2 : List Int) (K : Bool → Prop) : laws_FnMajorities.bd w_laws_r8Long w_spec_R8Grains w_laws_r8At w_impl_MajorityGrains w_impl_SameGrains w_impl_FlatGrains w_impl_LabelsOf a1 a2 K =
  (w_laws_r8Long a1 a2 fun y1 =>
  Go.K.ifB y1 (K Bool.true)
    (w_spec_R8Grains a1 fun y2 y3 y4 =>
      w_laws_r8At a2 (0 : Int) (12 : Int) fun y5 =>
        w_impl_MajorityGrains y2 y3 y4 y5 fun y6 y7 y8 y9 y10 =>
          w_impl_MajorityGrains y2 y3 y4 (1 : Int) fun y11 y12 y13 y14 y15 =>
            w_impl_MajorityGrains y11 y12 y13 (11 : Int) fun y16 y17 y18 y19 y20 =>
              w_impl_MajorityGrains y2 y3 y4 (12 : Int) fun y21 y22 y23 y24 y25 =>
                Go.K.ifB (!y10) (K Bool.false)
                  (Go.K.ifB (!y15) (K Bool.false)
                    (Go.K.ifB (!y20) (K Bool.false)
                      (Go.K.ifB (!y25) (K Bool.false)
                        (Go.K.ifB (Decidable.decide (y9 > y5)) (K Bool.false)
                          (Go.K.ifB (Decidable.decide (y14 > (1 : Int))) (K Bool.false)
                            (Go.K.ifB (y14 == (0 : Int))
                              (w_impl_SameGrains y11 y2 y12 y13 y3 y4 fun y26 =>
                                Go.K.ifB (!y26) (K Bool.false)
                                  (Go.K.ifB (y14 == (1 : Int))
                                    (Go.K.ifB (y24 != Go.IntKind.wrap Go.IntKind.i64 (y19 + (1 : Int))) (K Bool.false)
                                      (w_impl_SameGrains y16 y21 y17 y18 y22 y23 fun y27 =>
                                        Go.K.ifB (!y27) (K Bool.false)
                                          (w_impl_MajorityGrains y6 y7 y8 (1 : Int) fun y28 y29 y30 y31 y32 =>
                                            Go.K.ifB (!y32) (K Bool.false)
                                              (Go.K.ifB (Decidable.decide (y9 < y5))
                                                (Go.K.ifB (y31 != (0 : Int)) (K Bool.false)
                                                  (w_laws_r8At a2 (1 : Int) (64 : Int) fun y33 =>
                                                    w_impl_FlatGrains y3 y4 y33 fun y34 y35 y36 y37 =>
                                                      w_impl_MajorityGrains y34 y35 y36 (5 : Int) fun y38 y39 y40 y41 y42 =>
                                                        w_impl_LabelsOf y2 y3 y4 fun y43 y44 =>
                                                          w_impl_LabelsOf y6 y7 y8 fun y45 y46 =>
                                                            Go.K.ifB (!y37) (K Bool.false)
                                                              (Go.K.ifB (!y42) (K Bool.false)
                                                                (Go.K.ifB (!y44) (K Bool.false)
                                                                  (Go.K.ifB (!y46) (K Bool.false)
                                                                    (Go.K.ifB (y41 != (0 : Int)) (K Bool.false)
                                                                      (w_impl_SameGrains y38 y34 y39 y40 y35 y36 fun y47 =>
                                                                        Go.K.ifB (!y47) (K Bool.false)
                                                                          (Go.K.ifB (Decidable.decide ((↑(List.length y45) : Int) > (↑(List.length y43) : Int))) (K Bool.false)
                                                                            (∀ (J48 : List Int → List Int → Int → Prop),
                                                                              (∀ (x49 x50 : List Int) (x51 : Int),
                                                                                  Go.K.ifB (Decidable.decide (x51 < (↑(List.length x50) : Int)))
                                                                                      (∀ (J52 : List Int → List Int → Int → Bool → Int → Prop),
                                                                                        (∀ (x53 x54 : List Int) (x55 : Int) (x56 : Bool) (x57 : Int),
                                                                                            Go.K.ifB (Decidable.decide (x57 < (↑(List.length x53) : Int)))
                                                                                                (Go.K.ifB x56
                                                                                                  (J52 x53 x54 x55 Bool.true (Go.IntKind.wrap Go.IntKind.i64 (x57 + (1 : Int))))
                                                                                                  (((0 : Int) ≤ x57 ∧ x57 < (↑(List.length x53) : Int)) ∧
                                                                                                    ((0 : Int) ≤ x55 ∧ x55 < (↑(List.length x54) : Int)) ∧
                                                                                                      J52 x53 x54 x55
                                                                                                        (List.getD x53 (Int.toNat x57) (0 : Int) ==
                                                                                                          List.getD x54 (Int.toNat x55) (0 : Int))
                                                                                                        (Go.IntKind.wrap Go.IntKind.i64 (x57 + (1 : Int)))))
                                                                                                (Go.K.ifB (!x56) (K Bool.false)
                                                                                                  (J48 x53 x54 (Go.IntKind.wrap Go.IntKind.i64 (x55 + (1 : Int))))) →
                                                                                              J52 x53 x54 x55 x56 x57) →
                                                                                          J52 x49 x50 x51 Bool.false (0 : Int))
                                                                                      (K Bool.true) →
                                                                                    J48 x49 x50 x51) →
                                                                                J48 y43 y45 (0 : Int))))))))))
                                                (w_laws_r8At a2 (1 : Int) (64 : Int) fun y62 =>
                                                  w_impl_FlatGrains y3 y4 y62 fun y63 y64 y65 y66 =>
                                                    w_impl_MajorityGrains y63 y64 y65 (5 : Int) fun y67 y68 y69 y70 y71 =>
                                                      w_impl_LabelsOf y2 y3 y4 fun y72 y73 =>
                                                        w_impl_LabelsOf y6 y7 y8 fun y74 y75 =>
                                                          Go.K.ifB (!y66) (K Bool.false)
                                                            (Go.K.ifB (!y71) (K Bool.false)
                                                              (Go.K.ifB (!y73) (K Bool.false)
                                                                (Go.K.ifB (!y75) (K Bool.false)
                                                                  (Go.K.ifB (y70 != (0 : Int)) (K Bool.false)
                                                                    (w_impl_SameGrains y67 y63 y68 y69 y64 y65 fun y76 =>
                                                                      Go.K.ifB (!y76) (K Bool.false)
                                                                        (Go.K.ifB (Decidable.decide ((↑(List.length y74) : Int) > (↑(List.length y72) : Int))) (K Bool.false)
                                                                          (∀ (J77 : List Int → List Int → Int → Prop),
                                                                            (∀ (x78 x79 : List Int) (x80 : Int),
                                                                                Go.K.ifB (Decidable.decide (x80 < (↑(List.length x79) : Int)))
                                                                                    (∀ (J81 : List Int → List Int → Int → Bool → Int → Prop),
                                                                                      (∀ (x82 x83 : List Int) (x84 : Int) (x85 : Bool) (x86 : Int),
                                                                                          Go.K.ifB (Decidable.decide (x86 < (↑(List.length x82) : Int)))
                                                                                              (Go.K.ifB x85
                                                                                                (J81 x82 x83 x84 Bool.true (Go.IntKind.wrap Go.IntKind.i64 (x86 + (1 : Int))))
                                                                                                (((0 : Int) ≤ x86 ∧ x86 < (↑(List.length x82) : Int)) ∧
                                                                                                  ((0 : Int) ≤ x84 ∧ x84 < (↑(List.length x83) : Int)) ∧
                                                                                                    J81 x82 x83 x84
                                                                                                      (List.getD x82 (Int.toNat x86) (0 : Int) ==
                                                                                                        List.getD x83 (Int.toNat x84) (0 : Int))
                                                                                                      (Go.IntKind.wrap Go.IntKind.i64 (x86 + (1 : Int)))))
                                                                                              (Go.K.ifB (!x85) (K Bool.false)
                                                                                                (J77 x82 x83 (Go.IntKind.wrap Go.IntKind.i64 (x84 + (1 : Int))))) →
                                                                                            J81 x82 x83 x84 x85 x86) →
                                                                                        J81 x78 x79 x80 Bool.false (0 : Int))
                                                                                    (K Bool.true) →
                                                                                  J77 x78 x79 x80) →
                                                                              J77 y72 y74 (0 : Int)))))))))))))
                                    (w_impl_MajorityGrains y6 y7 y8 (1 : Int) fun y91 y92 y93 y94 y95 =>
                                      Go.K.ifB (!y95) (K Bool.false)
                                        (Go.K.ifB (Decidable.decide (y9 < y5))
                                          (Go.K.ifB (y94 != (0 : Int)) (K Bool.false)
                                            (w_laws_r8At a2 (1 : Int) (64 : Int) fun y96 =>
                                              w_impl_FlatGrains y3 y4 y96 fun y97 y98 y99 y100 =>
                                                w_impl_MajorityGrains y97 y98 y99 (5 : Int) fun y101 y102 y103 y104 y105 =>
                                                  w_impl_LabelsOf y2 y3 y4 fun y106 y107 =>
                                                    w_impl_LabelsOf y6 y7 y8 fun y108 y109 =>
                                                      Go.K.ifB (!y100) (K Bool.false)
                                                        (Go.K.ifB (!y105) (K Bool.false)
                                                          (Go.K.ifB (!y107) (K Bool.false)
                                                            (Go.K.ifB (!y109) (K Bool.false)
                                                              (Go.K.ifB (y104 != (0 : Int)) (K Bool.false)
                                                                (w_impl_SameGrains y101 y97 y102 y103 y98 y99 fun y110 =>
                                                                  Go.K.ifB (!y110) (K Bool.false)
                                                                    (Go.K.ifB (Decidable.decide ((↑(List.length y108) : Int) > (↑(List.length y106) : Int))) (K Bool.false)
                                                                      (∀ (J111 : List Int → List Int → Int → Prop),
                                                                        (∀ (x112 x113 : List Int) (x114 : Int),
                                                                            Go.K.ifB (Decidable.decide (x114 < (↑(List.length x113) : Int)))
                                                                                (∀ (J115 : List Int → List Int → Int → Bool → Int → Prop),
                                                                                  (∀ (x116 x117 : List Int) (x118 : Int) (x119 : Bool) (x120 : Int),
                                                                                      Go.K.ifB (Decidable.decide (x120 < (↑(List.length x116) : Int)))
                                                                                          (Go.K.ifB x119
                                                                                            (J115 x116 x117 x118 Bool.true (Go.IntKind.wrap Go.IntKind.i64 (x120 + (1 : Int))))
                                                                                            (((0 : Int) ≤ x120 ∧ x120 < (↑(List.length x116) : Int)) ∧
                                                                                              ((0 : Int) ≤ x118 ∧ x118 < (↑(List.length x117) : Int)) ∧
                                                                                                J115 x116 x117 x118
                                                                                                  (List.getD x116 (Int.toNat x120) (0 : Int) ==
                                                                                                    List.getD x117 (Int.toNat x118) (0 : Int))
                                                                                                  (Go.IntKind.wrap Go.IntKind.i64 (x120 + (1 : Int)))))
                                                                                          (Go.K.ifB (!x119) (K Bool.false)
                                                                                            (J111 x116 x117 (Go.IntKind.wrap Go.IntKind.i64 (x118 + (1 : Int))))) →
                                                                                        J115 x116 x117 x118 x119 x120) →
                                                                                    J115 x112 x113 x114 Bool.false (0 : Int))
                                                                                (K Bool.true) →
                                                                              J111 x112 x113 x114) →
                                                                          J111 y106 y108 (0 : Int))))))))))
                                          (w_laws_r8At a2 (1 : Int) (64 : Int) fun y125 =>
                                            w_impl_FlatGrains y3 y4 y125 fun y126 y127 y128 y129 =>
                                              w_impl_MajorityGrains y126 y127 y128 (5 : Int) fun y130 y131 y132 y133 y134 =>
                                                w_impl_LabelsOf y2 y3 y4 fun y135 y136 =>
                                                  w_impl_LabelsOf y6 y7 y8 fun y137 y138 =>
                                                    Go.K.ifB (!y129) (K Bool.false)
                                                      (Go.K.ifB (!y134) (K Bool.false)
                                                        (Go.K.ifB (!y136) (K Bool.false)
                                                          (Go.K.ifB (!y138) (K Bool.false)
                                                            (Go.K.ifB (y133 != (0 : Int)) (K Bool.false)
                                                              (w_impl_SameGrains y130 y126 y131 y132 y127 y128 fun y139 =>
                                                                Go.K.ifB (!y139) (K Bool.false)
                                                                  (Go.K.ifB (Decidable.decide ((↑(List.length y137) : Int) > (↑(List.length y135) : Int))) (K Bool.false)
                                                                    (∀ (J140 : List Int → List Int → Int → Prop),
                                                                      (∀ (x141 x142 : List Int) (x143 : Int),
                                                                          Go.K.ifB (Decidable.decide (x143 < (↑(List.length x142) : Int)))
                                                                              (∀ (J144 : List Int → List Int → Int → Bool → Int → Prop),
                                                                                (∀ (x145 x146 : List Int) (x147 : Int) (x148 : Bool) (x149 : Int),
                                                                                    Go.K.ifB (Decidable.decide (x149 < (↑(List.length x145) : Int)))
                                                                                        (Go.K.ifB x148
                                                                                          (J144 x145 x146 x147 Bool.true (Go.IntKind.wrap Go.IntKind.i64 (x149 + (1 : Int))))
                                                                                          (((0 : Int) ≤ x149 ∧ x149 < (↑(List.length x145) : Int)) ∧
                                                                                            ((0 : Int) ≤ x147 ∧ x147 < (↑(List.length x146) : Int)) ∧
                                                                                              J144 x145 x146 x147
                                                                                                (List.getD x145 (Int.toNat x149) (0 : Int) ==
                                                                                                  List.getD x146 (Int.toNat x147) (0 : Int))
                                                                                                (Go.IntKind.wrap Go.IntKind.i64 (x149 + (1 : Int)))))
                                                                                        (Go.K.ifB (!x148) (K Bool.false)
                                                                                          (J140 x145 x146 (Go.IntKind.wrap Go.IntKind.i64 (x147 + (1 : Int))))) →
                                                                                      J144 x145 x146 x147 x148 x149) →
                                                                                  J144 x141 x142 x143 Bool.false (0 : Int))
                                                                              (K Bool.true) →
                                                                            J140 x141 x142 x143) →
                                                                        J140 y135 y137 (0 : Int)))))))))))))
                              (Go.K.ifB (y14 == (1 : Int))
                                (Go.K.ifB (y24 != Go.IntKind.wrap Go.IntKind.i64 (y19 + (1 : Int))) (K Bool.false)
                                  (w_impl_SameGrains y16 y21 y17 y18 y22 y23 fun y154 =>
                                    Go.K.ifB (!y154) (K Bool.false)
                                      (w_impl_MajorityGrains y6 y7 y8 (1 : Int) fun y155 y156 y157 y158 y159 =>
                                        Go.K.ifB (!y159) (K Bool.false)
                                          (Go.K.ifB (Decidable.decide (y9 < y5))
                                            (Go.K.ifB (y158 != (0 : Int)) (K Bool.false)
                                              (w_laws_r8At a2 (1 : Int) (64 : Int) fun y160 =>
                                                w_impl_FlatGrains y3 y4 y160 fun y161 y162 y163 y164 =>
                                                  w_impl_MajorityGrains y161 y162 y163 (5 : Int) fun y165 y166 y167 y168 y169 =>
                                                    w_impl_LabelsOf y2 y3 y4 fun y170 y171 =>
                                                      w_impl_LabelsOf y6 y7 y8 fun y172 y173 =>
                                                        Go.K.ifB (!y164) (K Bool.false)
                                                          (Go.K.ifB (!y169) (K Bool.false)
                                                            (Go.K.ifB (!y171) (K Bool.false)
                                                              (Go.K.ifB (!y173) (K Bool.false)
                                                                (Go.K.ifB (y168 != (0 : Int)) (K Bool.false)
                                                                  (w_impl_SameGrains y165 y161 y166 y167 y162 y163 fun y174 =>
                                                                    Go.K.ifB (!y174) (K Bool.false)
                                                                      (Go.K.ifB (Decidable.decide ((↑(List.length y172) : Int) > (↑(List.length y170) : Int))) (K Bool.false)
                                                                        (∀ (J175 : List Int → List Int → Int → Prop),
                                                                          (∀ (x176 x177 : List Int) (x178 : Int),
                                                                              Go.K.ifB (Decidable.decide (x178 < (↑(List.length x177) : Int)))
                                                                                  (∀ (J179 : List Int → List Int → Int → Bool → Int → Prop),
                                                                                    (∀ (x180 x181 : List Int) (x182 : Int) (x183 : Bool) (x184 : Int),
                                                                                        Go.K.ifB (Decidable.decide (x184 < (↑(List.length x180) : Int)))
                                                                                            (Go.K.ifB x183
                                                                                              (J179 x180 x181 x182 Bool.true (Go.IntKind.wrap Go.IntKind.i64 (x184 + (1 : Int))))
                                                                                              (((0 : Int) ≤ x184 ∧ x184 < (↑(List.length x180) : Int)) ∧
                                                                                                ((0 : Int) ≤ x182 ∧ x182 < (↑(List.length x181) : Int)) ∧
                                                                                                  J179 x180 x181 x182
                                                                                                    (List.getD x180 (Int.toNat x184) (0 : Int) ==
                                                                                                      List.getD x181 (Int.toNat x182) (0 : Int))
                                                                                                    (Go.IntKind.wrap Go.IntKind.i64 (x184 + (1 : Int)))))
                                                                                            (Go.K.ifB (!x183) (K Bool.false)
                                                                                              (J175 x180 x181 (Go.IntKind.wrap Go.IntKind.i64 (x182 + (1 : Int))))) →
                                                                                          J179 x180 x181 x182 x183 x184) →
                                                                                      J179 x176 x177 x178 Bool.false (0 : Int))
                                                                                  (K Bool.true) →
                                                                                J175 x176 x177 x178) →
                                                                            J175 y170 y172 (0 : Int))))))))))
                                            (w_laws_r8At a2 (1 : Int) (64 : Int) fun y189 =>
                                              w_impl_FlatGrains y3 y4 y189 fun y190 y191 y192 y193 =>
                                                w_impl_MajorityGrains y190 y191 y192 (5 : Int) fun y194 y195 y196 y197 y198 =>
                                                  w_impl_LabelsOf y2 y3 y4 fun y199 y200 =>
                                                    w_impl_LabelsOf y6 y7 y8 fun y201 y202 =>
                                                      Go.K.ifB (!y193) (K Bool.false)
                                                        (Go.K.ifB (!y198) (K Bool.false)
                                                          (Go.K.ifB (!y200) (K Bool.false)
                                                            (Go.K.ifB (!y202) (K Bool.false)
                                                              (Go.K.ifB (y197 != (0 : Int)) (K Bool.false)
                                                                (w_impl_SameGrains y194 y190 y195 y196 y191 y192 fun y203 =>
                                                                  Go.K.ifB (!y203) (K Bool.false)
                                                                    (Go.K.ifB (Decidable.decide ((↑(List.length y201) : Int) > (↑(List.length y199) : Int))) (K Bool.false)
                                                                      (∀ (J204 : List Int → List Int → Int → Prop),
                                                                        (∀ (x205 x206 : List Int) (x207 : Int),
                                                                            Go.K.ifB (Decidable.decide (x207 < (↑(List.length x206) : Int)))
                                                                                (∀ (J208 : List Int → List Int → Int → Bool → Int → Prop),
                                                                                  (∀ (x209 x210 : List Int) (x211 : Int) (x212 : Bool) (x213 : Int),
                                                                                      Go.K.ifB (Decidable.decide (x213 < (↑(List.length x209) : Int)))
                                                                                          (Go.K.ifB x212
                                                                                            (J208 x209 x210 x211 Bool.true (Go.IntKind.wrap Go.IntKind.i64 (x213 + (1 : Int))))
                                                                                            (((0 : Int) ≤ x213 ∧ x213 < (↑(List.length x209) : Int)) ∧
                                                                                              ((0 : Int) ≤ x211 ∧ x211 < (↑(List.length x210) : Int)) ∧
                                                                                                J208 x209 x210 x211
                                                                                                  (List.getD x209 (Int.toNat x213) (0 : Int) ==
                                                                                                    List.getD x210 (Int.toNat x211) (0 : Int))
                                                                                                  (Go.IntKind.wrap Go.IntKind.i64 (x213 + (1 : Int)))))
                                                                                          (Go.K.ifB (!x212) (K Bool.false)
                                                                                            (J204 x209 x210 (Go.IntKind.wrap Go.IntKind.i64 (x211 + (1 : Int))))) →
                                                                                        J208 x209 x210 x211 x212 x213) →
                                                                                    J208 x205 x206 x207 Bool.false (0 : Int))
                                                                                (K Bool.true) →
                                                                              J204 x205 x206 x207) →
                                                                          J204 y199 y201 (0 : Int)))))))))))))
                                (w_impl_MajorityGrains y6 y7 y8 (1 : Int) fun y218 y219 y220 y221 y222 =>
                                  Go.K.ifB (!y222) (K Bool.false)
                                    (Go.K.ifB (Decidable.decide (y9 < y5))
                                      (Go.K.ifB (y221 != (0 : Int)) (K Bool.false)
                                        (w_laws_r8At a2 (1 : Int) (64 : Int) fun y223 =>
                                          w_impl_FlatGrains y3 y4 y223 fun y224 y225 y226 y227 =>
                                            w_impl_MajorityGrains y224 y225 y226 (5 : Int) fun y228 y229 y230 y231 y232 =>
                                              w_impl_LabelsOf y2 y3 y4 fun y233 y234 =>
                                                w_impl_LabelsOf y6 y7 y8 fun y235 y236 =>
                                                  Go.K.ifB (!y227) (K Bool.false)
                                                    (Go.K.ifB (!y232) (K Bool.false)
                                                      (Go.K.ifB (!y234) (K Bool.false)
                                                        (Go.K.ifB (!y236) (K Bool.false)
                                                          (Go.K.ifB (y231 != (0 : Int)) (K Bool.false)
                                                            (w_impl_SameGrains y228 y224 y229 y230 y225 y226 fun y237 =>
                                                              Go.K.ifB (!y237) (K Bool.false)
                                                                (Go.K.ifB (Decidable.decide ((↑(List.length y235) : Int) > (↑(List.length y233) : Int))) (K Bool.false)
                                                                  (∀ (J238 : List Int → List Int → Int → Prop),
                                                                    (∀ (x239 x240 : List Int) (x241 : Int),
                                                                        Go.K.ifB (Decidable.decide (x241 < (↑(List.length x240) : Int)))
                                                                            (∀ (J242 : List Int → List Int → Int → Bool → Int → Prop),
                                                                              (∀ (x243 x244 : List Int) (x245 : Int) (x246 : Bool) (x247 : Int),
                                                                                  Go.K.ifB (Decidable.decide (x247 < (↑(List.length x243) : Int)))
                                                                                      (Go.K.ifB x246
                                                                                        (J242 x243 x244 x245 Bool.true (Go.IntKind.wrap Go.IntKind.i64 (x247 + (1 : Int))))
                                                                                        (((0 : Int) ≤ x247 ∧ x247 < (↑(List.length x243) : Int)) ∧
                                                                                          ((0 : Int) ≤ x245 ∧ x245 < (↑(List.length x244) : Int)) ∧
                                                                                            J242 x243 x244 x245
                                                                                              (List.getD x243 (Int.toNat x247) (0 : Int) ==
                                                                                                List.getD x244 (Int.toNat x245) (0 : Int))
                                                                                              (Go.IntKind.wrap Go.IntKind.i64 (x247 + (1 : Int)))))
                                                                                      (Go.K.ifB (!x246) (K Bool.false)
                                                                                        (J238 x243 x244 (Go.IntKind.wrap Go.IntKind.i64 (x245 + (1 : Int))))) →
                                                                                    J242 x243 x244 x245 x246 x247) →
                                                                                J242 x239 x240 x241 Bool.false (0 : Int))
                                                                            (K Bool.true) →
                                                                          J238 x239 x240 x241) →
                                                                      J238 y233 y235 (0 : Int))))))))))
                                      (w_laws_r8At a2 (1 : Int) (64 : Int) fun y252 =>
                                        w_impl_FlatGrains y3 y4 y252 fun y253 y254 y255 y256 =>
                                          w_impl_MajorityGrains y253 y254 y255 (5 : Int) fun y257 y258 y259 y260 y261 =>
                                            w_impl_LabelsOf y2 y3 y4 fun y262 y263 =>
                                              w_impl_LabelsOf y6 y7 y8 fun y264 y265 =>
                                                Go.K.ifB (!y256) (K Bool.false)
                                                  (Go.K.ifB (!y261) (K Bool.false)
                                                    (Go.K.ifB (!y263) (K Bool.false)
                                                      (Go.K.ifB (!y265) (K Bool.false)
                                                        (Go.K.ifB (y260 != (0 : Int)) (K Bool.false)
                                                          (w_impl_SameGrains y257 y253 y258 y259 y254 y255 fun y266 =>
                                                            Go.K.ifB (!y266) (K Bool.false)
                                                              (Go.K.ifB (Decidable.decide ((↑(List.length y264) : Int) > (↑(List.length y262) : Int))) (K Bool.false)
                                                                (∀ (J267 : List Int → List Int → Int → Prop),
                                                                  (∀ (x268 x269 : List Int) (x270 : Int),
                                                                      Go.K.ifB (Decidable.decide (x270 < (↑(List.length x269) : Int)))
                                                                          (∀ (J271 : List Int → List Int → Int → Bool → Int → Prop),
                                                                            (∀ (x272 x273 : List Int) (x274 : Int) (x275 : Bool) (x276 : Int),
                                                                                Go.K.ifB (Decidable.decide (x276 < (↑(List.length x272) : Int)))
                                                                                    (Go.K.ifB x275
                                                                                      (J271 x272 x273 x274 Bool.true (Go.IntKind.wrap Go.IntKind.i64 (x276 + (1 : Int))))
                                                                                      (((0 : Int) ≤ x276 ∧ x276 < (↑(List.length x272) : Int)) ∧
                                                                                        ((0 : Int) ≤ x274 ∧ x274 < (↑(List.length x273) : Int)) ∧
                                                                                          J271 x272 x273 x274
                                                                                            (List.getD x272 (Int.toNat x276) (0 : Int) == List.getD x273 (Int.toNat x274) (0 : Int))
                                                                                            (Go.IntKind.wrap Go.IntKind.i64 (x276 + (1 : Int)))))
                                                                                    (Go.K.ifB (!x275) (K Bool.false)
                                                                                      (J267 x272 x273 (Go.IntKind.wrap Go.IntKind.i64 (x274 + (1 : Int))))) →
                                                                                  J271 x272 x273 x274 x275 x276) →
                                                                              J271 x268 x269 x270 Bool.false (0 : Int))
                                                                          (K Bool.true) →
                                                                        J267 x268 x269 x270) →
                                                                    J267 y262 y264 (0 : Int)))))))))))))))))))) := by kernel_rfl
theorem laws_FnMajorities.eq (a1 : List Int) (a2 : List Int) (K : Bool → Prop) : laws_FnMajorities.wp a1 a2 K =
  (Go.K.grains.laws_r8Long.wp a1 a2 fun y1 =>
  Go.K.ifB y1 (K Bool.true)
    (Go.K.grains.spec_R8Grains.wp a1 fun y2 y3 y4 =>
      Go.K.grains.laws_r8At.wp a2 (0 : Int) (12 : Int) fun y5 =>
        Go.K.grains.impl_MajorityGrains.wp y2 y3 y4 y5 fun y6 y7 y8 y9 y10 =>
          Go.K.grains.impl_MajorityGrains.wp y2 y3 y4 (1 : Int) fun y11 y12 y13 y14 y15 =>
            Go.K.grains.impl_MajorityGrains.wp y11 y12 y13 (11 : Int) fun y16 y17 y18 y19 y20 =>
              Go.K.grains.impl_MajorityGrains.wp y2 y3 y4 (12 : Int) fun y21 y22 y23 y24 y25 =>
                Go.K.ifB (!y10) (K Bool.false)
                  (Go.K.ifB (!y15) (K Bool.false)
                    (Go.K.ifB (!y20) (K Bool.false)
                      (Go.K.ifB (!y25) (K Bool.false)
                        (Go.K.ifB (Decidable.decide (y9 > y5)) (K Bool.false)
                          (Go.K.ifB (Decidable.decide (y14 > (1 : Int))) (K Bool.false)
                            (Go.K.ifB (y14 == (0 : Int))
                              (Go.K.grains.impl_SameGrains.wp y11 y2 y12 y13 y3 y4 fun y26 =>
                                Go.K.ifB (!y26) (K Bool.false)
                                  (Go.K.ifB (y14 == (1 : Int))
                                    (Go.K.ifB (y24 != Go.IntKind.wrap Go.IntKind.i64 (y19 + (1 : Int))) (K Bool.false)
                                      (Go.K.grains.impl_SameGrains.wp y16 y21 y17 y18 y22 y23 fun y27 =>
                                        Go.K.ifB (!y27) (K Bool.false)
                                          (Go.K.grains.impl_MajorityGrains.wp y6 y7 y8 (1 : Int) fun y28 y29 y30 y31 y32 =>
                                            Go.K.ifB (!y32) (K Bool.false)
                                              (Go.K.ifB (Decidable.decide (y9 < y5))
                                                (Go.K.ifB (y31 != (0 : Int)) (K Bool.false)
                                                  (Go.K.grains.laws_r8At.wp a2 (1 : Int) (64 : Int) fun y33 =>
                                                    Go.K.grains.impl_FlatGrains.wp y3 y4 y33 fun y34 y35 y36 y37 =>
                                                      Go.K.grains.impl_MajorityGrains.wp y34 y35 y36 (5 : Int) fun y38 y39 y40 y41 y42 =>
                                                        Go.K.grains.impl_LabelsOf.wp y2 y3 y4 fun y43 y44 =>
                                                          Go.K.grains.impl_LabelsOf.wp y6 y7 y8 fun y45 y46 =>
                                                            Go.K.ifB (!y37) (K Bool.false)
                                                              (Go.K.ifB (!y42) (K Bool.false)
                                                                (Go.K.ifB (!y44) (K Bool.false)
                                                                  (Go.K.ifB (!y46) (K Bool.false)
                                                                    (Go.K.ifB (y41 != (0 : Int)) (K Bool.false)
                                                                      (Go.K.grains.impl_SameGrains.wp y38 y34 y39 y40 y35 y36 fun y47 =>
                                                                        Go.K.ifB (!y47) (K Bool.false)
                                                                          (Go.K.ifB (Decidable.decide ((↑(List.length y45) : Int) > (↑(List.length y43) : Int))) (K Bool.false)
                                                                            (∀ (J48 : List Int → List Int → Int → Prop),
                                                                              (∀ (x49 x50 : List Int) (x51 : Int),
                                                                                  Go.K.ifB (Decidable.decide (x51 < (↑(List.length x50) : Int)))
                                                                                      (∀ (J52 : List Int → List Int → Int → Bool → Int → Prop),
                                                                                        (∀ (x53 x54 : List Int) (x55 : Int) (x56 : Bool) (x57 : Int),
                                                                                            Go.K.ifB (Decidable.decide (x57 < (↑(List.length x53) : Int)))
                                                                                                (Go.K.ifB x56
                                                                                                  (J52 x53 x54 x55 Bool.true (Go.IntKind.wrap Go.IntKind.i64 (x57 + (1 : Int))))
                                                                                                  (((0 : Int) ≤ x57 ∧ x57 < (↑(List.length x53) : Int)) ∧
                                                                                                    ((0 : Int) ≤ x55 ∧ x55 < (↑(List.length x54) : Int)) ∧
                                                                                                      J52 x53 x54 x55
                                                                                                        (List.getD x53 (Int.toNat x57) (0 : Int) ==
                                                                                                          List.getD x54 (Int.toNat x55) (0 : Int))
                                                                                                        (Go.IntKind.wrap Go.IntKind.i64 (x57 + (1 : Int)))))
                                                                                                (Go.K.ifB (!x56) (K Bool.false)
                                                                                                  (J48 x53 x54 (Go.IntKind.wrap Go.IntKind.i64 (x55 + (1 : Int))))) →
                                                                                              J52 x53 x54 x55 x56 x57) →
                                                                                          J52 x49 x50 x51 Bool.false (0 : Int))
                                                                                      (K Bool.true) →
                                                                                    J48 x49 x50 x51) →
                                                                                J48 y43 y45 (0 : Int))))))))))
                                                (Go.K.grains.laws_r8At.wp a2 (1 : Int) (64 : Int) fun y62 =>
                                                  Go.K.grains.impl_FlatGrains.wp y3 y4 y62 fun y63 y64 y65 y66 =>
                                                    Go.K.grains.impl_MajorityGrains.wp y63 y64 y65 (5 : Int) fun y67 y68 y69 y70 y71 =>
                                                      Go.K.grains.impl_LabelsOf.wp y2 y3 y4 fun y72 y73 =>
                                                        Go.K.grains.impl_LabelsOf.wp y6 y7 y8 fun y74 y75 =>
                                                          Go.K.ifB (!y66) (K Bool.false)
                                                            (Go.K.ifB (!y71) (K Bool.false)
                                                              (Go.K.ifB (!y73) (K Bool.false)
                                                                (Go.K.ifB (!y75) (K Bool.false)
                                                                  (Go.K.ifB (y70 != (0 : Int)) (K Bool.false)
                                                                    (Go.K.grains.impl_SameGrains.wp y67 y63 y68 y69 y64 y65 fun y76 =>
                                                                      Go.K.ifB (!y76) (K Bool.false)
                                                                        (Go.K.ifB (Decidable.decide ((↑(List.length y74) : Int) > (↑(List.length y72) : Int))) (K Bool.false)
                                                                          (∀ (J77 : List Int → List Int → Int → Prop),
                                                                            (∀ (x78 x79 : List Int) (x80 : Int),
                                                                                Go.K.ifB (Decidable.decide (x80 < (↑(List.length x79) : Int)))
                                                                                    (∀ (J81 : List Int → List Int → Int → Bool → Int → Prop),
                                                                                      (∀ (x82 x83 : List Int) (x84 : Int) (x85 : Bool) (x86 : Int),
                                                                                          Go.K.ifB (Decidable.decide (x86 < (↑(List.length x82) : Int)))
                                                                                              (Go.K.ifB x85
                                                                                                (J81 x82 x83 x84 Bool.true (Go.IntKind.wrap Go.IntKind.i64 (x86 + (1 : Int))))
                                                                                                (((0 : Int) ≤ x86 ∧ x86 < (↑(List.length x82) : Int)) ∧
                                                                                                  ((0 : Int) ≤ x84 ∧ x84 < (↑(List.length x83) : Int)) ∧
                                                                                                    J81 x82 x83 x84
                                                                                                      (List.getD x82 (Int.toNat x86) (0 : Int) ==
                                                                                                        List.getD x83 (Int.toNat x84) (0 : Int))
                                                                                                      (Go.IntKind.wrap Go.IntKind.i64 (x86 + (1 : Int)))))
                                                                                              (Go.K.ifB (!x85) (K Bool.false)
                                                                                                (J77 x82 x83 (Go.IntKind.wrap Go.IntKind.i64 (x84 + (1 : Int))))) →
                                                                                            J81 x82 x83 x84 x85 x86) →
                                                                                        J81 x78 x79 x80 Bool.false (0 : Int))
                                                                                    (K Bool.true) →
                                                                                  J77 x78 x79 x80) →
                                                                              J77 y72 y74 (0 : Int)))))))))))))
                                    (Go.K.grains.impl_MajorityGrains.wp y6 y7 y8 (1 : Int) fun y91 y92 y93 y94 y95 =>
                                      Go.K.ifB (!y95) (K Bool.false)
                                        (Go.K.ifB (Decidable.decide (y9 < y5))
                                          (Go.K.ifB (y94 != (0 : Int)) (K Bool.false)
                                            (Go.K.grains.laws_r8At.wp a2 (1 : Int) (64 : Int) fun y96 =>
                                              Go.K.grains.impl_FlatGrains.wp y3 y4 y96 fun y97 y98 y99 y100 =>
                                                Go.K.grains.impl_MajorityGrains.wp y97 y98 y99 (5 : Int) fun y101 y102 y103 y104 y105 =>
                                                  Go.K.grains.impl_LabelsOf.wp y2 y3 y4 fun y106 y107 =>
                                                    Go.K.grains.impl_LabelsOf.wp y6 y7 y8 fun y108 y109 =>
                                                      Go.K.ifB (!y100) (K Bool.false)
                                                        (Go.K.ifB (!y105) (K Bool.false)
                                                          (Go.K.ifB (!y107) (K Bool.false)
                                                            (Go.K.ifB (!y109) (K Bool.false)
                                                              (Go.K.ifB (y104 != (0 : Int)) (K Bool.false)
                                                                (Go.K.grains.impl_SameGrains.wp y101 y97 y102 y103 y98 y99 fun y110 =>
                                                                  Go.K.ifB (!y110) (K Bool.false)
                                                                    (Go.K.ifB (Decidable.decide ((↑(List.length y108) : Int) > (↑(List.length y106) : Int))) (K Bool.false)
                                                                      (∀ (J111 : List Int → List Int → Int → Prop),
                                                                        (∀ (x112 x113 : List Int) (x114 : Int),
                                                                            Go.K.ifB (Decidable.decide (x114 < (↑(List.length x113) : Int)))
                                                                                (∀ (J115 : List Int → List Int → Int → Bool → Int → Prop),
                                                                                  (∀ (x116 x117 : List Int) (x118 : Int) (x119 : Bool) (x120 : Int),
                                                                                      Go.K.ifB (Decidable.decide (x120 < (↑(List.length x116) : Int)))
                                                                                          (Go.K.ifB x119
                                                                                            (J115 x116 x117 x118 Bool.true (Go.IntKind.wrap Go.IntKind.i64 (x120 + (1 : Int))))
                                                                                            (((0 : Int) ≤ x120 ∧ x120 < (↑(List.length x116) : Int)) ∧
                                                                                              ((0 : Int) ≤ x118 ∧ x118 < (↑(List.length x117) : Int)) ∧
                                                                                                J115 x116 x117 x118
                                                                                                  (List.getD x116 (Int.toNat x120) (0 : Int) ==
                                                                                                    List.getD x117 (Int.toNat x118) (0 : Int))
                                                                                                  (Go.IntKind.wrap Go.IntKind.i64 (x120 + (1 : Int)))))
                                                                                          (Go.K.ifB (!x119) (K Bool.false)
                                                                                            (J111 x116 x117 (Go.IntKind.wrap Go.IntKind.i64 (x118 + (1 : Int))))) →
                                                                                        J115 x116 x117 x118 x119 x120) →
                                                                                    J115 x112 x113 x114 Bool.false (0 : Int))
                                                                                (K Bool.true) →
                                                                              J111 x112 x113 x114) →
                                                                          J111 y106 y108 (0 : Int))))))))))
                                          (Go.K.grains.laws_r8At.wp a2 (1 : Int) (64 : Int) fun y125 =>
                                            Go.K.grains.impl_FlatGrains.wp y3 y4 y125 fun y126 y127 y128 y129 =>
                                              Go.K.grains.impl_MajorityGrains.wp y126 y127 y128 (5 : Int) fun y130 y131 y132 y133 y134 =>
                                                Go.K.grains.impl_LabelsOf.wp y2 y3 y4 fun y135 y136 =>
                                                  Go.K.grains.impl_LabelsOf.wp y6 y7 y8 fun y137 y138 =>
                                                    Go.K.ifB (!y129) (K Bool.false)
                                                      (Go.K.ifB (!y134) (K Bool.false)
                                                        (Go.K.ifB (!y136) (K Bool.false)
                                                          (Go.K.ifB (!y138) (K Bool.false)
                                                            (Go.K.ifB (y133 != (0 : Int)) (K Bool.false)
                                                              (Go.K.grains.impl_SameGrains.wp y130 y126 y131 y132 y127 y128 fun y139 =>
                                                                Go.K.ifB (!y139) (K Bool.false)
                                                                  (Go.K.ifB (Decidable.decide ((↑(List.length y137) : Int) > (↑(List.length y135) : Int))) (K Bool.false)
                                                                    (∀ (J140 : List Int → List Int → Int → Prop),
                                                                      (∀ (x141 x142 : List Int) (x143 : Int),
                                                                          Go.K.ifB (Decidable.decide (x143 < (↑(List.length x142) : Int)))
                                                                              (∀ (J144 : List Int → List Int → Int → Bool → Int → Prop),
                                                                                (∀ (x145 x146 : List Int) (x147 : Int) (x148 : Bool) (x149 : Int),
                                                                                    Go.K.ifB (Decidable.decide (x149 < (↑(List.length x145) : Int)))
                                                                                        (Go.K.ifB x148
                                                                                          (J144 x145 x146 x147 Bool.true (Go.IntKind.wrap Go.IntKind.i64 (x149 + (1 : Int))))
                                                                                          (((0 : Int) ≤ x149 ∧ x149 < (↑(List.length x145) : Int)) ∧
                                                                                            ((0 : Int) ≤ x147 ∧ x147 < (↑(List.length x146) : Int)) ∧
                                                                                              J144 x145 x146 x147
                                                                                                (List.getD x145 (Int.toNat x149) (0 : Int) ==
                                                                                                  List.getD x146 (Int.toNat x147) (0 : Int))
                                                                                                (Go.IntKind.wrap Go.IntKind.i64 (x149 + (1 : Int)))))
                                                                                        (Go.K.ifB (!x148) (K Bool.false)
                                                                                          (J140 x145 x146 (Go.IntKind.wrap Go.IntKind.i64 (x147 + (1 : Int))))) →
                                                                                      J144 x145 x146 x147 x148 x149) →
                                                                                  J144 x141 x142 x143 Bool.false (0 : Int))
                                                                              (K Bool.true) →
                                                                            J140 x141 x142 x143) →
                                                                        J140 y135 y137 (0 : Int)))))))))))))
                              (Go.K.ifB (y14 == (1 : Int))
                                (Go.K.ifB (y24 != Go.IntKind.wrap Go.IntKind.i64 (y19 + (1 : Int))) (K Bool.false)
                                  (Go.K.grains.impl_SameGrains.wp y16 y21 y17 y18 y22 y23 fun y154 =>
                                    Go.K.ifB (!y154) (K Bool.false)
                                      (Go.K.grains.impl_MajorityGrains.wp y6 y7 y8 (1 : Int) fun y155 y156 y157 y158 y159 =>
                                        Go.K.ifB (!y159) (K Bool.false)
                                          (Go.K.ifB (Decidable.decide (y9 < y5))
                                            (Go.K.ifB (y158 != (0 : Int)) (K Bool.false)
                                              (Go.K.grains.laws_r8At.wp a2 (1 : Int) (64 : Int) fun y160 =>
                                                Go.K.grains.impl_FlatGrains.wp y3 y4 y160 fun y161 y162 y163 y164 =>
                                                  Go.K.grains.impl_MajorityGrains.wp y161 y162 y163 (5 : Int) fun y165 y166 y167 y168 y169 =>
                                                    Go.K.grains.impl_LabelsOf.wp y2 y3 y4 fun y170 y171 =>
                                                      Go.K.grains.impl_LabelsOf.wp y6 y7 y8 fun y172 y173 =>
                                                        Go.K.ifB (!y164) (K Bool.false)
                                                          (Go.K.ifB (!y169) (K Bool.false)
                                                            (Go.K.ifB (!y171) (K Bool.false)
                                                              (Go.K.ifB (!y173) (K Bool.false)
                                                                (Go.K.ifB (y168 != (0 : Int)) (K Bool.false)
                                                                  (Go.K.grains.impl_SameGrains.wp y165 y161 y166 y167 y162 y163 fun y174 =>
                                                                    Go.K.ifB (!y174) (K Bool.false)
                                                                      (Go.K.ifB (Decidable.decide ((↑(List.length y172) : Int) > (↑(List.length y170) : Int))) (K Bool.false)
                                                                        (∀ (J175 : List Int → List Int → Int → Prop),
                                                                          (∀ (x176 x177 : List Int) (x178 : Int),
                                                                              Go.K.ifB (Decidable.decide (x178 < (↑(List.length x177) : Int)))
                                                                                  (∀ (J179 : List Int → List Int → Int → Bool → Int → Prop),
                                                                                    (∀ (x180 x181 : List Int) (x182 : Int) (x183 : Bool) (x184 : Int),
                                                                                        Go.K.ifB (Decidable.decide (x184 < (↑(List.length x180) : Int)))
                                                                                            (Go.K.ifB x183
                                                                                              (J179 x180 x181 x182 Bool.true (Go.IntKind.wrap Go.IntKind.i64 (x184 + (1 : Int))))
                                                                                              (((0 : Int) ≤ x184 ∧ x184 < (↑(List.length x180) : Int)) ∧
                                                                                                ((0 : Int) ≤ x182 ∧ x182 < (↑(List.length x181) : Int)) ∧
                                                                                                  J179 x180 x181 x182
                                                                                                    (List.getD x180 (Int.toNat x184) (0 : Int) ==
                                                                                                      List.getD x181 (Int.toNat x182) (0 : Int))
                                                                                                    (Go.IntKind.wrap Go.IntKind.i64 (x184 + (1 : Int)))))
                                                                                            (Go.K.ifB (!x183) (K Bool.false)
                                                                                              (J175 x180 x181 (Go.IntKind.wrap Go.IntKind.i64 (x182 + (1 : Int))))) →
                                                                                          J179 x180 x181 x182 x183 x184) →
                                                                                      J179 x176 x177 x178 Bool.false (0 : Int))
                                                                                  (K Bool.true) →
                                                                                J175 x176 x177 x178) →
                                                                            J175 y170 y172 (0 : Int))))))))))
                                            (Go.K.grains.laws_r8At.wp a2 (1 : Int) (64 : Int) fun y189 =>
                                              Go.K.grains.impl_FlatGrains.wp y3 y4 y189 fun y190 y191 y192 y193 =>
                                                Go.K.grains.impl_MajorityGrains.wp y190 y191 y192 (5 : Int) fun y194 y195 y196 y197 y198 =>
                                                  Go.K.grains.impl_LabelsOf.wp y2 y3 y4 fun y199 y200 =>
                                                    Go.K.grains.impl_LabelsOf.wp y6 y7 y8 fun y201 y202 =>
                                                      Go.K.ifB (!y193) (K Bool.false)
                                                        (Go.K.ifB (!y198) (K Bool.false)
                                                          (Go.K.ifB (!y200) (K Bool.false)
                                                            (Go.K.ifB (!y202) (K Bool.false)
                                                              (Go.K.ifB (y197 != (0 : Int)) (K Bool.false)
                                                                (Go.K.grains.impl_SameGrains.wp y194 y190 y195 y196 y191 y192 fun y203 =>
                                                                  Go.K.ifB (!y203) (K Bool.false)
                                                                    (Go.K.ifB (Decidable.decide ((↑(List.length y201) : Int) > (↑(List.length y199) : Int))) (K Bool.false)
                                                                      (∀ (J204 : List Int → List Int → Int → Prop),
                                                                        (∀ (x205 x206 : List Int) (x207 : Int),
                                                                            Go.K.ifB (Decidable.decide (x207 < (↑(List.length x206) : Int)))
                                                                                (∀ (J208 : List Int → List Int → Int → Bool → Int → Prop),
                                                                                  (∀ (x209 x210 : List Int) (x211 : Int) (x212 : Bool) (x213 : Int),
                                                                                      Go.K.ifB (Decidable.decide (x213 < (↑(List.length x209) : Int)))
                                                                                          (Go.K.ifB x212
                                                                                            (J208 x209 x210 x211 Bool.true (Go.IntKind.wrap Go.IntKind.i64 (x213 + (1 : Int))))
                                                                                            (((0 : Int) ≤ x213 ∧ x213 < (↑(List.length x209) : Int)) ∧
                                                                                              ((0 : Int) ≤ x211 ∧ x211 < (↑(List.length x210) : Int)) ∧
                                                                                                J208 x209 x210 x211
                                                                                                  (List.getD x209 (Int.toNat x213) (0 : Int) ==
                                                                                                    List.getD x210 (Int.toNat x211) (0 : Int))
                                                                                                  (Go.IntKind.wrap Go.IntKind.i64 (x213 + (1 : Int)))))
                                                                                          (Go.K.ifB (!x212) (K Bool.false)
                                                                                            (J204 x209 x210 (Go.IntKind.wrap Go.IntKind.i64 (x211 + (1 : Int))))) →
                                                                                        J208 x209 x210 x211 x212 x213) →
                                                                                    J208 x205 x206 x207 Bool.false (0 : Int))
                                                                                (K Bool.true) →
                                                                              J204 x205 x206 x207) →
                                                                          J204 y199 y201 (0 : Int)))))))))))))
                                (Go.K.grains.impl_MajorityGrains.wp y6 y7 y8 (1 : Int) fun y218 y219 y220 y221 y222 =>
                                  Go.K.ifB (!y222) (K Bool.false)
                                    (Go.K.ifB (Decidable.decide (y9 < y5))
                                      (Go.K.ifB (y221 != (0 : Int)) (K Bool.false)
                                        (Go.K.grains.laws_r8At.wp a2 (1 : Int) (64 : Int) fun y223 =>
                                          Go.K.grains.impl_FlatGrains.wp y3 y4 y223 fun y224 y225 y226 y227 =>
                                            Go.K.grains.impl_MajorityGrains.wp y224 y225 y226 (5 : Int) fun y228 y229 y230 y231 y232 =>
                                              Go.K.grains.impl_LabelsOf.wp y2 y3 y4 fun y233 y234 =>
                                                Go.K.grains.impl_LabelsOf.wp y6 y7 y8 fun y235 y236 =>
                                                  Go.K.ifB (!y227) (K Bool.false)
                                                    (Go.K.ifB (!y232) (K Bool.false)
                                                      (Go.K.ifB (!y234) (K Bool.false)
                                                        (Go.K.ifB (!y236) (K Bool.false)
                                                          (Go.K.ifB (y231 != (0 : Int)) (K Bool.false)
                                                            (Go.K.grains.impl_SameGrains.wp y228 y224 y229 y230 y225 y226 fun y237 =>
                                                              Go.K.ifB (!y237) (K Bool.false)
                                                                (Go.K.ifB (Decidable.decide ((↑(List.length y235) : Int) > (↑(List.length y233) : Int))) (K Bool.false)
                                                                  (∀ (J238 : List Int → List Int → Int → Prop),
                                                                    (∀ (x239 x240 : List Int) (x241 : Int),
                                                                        Go.K.ifB (Decidable.decide (x241 < (↑(List.length x240) : Int)))
                                                                            (∀ (J242 : List Int → List Int → Int → Bool → Int → Prop),
                                                                              (∀ (x243 x244 : List Int) (x245 : Int) (x246 : Bool) (x247 : Int),
                                                                                  Go.K.ifB (Decidable.decide (x247 < (↑(List.length x243) : Int)))
                                                                                      (Go.K.ifB x246
                                                                                        (J242 x243 x244 x245 Bool.true (Go.IntKind.wrap Go.IntKind.i64 (x247 + (1 : Int))))
                                                                                        (((0 : Int) ≤ x247 ∧ x247 < (↑(List.length x243) : Int)) ∧
                                                                                          ((0 : Int) ≤ x245 ∧ x245 < (↑(List.length x244) : Int)) ∧
                                                                                            J242 x243 x244 x245
                                                                                              (List.getD x243 (Int.toNat x247) (0 : Int) ==
                                                                                                List.getD x244 (Int.toNat x245) (0 : Int))
                                                                                              (Go.IntKind.wrap Go.IntKind.i64 (x247 + (1 : Int)))))
                                                                                      (Go.K.ifB (!x246) (K Bool.false)
                                                                                        (J238 x243 x244 (Go.IntKind.wrap Go.IntKind.i64 (x245 + (1 : Int))))) →
                                                                                    J242 x243 x244 x245 x246 x247) →
                                                                                J242 x239 x240 x241 Bool.false (0 : Int))
                                                                            (K Bool.true) →
                                                                          J238 x239 x240 x241) →
                                                                      J238 y233 y235 (0 : Int))))))))))
                                      (Go.K.grains.laws_r8At.wp a2 (1 : Int) (64 : Int) fun y252 =>
                                        Go.K.grains.impl_FlatGrains.wp y3 y4 y252 fun y253 y254 y255 y256 =>
                                          Go.K.grains.impl_MajorityGrains.wp y253 y254 y255 (5 : Int) fun y257 y258 y259 y260 y261 =>
                                            Go.K.grains.impl_LabelsOf.wp y2 y3 y4 fun y262 y263 =>
                                              Go.K.grains.impl_LabelsOf.wp y6 y7 y8 fun y264 y265 =>
                                                Go.K.ifB (!y256) (K Bool.false)
                                                  (Go.K.ifB (!y261) (K Bool.false)
                                                    (Go.K.ifB (!y263) (K Bool.false)
                                                      (Go.K.ifB (!y265) (K Bool.false)
                                                        (Go.K.ifB (y260 != (0 : Int)) (K Bool.false)
                                                          (Go.K.grains.impl_SameGrains.wp y257 y253 y258 y259 y254 y255 fun y266 =>
                                                            Go.K.ifB (!y266) (K Bool.false)
                                                              (Go.K.ifB (Decidable.decide ((↑(List.length y264) : Int) > (↑(List.length y262) : Int))) (K Bool.false)
                                                                (∀ (J267 : List Int → List Int → Int → Prop),
                                                                  (∀ (x268 x269 : List Int) (x270 : Int),
                                                                      Go.K.ifB (Decidable.decide (x270 < (↑(List.length x269) : Int)))
                                                                          (∀ (J271 : List Int → List Int → Int → Bool → Int → Prop),
                                                                            (∀ (x272 x273 : List Int) (x274 : Int) (x275 : Bool) (x276 : Int),
                                                                                Go.K.ifB (Decidable.decide (x276 < (↑(List.length x272) : Int)))
                                                                                    (Go.K.ifB x275
                                                                                      (J271 x272 x273 x274 Bool.true (Go.IntKind.wrap Go.IntKind.i64 (x276 + (1 : Int))))
                                                                                      (((0 : Int) ≤ x276 ∧ x276 < (↑(List.length x272) : Int)) ∧
                                                                                        ((0 : Int) ≤ x274 ∧ x274 < (↑(List.length x273) : Int)) ∧
                                                                                          J271 x272 x273 x274
                                                                                            (List.getD x272 (Int.toNat x276) (0 : Int) == List.getD x273 (Int.toNat x274) (0 : Int))
                                                                                            (Go.IntKind.wrap Go.IntKind.i64 (x276 + (1 : Int)))))
                                                                                    (Go.K.ifB (!x275) (K Bool.false)
                                                                                      (J267 x272 x273 (Go.IntKind.wrap Go.IntKind.i64 (x274 + (1 : Int))))) →
                                                                                  J271 x272 x273 x274 x275 x276) →
                                                                              J271 x268 x269 x270 Bool.false (0 : Int))
                                                                          (K Bool.true) →
                                                                        J267 x268 x269 x270) →
                                                                    J267 y262 y264 (0 : Int)))))))))))))))))))) := laws_FnMajorities.tx laws_r8Long.wp spec_R8Grains.wp laws_r8At.wp impl_MajorityGrains.wp impl_SameGrains.wp impl_FlatGrains.wp impl_LabelsOf.wp a1 a2 K

theorem impl_isSeed.tx (w_impl_within : Int → Int → Int → (Bool → Prop) → Prop) (a1 : Int) (K : Bool → Prop) : impl_isSeed.bd w_impl_within a1 K =
  (w_impl_within a1 (0 : Int) (2147483647 : Int) fun y1 => K y1) := by kernel_rfl
theorem impl_isSeed.eq (a1 : Int) (K : Bool → Prop) : impl_isSeed.wp a1 K =
  (Go.K.grains.impl_within.wp a1 (0 : Int) (2147483647 : Int) fun y1 => K y1) := impl_isSeed.tx impl_within.wp a1 K

theorem impl_draw.tx  (a1 : Int) (K : Int → Int → Prop) : impl_draw.bd  a1 K =
  (K (Int.tmod (Go.IntKind.wrap Go.IntKind.i64 (Go.IntKind.wrap Go.IntKind.i64 ((1103515245 : Int) * a1) + (12345 : Int))) (2147483648 : Int))
  (Go.IntKind.wrap Go.IntKind.i64
    (Int.tdiv (Int.tmod (Go.IntKind.wrap Go.IntKind.i64 (Go.IntKind.wrap Go.IntKind.i64 ((1103515245 : Int) * a1) + (12345 : Int))) (2147483648 : Int))
      (65536 : Int)))) := by kernel_rfl
theorem impl_draw.eq (a1 : Int) (K : Int → Int → Prop) : impl_draw.wp a1 K =
  (K (Int.tmod (Go.IntKind.wrap Go.IntKind.i64 (Go.IntKind.wrap Go.IntKind.i64 ((1103515245 : Int) * a1) + (12345 : Int))) (2147483648 : Int))
  (Go.IntKind.wrap Go.IntKind.i64
    (Int.tdiv (Int.tmod (Go.IntKind.wrap Go.IntKind.i64 (Go.IntKind.wrap Go.IntKind.i64 ((1103515245 : Int) * a1) + (12345 : Int))) (2147483648 : Int))
      (65536 : Int)))) := impl_draw.tx  a1 K

theorem impl_Grains_unlike.tx (w_impl_Grains_around : List Int → Int → Int → Int → Int → (List Int → Prop) → Prop) (a1 : List Int) (a2 : Int) (a3 : Int) (a4 : Int) (a5 : Int) (a6 : Int) (K : Int → Prop) : impl_Grains_unlike.bd w_impl_Grains_around a1 a2 a3 a4 a5 a6 K =
  (w_impl_Grains_around a1 a2 a3 a4 a5 fun y1 =>
  ∀ (J2 : List Int → Int → Int → Int → Prop),
    (∀ (x3 : List Int) (x4 x5 x6 : Int),
        Go.K.ifB (Decidable.decide (x6 < x5))
            (((0 : Int) ≤ x6 ∧ x6 < (↑(List.length x3) : Int)) ∧
              Go.K.ifB (List.getD x3 (Int.toNat x6) (0 : Int) != a6) (J2 x3 (Go.IntKind.wrap Go.IntKind.i64 (x4 + (1 : Int))) x5 (Go.IntKind.wrap Go.IntKind.i64 (x6 + (1 : Int))))
                (J2 x3 x4 x5 (Go.IntKind.wrap Go.IntKind.i64 (x6 + (1 : Int)))))
            (K x4) →
          J2 x3 x4 x5 x6) →
      J2 y1 (0 : Int) (↑(List.length y1) : Int) (0 : Int)) := by kernel_rfl
theorem impl_Grains_unlike.eq (a1 : List Int) (a2 : Int) (a3 : Int) (a4 : Int) (a5 : Int) (a6 : Int) (K : Int → Prop) : impl_Grains_unlike.wp a1 a2 a3 a4 a5 a6 K =
  (Go.K.grains.impl_Grains_around.wp a1 a2 a3 a4 a5 fun y1 =>
  ∀ (J2 : List Int → Int → Int → Int → Prop),
    (∀ (x3 : List Int) (x4 x5 x6 : Int),
        Go.K.ifB (Decidable.decide (x6 < x5))
            (((0 : Int) ≤ x6 ∧ x6 < (↑(List.length x3) : Int)) ∧
              Go.K.ifB (List.getD x3 (Int.toNat x6) (0 : Int) != a6) (J2 x3 (Go.IntKind.wrap Go.IntKind.i64 (x4 + (1 : Int))) x5 (Go.IntKind.wrap Go.IntKind.i64 (x6 + (1 : Int))))
                (J2 x3 x4 x5 (Go.IntKind.wrap Go.IntKind.i64 (x6 + (1 : Int)))))
            (K x4) →
          J2 x3 x4 x5 x6) →
      J2 y1 (0 : Int) (↑(List.length y1) : Int) (0 : Int)) := impl_Grains_unlike.tx impl_Grains_around.wp a1 a2 a3 a4 a5 a6 K

theorem impl_FlipGrains.tx (w_impl_ValidGrains : List Int → Int → Int → (Bool → Prop) → Prop) (w_impl_isSeed : Int → (Bool → Prop) → Prop) (w_impl_within : Int → Int → Int → (Bool → Prop) → Prop) (w_slices_Clone_int64_int64 : List Int → (List Int → Prop) → Prop) (w_impl_draw : Int → (Int → Int → Prop) → Prop) (w_impl_Grains_around : List Int → Int → Int → Int → Int → (List Int → Prop) → Prop) (w_impl_Grains_about : List Int → Int → Int → Int → Int → (Int → Prop) → Prop) (w_impl_Grains_unlike : List Int → Int → Int → Int → Int → Int → (Int → Prop) → Prop) (w_impl_Grains_cell : List Int → Int → Int → Int → Int → (Int → Prop) → Prop) (a1 : List
  Int) (a2 : Int) (a3 : Int) (a4 : Int) (a5 : Nat) (a6 : Int) (K : List Int → Int → Int → Int → Int → Bool → Prop) : impl_FlipGrains.bd w_impl_ValidGrains w_impl_isSeed w_impl_within w_slices_Clone_int64_int64 w_impl_draw w_impl_Grains_around w_impl_Grains_about w_impl_Grains_unlike w_impl_Grains_cell a1 a2 a3 a4 a5 a6 K =
  (w_impl_ValidGrains a1 a2 a3 fun y1 =>
  Go.K.ifB (!y1) (K [] (0 : Int) (0 : Int) (0 : Int) (0 : Int) Bool.false)
    (w_impl_isSeed a4 fun y2 =>
      Go.K.ifB (!y2) (K [] (0 : Int) (0 : Int) (0 : Int) (0 : Int) Bool.false)
        (w_impl_within a6 (0 : Int) (1000 : Int) fun y3 =>
          Go.K.ifB (!y3) (K [] (0 : Int) (0 : Int) (0 : Int) (0 : Int) Bool.false)
            (w_slices_Clone_int64_int64 a1 fun y4 =>
              ∀ (J5 : Int → Int → Int → Int → List Int → List Int → Int → Int → Int → Int → Prop),
                (∀ (x6 x7 x8 x9 : Int) (x10 x11 : List Int) (x12 x13 x14 x15 : Int),
                    Go.K.ifB (Decidable.decide (x15 < x14))
                        (w_impl_draw x12 fun y16 y17 =>
                          x6 ≠ (0 : Int) ∧
                            w_impl_draw y16 fun y18 y19 =>
                              x7 ≠ (0 : Int) ∧
                                w_impl_draw y18 fun y20 y21 =>
                                  w_impl_Grains_around x10 x6 x7 (Int.tmod y17 x6) (Int.tmod y19 x7) fun y22 =>
                                    ((0 : Int) ≤ Int.tmod y21 (8 : Int) ∧ Int.tmod y21 (8 : Int) < (↑(List.length y22) : Int)) ∧
                                      w_impl_Grains_about x10 x6 x7 (Int.tmod y17 x6) (Int.tmod y19 x7) fun y23 =>
                                        w_impl_Grains_unlike x10 x6 x7 (Int.tmod y17 x6) (Int.tmod y19 x7)
                                          (List.getD y22 (Int.toNat (Int.tmod y21 (8 : Int))) (0 : Int)) fun y24 =>
                                          w_impl_Grains_unlike x10 x6 x7 (Int.tmod y17 x6) (Int.tmod y19 x7) y23 fun y25 =>
                                            ∀ (J26 : Int → Int → Int → Int → List Int → List Int → Int → Int → Int → Int → Int → Int → Bool → Int → Int → Prop),
                                              (∀ (x27 x28 x29 x30 : Int) (x31 x32 : List Int) (x33 x34 x35 x36 x37 x38 : Int) (x39 : Bool) (x40 x41 : Int),
                                                  Go.K.ifB x39
                                                      (Go.K.ifB (x37 != x38)
                                                        (w_impl_Grains_cell x31 x27 x28 x35 x36 fun y42 =>
                                                          ((0 : Int) ≤ y42 ∧ y42 < (↑(List.length x31) : Int)) ∧
                                                            J5 x27 x28 x29 x30 (List.set x31 (Int.toNat y42) x37) x32 x33 (Go.IntKind.wrap Go.IntKind.i64 (x34 + (1 : Int))) x40
                                                              (Go.IntKind.wrap Go.IntKind.i64 (x41 + (1 : Int))))
                                                        (J5 x27 x28 x29 x30 x31 x32 x33 x34 x40 (Go.IntKind.wrap Go.IntKind.i64 (x41 + (1 : Int)))))
                                                      (J5 x27 x28 x29 x30 x31 x32 x33 x34 x40 (Go.IntKind.wrap Go.IntKind.i64 (x41 + (1 : Int)))) →
                                                    J26 x27 x28 x29 x30 x31 x32 x33 x34 x35 x36 x37 x38 x39 x40 x41) →
                                                Go.K.ifB (!Decidable.decide (Go.IntKind.wrap Go.IntKind.i64 (y24 - y25) ≤ (0 : Int)))
                                                  (w_impl_draw y20 fun y45 y46 =>
                                                    ∀
                                                      (J47 :
                                                        Int → Int → Int → Int → List Int → List Int → Int → Int → Int → Int → Int → Int → Int → Nat → Int → Int → Int → Int → Prop),
                                                      (∀ (x48 x49 x50 x51 : Int) (x52 x53 : List Int) (x54 x55 x56 x57 x58 x59 x60 : Int) (x61 : Nat) (x62 x63 x64 x65 : Int),
                                                          Go.K.ifB (Decidable.decide (x65 < x64))
                                                              (J47 x48 x49 x50 x51 x52 x53 x54 x55 x56 x57 x58 x59 x60 (Go.K.farith Go.BinOp.mul Go.FloatKind.f32 x61 a5) x62 x63
                                                                x64 (Go.IntKind.wrap Go.IntKind.i64 (x65 + (1 : Int))))
                                                              (J26 x48 x49 x50 x51 x52 x53 x54 x56 x57 x58 x59 x60
                                                                (Go.K.flt Go.FloatKind.f32
                                                                  (Go.K.farith Go.BinOp.quo Go.FloatKind.f32 (Go.K.fofint Go.FloatKind.f32 x55) (1191182336 : Nat)) x61)
                                                                x62 x63) →
                                                            J47 x48 x49 x50 x51 x52 x53 x54 x55 x56 x57 x58 x59 x60 x61 x62 x63 x64 x65) →
                                                        J47 x6 x7 x8 x9 x10 x11 y45 y46 x13 (Int.tmod y17 x6) (Int.tmod y19 x7)
                                                          (List.getD y22 (Int.toNat (Int.tmod y21 (8 : Int))) (0 : Int)) y23 (1065353216 : Nat) x14 x15
                                                          (Go.IntKind.wrap Go.IntKind.i64 (y24 - y25)) (0 : Int))
                                                  (J26 x6 x7 x8 x9 x10 x11 y20 x13 (Int.tmod y17 x6) (Int.tmod y19 x7)
                                                    (List.getD y22 (Int.toNat (Int.tmod y21 (8 : Int))) (0 : Int)) y23
                                                    (Decidable.decide (Go.IntKind.wrap Go.IntKind.i64 (y24 - y25) ≤ (0 : Int))) x14 x15))
                        (K x10 x6 x7 x12 x13 Bool.true) →
                      J5 x6 x7 x8 x9 x10 x11 x12 x13 x14 x15) →
                  J5 a2 a3 (0 : Int) (0 : Int) y4 [] a4 (0 : Int) a6 (0 : Int))))) := by kernel_rfl
theorem impl_FlipGrains.eq (a1 : List
  Int) (a2 : Int) (a3 : Int) (a4 : Int) (a5 : Nat) (a6 : Int) (K : List Int → Int → Int → Int → Int → Bool → Prop) : impl_FlipGrains.wp a1 a2 a3 a4 a5 a6 K =
  (Go.K.grains.impl_ValidGrains.wp a1 a2 a3 fun y1 =>
  Go.K.ifB (!y1) (K [] (0 : Int) (0 : Int) (0 : Int) (0 : Int) Bool.false)
    (Go.K.grains.impl_isSeed.wp a4 fun y2 =>
      Go.K.ifB (!y2) (K [] (0 : Int) (0 : Int) (0 : Int) (0 : Int) Bool.false)
        (Go.K.grains.impl_within.wp a6 (0 : Int) (1000 : Int) fun y3 =>
          Go.K.ifB (!y3) (K [] (0 : Int) (0 : Int) (0 : Int) (0 : Int) Bool.false)
            (Go.K.grains.slices_Clone_int64_int64.wp a1 fun y4 =>
              ∀ (J5 : Int → Int → Int → Int → List Int → List Int → Int → Int → Int → Int → Prop),
                (∀ (x6 x7 x8 x9 : Int) (x10 x11 : List Int) (x12 x13 x14 x15 : Int),
                    Go.K.ifB (Decidable.decide (x15 < x14))
                        (Go.K.grains.impl_draw.wp x12 fun y16 y17 =>
                          x6 ≠ (0 : Int) ∧
                            Go.K.grains.impl_draw.wp y16 fun y18 y19 =>
                              x7 ≠ (0 : Int) ∧
                                Go.K.grains.impl_draw.wp y18 fun y20 y21 =>
                                  Go.K.grains.impl_Grains_around.wp x10 x6 x7 (Int.tmod y17 x6) (Int.tmod y19 x7) fun y22 =>
                                    ((0 : Int) ≤ Int.tmod y21 (8 : Int) ∧ Int.tmod y21 (8 : Int) < (↑(List.length y22) : Int)) ∧
                                      Go.K.grains.impl_Grains_about.wp x10 x6 x7 (Int.tmod y17 x6) (Int.tmod y19 x7) fun y23 =>
                                        Go.K.grains.impl_Grains_unlike.wp x10 x6 x7 (Int.tmod y17 x6) (Int.tmod y19 x7)
                                          (List.getD y22 (Int.toNat (Int.tmod y21 (8 : Int))) (0 : Int)) fun y24 =>
                                          Go.K.grains.impl_Grains_unlike.wp x10 x6 x7 (Int.tmod y17 x6) (Int.tmod y19 x7) y23 fun y25 =>
                                            ∀ (J26 : Int → Int → Int → Int → List Int → List Int → Int → Int → Int → Int → Int → Int → Bool → Int → Int → Prop),
                                              (∀ (x27 x28 x29 x30 : Int) (x31 x32 : List Int) (x33 x34 x35 x36 x37 x38 : Int) (x39 : Bool) (x40 x41 : Int),
                                                  Go.K.ifB x39
                                                      (Go.K.ifB (x37 != x38)
                                                        (Go.K.grains.impl_Grains_cell.wp x31 x27 x28 x35 x36 fun y42 =>
                                                          ((0 : Int) ≤ y42 ∧ y42 < (↑(List.length x31) : Int)) ∧
                                                            J5 x27 x28 x29 x30 (List.set x31 (Int.toNat y42) x37) x32 x33 (Go.IntKind.wrap Go.IntKind.i64 (x34 + (1 : Int))) x40
                                                              (Go.IntKind.wrap Go.IntKind.i64 (x41 + (1 : Int))))
                                                        (J5 x27 x28 x29 x30 x31 x32 x33 x34 x40 (Go.IntKind.wrap Go.IntKind.i64 (x41 + (1 : Int)))))
                                                      (J5 x27 x28 x29 x30 x31 x32 x33 x34 x40 (Go.IntKind.wrap Go.IntKind.i64 (x41 + (1 : Int)))) →
                                                    J26 x27 x28 x29 x30 x31 x32 x33 x34 x35 x36 x37 x38 x39 x40 x41) →
                                                Go.K.ifB (!Decidable.decide (Go.IntKind.wrap Go.IntKind.i64 (y24 - y25) ≤ (0 : Int)))
                                                  (Go.K.grains.impl_draw.wp y20 fun y45 y46 =>
                                                    ∀
                                                      (J47 :
                                                        Int → Int → Int → Int → List Int → List Int → Int → Int → Int → Int → Int → Int → Int → Nat → Int → Int → Int → Int → Prop),
                                                      (∀ (x48 x49 x50 x51 : Int) (x52 x53 : List Int) (x54 x55 x56 x57 x58 x59 x60 : Int) (x61 : Nat) (x62 x63 x64 x65 : Int),
                                                          Go.K.ifB (Decidable.decide (x65 < x64))
                                                              (J47 x48 x49 x50 x51 x52 x53 x54 x55 x56 x57 x58 x59 x60 (Go.K.farith Go.BinOp.mul Go.FloatKind.f32 x61 a5) x62 x63
                                                                x64 (Go.IntKind.wrap Go.IntKind.i64 (x65 + (1 : Int))))
                                                              (J26 x48 x49 x50 x51 x52 x53 x54 x56 x57 x58 x59 x60
                                                                (Go.K.flt Go.FloatKind.f32
                                                                  (Go.K.farith Go.BinOp.quo Go.FloatKind.f32 (Go.K.fofint Go.FloatKind.f32 x55) (1191182336 : Nat)) x61)
                                                                x62 x63) →
                                                            J47 x48 x49 x50 x51 x52 x53 x54 x55 x56 x57 x58 x59 x60 x61 x62 x63 x64 x65) →
                                                        J47 x6 x7 x8 x9 x10 x11 y45 y46 x13 (Int.tmod y17 x6) (Int.tmod y19 x7)
                                                          (List.getD y22 (Int.toNat (Int.tmod y21 (8 : Int))) (0 : Int)) y23 (1065353216 : Nat) x14 x15
                                                          (Go.IntKind.wrap Go.IntKind.i64 (y24 - y25)) (0 : Int))
                                                  (J26 x6 x7 x8 x9 x10 x11 y20 x13 (Int.tmod y17 x6) (Int.tmod y19 x7)
                                                    (List.getD y22 (Int.toNat (Int.tmod y21 (8 : Int))) (0 : Int)) y23
                                                    (Decidable.decide (Go.IntKind.wrap Go.IntKind.i64 (y24 - y25) ≤ (0 : Int))) x14 x15))
                        (K x10 x6 x7 x12 x13 Bool.true) →
                      J5 x6 x7 x8 x9 x10 x11 x12 x13 x14 x15) →
                  J5 a2 a3 (0 : Int) (0 : Int) y4 [] a4 (0 : Int) a6 (0 : Int))))) := impl_FlipGrains.tx impl_ValidGrains.wp impl_isSeed.wp impl_within.wp slices_Clone_int64_int64.wp impl_draw.wp impl_Grains_around.wp impl_Grains_about.wp impl_Grains_unlike.wp impl_Grains_cell.wp a1 a2 a3 a4 a5 a6 K

theorem impl_UnlikePairs.tx (w_impl_ValidGrains : List Int → Int → Int → (Bool → Prop) → Prop) (w_impl_Grains_unlike : List Int → Int → Int → Int → Int → Int → (Int → Prop) → Prop) (a1 : List Int) (a2 : Int) (a3 : Int) (K : Int → Bool → Prop) : impl_UnlikePairs.bd w_impl_ValidGrains w_impl_Grains_unlike a1 a2 a3 K =
  (w_impl_ValidGrains a1 a2 a3 fun y1 =>
  Go.K.ifB (!y1) (K (0 : Int) Bool.false)
    (∀ (J2 : Int → Int → Int → Int → Int → Prop),
      (∀ (x3 x4 x5 x6 x7 : Int),
          Go.K.ifB (Decidable.decide (x7 < x6))
              (((0 : Int) ≤ x7 ∧ x7 < (↑(List.length a1) : Int)) ∧
                x3 ≠ (0 : Int) ∧
                  x3 ≠ (0 : Int) ∧
                    w_impl_Grains_unlike a1 x3 x4 (Int.tmod x7 x3) (Go.IntKind.wrap Go.IntKind.i64 (Int.tdiv x7 x3)) (List.getD a1 (Int.toNat x7) (0 : Int)) fun y8 =>
                      J2 x3 x4 (Go.IntKind.wrap Go.IntKind.i64 (x5 + y8)) x6 (Go.IntKind.wrap Go.IntKind.i64 (x7 + (1 : Int))))
              (K (Go.IntKind.wrap Go.IntKind.i64 (Int.tdiv x5 (2 : Int))) Bool.true) →
            J2 x3 x4 x5 x6 x7) →
        J2 a2 a3 (0 : Int) (↑(List.length a1) : Int) (0 : Int))) := by kernel_rfl
theorem impl_UnlikePairs.eq (a1 : List Int) (a2 : Int) (a3 : Int) (K : Int → Bool → Prop) : impl_UnlikePairs.wp a1 a2 a3 K =
  (Go.K.grains.impl_ValidGrains.wp a1 a2 a3 fun y1 =>
  Go.K.ifB (!y1) (K (0 : Int) Bool.false)
    (∀ (J2 : Int → Int → Int → Int → Int → Prop),
      (∀ (x3 x4 x5 x6 x7 : Int),
          Go.K.ifB (Decidable.decide (x7 < x6))
              (((0 : Int) ≤ x7 ∧ x7 < (↑(List.length a1) : Int)) ∧
                x3 ≠ (0 : Int) ∧
                  x3 ≠ (0 : Int) ∧
                    Go.K.grains.impl_Grains_unlike.wp a1 x3 x4 (Int.tmod x7 x3) (Go.IntKind.wrap Go.IntKind.i64 (Int.tdiv x7 x3)) (List.getD a1 (Int.toNat x7) (0 : Int)) fun y8 =>
                      J2 x3 x4 (Go.IntKind.wrap Go.IntKind.i64 (x5 + y8)) x6 (Go.IntKind.wrap Go.IntKind.i64 (x7 + (1 : Int))))
              (K (Go.IntKind.wrap Go.IntKind.i64 (Int.tdiv x5 (2 : Int))) Bool.true) →
            J2 x3 x4 x5 x6 x7) →
        J2 a2 a3 (0 : Int) (↑(List.length a1) : Int) (0 : Int))) := impl_UnlikePairs.tx impl_ValidGrains.wp impl_Grains_unlike.wp a1 a2 a3 K

theorem impl_CountOfLabel.tx (w_impl_ValidGrains : List Int → Int → Int → (Bool → Prop) → Prop) (w_impl_isLabel : Int → (Bool → Prop) → Prop) (a1 : List Int) (a2 : Int) (a3 : Int) (a4 : Int) (K : Int → Bool → Prop) : impl_CountOfLabel.bd w_impl_ValidGrains w_impl_isLabel a1 a2 a3 a4 K =
  (w_impl_ValidGrains a1 a2 a3 fun y1 =>
  Go.K.ifB (!y1) (K (0 : Int) Bool.false)
    (w_impl_isLabel a4 fun y2 =>
      Go.K.ifB (!y2) (K (0 : Int) Bool.false)
        (∀ (J3 : Int → Int → Int → Prop),
          (∀ (x4 x5 x6 : Int),
              Go.K.ifB (Decidable.decide (x6 < x5))
                  (((0 : Int) ≤ x6 ∧ x6 < (↑(List.length a1) : Int)) ∧
                    Go.K.ifB (List.getD a1 (Int.toNat x6) (0 : Int) == a4)
                      (J3 (Go.IntKind.wrap Go.IntKind.i64 (x4 + (1 : Int))) x5 (Go.IntKind.wrap Go.IntKind.i64 (x6 + (1 : Int))))
                      (J3 x4 x5 (Go.IntKind.wrap Go.IntKind.i64 (x6 + (1 : Int)))))
                  (K x4 Bool.true) →
                J3 x4 x5 x6) →
            J3 (0 : Int) (↑(List.length a1) : Int) (0 : Int)))) := by kernel_rfl
theorem impl_CountOfLabel.eq (a1 : List Int) (a2 : Int) (a3 : Int) (a4 : Int) (K : Int → Bool → Prop) : impl_CountOfLabel.wp a1 a2 a3 a4 K =
  (Go.K.grains.impl_ValidGrains.wp a1 a2 a3 fun y1 =>
  Go.K.ifB (!y1) (K (0 : Int) Bool.false)
    (Go.K.grains.impl_isLabel.wp a4 fun y2 =>
      Go.K.ifB (!y2) (K (0 : Int) Bool.false)
        (∀ (J3 : Int → Int → Int → Prop),
          (∀ (x4 x5 x6 : Int),
              Go.K.ifB (Decidable.decide (x6 < x5))
                  (((0 : Int) ≤ x6 ∧ x6 < (↑(List.length a1) : Int)) ∧
                    Go.K.ifB (List.getD a1 (Int.toNat x6) (0 : Int) == a4)
                      (J3 (Go.IntKind.wrap Go.IntKind.i64 (x4 + (1 : Int))) x5 (Go.IntKind.wrap Go.IntKind.i64 (x6 + (1 : Int))))
                      (J3 x4 x5 (Go.IntKind.wrap Go.IntKind.i64 (x6 + (1 : Int)))))
                  (K x4 Bool.true) →
                J3 x4 x5 x6) →
            J3 (0 : Int) (↑(List.length a1) : Int) (0 : Int)))) := impl_CountOfLabel.tx impl_ValidGrains.wp impl_isLabel.wp a1 a2 a3 a4 K

theorem laws_FnFlips.tx (w_laws_r8Long : List Int → List Int → (Bool → Prop) → Prop) (w_spec_R8Grains : List Int → (List Int → Int → Int → Prop) → Prop) (w_laws_r8At : List Int → Int → Int → (Int → Prop) → Prop) (w_impl_FlipGrains : List Int → Int → Int → Int → Nat → Int → (List Int → Int → Int → Int → Int → Bool → Prop) → Prop) (w_impl_UnlikePairs : List Int → Int → Int → (Int → Bool → Prop) → Prop) (w_impl_SameGrains : List Int → List Int → Int → Int → Int → Int → (Bool → Prop) → Prop) (w_impl_ValidGrains : List Int → Int → Int → (Bool → Prop) → Prop) (w_impl_LabelsOf : List Int → Int → Int → (List Int → Bool → Prop) → Prop) (w_impl_CountOfLabel : List Int → Int → Int → Int → (Int → Bool → Prop) → Prop) (a1 : List Int) (a2 : List Int) (K : Bool → Prop) : laws_FnFlips.bd w_laws_r8Long w_spec_R8Grains w_laws_r8At w_impl_FlipGrains w_impl_UnlikePairs w_impl_SameGrains w_impl_ValidGrains w_impl_LabelsOf w_impl_CountOfLabel a1 a2 K =
  (w_laws_r8Long a1 a2 fun y1 =>
  Go.K.ifB y1 (K Bool.true)
    (w_spec_R8Grains a1 fun y2 y3 y4 =>
      w_laws_r8At a2 (0 : Int) (256 : Int) fun y5 =>
        w_laws_r8At a2 (1 : Int) (256 : Int) fun y6 =>
          w_laws_r8At a2 (2 : Int) (30 : Int) fun y7 =>
            w_laws_r8At a2 (3 : Int) (30 : Int) fun y8 =>
              w_impl_FlipGrains y2 y3 y4 (Go.IntKind.wrap Go.IntKind.i64 (Go.IntKind.wrap Go.IntKind.i64 ((256 : Int) * y5) + y6)) (0 : Nat) y7
                fun y9 y10 y11 y12 y13 y14 =>
                w_impl_UnlikePairs y2 y3 y4 fun y15 y16 =>
                  w_impl_UnlikePairs y9 y10 y11 fun y17 y18 =>
                    w_impl_FlipGrains y2 y3 y4 (Go.IntKind.wrap Go.IntKind.i64 (Go.IntKind.wrap Go.IntKind.i64 ((256 : Int) * y5) + y6)) (1056964608 : Nat) y7
                      fun y19 y20 y21 y22 y23 y24 =>
                      w_impl_FlipGrains y19 y20 y21 y22 (1056964608 : Nat) y8 fun y25 y26 y27 y28 y29 y30 =>
                        w_impl_FlipGrains y2 y3 y4 (Go.IntKind.wrap Go.IntKind.i64 (Go.IntKind.wrap Go.IntKind.i64 ((256 : Int) * y5) + y6)) (1056964608 : Nat)
                          (Go.IntKind.wrap Go.IntKind.i64 (y7 + y8)) fun y31 y32 y33 y34 y35 y36 =>
                          Go.K.ifB (!y14) (K Bool.false)
                            (Go.K.ifB (!y16) (K Bool.false)
                              (Go.K.ifB (!y18) (K Bool.false)
                                (Go.K.ifB (!y24) (K Bool.false)
                                  (Go.K.ifB (!y30) (K Bool.false)
                                    (Go.K.ifB (!y36) (K Bool.false)
                                      (Go.K.ifB (Decidable.decide (y17 > y15)) (K Bool.false)
                                        (Go.K.ifB (y28 != y34) (K Bool.false)
                                          (Go.K.ifB (Go.IntKind.wrap Go.IntKind.i64 (y23 + y29) != y35) (K Bool.false)
                                            (w_impl_SameGrains y25 y31 y26 y27 y32 y33 fun y37 =>
                                              Go.K.ifB (!y37) (K Bool.false)
                                                (w_impl_ValidGrains y31 y32 y33 fun y38 =>
                                                  Go.K.ifB (!y38) (K Bool.false)
                                                    (∀ (J39 : Int → Int → Int → Int → List Int → List Int → Int → Int → Int → Prop),
                                                      (∀ (x40 x41 x42 x43 : Int) (x44 x45 : List Int) (x46 x47 x48 : Int),
                                                          Go.K.ifB (Decidable.decide (x48 < (↑(List.length x44) : Int)))
                                                              (((0 : Int) ≤ x48 ∧ x48 < (↑(List.length x44) : Int)) ∧
                                                                ((0 : Int) ≤ x48 ∧ x48 < (↑(List.length x45) : Int)) ∧
                                                                  Go.K.ifB (List.getD x44 (Int.toNat x48) (0 : Int) != List.getD x45 (Int.toNat x48) (0 : Int))
                                                                    (J39 x40 x41 x42 x43 x44 x45 x46 (Go.IntKind.wrap Go.IntKind.i64 (x47 + (1 : Int)))
                                                                      (Go.IntKind.wrap Go.IntKind.i64 (x48 + (1 : Int))))
                                                                    (J39 x40 x41 x42 x43 x44 x45 x46 x47 (Go.IntKind.wrap Go.IntKind.i64 (x48 + (1 : Int)))))
                                                              (w_impl_LabelsOf x44 x40 x41 fun y49 y50 =>
                                                                w_impl_LabelsOf x45 x42 x43 fun y51 y52 =>
                                                                  Go.K.ifB (!y50) (K Bool.false)
                                                                    (Go.K.ifB (!y52) (K Bool.false)
                                                                      (Go.K.ifB (Decidable.decide (x47 > x46)) (K Bool.false)
                                                                        (∀ (J53 : Int → Int → Int → Int → List Int → List Int → List Int → List Int → Int → Int → Prop),
                                                                          (∀ (x54 x55 x56 x57 : Int) (x58 x59 x60 x61 : List Int) (x62 x63 : Int),
                                                                              Go.K.ifB (Decidable.decide (x63 < (↑(List.length x59) : Int)))
                                                                                  (∀
                                                                                    (J64 :
                                                                                      Int →
                                                                                        Int →
                                                                                          Int → Int → List Int → List Int → List Int → List Int → Int → Int → Bool → Int → Prop),
                                                                                    (∀ (x65 x66 x67 x68 : Int) (x69 x70 x71 x72 : List Int) (x73 x74 : Int) (x75 : Bool)
                                                                                        (x76 : Int),
                                                                                        Go.K.ifB (Decidable.decide (x76 < (↑(List.length x69) : Int)))
                                                                                            (Go.K.ifB x75
                                                                                              (J64 x65 x66 x67 x68 x69 x70 x71 x72 x73 x74 Bool.true
                                                                                                (Go.IntKind.wrap Go.IntKind.i64 (x76 + (1 : Int))))
                                                                                              (((0 : Int) ≤ x76 ∧ x76 < (↑(List.length x69) : Int)) ∧
                                                                                                ((0 : Int) ≤ x74 ∧ x74 < (↑(List.length x70) : Int)) ∧
                                                                                                  J64 x65 x66 x67 x68 x69 x70 x71 x72 x73 x74
                                                                                                    (List.getD x69 (Int.toNat x76) (0 : Int) ==
                                                                                                      List.getD x70 (Int.toNat x74) (0 : Int))
                                                                                                    (Go.IntKind.wrap Go.IntKind.i64 (x76 + (1 : Int)))))
                                                                                            (((0 : Int) ≤ x74 ∧ x74 < (↑(List.length x70) : Int)) ∧
                                                                                              w_impl_CountOfLabel x72 x67 x68 (List.getD x70 (Int.toNat x74) (0 : Int))
                                                                                                fun y77 y78 =>
                                                                                                Go.K.ifB (!x75) (K Bool.false)
                                                                                                  (Go.K.ifB (!y78) (K Bool.false)
                                                                                                    (J53 x65 x66 x67 x68 x69 x70 x71 x72
                                                                                                      (Go.IntKind.wrap Go.IntKind.i64 (x73 + y77))
                                                                                                      (Go.IntKind.wrap Go.IntKind.i64 (x74 + (1 : Int)))))) →
                                                                                          J64 x65 x66 x67 x68 x69 x70 x71 x72 x73 x74 x75 x76) →
                                                                                      J64 x54 x55 x56 x57 x58 x59 x60 x61 x62 x63 Bool.false (0 : Int))
                                                                                  (K (x62 == (↑(List.length x60) : Int))) →
                                                                                J53 x54 x55 x56 x57 x58 x59 x60 x61 x62 x63) →
                                                                            J53 x40 x41 x42 x43 y49 y51 x44 x45 (0 : Int) (0 : Int))))) →
                                                            J39 x40 x41 x42 x43 x44 x45 x46 x47 x48) →
                                                        J39 y3 y4 y32 y33 y2 y31 y35 (0 : Int) (0 : Int)))))))))))))) := by kernel_rfl
theorem laws_FnFlips.eq (a1 : List Int) (a2 : List Int) (K : Bool → Prop) : laws_FnFlips.wp a1 a2 K =
  (Go.K.grains.laws_r8Long.wp a1 a2 fun y1 =>
  Go.K.ifB y1 (K Bool.true)
    (Go.K.grains.spec_R8Grains.wp a1 fun y2 y3 y4 =>
      Go.K.grains.laws_r8At.wp a2 (0 : Int) (256 : Int) fun y5 =>
        Go.K.grains.laws_r8At.wp a2 (1 : Int) (256 : Int) fun y6 =>
          Go.K.grains.laws_r8At.wp a2 (2 : Int) (30 : Int) fun y7 =>
            Go.K.grains.laws_r8At.wp a2 (3 : Int) (30 : Int) fun y8 =>
              Go.K.grains.impl_FlipGrains.wp y2 y3 y4 (Go.IntKind.wrap Go.IntKind.i64 (Go.IntKind.wrap Go.IntKind.i64 ((256 : Int) * y5) + y6)) (0 : Nat) y7
                fun y9 y10 y11 y12 y13 y14 =>
                Go.K.grains.impl_UnlikePairs.wp y2 y3 y4 fun y15 y16 =>
                  Go.K.grains.impl_UnlikePairs.wp y9 y10 y11 fun y17 y18 =>
                    Go.K.grains.impl_FlipGrains.wp y2 y3 y4 (Go.IntKind.wrap Go.IntKind.i64 (Go.IntKind.wrap Go.IntKind.i64 ((256 : Int) * y5) + y6)) (1056964608 : Nat) y7
                      fun y19 y20 y21 y22 y23 y24 =>
                      Go.K.grains.impl_FlipGrains.wp y19 y20 y21 y22 (1056964608 : Nat) y8 fun y25 y26 y27 y28 y29 y30 =>
                        Go.K.grains.impl_FlipGrains.wp y2 y3 y4 (Go.IntKind.wrap Go.IntKind.i64 (Go.IntKind.wrap Go.IntKind.i64 ((256 : Int) * y5) + y6)) (1056964608 : Nat)
                          (Go.IntKind.wrap Go.IntKind.i64 (y7 + y8)) fun y31 y32 y33 y34 y35 y36 =>
                          Go.K.ifB (!y14) (K Bool.false)
                            (Go.K.ifB (!y16) (K Bool.false)
                              (Go.K.ifB (!y18) (K Bool.false)
                                (Go.K.ifB (!y24) (K Bool.false)
                                  (Go.K.ifB (!y30) (K Bool.false)
                                    (Go.K.ifB (!y36) (K Bool.false)
                                      (Go.K.ifB (Decidable.decide (y17 > y15)) (K Bool.false)
                                        (Go.K.ifB (y28 != y34) (K Bool.false)
                                          (Go.K.ifB (Go.IntKind.wrap Go.IntKind.i64 (y23 + y29) != y35) (K Bool.false)
                                            (Go.K.grains.impl_SameGrains.wp y25 y31 y26 y27 y32 y33 fun y37 =>
                                              Go.K.ifB (!y37) (K Bool.false)
                                                (Go.K.grains.impl_ValidGrains.wp y31 y32 y33 fun y38 =>
                                                  Go.K.ifB (!y38) (K Bool.false)
                                                    (∀ (J39 : Int → Int → Int → Int → List Int → List Int → Int → Int → Int → Prop),
                                                      (∀ (x40 x41 x42 x43 : Int) (x44 x45 : List Int) (x46 x47 x48 : Int),
                                                          Go.K.ifB (Decidable.decide (x48 < (↑(List.length x44) : Int)))
                                                              (((0 : Int) ≤ x48 ∧ x48 < (↑(List.length x44) : Int)) ∧
                                                                ((0 : Int) ≤ x48 ∧ x48 < (↑(List.length x45) : Int)) ∧
                                                                  Go.K.ifB (List.getD x44 (Int.toNat x48) (0 : Int) != List.getD x45 (Int.toNat x48) (0 : Int))
                                                                    (J39 x40 x41 x42 x43 x44 x45 x46 (Go.IntKind.wrap Go.IntKind.i64 (x47 + (1 : Int)))
                                                                      (Go.IntKind.wrap Go.IntKind.i64 (x48 + (1 : Int))))
                                                                    (J39 x40 x41 x42 x43 x44 x45 x46 x47 (Go.IntKind.wrap Go.IntKind.i64 (x48 + (1 : Int)))))
                                                              (Go.K.grains.impl_LabelsOf.wp x44 x40 x41 fun y49 y50 =>
                                                                Go.K.grains.impl_LabelsOf.wp x45 x42 x43 fun y51 y52 =>
                                                                  Go.K.ifB (!y50) (K Bool.false)
                                                                    (Go.K.ifB (!y52) (K Bool.false)
                                                                      (Go.K.ifB (Decidable.decide (x47 > x46)) (K Bool.false)
                                                                        (∀ (J53 : Int → Int → Int → Int → List Int → List Int → List Int → List Int → Int → Int → Prop),
                                                                          (∀ (x54 x55 x56 x57 : Int) (x58 x59 x60 x61 : List Int) (x62 x63 : Int),
                                                                              Go.K.ifB (Decidable.decide (x63 < (↑(List.length x59) : Int)))
                                                                                  (∀
                                                                                    (J64 :
                                                                                      Int →
                                                                                        Int →
                                                                                          Int → Int → List Int → List Int → List Int → List Int → Int → Int → Bool → Int → Prop),
                                                                                    (∀ (x65 x66 x67 x68 : Int) (x69 x70 x71 x72 : List Int) (x73 x74 : Int) (x75 : Bool)
                                                                                        (x76 : Int),
                                                                                        Go.K.ifB (Decidable.decide (x76 < (↑(List.length x69) : Int)))
                                                                                            (Go.K.ifB x75
                                                                                              (J64 x65 x66 x67 x68 x69 x70 x71 x72 x73 x74 Bool.true
                                                                                                (Go.IntKind.wrap Go.IntKind.i64 (x76 + (1 : Int))))
                                                                                              (((0 : Int) ≤ x76 ∧ x76 < (↑(List.length x69) : Int)) ∧
                                                                                                ((0 : Int) ≤ x74 ∧ x74 < (↑(List.length x70) : Int)) ∧
                                                                                                  J64 x65 x66 x67 x68 x69 x70 x71 x72 x73 x74
                                                                                                    (List.getD x69 (Int.toNat x76) (0 : Int) ==
                                                                                                      List.getD x70 (Int.toNat x74) (0 : Int))
                                                                                                    (Go.IntKind.wrap Go.IntKind.i64 (x76 + (1 : Int)))))
                                                                                            (((0 : Int) ≤ x74 ∧ x74 < (↑(List.length x70) : Int)) ∧
                                                                                              Go.K.grains.impl_CountOfLabel.wp x72 x67 x68 (List.getD x70 (Int.toNat x74) (0 : Int))
                                                                                                fun y77 y78 =>
                                                                                                Go.K.ifB (!x75) (K Bool.false)
                                                                                                  (Go.K.ifB (!y78) (K Bool.false)
                                                                                                    (J53 x65 x66 x67 x68 x69 x70 x71 x72
                                                                                                      (Go.IntKind.wrap Go.IntKind.i64 (x73 + y77))
                                                                                                      (Go.IntKind.wrap Go.IntKind.i64 (x74 + (1 : Int)))))) →
                                                                                          J64 x65 x66 x67 x68 x69 x70 x71 x72 x73 x74 x75 x76) →
                                                                                      J64 x54 x55 x56 x57 x58 x59 x60 x61 x62 x63 Bool.false (0 : Int))
                                                                                  (K (x62 == (↑(List.length x60) : Int))) →
                                                                                J53 x54 x55 x56 x57 x58 x59 x60 x61 x62 x63) →
                                                                            J53 x40 x41 x42 x43 y49 y51 x44 x45 (0 : Int) (0 : Int))))) →
                                                            J39 x40 x41 x42 x43 x44 x45 x46 x47 x48) →
                                                        J39 y3 y4 y32 y33 y2 y31 y35 (0 : Int) (0 : Int)))))))))))))) := laws_FnFlips.tx laws_r8Long.wp spec_R8Grains.wp laws_r8At.wp impl_FlipGrains.wp impl_UnlikePairs.wp impl_SameGrains.wp impl_ValidGrains.wp impl_LabelsOf.wp impl_CountOfLabel.wp a1 a2 K

end Go.K.grains
