/- Heights: valid ones, cells, what lies beside. -/
import Derived.Test.YtcmbpondkipbkaaT
import Derived.Test.YtcmbpondkipbkaaF5
set_option linter.unusedSimpArgs false
set_option linter.unusedVariables false
set_option maxRecDepth 10000
namespace Go.K.heights
open Go.K Go

/-! ### valid heights -/
theorem impl_in {v a b : Int} {K : Bool → Prop} (h : K (inB v a b)) : impl_within.wp v a b K := by rw [impl_within.eq]; exact inT'_ok h
def sizeB (w h : Int) : Bool := inB w 2 16 && inB h 2 16
def validH (l : List Int) (w h : Int) : Bool := l.all (fun v => inB v 0 1000) && (sizeB w h && ((l.length : Int) == Go.IntKind.wrap .i64 (w * h)))
theorem areWithin {l : List Int} {a b : Int} {K : Bool → Prop} (hl : l.length ≤ 1099511627776) (h : K (l.all fun v => inB v a b)) : impl_areWithin.wp l a b K := by
  rw [impl_areWithin.eq, slices_ContainsFunc_int64_int64__areWithin_1.eq, slices_IndexFunc_int64_int64__areWithin_1.eq]
  intro J hJ
  refine all_loop (J := fun i => J (l.length : Int) i) (d := 0) h (fun h => hJ _ _ (ifN (by omega) h)) (fun i hi hp h => ?_) (fun i hi hp ih => ?_)
  · refine hJ _ _ (ifD (by omega) ⟨⟨by omega, by omega⟩, ?_⟩)
    rw [impl_areWithin_1.eq]
    refine impl_in ?_
    rw [Int.toNat_natCast, hp]
    refine ifT rfl ?_
    rw [decide_eq_true (by omega)]
    exact h
  · refine hJ _ _ (ifD (by omega) ⟨⟨by omega, by omega⟩, ?_⟩)
    rw [impl_areWithin_1.eq]
    refine impl_in ?_
    rw [Int.toNat_natCast, hp, wrap_succ (by omega)]
    exact ifF rfl ih
theorem impl_is {l : List Int} {w h : Int} {K : Bool → Prop} (hl : l.length ≤ 1099511627776) (hk : K (validH l w h)) : impl_ValidHeights.wp l w h K := by
  rw [impl_ValidHeights.eq]
  refine areWithin (by simp) ?_
  have e : ((w :: h :: List.replicate 0 0).all fun v => inB v 2 16) = sizeB w h := by simp [sizeB]
  rw [e]
  unfold validH at hk
  refine ifB_of (fun e => ?_) (fun e => ?_)
  · rw [e, Bool.true_and] at hk
    refine ifB_of (fun e => ?_) (fun e => ?_)
    · rw [e, Bool.and_true] at hk; exact areWithin hl hk
    · rw [e, Bool.and_false] at hk; exact hk
  · rw [e, Bool.false_and, Bool.and_false] at hk; exact hk
theorem valid_nat {l : List Int} {w h : Int} (hv : validH l w h = true) : ∃ W H : Nat, w = (W : Int) ∧ h = (H : Int) ∧ 2 ≤ W ∧ W ≤ 16 ∧ 2 ≤ H ∧ H ≤ 16 ∧ W * H ≤ 256 ∧ l.length = W * H := by
  simp only [validH, sizeB, Bool.and_eq_true, inB_iff, beq_iff_eq] at hv
  obtain ⟨_, ⟨⟨h1, h2⟩, h3, h4⟩, h5⟩ := hv
  obtain ⟨W, rfl⟩ : ∃ n : Nat, w = (n : Int) := ⟨w.toNat, by omega⟩
  obtain ⟨H, rfl⟩ : ∃ n : Nat, h = (n : Int) := ⟨h.toNat, by omega⟩
  have hb : W * H ≤ 256 := Nat.mul_le_mul (show W ≤ 16 by omega) (show H ≤ 16 by omega)
  rw [← Int.natCast_mul, wrap_nat (by omega)] at h5
  exact ⟨W, H, rfl, rfl, by omega, by omega, by omega, by omega, hb, by omega⟩

def hasB (l : List Int) (w h x y : Int) : Bool := validH l w h && (inB x 0 (Go.IntKind.wrap .i64 (w - 1)) && inB y 0 (Go.IntKind.wrap .i64 (h - 1)))
theorem impl_has {l : List Int} {w h x y : Int} {K : Bool → Prop} (hl : l.length ≤ 1099511627776) (hk : K (hasB l w h x y)) : impl_Heights_has.wp l w h x y K := by
  rw [impl_Heights_has.eq]
  refine impl_is hl ?_
  unfold hasB at hk
  refine ifB_of (fun e => ?_) (fun e => ?_)
  · rw [e, Bool.true_and] at hk
    refine impl_in (ifB_of (fun e => ?_) (fun e => ?_))
    · rw [e, Bool.true_and] at hk; exact impl_in hk
    · rw [e] at hk; exact hk
  · rw [e] at hk; exact hk
/-- what is known where there is such a cell -/
structure Geo (l : List Int) (w h : Int) (W H : Nat) : Prop where
  w : w = (W : Int)
  h : h = (H : Int)
  w2 : 2 ≤ W
  w16 : W ≤ 16
  h2 : 2 ≤ H
  h16 : H ≤ 16
  wh : W * H ≤ 256
  len : l.length = W * H
theorem has_nat {l : List Int} {w h x y : Int} (hv : hasB l w h x y = true) : ∃ W H X Y : Nat, Geo l w h W H ∧ x = (X : Int) ∧ y = (Y : Int) ∧ X < W ∧ Y < H := by
  simp only [hasB, Bool.and_eq_true, inB_iff] at hv
  obtain ⟨hv, ⟨h1, h2⟩, h3, h4⟩ := hv
  obtain ⟨W, H, rfl, rfl, a1, a2, a3, a4, a5, a6⟩ := valid_nat hv
  rw [wrap64 (by omega) (by omega)] at h2 h4
  obtain ⟨X, rfl⟩ : ∃ n : Nat, x = (n : Int) := ⟨x.toNat, by omega⟩
  obtain ⟨Y, rfl⟩ : ∃ n : Nat, y = (n : Int) := ⟨y.toNat, by omega⟩
  exact ⟨W, H, X, Y, ⟨rfl, rfl, a1, a2, a3, a4, a5, a6⟩, rfl, rfl, by omega, by omega⟩

section
variable {l : List Int} {W H : Nat}
theorem impl_cell (w2 : 2 ≤ W) (w16 : W ≤ 16) (h2 : 2 ≤ H) (h16 : H ≤ 16) {x y : Int} {K : Int → Prop} (hx : -1 ≤ x ∧ x ≤ W) (hy : -1 ≤ y ∧ y ≤ H) (hk : K (cellN W H x y : Int)) : impl_Heights_cell.wp l (W : Int) (H : Int) x y K := by
  rw [impl_Heights_cell.eq, impl_place.eq]
  refine ifT rfl ⟨by omega, by omega, ?_⟩
  rw [impl_place.eq]
  refine ifT rfl ⟨by omega, by omega, ?_⟩
  rw [pl_eq w2 (by omega) hx.1 hx.2, pl_eq h2 (by omega) hy.1 hy.2]
  have h1 := pl_lt (W := W) (by omega) x
  have h3 := pl_lt (W := H) (by omega) y
  have h4 := wh_lt h1 h3
  have h5 : W * H ≤ 256 := Nat.mul_le_mul w16 h16
  unfold cellN at hk
  generalize pl W x = p at *
  generalize pl H y = q at *
  have e1 : Go.IntKind.wrap .i64 ((W : Int) * (q : Int)) = ((W * q : Nat) : Int) := by rw [← Int.natCast_mul, wrap_nat (by omega)]
  have e2 : Go.IntKind.wrap .i64 ((p : Int) + ((W * q : Nat) : Int)) = ((p + W * q : Nat) : Int) := by rw [← Int.natCast_add, wrap_nat (by omega)]
  rw [e1, e2]
  exact hk
theorem idx_val (w2 : 2 ≤ W) (w16 : W ≤ 16) (h2 : 2 ≤ H) (h16 : H ≤ 16) {x y : Int} (hx : -1 ≤ x ∧ x ≤ W) (hy : -1 ≤ y ∧ y ≤ H) :
    Go.IntKind.wrap .i64 (Int.tmod (Go.IntKind.wrap .i64 (Int.tmod x (W : Int) + (W : Int))) (W : Int) + Go.IntKind.wrap .i64 ((W : Int) * Int.tmod (Go.IntKind.wrap .i64 (Int.tmod y (H : Int) + (H : Int))) (H : Int))) = (cellN W H x y : Int) := by
  rw [pl_eq w2 (by omega) hx.1 hx.2, pl_eq h2 (by omega) hy.1 hy.2]
  have h1 := pl_lt (W := W) (by omega) x
  have h3 := pl_lt (W := H) (by omega) y
  have h4 := wh_lt h1 h3
  have h5 : W * H ≤ 256 := Nat.mul_le_mul w16 h16
  unfold cellN
  generalize pl W x = p at *
  generalize pl H y = q at *
  have e1 : Go.IntKind.wrap .i64 ((W : Int) * (q : Int)) = ((W * q : Nat) : Int) := by rw [← Int.natCast_mul, wrap_nat (by omega)]
  rw [e1, ← Int.natCast_add, wrap_nat (by omega)]
theorem impl_near (w2 : 2 ≤ W) (w16 : W ≤ 16) (h2 : 2 ≤ H) (h16 : H ≤ 16) {x y : Nat} {K : List Int → Prop} (hx : x < W) (hy : y < H) (hk : K (nearL W H x y)) : impl_Heights_beside.wp l (W : Int) (H : Int) (x : Int) (y : Int) K := by
  rw [impl_Heights_beside.eq, impl_steps4.eq]
  intro J hJ
  have a0 : Go.IntKind.wrap .i64 ((x : Int) + 0) = (x : Int) := by rw [wrap64 (by omega) (by omega)]; omega
  have b0 : Go.IntKind.wrap .i64 ((y : Int) + 0) = (y : Int) := by rw [wrap64 (by omega) (by omega)]; omega
  have a1 : Go.IntKind.wrap .i64 ((x : Int) + -1) = (x : Int) - 1 := by rw [wrap64 (by omega) (by omega)]; omega
  have a2 : Go.IntKind.wrap .i64 ((x : Int) + 1) = (x : Int) + 1 := wrap64 (by omega) (by omega)
  have a3 : Go.IntKind.wrap .i64 ((y : Int) + -1) = (y : Int) - 1 := by rw [wrap64 (by omega) (by omega)]; omega
  have a4 : Go.IntKind.wrap .i64 ((y : Int) + 1) = (y : Int) + 1 := wrap64 (by omega) (by omega)
  refine hJ _ _ _ _ _ _ _ _ _ _ _ _ (ifD (by decide) ⟨by decide, by decide, by decide, by decide, ?_⟩)
  show impl_Heights_cell.wp l (W : Int) (H : Int) (Go.IntKind.wrap .i64 ((x : Int) + -1)) (Go.IntKind.wrap .i64 ((y : Int) + 0)) _
  rw [a1, b0]
  refine impl_cell w2 w16 h2 h16 ⟨by omega, by omega⟩ ⟨by omega, by omega⟩ ⟨by simp, ?_⟩
  refine hJ _ _ _ _ _ _ _ _ _ _ _ _ (ifD (by decide) ⟨by decide, by decide, by decide, by decide, ?_⟩)
  show impl_Heights_cell.wp l (W : Int) (H : Int) (Go.IntKind.wrap .i64 ((x : Int) + 1)) (Go.IntKind.wrap .i64 ((y : Int) + 0)) _
  rw [a2, b0]
  refine impl_cell w2 w16 h2 h16 ⟨by omega, by omega⟩ ⟨by omega, by omega⟩ ⟨by simp, ?_⟩
  refine hJ _ _ _ _ _ _ _ _ _ _ _ _ (ifD (by decide) ⟨by decide, by decide, by decide, by decide, ?_⟩)
  show impl_Heights_cell.wp l (W : Int) (H : Int) (Go.IntKind.wrap .i64 ((x : Int) + 0)) (Go.IntKind.wrap .i64 ((y : Int) + -1)) _
  rw [a0, a3]
  refine impl_cell w2 w16 h2 h16 ⟨by omega, by omega⟩ ⟨by omega, by omega⟩ ⟨by simp, ?_⟩
  refine hJ _ _ _ _ _ _ _ _ _ _ _ _ (ifD (by decide) ⟨by decide, by decide, by decide, by decide, ?_⟩)
  show impl_Heights_cell.wp l (W : Int) (H : Int) (Go.IntKind.wrap .i64 ((x : Int) + 0)) (Go.IntKind.wrap .i64 ((y : Int) + 1)) _
  rw [a0, a4]
  refine impl_cell w2 w16 h2 h16 ⟨by omega, by omega⟩ ⟨by omega, by omega⟩ ⟨by simp, ?_⟩
  exact hJ _ _ _ _ _ _ _ _ _ _ _ _ (ifN (by decide) hk)
end

/-! ### bonds at a cell -/
end Go.K.heights
