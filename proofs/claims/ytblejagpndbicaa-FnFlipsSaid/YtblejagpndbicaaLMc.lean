/- Labels that most take. -/
import Derived.Test.YtblejagpndbicaaT
import Derived.Test.YtblejagpndbicaaF17
set_option linter.unusedSimpArgs false
set_option linter.unusedVariables false
set_option maxRecDepth 10000
set_option maxHeartbeats 4000000
namespace Go.K.grains
open Go.K Go

/-! ### valid grains -/
theorem impl_in {v a b : Int} {K : Bool → Prop} (h : K (inB v a b)) : impl_within.wp v a b K := by rw [impl_within.eq]; exact inT'_ok h

theorem areWithin {l : List Int} {a b : Int} {K : Bool → Prop} (hl : l.length ≤ 1099511627776) (h : K (l.all fun v => inB v a b)) : impl_areWithin.wp l a b K := by
  rw [impl_areWithin.eq, slices_ContainsFunc_int64_int64__areWithin_1.eq, slices_IndexFunc_int64_int64__areWithin_1.eq]
  intro J hJ
  refine all_loop (J := fun i => J (l.length : Int) i) (d := 0) h (fun h => hJ _ _ (ifN (by omega) h)) (fun i hi hp h => ?_) (fun i hi hp ih => ?_)
  · refine hJ _ _ (ifD (by omega) ⟨⟨by omega, by omega⟩, ?_⟩)
    rw [impl_areWithin_1.eq]
    refine impl_in ?_
    rw [Int.toNat_natCast, hp]
    refine ifT rfl ?_
    rw [decide_eq_true (by omega)]
    exact h
  · refine hJ _ _ (ifD (by omega) ⟨⟨by omega, by omega⟩, ?_⟩)
    rw [impl_areWithin_1.eq]
    refine impl_in ?_
    rw [Int.toNat_natCast, hp, wrap_succ (by omega)]
    exact ifF rfl ih

def sizeB (w h : Int) : Bool := inB w 1 16 && inB h 1 16
def validG (l : List Int) (w h : Int) : Bool := sizeB w h && (((l.length : Int) == Go.IntKind.wrap .i64 (w * h)) && l.all (fun v => inB v 0 63))
theorem impl_is {l : List Int} {w h : Int} {K : Bool → Prop} (hl : l.length ≤ 1099511627776) (hk : K (validG l w h)) : impl_ValidGrains.wp l w h K := by
  rw [impl_ValidGrains.eq]
  refine areWithin (by simp) ?_
  have e : ((w :: h :: List.replicate 0 0).all fun v => inB v 1 16) = sizeB w h := by simp [sizeB]
  rw [e]
  unfold validG at hk
  refine ifB_of (fun e => ?_) (fun e => ?_)
  · rw [e, Bool.true_and] at hk
    refine ifB_of (fun e => ?_) (fun e => ?_)
    · rw [e, Bool.true_and] at hk; exact areWithin hl hk
    · rw [e, Bool.false_and] at hk; exact hk
  · rw [e, Bool.false_and] at hk; exact hk
/-- valid grains -/
structure Geo (l : List Int) (W H : Nat) : Prop where
  w1 : 1 ≤ W
  w16 : W ≤ 16
  h1 : 1 ≤ H
  h16 : H ≤ 16
  wh : W * H ≤ 256
  len : l.length = W * H
  lab : ∀ v, v ∈ l → 0 ≤ v ∧ v < 64
theorem valid_nat {l : List Int} {w h : Int} (hv : validG l w h = true) : ∃ W H : Nat, w = (W : Int) ∧ h = (H : Int) ∧ Geo l W H := by
  simp only [validG, sizeB, Bool.and_eq_true, inB_iff, beq_iff_eq, List.all_eq_true] at hv
  obtain ⟨⟨⟨h1, h2⟩, h3, h4⟩, h5, h6⟩ := hv
  obtain ⟨W, rfl⟩ : ∃ n : Nat, w = (n : Int) := ⟨w.toNat, by omega⟩
  obtain ⟨H, rfl⟩ : ∃ n : Nat, h = (n : Int) := ⟨h.toNat, by omega⟩
  have hb : W * H ≤ 256 := Nat.mul_le_mul (show W ≤ 16 by omega) (show H ≤ 16 by omega)
  rw [← Int.natCast_mul, wrap_nat (by omega)] at h5
  exact ⟨W, H, rfl, rfl, by omega, by omega, by omega, by omega, hb, by omega, fun v hv => by have := h6 v hv; omega⟩
theorem pl_eq1 {W : Nat} {x : Int} (h0 : 1 ≤ W) (hW : W ≤ 1048576) (h1 : -1 ≤ x) (h2 : x ≤ W) : Int.tmod (Go.IntKind.wrap .i64 (Int.tmod x W + W)) W = (pl W x : Int) := by
  rcases Nat.lt_or_ge W 2 with h | h
  · obtain rfl : W = 1 := by omega
    unfold pl
    rw [Nat.mod_one]
    show Int.tmod _ 1 = 0
    exact Int.tmod_one _
  · exact pl_eq h hW h1 h2

/-! ### cells -/
def atG (l : List Int) (W H : Nat) (x y : Int) : Int := l.getD (cellN W H x y) 0
section
variable {l : List Int} {W H : Nat}
theorem atG_mem (g : Geo l W H) (x y : Int) : atG l W H x y ∈ l := by
  unfold atG
  have := cell_lt (W := W) (H := H) (by have := g.w1; omega) (by have := g.h1; omega) x y
  exact getD_mem 0 (by rw [g.len]; exact this)
theorem idx_ok (g : Geo l W H) {x y : Int} : Go.IntKind.wrap .i64 ((pl W x : Int) + Go.IntKind.wrap .i64 ((W : Int) * (pl H y : Int))) = (cellN W H x y : Int) ∧ cellN W H x y < l.length := by
  have hc := cell_lt (W := W) (H := H) (by have := g.w1; omega) (by have := g.h1; omega) x y
  have hwh := g.wh
  have e1 : Go.IntKind.wrap .i64 ((W : Int) * (pl H y : Int)) = ((W * pl H y : Nat) : Int) := by
    unfold cellN at hc
    rw [← Int.natCast_mul, wrap_nat (by omega)]
  rw [e1]
  rw [g.len]
  refine ⟨?_, hc⟩
  unfold cellN at hc ⊢
  rw [← Int.natCast_add, wrap_nat (by omega)]
theorem impl_about (g : Geo l W H) {x y a b : Int} (ha : a = x) (hb : b = y) (hx : -1 ≤ x ∧ x ≤ W) (hy : -1 ≤ y ∧ y ≤ H) {K : Int → Prop} (hk : K (atG l W H x y)) : impl_Grains_about.wp l (W : Int) (H : Int) a b K := by
  subst ha
  subst hb
  have g1 := g.w1
  have g2 := g.w16
  have g3 := g.h1
  have g4 := g.h16
  rw [impl_Grains_about.eq, impl_Grains_cell.eq, impl_place.eq]
  refine ifT rfl ⟨by omega, by omega, ?_⟩
  rw [impl_place.eq]
  refine ifT rfl ⟨by omega, by omega, ?_⟩
  rw [pl_eq1 g1 (by omega) hx.1 hx.2, pl_eq1 g3 (by omega) hy.1 hy.2]
  obtain ⟨e, hc⟩ := idx_ok g (x := a) (y := b)
  rw [e, Int.toNat_natCast]
  exact ⟨⟨by omega, by omega⟩, hk⟩
def aroundG (l : List Int) (W H : Nat) (x y : Int) : List Int := [atG l W H (x - 1) y, atG l W H (x + 1) y, atG l W H x (y - 1), atG l W H x (y + 1), atG l W H (x - 1) (y - 1), atG l W H (x + 1) (y - 1), atG l W H (x - 1) (y + 1), atG l W H (x + 1) (y + 1)]
theorem impl_around (g : Geo l W H) {x y : Nat} (hx : x < W) (hy : y < H) {K : List Int → Prop} (hk : K (aroundG l W H x y)) : impl_Grains_around.wp l (W : Int) (H : Int) (x : Int) (y : Int) K := by
  have g2 := g.w16
  have g4 := g.h16
  have e0 : Go.IntKind.wrap .i64 ((x : Int) + 0) = (x : Int) := by rw [Int.add_zero]; exact wrap64 (by omega) (by omega)
  have e1 : Go.IntKind.wrap .i64 ((x : Int) + 1) = (x : Int) + 1 := wrap64 (by omega) (by omega)
  have e2 : Go.IntKind.wrap .i64 ((x : Int) + -1) = (x : Int) - 1 := wrap64 (x := (x : Int) + -1) (by omega) (by omega)
  have f0 : Go.IntKind.wrap .i64 ((y : Int) + 0) = (y : Int) := by rw [Int.add_zero]; exact wrap64 (by omega) (by omega)
  have f1 : Go.IntKind.wrap .i64 ((y : Int) + 1) = (y : Int) + 1 := wrap64 (by omega) (by omega)
  have f2 : Go.IntKind.wrap .i64 ((y : Int) + -1) = (y : Int) - 1 := wrap64 (x := (y : Int) + -1) (by omega) (by omega)
  rw [impl_Grains_around.eq]
  intro J hJ
  refine hJ _ _ _ _ _ _ _ _ _ _ _ _ _ _ _ _ _ _ _ _ (ifD (by decide) ⟨⟨by decide, by decide⟩, rfl, ⟨by decide, by decide, by decide⟩, ⟨by decide, by decide, by decide⟩, impl_about g (x := (x : Int) - 1) (y := y) e2 f0 (by omega) (by omega) ⟨by simp, ?_⟩⟩)
  refine hJ _ _ _ _ _ _ _ _ _ _ _ _ _ _ _ _ _ _ _ _ (ifD (by decide) ⟨⟨by decide, by decide⟩, rfl, ⟨by decide, by decide, by decide⟩, ⟨by decide, by decide, by decide⟩, impl_about g (x := (x : Int) + 1) (y := y) e1 f0 (by omega) (by omega) ⟨by simp, ?_⟩⟩)
  refine hJ _ _ _ _ _ _ _ _ _ _ _ _ _ _ _ _ _ _ _ _ (ifD (by decide) ⟨⟨by decide, by decide⟩, rfl, ⟨by decide, by decide, by decide⟩, ⟨by decide, by decide, by decide⟩, impl_about g (x := (x : Int)) (y := (y : Int) - 1) e0 f2 (by omega) (by omega) ⟨by simp, ?_⟩⟩)
  refine hJ _ _ _ _ _ _ _ _ _ _ _ _ _ _ _ _ _ _ _ _ (ifD (by decide) ⟨⟨by decide, by decide⟩, rfl, ⟨by decide, by decide, by decide⟩, ⟨by decide, by decide, by decide⟩, impl_about g (x := (x : Int)) (y := (y : Int) + 1) e0 f1 (by omega) (by omega) ⟨by simp, ?_⟩⟩)
  refine hJ _ _ _ _ _ _ _ _ _ _ _ _ _ _ _ _ _ _ _ _ (ifD (by decide) ⟨⟨by decide, by decide⟩, rfl, ⟨by decide, by decide, by decide⟩, ⟨by decide, by decide, by decide⟩, impl_about g (x := (x : Int) - 1) (y := (y : Int) - 1) e2 f2 (by omega) (by omega) ⟨by simp, ?_⟩⟩)
  refine hJ _ _ _ _ _ _ _ _ _ _ _ _ _ _ _ _ _ _ _ _ (ifD (by decide) ⟨⟨by decide, by decide⟩, rfl, ⟨by decide, by decide, by decide⟩, ⟨by decide, by decide, by decide⟩, impl_about g (x := (x : Int) + 1) (y := (y : Int) - 1) e1 f2 (by omega) (by omega) ⟨by simp, ?_⟩⟩)
  refine hJ _ _ _ _ _ _ _ _ _ _ _ _ _ _ _ _ _ _ _ _ (ifD (by decide) ⟨⟨by decide, by decide⟩, rfl, ⟨by decide, by decide, by decide⟩, ⟨by decide, by decide, by decide⟩, impl_about g (x := (x : Int) - 1) (y := (y : Int) + 1) e2 f1 (by omega) (by omega) ⟨by simp, ?_⟩⟩)
  refine hJ _ _ _ _ _ _ _ _ _ _ _ _ _ _ _ _ _ _ _ _ (ifD (by decide) ⟨⟨by decide, by decide⟩, rfl, ⟨by decide, by decide, by decide⟩, ⟨by decide, by decide, by decide⟩, impl_about g (x := (x : Int) + 1) (y := (y : Int) + 1) e1 f1 (by omega) (by omega) ⟨by simp, ?_⟩⟩)
  exact hJ _ _ _ _ _ _ _ _ _ _ _ _ _ _ _ _ _ _ _ _ (ifN (by decide) hk)
end
end Go.K.grains
