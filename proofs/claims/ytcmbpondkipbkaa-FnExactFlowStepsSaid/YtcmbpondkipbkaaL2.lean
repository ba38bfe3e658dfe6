/- Atoms that fall; rain. -/
import Derived.Test.YtcmbpondkipbkaaL
set_option linter.unusedSimpArgs false
set_option linter.unusedVariables false
set_option maxRecDepth 10000
set_option maxHeartbeats 4000000
namespace Go.K.heights
open Go.K Go

theorem foldU_inv {α β : Type} {f : β → α → β} {s : β} {L : List α} {Q : β → Prop} (d : α) (h0 : Q s) (hs : ∀ b k, Q b → k ∈ L → Q (f b k)) : ∀ i, i ≤ L.length → Q (foldU f s L i)
  | 0, _ => by rw [foldU_zero]; exact h0
  | i + 1, h => by
    rw [foldU_succ d (by omega)]
    exact hs _ _ (foldU_inv d h0 hs i (by omega)) (getD_mem d (by omega))

def bestF (l : List Int) (b k : Int) : Int := if l.getD k.toNat 0 < l.getD b.toNat 0 then k else b
def topF (l : List Int) (m k : Int) : Int := max m (l.getD k.toNat 0)
theorem topF_nat (l : List Int) (m : Int) (k : Nat) : topF l m (k : Int) = max m (l.getD k 0) := by unfold topF; rw [Int.toNat_natCast]
def up1 (l : List Int) (i : Nat) : List Int := l.set i (Go.IntKind.wrap .i64 (l.getD i 0 + 1))
def fallL (l : List Int) (W H : Nat) (rule : Int) (x y : Nat) : List Int :=
  if rule == 1 then up1 l (foldU (bestF l) ((x + W * y : Nat) : Int) (nearL W H x y) 4).toNat
  else if rule == 2 then l.set (x + W * y) (foldU (topF l) (Go.IntKind.wrap .i64 (l.getD (x + W * y) 0 + 1)) (nearL W H x y) 4)
  else up1 l (x + W * y)
theorem fallL_length (l : List Int) (W H : Nat) (rule : Int) (x y : Nat) : (fallL l W H rule x y).length = l.length := by
  unfold fallL
  split
  · simp [up1]
  · split <;> simp [up1]

section
variable {l : List Int} {W H x y : Nat}
theorem best_nat (w2 : 2 ≤ W) (h2 : 2 ≤ H) (hx : x < W) (hy : y < H) {i : Nat} (hi : i ≤ 4) : ∃ j : Nat, foldU (bestF l) ((x + W * y : Nat) : Int) (nearL W H x y) i = (j : Int) ∧ j < W * H := by
  refine foldU_inv (Q := fun b : Int => ∃ j : Nat, b = (j : Int) ∧ j < W * H) 0 ⟨_, rfl, wh_lt hx hy⟩ (fun b k hb hk => ?_) i hi
  unfold bestF
  split
  · exact near_mem (by omega) (by omega) hk
  · exact hb
theorem spec_fall (w2 : 2 ≤ W) (w16 : W ≤ 16) (h2 : 2 ≤ H) (h16 : H ≤ 16) (hl : l.length = W * H) (hx : x < W) (hy : y < H) {rule : Int} {K : List Int → Prop} (hk : K (fallL l W H rule x y)) :
    spec_l05Fall.wp (W : Int) (H : Int) l rule ((x + W * y : Nat) : Int) K := by
  have hb := wh_lt hx hy
  have hln : (nearL W H x y).length = 4 := rfl
  have hwh : W * H ≤ 256 := Nat.mul_le_mul w16 h16
  rw [spec_l05Fall.eq]
  refine spec_near w2 w16 h2 h16 hx hy ?_
  unfold fallL at hk
  refine ifB_of (fun e => ?_) (fun e => ?_)
  · rw [e] at hk
    intro J hJ
    refine down (Q := fun i => J l (nearL W H x y) (foldU (bestF l) ((x + W * y : Nat) : Int) (nearL W H x y) i) 4 (i : Int)) (n := 4) (hJ _ _ _ _ _ (ifN (by decide) ?_)) (fun i hi ih => ?_) 0 (Nat.zero_le _)
    · obtain ⟨j, ej, hj⟩ := best_nat (l := l) w2 h2 hx hy (Nat.le_refl 4)
      simp only [if_true] at hk
      rw [ej] at hk ⊢
      rw [Int.toNat_natCast] at hk ⊢
      exact ⟨⟨by omega, by omega⟩, ⟨by omega, by omega⟩, hk⟩
    · obtain ⟨j, ej, hj⟩ := best_nat (l := l) w2 h2 hx hy (show i ≤ 4 by omega)
      obtain ⟨k, ek, hk'⟩ := near_mem (by omega) (by omega) (getD_mem 0 (show i < (nearL W H x y).length by omega))
      rw [foldU_succ 0 (by omega), ek, ej] at ih
      refine hJ _ _ _ _ _ (ifD (by omega) ⟨⟨by omega, by rw [hln]; omega⟩, ?_⟩)
      rw [Int.toNat_natCast, ek, ej, Int.toNat_natCast, Int.toNat_natCast, wrap_succ (by omega)]
      refine ⟨⟨by omega, by omega⟩, ⟨by omega, by omega⟩, ?_⟩
      unfold bestF at ih
      rw [Int.toNat_natCast, Int.toNat_natCast] at ih
      by_cases hc : l.getD k 0 < l.getD j 0
      · rw [if_pos hc] at ih; exact ifD hc ⟨⟨by omega, by rw [hln]; omega⟩, ih⟩
      · rw [if_neg hc] at ih; exact ifN hc ih
  · rw [e] at hk
    simp only [Bool.false_eq_true, if_false] at hk
    refine ifB_of (fun e => ?_) (fun e => ?_)
    · rw [e] at hk
      simp only [if_true] at hk
      refine ⟨⟨by omega, by omega⟩, fun J hJ => ?_⟩
      rw [Int.toNat_natCast]
      refine down (Q := fun i => J l (nearL W H x y) (foldU (topF l) (Go.IntKind.wrap .i64 (l.getD (x + W * y) 0 + 1)) (nearL W H x y) i) 4 (i : Int)) (n := 4) (hJ _ _ _ _ _ (ifN (by decide) ?_)) (fun i hi ih => ?_) 0 (Nat.zero_le _)
      · rw [Int.toNat_natCast]; exact ⟨⟨by omega, by omega⟩, hk⟩
      · obtain ⟨k, ek, hk'⟩ := near_mem (by omega) (by omega) (getD_mem 0 (show i < (nearL W H x y).length by omega))
        rw [foldU_succ 0 (by omega), ek] at ih
        refine hJ _ _ _ _ _ (ifD (by omega) ⟨⟨by omega, by rw [hln]; omega⟩, ?_⟩)
        rw [Int.toNat_natCast, ek, Int.toNat_natCast, wrap_succ (by omega)]
        refine ⟨⟨by omega, by omega⟩, ?_⟩
        rw [topF_nat] at ih
        rw [spec_l00Max.eq]
        generalize foldU (topF l) (Go.IntKind.wrap .i64 (l.getD (x + W * y) 0 + 1)) (nearL W H x y) i = m at *
        by_cases hc : m > l.getD k 0
        · rw [show max m (l.getD k 0) = m by omega] at ih; exact ifD hc ih
        · rw [show max m (l.getD k 0) = l.getD k 0 by omega] at ih; exact ifN hc ih
    · rw [e] at hk
      simp only [Bool.false_eq_true, if_false] at hk
      rw [Int.toNat_natCast]
      exact ⟨⟨by omega, by omega⟩, ⟨by omega, by omega⟩, hk⟩
theorem getD_set_self {l : List Int} {i : Nat} {v : Int} (h : i < l.length) : (l.set i v).getD i 0 = v := by
  simp [List.getD, List.getElem?_set, h]
theorem getD_set_ne {l : List Int} {i k : Nat} {v : Int} (h : k ≠ i) : (l.set i v).getD k 0 = l.getD k 0 := by
  simp [List.getD, List.getElem?_set, Ne.symm h]
theorem impl_fell (w2 : 2 ≤ W) (w16 : W ≤ 16) (h2 : 2 ≤ H) (h16 : H ≤ 16) (hl : l.length = W * H) (hx : x < W) (hy : y < H) {rule : Int} (hr : inB rule 0 2 = true) {K : List Int → Prop} (hk : K (fallL l W H rule x y)) :
    impl_Heights_fell.wp l (W : Int) (H : Int) rule (x : Int) (y : Int) K := by
  have hb := wh_lt hx hy
  have hln : (nearL W H x y).length = 4 := rfl
  have hwh : W * H ≤ 256 := Nat.mul_le_mul w16 h16
  have hr' := inB_iff.1 hr
  have ec : cellN W H (x : Int) (y : Int) = x + W * y := by unfold cellN; rw [pl_self hx, pl_self hy]
  rw [impl_Heights_fell.eq]
  refine impl_cell w2 w16 h2 h16 ⟨by omega, by omega⟩ ⟨by omega, by omega⟩ ?_
  rw [ec]
  unfold fallL at hk
  refine ifB_of (fun e => ?_) (fun e => ?_)
  · have e0 : rule = 0 := by simpa using e
    subst e0
    rw [Int.toNat_natCast]
    exact ⟨⟨by omega, by omega⟩, ⟨by omega, by omega⟩, hk⟩
  · have e0 : rule ≠ 0 := by simpa using e
    refine ifB_of (fun e1 => ?_) (fun e1 => ?_)
    · rw [e1] at hk
      refine impl_near w2 w16 h2 h16 hx hy ?_
      intro J hJ
      refine down (Q := fun i => J l (W : Int) (H : Int) (nearL W H x y) (foldU (bestF l) ((x + W * y : Nat) : Int) (nearL W H x y) i) 4 (i : Int)) (n := 4) (hJ _ _ _ _ _ _ _ (ifN (by decide) ?_)) (fun i hi ih => ?_) 0 (Nat.zero_le _)
      · obtain ⟨j, ej, hj⟩ := best_nat (l := l) w2 h2 hx hy (Nat.le_refl 4)
        simp only [if_true] at hk
        rw [ej] at hk ⊢
        rw [Int.toNat_natCast] at hk ⊢
        exact ⟨⟨by omega, by omega⟩, ⟨by omega, by omega⟩, hk⟩
      · obtain ⟨j, ej, hj⟩ := best_nat (l := l) w2 h2 hx hy (show i ≤ 4 by omega)
        obtain ⟨k, ek, hk'⟩ := near_mem (by omega) (by omega) (getD_mem 0 (show i < (nearL W H x y).length by omega))
        rw [foldU_succ 0 (by omega), ek, ej] at ih
        refine hJ _ _ _ _ _ _ _ (ifD (by omega) ⟨⟨by omega, by rw [hln]; omega⟩, ?_⟩)
        rw [Int.toNat_natCast, ek, ej, Int.toNat_natCast, Int.toNat_natCast, wrap_succ (by omega)]
        refine ⟨⟨by omega, by omega⟩, ⟨by omega, by omega⟩, ?_⟩
        unfold bestF at ih
        rw [Int.toNat_natCast, Int.toNat_natCast] at ih
        by_cases hc : l.getD k 0 < l.getD j 0
        · rw [if_pos hc] at ih; exact ifD hc ih
        · rw [if_neg hc] at ih; exact ifN hc ih
    · rw [e1] at hk
      have e2 : (rule == 2) = true := by
        have : rule ≠ 1 := by simpa using e1
        simp; omega
      rw [e2] at hk
      simp only [Bool.false_eq_true, if_false, if_true] at hk
      rw [Int.toNat_natCast]
      refine ⟨⟨by omega, by omega⟩, ⟨by omega, by omega⟩, ?_⟩
      refine impl_near w2 w16 h2 h16 hx hy ?_
      intro J hJ
      refine down (Q := fun i => J (l.set (x + W * y) (foldU (topF l) (Go.IntKind.wrap .i64 (l.getD (x + W * y) 0 + 1)) (nearL W H x y) i)) (W : Int) (H : Int) (nearL W H x y) ((x + W * y : Nat) : Int) 4 (i : Int)) (n := 4) (hJ _ _ _ _ _ _ _ (ifN (by decide) hk)) (fun i hi ih => ?_) 0 (Nat.zero_le _)
      obtain ⟨k, ek, hk'⟩ := near_mem (by omega) (by omega) (getD_mem 0 (show i < (nearL W H x y).length by omega))
      have hne : k ≠ x + W * y := by
        have := near_ne w2 h2 hx hy (getD_mem 0 (show i < (nearL W H x y).length by omega))
        rw [ek] at this; omega
      rw [foldU_succ 0 (by omega), ek] at ih
      refine hJ _ _ _ _ _ _ _ (ifD (by omega) ⟨⟨by omega, by rw [hln]; omega⟩, ?_⟩)
      rw [Int.toNat_natCast, ek, Int.toNat_natCast, Int.toNat_natCast, wrap_succ (by omega), List.length_set]
      refine ⟨⟨by omega, by omega⟩, ⟨by omega, by omega⟩, ⟨by omega, by omega⟩, ?_⟩
      rw [topF_nat] at ih
      rw [getD_set_self (by omega), getD_set_ne hne, List.set_set]
      have mm : ∀ x y : Int, mmI true x y = max x y := by
        intro x y; show maxI x y = max x y; unfold maxI; split <;> omega
      rw [mm]
      exact ih
end

theorem cloned_ok {l : List Int} {w h : Int} {K : List Int → Int → Int → Prop} (h0 : l.length ≠ 0) (hl : l.length ≤ 1099511627776) (hk : K l w h) : impl_Heights_cloned.wp l w h K := by
  rw [impl_Heights_cloned.eq, slices_Clone_int64_int64.eq]
  exact ⟨h0, hl, hk⟩
theorem own_ok {l : List Int} {w h : Int} {K : List Int → Int → Int → Prop} (hl : l.length ≤ 1099511627776) (hk : K l w h) : spec_l05Own.wp w h l K := by
  rw [spec_l05Own.eq]
  exact ⟨hl, hk⟩
def giveL (l : List Int) (w h : Int) : List Int := if validH l w h = true then l else []
def giveI (l : List Int) (w h : Int) (n : Int) : Int := if validH l w h = true then n else 0
theorem giveL_length {l : List Int} {w h : Int} : (giveL l w h).length ≤ l.length := by unfold giveL; split <;> simp

/-! ### FallAt -/
structure FallR where
  l : List Int
  w : Int
  h : Int
  b : Bool
def noFall : FallR := ⟨[], 0, 0, false⟩
def giveR (l : List Int) (w h : Int) : FallR := if validH l w h = true then ⟨l, w, h, true⟩ else noFall
def fallR (l : List Int) (w h rule x y : Int) : FallR :=
  if hasB l w h x y = true then if inB rule 0 2 = true then giveR (fallL l w.toNat h.toNat rule x.toNat y.toNat) w h else noFall else noFall
theorem giveR_length {l : List Int} {w h : Int} (hl : l.length ≤ 1099511627776) : (giveR l w h).l.length ≤ 1099511627776 := by unfold giveR; split <;> simp [noFall, hl]
theorem fallR_length {l : List Int} {w h rule x y : Int} (hl : l.length ≤ 1099511627776) : (fallR l w h rule x y).l.length ≤ 1099511627776 := by
  unfold fallR
  split
  · split
    · exact giveR_length (by rw [fallL_length]; exact hl)
    · simp [noFall]
  · simp [noFall]
theorem spec_Fall {l : List Int} {w h rule x y : Int} {K : List Int → Int → Int → Bool → Prop} (hl : l.length ≤ 1099511627776) (hk : K (fallR l w h rule x y).l (fallR l w h rule x y).w (fallR l w h rule x y).h (fallR l w h rule x y).b) : spec_FallAt.wp l w h rule x y K := by
  rw [spec_FallAt.eq]
  refine spec_cell hl ?_
  unfold fallR at hk
  cases hv : hasB l w h x y
  · simp only [hv, Bool.false_eq_true, if_false] at hk; exact ifT rfl hk
  · simp only [hv, if_true] at hk
    refine ifF rfl ?_
    rw [spec_l05Rule.eq]
    refine spec_in ?_
    cases hr : inB rule 0 2
    · simp only [hr, Bool.false_eq_true, if_false] at hk; exact ifT rfl hk
    · simp only [hr, if_true] at hk
      rw [show (!true) = false from rfl, ifB_false]
      obtain ⟨W, H, X, Y, g, rfl, rfl, hX, hY⟩ := has_nat hv
      obtain ⟨rfl, rfl, w2, w16, h2, h16, wh, len⟩ := g
      simp only [Int.toNat_natCast] at hk
      have hb := wh_lt hX hY
      have e1 : Go.IntKind.wrap .i64 ((W : Int) * (Y : Int)) = ((W * Y : Nat) : Int) := by rw [← Int.natCast_mul, wrap_nat (by omega)]
      have e2 : Go.IntKind.wrap .i64 ((X : Int) + ((W * Y : Nat) : Int)) = ((X + W * Y : Nat) : Int) := by rw [← Int.natCast_add, wrap_nat (by omega)]
      rw [e1, e2]
      refine own_ok hl (spec_fall w2 w16 h2 h16 len hX hY ?_)
      rw [spec_l05Give.eq]
      refine spec_is (by rw [fallL_length]; exact hl) ?_
      unfold giveR at hk
      refine ifB_of (fun e => ?_) (fun e => ?_)
      · rw [Bool.not_eq_true'] at e
        rw [e] at hk; exact hk
      · rw [Bool.not_eq_false'] at e
        rw [e] at hk; exact hk
theorem impl_Fall {l : List Int} {w h rule x y : Int} {K : List Int → Int → Int → Bool → Prop} (hl : l.length ≤ 1099511627776) (hk : K (fallR l w h rule x y).l (fallR l w h rule x y).w (fallR l w h rule x y).h (fallR l w h rule x y).b) : impl_FallAt.wp l w h rule x y K := by
  rw [impl_FallAt.eq]
  refine impl_has hl ?_
  unfold fallR at hk
  cases hv : hasB l w h x y
  · simp only [hv, Bool.false_eq_true, if_false] at hk; exact ifT rfl hk
  · simp only [hv, if_true] at hk
    refine ifF rfl ?_
    refine impl_in ?_
    cases hr : inB rule 0 2
    · simp only [hr, Bool.false_eq_true, if_false] at hk; exact ifT rfl hk
    · simp only [hr, if_true] at hk
      refine ifF rfl ?_
      obtain ⟨W, H, X, Y, g, rfl, rfl, hX, hY⟩ := has_nat hv
      obtain ⟨rfl, rfl, w2, w16, h2, h16, wh, len⟩ := g
      simp only [Int.toNat_natCast] at hk
      have hb := wh_lt hX hY
      refine cloned_ok (by omega) hl (impl_fell w2 w16 h2 h16 len hX hY hr ?_)
      rw [impl_Heights_told.eq]
      refine impl_is (by rw [fallL_length]; exact hl) ?_
      unfold giveR at hk
      refine ifB_of (fun e => ?_) (fun e => ?_)
      · rw [Bool.not_eq_true'] at e
        rw [e] at hk; exact hk
      · rw [Bool.not_eq_false'] at e
        rw [e] at hk; exact hk
theorem fall_law {l : List Int} {w h rule x y : Int} {K : Bool → Prop} (hl : l.length ≤ 9223372036854775807) (hk : K true) : laws_FnExactFallAt.wp l w h rule x y K := by
  rw [laws_FnExactFallAt.eq]
  refine szH_ok (m := 1048576) hl (by decide) (fun _ => ifD (by decide) hk) fun hlen => ifN (by omega) ?_
  have hl : l.length ≤ 1099511627776 := by omega
  have hr : (fallR l w h rule x y).l.length ≤ 1099511627776 := fallR_length hl
  refine toH_ok hl (spec_Fall hl (toH_ok hl (impl_Fall hl (eqH_self hr (ifF rfl (ifF (by simp) (toH_ok hl (eqH_self hl (ifF rfl ?_)))))))))
  refine markH_ok (k := 1) hl (by decide) (ifN (by omega) (eqH_self hr (ifF rfl (ifF (by simp) ?_))))
  refine markH_ok (k := 1) hr (by decide) (heldH_ok (k := 1) hr (by decide) (ifN (by omega) (ifF (by simp) ?_)))
  refine toH_ok hl (impl_Fall hl (eqH_self hr (ifF rfl (ifF (by simp) ?_))))
  exact heldH_ok (k := 1) hr (by decide) (ifN (by omega) (ifF (by simp) hk))
end Go.K.heights
