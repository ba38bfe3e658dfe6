/- Triple points. -/
import Derived.Test.YtblejagpndbicaaLMb
import Derived.Test.YtblejagpndbicaaF19
set_option linter.unusedSimpArgs false
set_option linter.unusedVariables false
set_option maxRecDepth 10000
set_option maxHeartbeats 2000000
namespace Go.K.grains
open Go.K Go

theorem set_ok {l : List Int} {K : List Int → Prop} (hl : l.length ≤ 1099511627776) (hk : K (setZ l)) : impl_set.wp l K := by
  rw [impl_set.eq]
  refine ⟨by simpa using hl, ?_⟩
  have e : List.replicate 0 0 ++ l = l := rfl
  rw [e]
  refine ⟨hl, ?_⟩
  exact ⟨by rw [sortZ_length]; exact hl, hk⟩
def fourG (l : List Int) (W H x y : Nat) : List Int := [atG l W H x y, atG l W H ((x : Int) + 1) y, atG l W H x ((y : Int) + 1), atG l W H ((x : Int) + 1) ((y : Int) + 1)]
def triU (l : List Int) (W H : Nat) : Nat → Nat
  | 0 => 0
  | i + 1 => if 3 ≤ (firsts (fourG l W H (i % W) (i / W))).length then triU l W H i + 1 else triU l W H i
theorem triU_le (l : List Int) (W H : Nat) : ∀ i, triU l W H i ≤ i
  | 0 => Nat.le_refl _
  | i + 1 => by
    have := triU_le l W H i
    unfold triU
    split <;> omega
section
variable {l : List Int} {W H : Nat}
theorem atG_self {x y : Nat} (hx : x < W) (hy : y < H) : atG l W H x y = l.getD (x + W * y) 0 := by
  unfold atG cellN
  rw [pl_self hx, pl_self hy]
/-- how many are met first, among the first k -/
def firstN (L : List Int) (k : Nat) : Nat := ((List.range k).filter (firstB L)).length
theorem firstN_succ (L : List Int) (k : Nat) : firstN L (k + 1) = firstN L k + if firstB L k = true then 1 else 0 := by
  unfold firstN
  rw [List.range_succ, List.filter_append, List.length_append]
  cases h : firstB L k <;> simp [h]
theorem firstN_le (L : List Int) (k : Nat) : firstN L k ≤ k := by
  unfold firstN
  refine Nat.le_trans (List.length_filter_le _ _) ?_
  simp
def flagB (L : List Int) (k j : Nat) : Bool := (List.range j).all fun i => L.getD i 0 != L.getD k 0
theorem flagB_succ (L : List Int) (k j : Nat) : flagB L k (j + 1) = (flagB L k j && (L.getD j 0 != L.getD k 0)) := by
  unfold flagB
  rw [List.range_succ, List.all_append]
  simp
theorem spec_Triple (hl : l.length ≤ 1099511627776) {w h : Int} {K : Int → Bool → Prop} (hk : K (if validG l w h = true then ((triU l w.toNat h.toNat (w.toNat * h.toNat) : Nat) : Int) else 0) (validG l w h)) : spec_TriplePoints.wp l w h K := by
  rw [spec_TriplePoints.eq]
  refine spec_is hl ?_
  cases hv : validG l w h
  · rw [hv, if_neg (by decide)] at hk; exact ifT rfl hk
  rw [hv, if_pos rfl] at hk
  obtain ⟨W, H, rfl, rfl, g⟩ := valid_nat hv
  rw [Int.toNat_natCast, Int.toNat_natCast] at hk
  have g1 := g.w1
  have g2 := g.w16
  have g4 := g.h16
  have hwh := g.wh
  have hlen := g.len
  have enn : Go.IntKind.wrap .i64 ((W : Int) * (H : Int)) = ((W * H : Nat) : Int) := by rw [← Int.natCast_mul, wrap_nat (by omega)]
  refine ifF rfl ?_
  intro J hJ
  refine down (Q := fun i => J (W : Int) (H : Int) (triU l W H i : Int) (i : Int)) (n := W * H) (hJ _ _ _ _ ?_) (fun i hi ih => hJ _ _ _ _ ?_) 0 (Nat.zero_le _)
  · rw [enn]; exact ifN (by omega) hk
  · rw [enn]
    have hx : i % W < W := Nat.mod_lt _ (by omega)
    have hy : i / W < H := Nat.div_lt_of_lt_mul hi
    have hidx : i % W + W * (i / W) = i := Nat.mod_add_div i W
    have htu := triU_le l W H i
    have hst : triU l W H (i + 1) = if 3 ≤ (firsts (fourG l W H (i % W) (i / W))).length then triU l W H i + 1 else triU l W H i := rfl
    rw [hst] at ih
    refine ifD (by omega) ⟨by omega, by omega, ⟨by omega, by omega⟩, ?_⟩
    have hself : l.getD (Int.toNat (i : Int)) 0 = atG l W H (i % W : Nat) (i / W : Nat) := by rw [atG_self hx hy, hidx, Int.toNat_natCast]
    rw [hself, tdiv_nat, tmod_nat]
    generalize i % W = x at *
    generalize i / W = y at *
    have ey : Go.IntKind.wrap .i64 (y : Int) = (y : Int) := wrap_nat (by omega)
    have ey1 : Go.IntKind.wrap .i64 ((y : Int) + 1) = (y : Int) + 1 := wrap64 (by omega) (by omega)
    have ex1 : Go.IntKind.wrap .i64 ((x : Int) + 1) = (x : Int) + 1 := wrap64 (by omega) (by omega)
    rw [ey, ey1, ex1]
    refine spec_about g rfl rfl (by omega) (by omega) (spec_about g rfl rfl (by omega) (by omega) (spec_about g rfl rfl (by omega) (by omega) ?_))
    change ∀ J10 : Int → Int → List Int → Int → Int → Int → Int → Prop, _ → J10 _ _ (fourG l W H x y) _ _ _ _
    have h4 : (fourG l W H x y).length = 4 := rfl
    generalize fourG l W H x y = L at *
    generalize triU l W H i = c at *
    intro J2 hJ2
    refine down (Q := fun k => J2 (W : Int) (H : Int) L (c : Int) (i : Int) (firstN L k : Int) (k : Int)) (n := 4) (hJ2 _ _ _ _ _ _ _ (ifN (by omega) ?_)) (fun k hk4 ihk => hJ2 _ _ _ _ _ _ _ (ifD (by omega) fun J3 hJ3 => ?_)) 0 (by omega)
    · have hn : firstN L 4 = (firsts L).length := by
        unfold firstN firsts
        rw [List.length_map, h4]
      rw [hn, wrap_succ (i := i) (by omega)]
      by_cases hc : 3 ≤ (firsts L).length
      · rw [if_pos hc] at ih
        refine ifD (by omega) ?_
        rw [wrap_succ (by omega)]; exact ih
      · rw [if_neg hc] at ih
        exact ifN (by omega) ih
    · have hnle := firstN_le L k
      rw [firstN_succ] at ihk
      refine down (Q := fun j => J3 (W : Int) (H : Int) L (c : Int) (i : Int) (firstN L k : Int) (k : Int) (flagB L k j) (j : Int)) (n := k) (hJ3 _ _ _ _ _ _ _ _ _ (ifN (by omega) ?_)) (fun j hj ihj => hJ3 _ _ _ _ _ _ _ _ _ (ifD (by omega) ?_)) 0 (Nat.zero_le _)
      · have hf : flagB L k k = firstB L k := rfl
        rw [hf, wrap_succ (i := k) (by omega)]
        cases h : firstB L k
        · rw [h, if_neg (by decide), Nat.add_zero] at ihk
          exact ifF rfl ihk
        · rw [h, if_pos rfl] at ihk
          refine ifT rfl ?_
          rw [wrap_succ (by omega)]; exact ihk
      · rw [flagB_succ] at ihj
        rw [wrap_succ (i := j) (by omega)]
        cases h : flagB L k j
        · rw [h, Bool.false_and] at ihj
          exact ifF rfl ihj
        · rw [h, Bool.true_and] at ihj
          refine ifT rfl ⟨⟨by omega, by omega⟩, ⟨by omega, by omega⟩, ?_⟩
          rw [Int.toNat_natCast, Int.toNat_natCast]
          exact ihj
theorem impl_Triple (hl : l.length ≤ 1099511627776) {w h : Int} {K : Int → Bool → Prop} (hk : K (if validG l w h = true then ((triU l w.toNat h.toNat (w.toNat * h.toNat) : Nat) : Int) else 0) (validG l w h)) : impl_TriplePoints.wp l w h K := by
  rw [impl_TriplePoints.eq]
  refine impl_is hl ?_
  cases hv : validG l w h
  · rw [hv, if_neg (by decide)] at hk; exact ifT rfl hk
  rw [hv, if_pos rfl] at hk
  obtain ⟨W, H, rfl, rfl, g⟩ := valid_nat hv
  rw [Int.toNat_natCast, Int.toNat_natCast] at hk
  have g1 := g.w1
  have g2 := g.w16
  have g4 := g.h16
  have hwh := g.wh
  have hlen := g.len
  refine ifF rfl ?_
  intro J hJ
  refine down (Q := fun i => J (W : Int) (H : Int) (triU l W H i : Int) (l.length : Int) (i : Int)) (n := W * H) (hJ _ _ _ _ _ (ifN (by omega) hk)) (fun i hi ih => hJ _ _ _ _ _ (ifD (by omega) ?_)) 0 (Nat.zero_le _)
  have hx : i % W < W := Nat.mod_lt _ (by omega)
  have hy : i / W < H := Nat.div_lt_of_lt_mul hi
  have htu := triU_le l W H i
  have hst : triU l W H (i + 1) = if 3 ≤ (firsts (fourG l W H (i % W) (i / W))).length then triU l W H i + 1 else triU l W H i := rfl
  rw [hst] at ih
  refine ⟨by omega, by omega, ?_⟩
  rw [tdiv_nat, tmod_nat]
  generalize i % W = x at *
  generalize i / W = y at *
  have ey : Go.IntKind.wrap .i64 (y : Int) = (y : Int) := wrap_nat (by omega)
  have ey1 : Go.IntKind.wrap .i64 ((y : Int) + 1) = (y : Int) + 1 := wrap64 (by omega) (by omega)
  have ex1 : Go.IntKind.wrap .i64 ((x : Int) + 1) = (x : Int) + 1 := wrap64 (by omega) (by omega)
  rw [ey, ey1, ex1]
  refine impl_about g rfl rfl (by omega) (by omega) (impl_about g rfl rfl (by omega) (by omega) (impl_about g rfl rfl (by omega) (by omega) (impl_about g rfl rfl (by omega) (by omega) ?_)))
  refine set_ok (l := fourG l W H x y) (by simp [fourG]) ?_
  rw [setZ_firsts, wrap_succ (i := i) (by omega)]
  generalize fourG l W H x y = L at *
  by_cases hc : 3 ≤ (firsts L).length
  · rw [if_pos hc] at ih
    refine ifD (by omega) ?_
    rw [wrap_succ (by omega)]; exact ih
  · rw [if_neg hc] at ih
    exact ifN (by omega) ih
theorem triple_law {w h : Int} (hl : l.length ≤ 9223372036854775807) {K : Bool → Prop} (hk : K true) : laws_FnExactTriplePoints.wp l w h K := by
  rw [laws_FnExactTriplePoints.eq]
  refine szG_ok (m := 1048576) hl (by decide) (fun _ => ifD (by decide) hk) fun hlen => ifN (by omega) ?_
  have hl : l.length ≤ 1099511627776 := by omega
  refine toG_ok hl (spec_Triple hl (toG_ok hl (impl_Triple hl ?_)))
  exact ifF (by simp) (ifF (by simp) (toG_ok hl (eqG_self hl (ifF rfl hk))))
end
end Go.K.grains
