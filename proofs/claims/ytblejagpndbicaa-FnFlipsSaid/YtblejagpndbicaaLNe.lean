/- Rounds of what most take. -/
import Derived.Test.YtblejagpndbicaaLNd
set_option linter.unusedSimpArgs false
set_option linter.unusedVariables false
set_option maxRecDepth 10000
set_option maxHeartbeats 4000000
namespace Go.K.grains
open Go.K Go

section
variable {l : List Int} {W H x y : Nat}
theorem zeros_cnt (L : List Int) (n : Nat) : cntL L n 0 = List.replicate n 0 := by
  apply List.ext_getElem?
  intro k
  by_cases hk : k < n
  · simp [cntL, hk]
  · rw [List.getElem?_eq_none (by rw [cntL_length]; omega), List.getElem?_eq_none (by simp; omega)]
theorem impl_most (g : Geo l W H) (hx : x < W) (hy : y < H) {K : Int → Prop} (hk : K (mostV l W H x y)) : impl_Grains_majority.wp l (W : Int) (H : Int) (x : Int) (y : Int) K := by
  rw [impl_Grains_majority.eq]
  rw [most_imp g] at hk
  refine impl_about g rfl rfl (by omega) (by omega) ?_
  rw [impl_Grains_around.eq]
  refine And.intro (Eq.refl 64) ?_
  have g2 := g.w16
  have g4 := g.h16
  have e0 : Go.IntKind.wrap .i64 ((x : Int) + 0) = (x : Int) := by rw [Int.add_zero]; exact wrap64 (by omega) (by omega)
  have e1 : Go.IntKind.wrap .i64 ((x : Int) + 1) = (x : Int) + 1 := wrap64 (by omega) (by omega)
  have e2 : Go.IntKind.wrap .i64 ((x : Int) + -1) = (x : Int) - 1 := wrap64 (x := (x : Int) + -1) (by omega) (by omega)
  have f0 : Go.IntKind.wrap .i64 ((y : Int) + 0) = (y : Int) := by rw [Int.add_zero]; exact wrap64 (by omega) (by omega)
  have f1 : Go.IntKind.wrap .i64 ((y : Int) + 1) = (y : Int) + 1 := wrap64 (by omega) (by omega)
  have f2 : Go.IntKind.wrap .i64 ((y : Int) + -1) = (y : Int) - 1 := wrap64 (x := (y : Int) + -1) (by omega) (by omega)
  intro J0 hJ0
  refine hJ0 _ _ _ _ _ _ _ _ _ _ _ _ _ _ _ _ _ _ _ _ (ifD (by decide) ⟨⟨by decide, by decide⟩, rfl, ⟨by decide, by decide, by decide⟩, ⟨by decide, by decide, by decide⟩, impl_about g (x := (x : Int) - 1) (y := y) e2 f0 (by omega) (by omega) ⟨by simp, ?_⟩⟩)
  refine hJ0 _ _ _ _ _ _ _ _ _ _ _ _ _ _ _ _ _ _ _ _ (ifD (by decide) ⟨⟨by decide, by decide⟩, rfl, ⟨by decide, by decide, by decide⟩, ⟨by decide, by decide, by decide⟩, impl_about g (x := (x : Int) + 1) (y := y) e1 f0 (by omega) (by omega) ⟨by simp, ?_⟩⟩)
  refine hJ0 _ _ _ _ _ _ _ _ _ _ _ _ _ _ _ _ _ _ _ _ (ifD (by decide) ⟨⟨by decide, by decide⟩, rfl, ⟨by decide, by decide, by decide⟩, ⟨by decide, by decide, by decide⟩, impl_about g (x := (x : Int)) (y := (y : Int) - 1) e0 f2 (by omega) (by omega) ⟨by simp, ?_⟩⟩)
  refine hJ0 _ _ _ _ _ _ _ _ _ _ _ _ _ _ _ _ _ _ _ _ (ifD (by decide) ⟨⟨by decide, by decide⟩, rfl, ⟨by decide, by decide, by decide⟩, ⟨by decide, by decide, by decide⟩, impl_about g (x := (x : Int)) (y := (y : Int) + 1) e0 f1 (by omega) (by omega) ⟨by simp, ?_⟩⟩)
  refine hJ0 _ _ _ _ _ _ _ _ _ _ _ _ _ _ _ _ _ _ _ _ (ifD (by decide) ⟨⟨by decide, by decide⟩, rfl, ⟨by decide, by decide, by decide⟩, ⟨by decide, by decide, by decide⟩, impl_about g (x := (x : Int) - 1) (y := (y : Int) - 1) e2 f2 (by omega) (by omega) ⟨by simp, ?_⟩⟩)
  refine hJ0 _ _ _ _ _ _ _ _ _ _ _ _ _ _ _ _ _ _ _ _ (ifD (by decide) ⟨⟨by decide, by decide⟩, rfl, ⟨by decide, by decide, by decide⟩, ⟨by decide, by decide, by decide⟩, impl_about g (x := (x : Int) + 1) (y := (y : Int) - 1) e1 f2 (by omega) (by omega) ⟨by simp, ?_⟩⟩)
  refine hJ0 _ _ _ _ _ _ _ _ _ _ _ _ _ _ _ _ _ _ _ _ (ifD (by decide) ⟨⟨by decide, by decide⟩, rfl, ⟨by decide, by decide, by decide⟩, ⟨by decide, by decide, by decide⟩, impl_about g (x := (x : Int) - 1) (y := (y : Int) + 1) e2 f1 (by omega) (by omega) ⟨by simp, ?_⟩⟩)
  refine hJ0 _ _ _ _ _ _ _ _ _ _ _ _ _ _ _ _ _ _ _ _ (ifD (by decide) ⟨⟨by decide, by decide⟩, rfl, ⟨by decide, by decide, by decide⟩, ⟨by decide, by decide, by decide⟩, impl_about g (x := (x : Int) + 1) (y := (y : Int) + 1) e1 f1 (by omega) (by omega) ⟨by simp, ?_⟩⟩)
  refine hJ0 _ _ _ _ _ _ _ _ _ _ _ _ _ _ _ _ _ _ _ _ (ifN (by decide) ?_)
  refine And.intro (by simp) ?_
  have hlab := nine_lab (x := x) (y := y) g
  have hown := own_mem (l := l) (W := W) (H := H) (x := x) (y := y)
  change ∀ J3 : List Int → List Int → Int → Int → Int → Prop, _ → J3 (List.replicate 64 0) (nineG l W H x y) _ ((nineG l W H x y).length : Int) _
  have h9 : (nineG l W H x y).length = 9 := rfl
  generalize nineG l W H x y = L at *
  generalize atG l W H x y = own at *
  intro J hJ
  rw [← zeros_cnt L 64]
  refine down (Q := fun i => J (cntL L 64 i) L own (L.length : Int) (i : Int)) (n := 9) (hJ _ _ _ _ _ (ifN (by omega) ⟨cntL_length _ _ _, fun J2 hJ2 => ?_⟩)) (fun i hi9 ih => hJ _ _ _ _ _ (ifD (by omega) ?_)) 0 (by omega)
  · have ht : L.take 9 = L := by rw [← h9, List.take_length]
    have hb : ∀ i : Nat, i ≤ 64 → 0 ≤ impU L own i ∧ impU L own i < 64 := by
      intro i hi
      obtain ⟨_, _, c⟩ := imp_inv (l := L) (own := own) i
      have := hlab own hown
      rcases c with c | ⟨_, c1, c2, _⟩ <;> omega
    refine down (Q := fun i => J2 (cntL L 64 9) (cntL L 64 9) (impU L own i) (i : Int)) (n := 64) (hJ2 _ _ _ _ (ifN (by omega) hk)) (fun i hi ih => hJ2 _ _ _ _ (ifD (by omega) ?_)) 0 (by omega)
    have hbi := hb i (by omega)
    have hr : impU L own (i + 1) = if L.count (i : Int) > L.count (impU L own i) then (i : Int) else impU L own i := rfl
    rw [hr] at ih
    generalize impU L own i = s at *
    obtain ⟨k, rfl⟩ : ∃ k : Nat, s = (k : Int) := ⟨s.toNat, by omega⟩
    rw [cntL_length, Int.toNat_natCast, Int.toNat_natCast, cntL_get (by omega), cntL_get (by omega), ht, wrap_succ (by omega)]
    refine ⟨⟨by omega, by omega, by omega⟩, ⟨by omega, by omega, by omega⟩, ifB_of (fun c => ?_) (fun c => ?_)⟩
    · have c := of_decide_eq_true c
      rw [if_pos (by omega)] at ih; exact ih
    · have c := of_decide_eq_false c
      rw [if_neg (by omega)] at ih; exact ih
  · have hm := hlab _ (getD_mem 0 (show i < L.length by omega))
    obtain ⟨v, hv⟩ : ∃ v : Nat, L.getD i 0 = (v : Int) := ⟨(L.getD i 0).toNat, by omega⟩
    have hstep := cntL_step (l := L) (n := 64) (i := i) (v := v) (by omega) hv (by omega)
    have hle : (L.take i).count (v : Int) ≤ 9 := Nat.le_trans (List.count_le_length ..) (by rw [List.length_take]; omega)
    have hget := cntL_get (l := L) (n := 64) (i := i) (x := v) (by omega)
    rw [Int.toNat_natCast, hv, Int.toNat_natCast, cntL_length, wrap_succ (i := i) (by omega)]
    rw [wrap64 (by omega) (by omega), hstep]
    exact ⟨⟨by omega, by omega⟩, ⟨by omega, by omega, by omega⟩, ⟨by omega, by omega, by omega⟩, ih⟩
end
end Go.K.grains
