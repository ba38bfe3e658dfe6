/- Rounds of what most take. -/
import Derived.Test.YtblejagpndbicaaLM
set_option linter.unusedSimpArgs false
set_option linter.unusedVariables false
set_option maxRecDepth 10000
set_option maxHeartbeats 4000000
namespace Go.K.grains
open Go.K Go

/-- a cell's label and those around it -/
def nineG (l : List Int) (W H x y : Nat) : List Int := aroundG l W H x y ++ [atG l W H x y]
def mostV (l : List Int) (W H x y : Nat) : Int := (refU (nineG l W H x y) (atG l W H x y) 9).1
section
variable {l : List Int} {W H x y : Nat}
theorem nine_lab (g : Geo l W H) : ∀ v, v ∈ nineG l W H x y → 0 ≤ v ∧ v < (64 : Nat) := by
  intro v hv
  have key : v ∈ l := by
    simp only [nineG, aroundG, List.cons_append, List.nil_append, List.mem_cons, List.not_mem_nil, or_false] at hv
    rcases hv with h | h | h | h | h | h | h | h | h <;> (rw [h]; exact atG_mem g _ _)
  have := g.lab v key
  omega
theorem own_mem : atG l W H x y ∈ nineG l W H x y := by simp [nineG]
theorem most_best : Best (nineG l W H x y) (atG l W H x y) (mostV l W H x y) := ref_best (l := nineG l W H x y) (own := atG l W H x y) (by simp [nineG])
theorem most_imp (g : Geo l W H) : mostV l W H x y = impU (nineG l W H x y) (atG l W H x y) 64 := best_one most_best (imp_best own_mem (nine_lab g))
theorem most_lab (g : Geo l W H) : 0 ≤ mostV l W H x y ∧ mostV l W H x y < 64 := nine_lab g _ most_best.1
theorem count_step {L : List Int} {i : Nat} (v : Int) (hi : i < L.length) : ((L.take (i + 1)).count v : Int) = ((L.take i).count v : Int) + if (L.getD i 0 == v) = true then 1 else 0 := by
  have : L.take (i + 1) = L.take i ++ [L.getD i 0] := by
    rw [List.take_add_one, List.getElem?_eq_getElem hi]
    simp [List.getD, hi]
  rw [this, List.count_append, List.count_singleton]
  split <;> simp_all
theorem spec_most (g : Geo l W H) (hx : x < W) (hy : y < H) {K : Int → Prop} (hk : K (mostV l W H x y)) : spec_l04Most.wp (W : Int) (H : Int) l (x : Int) (y : Int) K := by
  rw [spec_l04Most.eq]
  refine spec_about g rfl rfl (by omega) (by omega) (spec_around g hx hy ⟨by simp [aroundG], ?_⟩)
  unfold mostV at hk
  change ∀ J3 : List Int → Int → Int → Int → Int → Prop, _ → J3 (nineG l W H x y) _ _ _ _
  have h9 : (nineG l W H x y).length = 9 := rfl
  generalize nineG l W H x y = L at *
  generalize atG l W H x y = own at *
  intro J hJ
  refine down (Q := fun k => J L own (refU L own k).1 (refU L own k).2 (k : Int)) (n := 9) (hJ _ _ _ _ _ (ifN (by omega) hk)) (fun k hk9 ih => hJ _ _ _ _ _ (ifD (by omega) fun J2 hJ2 => ?_)) 0 (by omega)
  have hr : refU L own (k + 1) = refStep L own (L.getD k 0) (refU L own k) := rfl
  rw [hr] at ih
  generalize hv : L.getD k 0 = v at *
  generalize refU L own k = s at *
  refine down (Q := fun i => J2 L own s.1 s.2 (k : Int) ((L.take i).count v : Int) (i : Int)) (n := 9) (hJ2 _ _ _ _ _ _ _ (ifN (by omega) ?_)) (fun i hi9 ih2 => hJ2 _ _ _ _ _ _ _ (ifD (by omega) ⟨⟨by omega, by omega⟩, ⟨by omega, by omega⟩, ?_⟩)) 0 (by omega)
  · have ht : L.take 9 = L := by rw [← h9, List.take_length]
    rw [ht, Int.toNat_natCast, hv, wrap_succ (by omega)]
    unfold refStep at ih
    refine ifB_of (fun c1 => ⟨⟨by omega, by omega⟩, ?_⟩) (fun c1 => ?_)
    · have c1 := of_decide_eq_true c1
      rw [if_pos c1] at ih; exact ih
    · have c1 := of_decide_eq_false c1
      rw [if_neg c1] at ih
      refine ifB_of (fun c2 => ifB_of (fun c3 => ⟨⟨by omega, by omega⟩, ifB_of (fun c4 => ⟨⟨by omega, by omega⟩, ?_⟩) (fun c4 => ⟨⟨by omega, by omega⟩, ifB_of (fun c5 => ⟨⟨by omega, by omega⟩, ?_⟩) (fun c5 => ?_)⟩)⟩) (fun c3 => ?_)) (fun c2 => ?_)
      · rw [if_pos (by rw [c2, c3, c4]; rfl)] at ih; exact ih
      · rw [if_pos (by rw [c2, c3, c4, c5]; rfl)] at ih; exact ih
      · rw [if_neg (by rw [c2, c3, c4, c5]; decide)] at ih; exact ih
      · rw [if_neg (by rw [c2, c3]; simp)] at ih; exact ih
      · rw [if_neg (by rw [c2]; simp)] at ih; exact ih
  · have hc := count_step (L := L) (i := i) v (by omega)
    have hle : (L.take i).count v ≤ 9 := Nat.le_trans (List.count_le_length ..) (by rw [List.length_take]; omega)
    rw [hc] at ih2
    rw [Int.toNat_natCast, Int.toNat_natCast, hv, wrap_succ (i := i) (by omega)]
    refine ifB_of (fun c => ?_) (fun c => ?_)
    · rw [if_pos c] at ih2
      rw [wrap64 (by omega) (by omega)]; exact ih2
    · rw [if_neg (by simp only [c]; decide), Int.add_zero] at ih2; exact ih2
end
end Go.K.grains
