/- Rounds of what most take. -/
import Derived.Test.YtblejagpndbicaaLMc
set_option linter.unusedSimpArgs false
set_option linter.unusedVariables false
set_option maxRecDepth 10000
set_option maxHeartbeats 4000000
namespace Go.K.grains
open Go.K Go

/-- a cell's label and those around it -/
def nineG (l : List Int) (W H x y : Nat) : List Int := aroundG l W H x y ++ [atG l W H x y]
def mostV (l : List Int) (W H x y : Nat) : Int := (refU (nineG l W H x y) (atG l W H x y) 9).1
section
variable {l : List Int} {W H x y : Nat}
theorem nine_lab (g : Geo l W H) : ∀ v, v ∈ nineG l W H x y → 0 ≤ v ∧ v < (64 : Nat) := by
  intro v hv
  have key : v ∈ l := by
    simp only [nineG, aroundG, List.cons_append, List.nil_append, List.mem_cons, List.not_mem_nil, or_false] at hv
    rcases hv with h | h | h | h | h | h | h | h | h <;> (rw [h]; exact atG_mem g _ _)
  have := g.lab v key
  omega
theorem own_mem : atG l W H x y ∈ nineG l W H x y := by simp [nineG]
theorem most_best : Best (nineG l W H x y) (atG l W H x y) (mostV l W H x y) := ref_best (l := nineG l W H x y) (own := atG l W H x y) (by simp [nineG])
theorem most_imp (g : Geo l W H) : mostV l W H x y = impU (nineG l W H x y) (atG l W H x y) 64 := best_one most_best (imp_best own_mem (nine_lab g))
theorem most_lab (g : Geo l W H) : 0 ≤ mostV l W H x y ∧ mostV l W H x y < 64 := nine_lab g _ most_best.1
theorem count_step {L : List Int} {i : Nat} (v : Int) (hi : i < L.length) : ((L.take (i + 1)).count v : Int) = ((L.take i).count v : Int) + if (L.getD i 0 == v) = true then 1 else 0 := by
  have : L.take (i + 1) = L.take i ++ [L.getD i 0] := by
    rw [List.take_add_one, List.getElem?_eq_getElem hi]
    simp [List.getD, hi]
  rw [this, List.count_append, List.count_singleton]
  split <;> simp_all
end
end Go.K.grains
