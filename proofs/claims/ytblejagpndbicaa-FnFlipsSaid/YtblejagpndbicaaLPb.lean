/- Triple points. -/
import Derived.Test.YtblejagpndbicaaLMc
import Derived.Test.YtblejagpndbicaaF19
set_option linter.unusedSimpArgs false
set_option linter.unusedVariables false
set_option maxRecDepth 10000
set_option maxHeartbeats 2000000
namespace Go.K.grains
open Go.K Go

theorem set_ok {l : List Int} {K : List Int → Prop} (hl : l.length ≤ 1099511627776) (hk : K (setZ l)) : impl_set.wp l K := by
  rw [impl_set.eq]
  refine ⟨by simpa using hl, ?_⟩
  have e : List.replicate 0 0 ++ l = l := rfl
  rw [e]
  refine ⟨hl, ?_⟩
  exact ⟨by rw [sortZ_length]; exact hl, hk⟩
section
variable {l : List Int} {W H : Nat}
theorem atG_self {x y : Nat} (hx : x < W) (hy : y < H) : atG l W H x y = l.getD (x + W * y) 0 := by
  unfold atG cellN
  rw [pl_self hx, pl_self hy]
end
end Go.K.grains
