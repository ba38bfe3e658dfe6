/- Atoms that fall; rain. -/
import Derived.Test.YtcmbpondkipbkaaLHa
set_option linter.unusedSimpArgs false
set_option linter.unusedVariables false
set_option maxRecDepth 10000
set_option maxHeartbeats 4000000
namespace Go.K.heights
open Go.K Go

def up1 (l : List Int) (i : Nat) : List Int := l.set i (Go.IntKind.wrap .i64 (l.getD i 0 + 1))
section
variable {l : List Int} {W H x y : Nat}
theorem getD_set_self {l : List Int} {i : Nat} {v : Int} (h : i < l.length) : (l.set i v).getD i 0 = v := by
  simp [List.getD, List.getElem?_set, h]
theorem getD_set_ne {l : List Int} {i k : Nat} {v : Int} (h : k ≠ i) : (l.set i v).getD k 0 = l.getD k 0 := by
  simp [List.getD, List.getElem?_set, Ne.symm h]
end

theorem cloned_ok {l : List Int} {w h : Int} {K : List Int → Int → Int → Prop} (h0 : l.length ≠ 0) (hl : l.length ≤ 1099511627776) (hk : K l w h) : impl_Heights_cloned.wp l w h K := by
  rw [impl_Heights_cloned.eq, slices_Clone_int64_int64.eq]
  exact ⟨h0, hl, hk⟩
/-! ### FallAt -/
end Go.K.heights
