/- The helpers, as laws. -/
import Derived.Test.YtnhijhkdbpknjaaT
import Derived.Test.YtnhijhkdbpknjaaF2
set_option linter.unusedSimpArgs false
set_option linter.unusedVariables false
set_option maxRecDepth 10000
namespace Go.K.flakes
open Go.K Go

theorem sameFloat_eq : laws_sameFloat.wp = sameT := by funext a b K; exact laws_sameFloat.eq a b K
theorem eqComplex_self {l : List (Nat × Nat)} {K : Bool → Prop} (hl : l.length ≤ 1099511627776) (h : K true) : laws_eqComplex64S.wp l l K := by
  have e2 : laws_sameComplex.wp = fun a b c d K => sameT a c fun y1 => ifB y1 (sameT b d fun y2 => K y2) (K false) := by
    funext a b c d K
    rw [laws_sameComplex.eq, sameFloat_eq]
  rw [laws_eqComplex64S.eq, e2]
  exact eqCT_self hl h
theorem markComplex_ok {l : List (Nat × Nat)} {k : Nat} {K : List (Nat × Nat) → Int → Prop} (hl : l.length ≤ 1099511627776) (hk : k ≤ 1099511627776) (h : K (marked (mcV k) l.length) ((k + l.length : Nat) : Int)) : laws_markComplex64S.wp l (k : Int) K := by
  rw [laws_markComplex64S.eq]; exact markCT_ok hl hk h
theorem heldComplex_ok {n k : Nat} {K : Int → Prop} (hl : n ≤ 1099511627776) (hk : k ≤ 1099511627776) (h : K ((k + n : Nat) : Int)) : laws_heldComplex64S.wp (marked (mcV k) n) (k : Int) K := by
  rw [laws_heldComplex64S.eq]; exact heldCT_ok hl hk h
theorem eqInt_self {l : List Int} {K : Bool → Prop} (hl : l.length ≤ 1099511627776) (h : K true) : laws_eqInt64S.wp l l K := by
  rw [laws_eqInt64S.eq]; exact eqIT_self hl h
theorem markInt_ok {l : List Int} {k : Nat} {K : List Int → Int → Prop} (hl : l.length ≤ 1099511627776) (hk : k ≤ 1099511627776) (h : K (marked (fun i => ((k + i : Nat) : Int)) l.length) ((k + l.length : Nat) : Int)) : laws_markInt64S.wp l (k : Int) K := by
  rw [laws_markInt64S.eq]; exact markIT_ok hl hk h
theorem heldInt_ok {n k : Nat} {K : Int → Prop} (hl : n ≤ 1099511627776) (hk : k ≤ 1099511627776) (h : K ((k + n : Nat) : Int)) : laws_heldInt64S.wp (marked (fun i => ((k + i : Nat) : Int)) n) (k : Int) K := by
  rw [laws_heldInt64S.eq]; exact heldIT_ok hl hk h
theorem eqFloat_self {l : List Nat} {K : Bool → Prop} (hl : l.length ≤ 1099511627776) (h : K true) : laws_eqFloat32S.wp l l K := by
  rw [laws_eqFloat32S.eq, sameFloat_eq]; exact eqFT_self hl h
theorem markFloat_ok {l : List Nat} {k : Nat} {K : List Nat → Int → Prop} (hl : l.length ≤ 1099511627776) (hk : k ≤ 1099511627776) (h : K (marked (mfV k) l.length) ((k + l.length : Nat) : Int)) : laws_markFloat32S.wp l (k : Int) K := by
  rw [laws_markFloat32S.eq]; exact markFT_ok hl hk h
theorem heldFloat_ok {n k : Nat} {K : Int → Prop} (hl : n ≤ 1099511627776) (hk : k ≤ 1099511627776) (h : K ((k + n : Nat) : Int)) : laws_heldFloat32S.wp (marked (mfV k) n) (k : Int) K := by
  rw [laws_heldFloat32S.eq]; exact heldFT_ok hl hk h
theorem toFloat_ok {l : List Nat} {K : List Nat → Prop} (hl : l.length ≤ 1099511627776) (h : K l) : laws_toFloat32S.wp l K := by
  rw [laws_toFloat32S.eq]; exact toFT_ok hl h
theorem szFloat_ok {l : List Nat} {m : Nat} {K : Int → Prop} (hn : l.length ≤ 9223372036854775807) (hm : m ≤ 1099511627776) (h1 : m < l.length → K (-1)) (h2 : l.length ≤ m → K ((m - l.length : Nat) : Int)) : laws_szFloat32S.wp l (m : Int) K := by
  rw [laws_szFloat32S.eq]; exact szT_ok hn hm h1 h2

theorem szFlake_ok {l : List Nat} {s : Int} {m : Nat} {K : Int → Prop} (hn : l.length ≤ 9223372036854775807) (hm : m ≤ 1099511627776) (h1 : m < l.length → K (-1)) (h2 : l.length ≤ m → K ((m - l.length : Nat) : Int)) : laws_szFlake.wp l s (m : Int) K := by
  rw [laws_szFlake.eq]
  exact szFloat_ok hn hm (fun h => ifD (by decide) (h1 h)) (fun h => ifN (by omega) (h2 h))
theorem toFlake_ok {l : List Nat} {s : Int} {K : List Nat → Int → Prop} (hl : l.length ≤ 1099511627776) (h : K l s) : laws_toFlake.wp l s K := by
  rw [laws_toFlake.eq]; exact toFloat_ok hl h
theorem eqFlake_self {l : List Nat} {s : Int} {K : Bool → Prop} (hl : l.length ≤ 1099511627776) (h : K true) : laws_eqFlake.wp l l s s K := by
  rw [laws_eqFlake.eq]
  exact ifF (by simp) (eqFloat_self hl (ifF rfl h))
theorem markFlake_ok {l : List Nat} {s : Int} {k : Nat} {K : List Nat → Int → Prop} (hl : l.length ≤ 1099511627776) (hk : k ≤ 1099511627776) (h : K (marked (mfV k) l.length) ((k + l.length : Nat) : Int)) : laws_markFlake.wp l s (k : Int) K := by
  rw [laws_markFlake.eq]; exact markFloat_ok hl hk h
theorem heldFlake_ok {n k : Nat} {s : Int} {K : Int → Prop} (hl : n ≤ 1099511627776) (hk : k ≤ 1099511627776) (h : K ((k + n : Nat) : Int)) : laws_heldFlake.wp (marked (mfV k) n) s (k : Int) K := by
  rw [laws_heldFlake.eq]; exact heldFloat_ok hl hk (ifN (by omega) h)

/-! ### what is finite -/
theorem spec_fin {x : Nat} {K : Bool → Prop} (h : K (fin .f32 x)) : spec_l01Finite.wp x K := by
  rw [spec_l01Finite.eq, sub_self]; exact h
theorem impl_fin {x : Nat} {K : Bool → Prop} (h : K (fin .f32 x)) : impl_IsFinite.wp x K := by
  rw [impl_IsFinite.eq, impl_finite.eq, math_IsNaN.eq, fne_self, isNaN_up]
  cases hx : isNaNW .f32 x
  · refine ifT rfl ?_
    rw [math_IsInf.eq]
    refine ifT rfl ?_
    rw [math_Abs.eq]
    refine ⟨by rw [isNaN_up]; exact hx, ?_⟩
    rw [isInf_bits (by rw [isNaN_up]; exact hx), fin_up, Bool.not_not]
    exact h
  · refine ifF rfl ?_
    have : fin .f32 x = false := by
      cases hf : fin .f32 x
      · rfl
      · rw [fin_notNaN hf] at hx; cases hx
    rw [this] at h; exact h

/-! ### SquareShape -/
def sqOk (x : Nat) : Bool := fin .f32 x && fgt .f32 x 0
def sqL (x : Nat) : List (Nat × Nat) := (x, x) :: (fneg .f32 x, x) :: (fneg .f32 x, fneg .f32 x) :: (x, fneg .f32 x) :: List.replicate 0 (0, 0)
def sqR (x : Nat) : List (Nat × Nat) := if sqOk x = true then sqL x else []
theorem spec_Square {x : Nat} {K : List (Nat × Nat) → Bool → Prop} (h : K (sqR x) (sqOk x)) : spec_SquareShape.wp x K := by
  rw [spec_SquareShape.eq, spec_l06Size.eq]
  refine spec_fin ?_
  unfold sqR sqOk at h
  cases h1 : fin .f32 x <;> cases h2 : fgt .f32 x 0 <;> simp only [h1, h2] at h <;> rw [spec_l06Square.eq] <;> exact h
theorem impl_Square {x : Nat} {K : List (Nat × Nat) → Bool → Prop} (h : K (sqR x) (sqOk x)) : impl_SquareShape.wp x K := by
  rw [impl_SquareShape.eq, impl_aLength.eq]
  refine impl_fin ?_
  unfold sqR sqOk at h
  cases h1 : fin .f32 x <;> cases h2 : fgt .f32 x 0 <;> simp only [h1, h2] at h <;> exact h
theorem sqR_length (x : Nat) : (sqR x).length ≤ 1099511627776 := by
  unfold sqR; split <;> simp [sqL]
theorem square_law {x : Nat} {K : Bool → Prop} (h : K true) : laws_FnExactSquareShape.wp x K := by
  rw [laws_FnExactSquareShape.eq]
  have hl := sqR_length x
  refine spec_Square (impl_Square (eqComplex_self hl (ifF rfl (ifF (by simp) (markComplex_ok (k := 1) hl (by decide) ?_)))))
  refine heldComplex_ok (k := 1) hl (by decide) (ifN (by omega) (ifF (by simp) (impl_Square (eqComplex_self hl (ifF rfl (ifF (by simp) ?_))))))
  exact heldComplex_ok (k := 1) hl (by decide) (ifN (by omega) (ifF (by simp) h))
end Go.K.flakes
