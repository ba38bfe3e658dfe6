/- Heights: valid ones, cells, what lies beside. -/
import Derived.Test.YtcmbpondkipbkaaT
import Derived.Test.YtcmbpondkipbkaaF5
set_option linter.unusedSimpArgs false
set_option linter.unusedVariables false
set_option maxRecDepth 10000
namespace Go.K.heights
open Go.K Go

theorem eqInt_self {l : List Int} {K : Bool → Prop} (hl : l.length ≤ 1099511627776) (h : K true) : laws_eqInt64S.wp l l K := by
  rw [laws_eqInt64S.eq]; exact eqIT_self hl h
theorem markInt_ok {l : List Int} {k : Nat} {K : List Int → Int → Prop} (hl : l.length ≤ 1099511627776) (hk : k ≤ 1099511627776) (h : K (marked (fun i => ((k + i : Nat) : Int)) l.length) ((k + l.length : Nat) : Int)) : laws_markInt64S.wp l (k : Int) K := by
  rw [laws_markInt64S.eq]; exact markIT_ok hl hk h
theorem heldInt_ok {n k : Nat} {K : Int → Prop} (hl : n ≤ 1099511627776) (hk : k ≤ 1099511627776) (h : K ((k + n : Nat) : Int)) : laws_heldInt64S.wp (marked (fun i => ((k + i : Nat) : Int)) n) (k : Int) K := by
  rw [laws_heldInt64S.eq]; exact heldIT_ok hl hk h
theorem eqH_self {l : List Int} {a b : Int} {K : Bool → Prop} (hl : l.length ≤ 1099511627776) (h : K true) : laws_eqHeights.wp l l a b a b K := by
  rw [laws_eqHeights.eq]
  exact ifF (by simp) (ifF (by simp) (eqInt_self hl (ifF rfl h)))
theorem markH_ok {l : List Int} {a b : Int} {k : Nat} {K : List Int → Int → Prop} (hl : l.length ≤ 1099511627776) (hk : k ≤ 1099511627776) (h : K (marked (fun i => ((k + i : Nat) : Int)) l.length) ((k + l.length : Nat) : Int)) : laws_markHeights.wp l a b (k : Int) K := by
  rw [laws_markHeights.eq]; exact markInt_ok hl hk h
theorem heldH_ok {n k : Nat} {a b : Int} {K : Int → Prop} (hl : n ≤ 1099511627776) (hk : k ≤ 1099511627776) (h : K ((k + n : Nat) : Int)) : laws_heldHeights.wp (marked (fun i => ((k + i : Nat) : Int)) n) a b (k : Int) K := by
  rw [laws_heldHeights.eq]; exact heldInt_ok hl hk (ifN (by omega) h)

/-! ### valid heights -/
theorem spec_in {v a b : Int} {K : Bool → Prop} (h : K (inB v a b)) : spec_l00In.wp v a b K := by rw [spec_l00In.eq]; exact inT_ok h
theorem impl_in {v a b : Int} {K : Bool → Prop} (h : K (inB v a b)) : impl_within.wp v a b K := by rw [impl_within.eq]; exact inT'_ok h
def sizeB (w h : Int) : Bool := inB w 2 16 && inB h 2 16
def validH (l : List Int) (w h : Int) : Bool := l.all (fun v => inB v 0 1000) && (sizeB w h && ((l.length : Int) == Go.IntKind.wrap .i64 (w * h)))
theorem spec_size {w h : Int} {K : Bool → Prop} (hk : K (sizeB w h)) : spec_l05Size.wp w h K := by
  rw [spec_l05Size.eq]
  refine spec_in ?_
  unfold sizeB at hk
  refine ifB_of (fun e => ?_) (fun e => ?_)
  · rw [e] at hk; exact spec_in hk
  · rw [e] at hk; exact hk
theorem spec_is {l : List Int} {w h : Int} {K : Bool → Prop} (hl : l.length ≤ 1099511627776) (hk : K (validH l w h)) : spec_l05Is.wp w h l K := by
  rw [spec_l05Is.eq]
  intro J hJ
  refine all_loop (J := fun i => J (l.length : Int) i) (K := fun b => K (b && (sizeB w h && ((l.length : Int) == Go.IntKind.wrap .i64 (w * h))))) (d := 0) hk (fun hk => hJ _ _ (ifN (by omega) ?_)) (fun i hi hp hk => ?_) (fun i hi hp ih => ?_)
  · refine spec_size ?_
    rw [Bool.true_and] at hk
    refine ifB_of (fun e => ?_) (fun e => ?_)
    · rw [e] at hk; exact hk
    · rw [e] at hk; exact hk
  · refine hJ _ _ (ifD (by omega) ⟨⟨by omega, by omega⟩, spec_in ?_⟩)
    rw [Int.toNat_natCast, hp]; exact ifT rfl hk
  · refine hJ _ _ (ifD (by omega) ⟨⟨by omega, by omega⟩, spec_in ?_⟩)
    rw [Int.toNat_natCast, hp, wrap_succ (by omega)]; exact ifF rfl ih
theorem areWithin {l : List Int} {a b : Int} {K : Bool → Prop} (hl : l.length ≤ 1099511627776) (h : K (l.all fun v => inB v a b)) : impl_areWithin.wp l a b K := by
  rw [impl_areWithin.eq, slices_ContainsFunc_int64_int64__areWithin_1.eq, slices_IndexFunc_int64_int64__areWithin_1.eq]
  intro J hJ
  refine all_loop (J := fun i => J (l.length : Int) i) (d := 0) h (fun h => hJ _ _ (ifN (by omega) h)) (fun i hi hp h => ?_) (fun i hi hp ih => ?_)
  · refine hJ _ _ (ifD (by omega) ⟨⟨by omega, by omega⟩, ?_⟩)
    rw [impl_areWithin_1.eq]
    refine impl_in ?_
    rw [Int.toNat_natCast, hp]
    refine ifT rfl ?_
    rw [decide_eq_true (by omega)]
    exact h
  · refine hJ _ _ (ifD (by omega) ⟨⟨by omega, by omega⟩, ?_⟩)
    rw [impl_areWithin_1.eq]
    refine impl_in ?_
    rw [Int.toNat_natCast, hp, wrap_succ (by omega)]
    exact ifF rfl ih
theorem impl_is {l : List Int} {w h : Int} {K : Bool → Prop} (hl : l.length ≤ 1099511627776) (hk : K (validH l w h)) : impl_ValidHeights.wp l w h K := by
  rw [impl_ValidHeights.eq]
  refine areWithin (by simp) ?_
  have e : ((w :: h :: List.replicate 0 0).all fun v => inB v 2 16) = sizeB w h := by simp [sizeB]
  rw [e]
  unfold validH at hk
  refine ifB_of (fun e => ?_) (fun e => ?_)
  · rw [e, Bool.true_and] at hk
    refine ifB_of (fun e => ?_) (fun e => ?_)
    · rw [e, Bool.and_true] at hk; exact areWithin hl hk
    · rw [e, Bool.and_false] at hk; exact hk
  · rw [e, Bool.false_and, Bool.and_false] at hk; exact hk
theorem valid_nat {l : List Int} {w h : Int} (hv : validH l w h = true) : ∃ W H : Nat, w = (W : Int) ∧ h = (H : Int) ∧ 2 ≤ W ∧ W ≤ 16 ∧ 2 ≤ H ∧ H ≤ 16 ∧ W * H ≤ 256 ∧ l.length = W * H := by
  simp only [validH, sizeB, Bool.and_eq_true, inB_iff, beq_iff_eq] at hv
  obtain ⟨_, ⟨⟨h1, h2⟩, h3, h4⟩, h5⟩ := hv
  obtain ⟨W, rfl⟩ : ∃ n : Nat, w = (n : Int) := ⟨w.toNat, by omega⟩
  obtain ⟨H, rfl⟩ : ∃ n : Nat, h = (n : Int) := ⟨h.toNat, by omega⟩
  have hb : W * H ≤ 256 := Nat.mul_le_mul (show W ≤ 16 by omega) (show H ≤ 16 by omega)
  rw [← Int.natCast_mul, wrap_nat (by omega)] at h5
  exact ⟨W, H, rfl, rfl, by omega, by omega, by omega, by omega, hb, by omega⟩

end Go.K.heights
