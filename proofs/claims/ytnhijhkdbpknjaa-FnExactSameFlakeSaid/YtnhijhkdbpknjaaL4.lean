/- The same flakes. -/
import Derived.Test.YtnhijhkdbpknjaaL2
import Derived.Test.YtnhijhkdbpknjaaF4
set_option linter.unusedSimpArgs false
set_option linter.unusedVariables false
set_option maxRecDepth 10000
namespace Go.K.flakes
open Go.K Go

theorem spec_SameN {x y : Nat} (hx : Can x) (hy : Can y) {K : Bool → Prop} (h : K (x == y)) : spec_l01Same.wp x y K := by
  have e : spec_l01Bits.wp = bitsT := by funext a K; exact spec_l01Bits.eq a K
  rw [spec_l01Same.eq, e]
  refine bitsT_ok hx (bitsT_ok hy ?_)
  rw [show ((x : Int) == (y : Int)) = (x == y) by
    by_cases hc : x = y
    · simp [hc]
    · rw [show (x == y) = false by simpa using hc]; rw [beq_eq_false_iff_ne]; omega]
  exact h
theorem impl_SameN {x y : Nat} (hx : Can x) (hy : Can y) {K : Bool → Prop} (h : K (x == y)) : impl_SameNumber.wp x y K := by
  rw [impl_SameNumber.eq]
  exact SameT_ok (sgn := math_Signbit.wp) (fun z K h1 h2 => by rw [math_Signbit.eq]; exact ⟨h1, h2⟩) hx hy h
theorem can_get {l : List Nat} (h : ∀ x ∈ l, Can x) {i : Nat} (hi : i < l.length) : Can (l.getD i 0) := by
  have : l.getD i 0 = l[i] := by simp [List.getD, hi]
  rw [this]; exact h _ (List.getElem_mem hi)
theorem ne_of_length {l m : List Nat} (h : l.length ≠ m.length) : (l == m) = false := by
  rw [beq_eq_false_iff_ne]; intro e; exact h (by rw [e])
theorem spec_all {l m : List Nat} (hl : l.length ≤ 1099511627776) (cl : ∀ x ∈ l, Can x) (cm : ∀ x ∈ m, Can x) {K : Bool → Prop} (h : K (l == m)) : spec_l01SameAll.wp l m K := by
  rw [spec_l01SameAll.eq]
  by_cases hlen : l.length = m.length
  · refine ifF (by simp [hlen]) fun J hJ => same_loop hlen h (fun h => hJ _ (ifN (by omega) h)) (fun i hi hp h => ?_) (fun i hi hp ih => ?_)
    · refine hJ _ (ifD (by omega) ⟨⟨by omega, by omega⟩, ⟨by omega, by omega⟩, ?_⟩)
      rw [Int.toNat_natCast]
      refine spec_SameN (can_get cl hi) (can_get cm (by omega)) ?_
      rw [hp]; exact ifT rfl h
    · refine hJ _ (ifD (by omega) ⟨⟨by omega, by omega⟩, ⟨by omega, by omega⟩, ?_⟩)
      rw [Int.toNat_natCast, wrap_succ (by omega)]
      refine spec_SameN (can_get cl hi) (can_get cm (by omega)) ?_
      rw [hp]; exact ifF rfl ih
  · rw [ne_of_length hlen] at h
    exact ifT (by rw [bne_iff_ne]; omega) h
theorem impl_all {l m : List Nat} (hl : l.length ≤ 1099511627776) (cl : ∀ x ∈ l, Can x) (cm : ∀ x ∈ m, Can x) {K : Bool → Prop} (h : K (l == m)) : impl_sameNumbers.wp l m K := by
  rw [impl_sameNumbers.eq, slices_EqualFunc_float32_float32_float32_float32__SameNumber.eq]
  by_cases hlen : l.length = m.length
  · refine ifF (by simp [hlen]) fun J hJ => same_loop (J := fun x => J (l.length : Int) x) hlen h (fun h => hJ _ _ (ifN (by omega) h)) (fun i hi hp h => ?_) (fun i hi hp ih => ?_)
    · refine hJ _ _ (ifD (by omega) ⟨⟨by omega, by omega⟩, ⟨by omega, by omega⟩, ?_⟩)
      rw [Int.toNat_natCast]
      refine impl_SameN (can_get cl hi) (can_get cm (by omega)) ?_
      rw [hp]; exact ifT rfl h
    · refine hJ _ _ (ifD (by omega) ⟨⟨by omega, by omega⟩, ⟨by omega, by omega⟩, ?_⟩)
      rw [Int.toNat_natCast, wrap_succ (by omega)]
      refine impl_SameN (can_get cl hi) (can_get cm (by omega)) ?_
      rw [hp]; exact ifF rfl ih
  · rw [ne_of_length hlen] at h
    exact ifT (by rw [bne_iff_ne]; omega) h
theorem can_list {l : List Nat} (h : ∀ b ∈ l, (Lit.float .f32 b).wf = true) : ∀ x ∈ l.map (cF .f32), Can x := by
  intro x hx
  obtain ⟨b, hb, rfl⟩ := List.mem_map.1 hx
  exact can_cF (by simpa [Lit.wf] using h b hb)
theorem same_law {l m : List Nat} {s t : Int} {K : Bool → Prop} (hl : l.length ≤ 9223372036854775807) (hm : m.length ≤ 9223372036854775807) (cl : ∀ x ∈ l, Can x) (cm : ∀ x ∈ m, Can x) (h : K true) : laws_FnExactSameFlake.wp l m s t K := by
  rw [laws_FnExactSameFlake.eq]
  refine szFlake_ok (m := 1048576) hl (by decide) (fun _ => ifD (by decide) h) fun hlen => ifN (by omega) ?_
  refine szFlake_ok hm (by omega) (fun _ => ifD (by decide) h) fun hlen2 => ifN (by omega) ?_
  have hl : l.length ≤ 1099511627776 := by omega
  have hm : m.length ≤ 1099511627776 := by omega
  refine toFlake_ok hl (toFlake_ok hm ?_)
  have fin : ∀ b : Bool, (laws_toFlake.wp l s fun y8 y9 => laws_toFlake.wp m t fun y10 y11 => impl_SameFlake.wp y8 y10 y9 y11 fun y12 => ifB (y12 != b) (K Bool.false)
                      (laws_toFlake.wp l s fun y13 y14 =>
                        laws_eqFlake.wp y8 y13 y9 y14 fun y15 =>
                          ifB (!y15) (K Bool.false)
                            (laws_toFlake.wp m t fun y16 y17 =>
                              laws_eqFlake.wp y10 y16 y11 y17 fun y18 => ifB (!y18) (K Bool.false) (K Bool.true)))) ∨ b ≠ ((s == t) && (l == m)) := by
    intro b
    by_cases hb : b = ((s == t) && (l == m))
    · left
      subst hb
      refine toFlake_ok hl (toFlake_ok hm ?_)
      rw [impl_SameFlake.eq]
      have rest : ifB (!true) (K Bool.false)
                            (laws_toFlake.wp m t fun y16 y17 =>
                              laws_eqFlake.wp m y16 t y17 fun y18 => ifB (!y18) (K Bool.false) (K Bool.true)) := ifF rfl (toFlake_ok hm (eqFlake_self hm (ifF rfl h)))
      refine ifB_of (fun e => ?_) (fun e => ?_)
      · rw [e]
        exact impl_all hl cl cm (ifF (by simp) (toFlake_ok hl (eqFlake_self hl rest)))
      · rw [e]
        exact ifF (by simp) (toFlake_ok hl (eqFlake_self hl rest))
    · exact .inr hb
  rw [spec_SameFlake.eq]
  refine ifB_of (fun e => ?_) (fun e => ?_)
  · refine spec_all hl cl cm ?_
    rcases fin (l == m) with h | h
    · exact h
    · exact absurd (by rw [e]; rfl) h
  · rcases fin false with h | h
    · exact h
    · exact absurd (by rw [e]; rfl) h
end Go.K.flakes
