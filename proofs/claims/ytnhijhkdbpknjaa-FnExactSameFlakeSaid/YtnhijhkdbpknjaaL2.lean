/- Flakes: valid ones, ice, exchanged and turned ones. -/
import Derived.Test.YtnhijhkdbpknjaaL
import Derived.Test.YtnhijhkdbpknjaaF3
set_option linter.unusedSimpArgs false
set_option linter.unusedVariables false
set_option maxRecDepth 10000
namespace Go.K.flakes
open Go.K Go

def validF (l : List Nat) (s : Int) : Bool := decide (3 ≤ s) && (decide (s ≤ 16) && (((l.length : Int) == Go.IntKind.wrap .i64 (s * s)) && l.all (fin .f32)))
theorem valid_nat {l : List Nat} {s : Int} (h : validF l s = true) : ∃ n : Nat, s = (n : Int) ∧ 3 ≤ n ∧ n ≤ 16 ∧ n * n ≤ 256 ∧ l.length = n * n ∧ l.all (fin .f32) = true := by
  simp only [validF, Bool.and_eq_true, decide_eq_true_eq, beq_iff_eq] at h
  obtain ⟨h1, h2, h3, h4⟩ := h
  obtain ⟨n, rfl⟩ : ∃ n : Nat, s = (n : Int) := ⟨s.toNat, by omega⟩
  have hn : n ≤ 16 := by omega
  have hnn : n * n ≤ 256 := Nat.mul_le_mul hn hn
  refine ⟨n, rfl, by omega, hn, hnn, ?_, h4⟩
  rw [← Int.natCast_mul, wrap_nat (by omega)] at h3
  omega
theorem valid_of {l : List Nat} {n : Nat} (h1 : 3 ≤ n) (h2 : n ≤ 16) (h3 : l.length = n * n) : validF l (n : Int) = l.all (fin .f32) := by
  have hnn : n * n ≤ 256 := Nat.mul_le_mul h2 h2
  have e : ((l.length : Int) == Go.IntKind.wrap .i64 ((n : Int) * (n : Int))) = true := by
    rw [← Int.natCast_mul, wrap_nat (by omega), h3]; simp
  unfold validF
  rw [e, decide_eq_true (by omega), decide_eq_true (by omega)]
  rfl

theorem spec_is {l : List Nat} {s : Int} {K : Bool → Prop} (hl : l.length ≤ 1099511627776) (h : K (validF l s)) : spec_l06Is.wp s l K := by
  rw [spec_l06Is.eq, spec_l00In.eq]
  unfold validF at h
  by_cases h1 : 3 ≤ s
  · refine ifD h1 ?_
    rw [decide_eq_true h1, Bool.true_and] at h
    by_cases h2 : s ≤ 16
    · rw [decide_eq_true h2, Bool.true_and] at h
      rw [decide_eq_true h2]
      refine ifF rfl ?_
      by_cases h3 : (l.length : Int) = Go.IntKind.wrap .i64 (s * s)
      · have e : ((l.length : Int) == Go.IntKind.wrap .i64 (s * s)) = true := by simpa using h3
        rw [e, Bool.true_and] at h
        refine ifF (by simp [h3]) fun J hJ => ?_
        refine all_loop (d := 0) h (fun h => hJ _ (ifN (by omega) h)) (fun i hi hp h => ?_) (fun i hi hp ih => ?_)
        · refine hJ _ (ifD (by omega) ⟨⟨by omega, by omega⟩, spec_fin ?_⟩)
          rw [Int.toNat_natCast, hp]; exact ifT rfl h
        · refine hJ _ (ifD (by omega) ⟨⟨by omega, by omega⟩, spec_fin ?_⟩)
          rw [Int.toNat_natCast, hp, wrap_succ (by omega)]; exact ifF rfl ih
      · have e : ((l.length : Int) == Go.IntKind.wrap .i64 (s * s)) = false := by simpa using h3
        rw [e, Bool.false_and] at h
        exact ifT (by simpa using h3) h
    · rw [decide_eq_false h2, Bool.false_and] at h
      rw [decide_eq_false h2]
      exact ifT rfl h
  · refine ifN h1 (ifT rfl ?_)
    rw [decide_eq_false h1] at h; exact h

theorem areFinite {l : List Nat} {K : Bool → Prop} (hl : l.length ≤ 1099511627776) (h : K (l.all (fin .f32))) : impl_areFinite.wp l K := by
  rw [impl_areFinite.eq, slices_ContainsFunc_float32_float32__areFinite_1.eq, slices_IndexFunc_float32_float32__areFinite_1.eq]
  intro J hJ
  refine all_loop (J := fun i => J (l.length : Int) i) (d := 0) h (fun h => hJ _ _ (ifN (by omega) h)) (fun i hi hp h => ?_) (fun i hi hp ih => ?_)
  · refine hJ _ _ (ifD (by omega) ⟨⟨by omega, by omega⟩, ?_⟩)
    rw [impl_areFinite_1.eq]
    refine impl_fin ?_
    rw [Int.toNat_natCast, hp]
    refine ifT rfl ?_
    rw [decide_eq_true (by omega)]
    exact h
  · refine hJ _ _ (ifD (by omega) ⟨⟨by omega, by omega⟩, ?_⟩)
    rw [impl_areFinite_1.eq]
    refine impl_fin ?_
    rw [Int.toNat_natCast, hp, wrap_succ (by omega)]
    exact ifF rfl ih

theorem impl_is {l : List Nat} {s : Int} {K : Bool → Prop} (hl : l.length ≤ 1099511627776) (h : K (validF l s)) : impl_ValidFlake.wp l s K := by
  rw [impl_ValidFlake.eq, impl_within.eq]
  unfold validF at h
  by_cases h1 : 3 ≤ s
  · refine ifD h1 ?_
    rw [decide_eq_true h1, Bool.true_and] at h
    by_cases h2 : s ≤ 16
    · rw [decide_eq_true h2, Bool.true_and] at h
      rw [decide_eq_true h2]
      refine ifT rfl (ifB_of (fun e => ?_) (fun e => ?_))
      · rw [e] at h; exact areFinite hl h
      · rw [e] at h; exact h
    · rw [decide_eq_false h2, Bool.false_and] at h
      rw [decide_eq_false h2]
      exact ifF rfl h
  · refine ifN h1 (ifF rfl ?_)
    rw [decide_eq_false h1] at h; exact h

theorem valid_law {l : List Nat} {s : Int} {K : Bool → Prop} (hl : l.length ≤ 9223372036854775807) (h : K true) : laws_FnExactValidFlake.wp l s K := by
  rw [laws_FnExactValidFlake.eq]
  refine szFlake_ok (m := 1048576) hl (by decide) (fun _ => ifD (by decide) h) fun hlen => ifN (by omega) ?_
  have hl : l.length ≤ 1099511627776 := by omega
  refine toFlake_ok hl ?_
  rw [spec_ValidFlake.eq]
  refine spec_is hl (toFlake_ok hl (impl_is hl (ifF (by simp) (toFlake_ok hl (eqFlake_self hl (ifF rfl h))))))

/-! ### ice -/
def isIce (l : List Nat) (i : Nat) : Bool := fge .f32 (l.getD i 0) 1065353216
def iceL (l : List Nat) : List Int := places (isIce l) l.length
theorem spec_ice {l : List Nat} {s : Int} {K : List Int → Prop} (hl : l.length ≤ 1099511627776) (h : K (iceL l)) : spec_l06Ice.wp s l K := by
  rw [spec_l06Ice.eq]
  intro J hJ
  refine down (Q := fun i => J (places (isIce l) i) (i : Int)) (n := l.length) (hJ _ _ (ifN (by omega) h)) (fun i hi ih => ?_) 0 (Nat.zero_le _)
  refine hJ _ _ (ifD (by omega) ⟨⟨by omega, by omega⟩, ?_⟩)
  rw [Int.toNat_natCast, wrap_succ (by omega)]
  have hlen := places_length (isIce l) (i + 1)
  refine ifB_of (fun hp => ?_) (fun hp => ?_)
  · rw [places_true (p := isIce l) hp] at ih hlen
    exact ⟨Nat.le_trans hlen (by omega), ih⟩
  · rw [places_false (p := isIce l) hp] at ih
    exact ih
theorem impl_ice {l : List Nat} {s : Int} {K : List Int → Prop} (hl : l.length ≤ 1099511627776) (h : K (iceL l)) : impl_Flake_ice.wp l s K := by
  rw [impl_Flake_ice.eq]
  intro J hJ
  refine down (Q := fun i => J (places (isIce l) i) (l.length : Int) (i : Int)) (n := l.length) (hJ _ _ _ (ifN (by omega) h)) (fun i hi ih => ?_) 0 (Nat.zero_le _)
  refine hJ _ _ _ (ifD (by omega) ⟨⟨by omega, by omega⟩, ?_⟩)
  rw [Int.toNat_natCast, wrap_succ (by omega)]
  have hlen := places_length (isIce l) (i + 1)
  refine ifB_of (fun hp => ?_) (fun hp => ?_)
  · rw [places_true (p := isIce l) hp] at ih hlen
    exact ⟨Nat.le_trans hlen (by omega), ih⟩
  · rw [places_false (p := isIce l) hp] at ih
    exact ih
def iceR (l : List Nat) (s : Int) : List Int := if validF l s = true then iceL l else []
theorem iceR_length {l : List Nat} (hl : l.length ≤ 1099511627776) (s : Int) : (iceR l s).length ≤ 1099511627776 := by
  unfold iceR
  split
  · exact Nat.le_trans (places_length _ _) hl
  · simp
theorem spec_IceOf_ok {l : List Nat} {s : Int} {K : List Int → Bool → Prop} (hl : l.length ≤ 1099511627776) (h : K (iceR l s) (validF l s)) : spec_IceOf.wp l s K := by
  rw [spec_IceOf.eq]
  refine spec_is hl ?_
  unfold iceR at h
  cases hv : validF l s
  · rw [hv] at h; exact ifT rfl h
  · rw [hv] at h; exact ifF rfl (spec_ice hl h)
theorem impl_IceOf_ok {l : List Nat} {s : Int} {K : List Int → Bool → Prop} (hl : l.length ≤ 1099511627776) (h : K (iceR l s) (validF l s)) : impl_IceOf.wp l s K := by
  rw [impl_IceOf.eq]
  refine impl_is hl ?_
  unfold iceR at h
  cases hv : validF l s
  · rw [hv] at h; exact ifT rfl h
  · rw [hv] at h; exact ifF rfl (impl_ice hl h)
theorem ice_law {l : List Nat} {s : Int} {K : Bool → Prop} (hl : l.length ≤ 9223372036854775807) (h : K true) : laws_FnExactIceOf.wp l s K := by
  rw [laws_FnExactIceOf.eq]
  refine szFlake_ok (m := 1048576) hl (by decide) (fun _ => ifD (by decide) h) fun hlen => ifN (by omega) ?_
  have hl : l.length ≤ 1099511627776 := by omega
  have hr := iceR_length hl s
  refine toFlake_ok hl (spec_IceOf_ok hl (toFlake_ok hl (impl_IceOf_ok hl (eqInt_self hr (ifF rfl (ifF (by simp) (toFlake_ok hl (eqFlake_self hl (ifF rfl ?_)))))))))
  refine markFlake_ok (k := 1) hl (by decide) (ifN (by omega) (eqInt_self hr (ifF rfl (ifF (by simp) ?_))))
  refine markInt_ok (k := 1) hr (by decide) (heldInt_ok (k := 1) hr (by decide) (ifN (by omega) (ifF (by simp) ?_)))
  refine toFlake_ok hl (impl_IceOf_ok hl (eqInt_self hr (ifF rfl (ifF (by simp) ?_))))
  exact heldInt_ok (k := 1) hr (by decide) (ifN (by omega) (ifF (by simp) h))

/-! ### exchanged, turned, new -/
theorem getD_fin {l : List Nat} (h : l.all (fin .f32) = true) {i : Nat} (hi : i < l.length) : fin .f32 (l.getD i 0) = true := by
  have : l.getD i 0 = l[i] := by simp [List.getD, hi]
  rw [this]
  exact List.all_eq_true.1 h _ (List.getElem_mem hi)
theorem grid_fin {n : Nat} {h : Nat → Nat → Nat} (hf : ∀ x y, x < n → y < n → fin .f32 (h x y) = true) : (gridL n h).all (fin .f32) = true := by
  rw [List.all_eq_true]
  intro z hz
  simp only [gridL, List.mem_map, List.mem_range] at hz
  obtain ⟨i, hi, rfl⟩ := hz
  have hn : 0 < n := Nat.pos_of_ne_zero fun e => by subst e; simp at hi
  exact hf _ _ (Nat.mod_lt _ hn) (Nat.div_lt_of_lt_mul hi)

theorem frozen_ok {how : Int → Int → (Nat → Prop) → Prop} {n : Nat} {g : Nat → Nat → Nat} {K : List Nat → Int → Bool → Prop} (h3 : 3 ≤ n) (h16 : n ≤ 16)
    (hhow : ∀ (x y : Nat) (K' : Nat → Prop), x < n → y < n → K' (g x y) → how (x : Int) (y : Int) K') (hf : ∀ x y, x < n → y < n → fin .f32 (g x y) = true)
    (h : K (gridL n g) (n : Int) true) : frozenT how impl_ValidFlake.wp (n : Int) K := by
  refine frozenT_ok (by omega) hhow ?_
  have hnn : n * n ≤ 256 := Nat.mul_le_mul h16 h16
  refine impl_is (by rw [gridL_length]; omega) ?_
  rw [valid_of h3 h16 (gridL_length n g), grid_fin hf]
  exact ifF rfl h

theorem nn_lt {n x y : Nat} (hx : x < n) (hy : y < n) : x + n * y < n * n := by
  have := Nat.mul_le_mul_left n (show y + 1 ≤ n by omega)
  rw [Nat.mul_add] at this; omega

def swapL (l : List Nat) (n : Nat) : List Nat := gridL n fun x y => l.getD (y + n * x) 0
def swapR (l : List Nat) (s : Int) : List Nat := if validF l s = true then swapL l s.toNat else []
def sideR (l : List Nat) (s : Int) : Int := if validF l s = true then s else 0
theorem impl_Swap {l : List Nat} {s : Int} {K : List Nat → Int → Bool → Prop} (hl : l.length ≤ 1099511627776) (h : K (swapR l s) (sideR l s) (validF l s)) : impl_SwapFlake.wp l s K := by
  rw [impl_SwapFlake.eq]
  refine impl_is hl ?_
  unfold swapR sideR at h
  cases hv : validF l s
  · rw [hv] at h; exact ifT rfl h
  · rw [hv] at h
    refine ifF rfl ?_
    obtain ⟨n, rfl, h3, h16, hnn, hlen, hall⟩ := valid_nat hv
    have e : impl_frozen__SwapFlake_1.wp (n : Int) l (n : Int) K = frozenT (fun x y K => impl_SwapFlake_1.wp (n : Int) l x y K) impl_ValidFlake.wp (n : Int) K := impl_frozen__SwapFlake_1.eq _ _ _ _
    show impl_frozen__SwapFlake_1.wp (n : Int) l (n : Int) K
    rw [e]
    refine frozen_ok (g := fun x y => l.getD (y + n * x) 0) h3 h16 (fun x y K' hx hy hk => ?_) (fun x y hx hy => getD_fin hall (by rw [hlen]; exact nn_lt hy hx)) h
    rw [impl_SwapFlake_1.eq]
    have hb := nn_lt hy hx
    have e1 : Go.IntKind.wrap .i64 ((n : Int) * (x : Int)) = ((n * x : Nat) : Int) := by rw [← Int.natCast_mul, wrap_nat (by omega)]
    have e2 : Go.IntKind.wrap .i64 ((y : Int) + ((n * x : Nat) : Int)) = ((y + n * x : Nat) : Int) := by rw [← Int.natCast_add, wrap_nat (by omega)]
    rw [e1, e2, Int.toNat_natCast]
    exact ⟨⟨by omega, by omega⟩, hk⟩
theorem spec_Swap {l : List Nat} {s : Int} {K : List Nat → Int → Bool → Prop} (hl : l.length ≤ 1099511627776) (h : K (swapR l s) (sideR l s) (validF l s)) : spec_SwapFlake.wp l s K := by
  rw [spec_SwapFlake.eq]
  refine spec_is hl ?_
  unfold swapR sideR at h
  cases hv : validF l s
  · rw [hv] at h; exact ifT rfl h
  · rw [hv] at h
    refine ifF rfl ?_
    obtain ⟨n, rfl, h3, h16, hnn, hlen, hall⟩ := valid_nat hv
    have enn : Go.IntKind.wrap .i64 ((n : Int) * (n : Int)) = ((n * n : Nat) : Int) := by rw [← Int.natCast_mul, wrap_nat (by omega)]
    intro J hJ
    refine down (Q := fun i => J (n : Int) 0 (n : Int) [] (gridUp n (fun x y => l.getD (y + n * x) 0) i) (i : Int)) (n := n * n) (hJ _ _ _ _ _ _ ?_) (fun i hi ih => hJ _ _ _ _ _ _ ?_) 0 (Nat.zero_le _)
    · rw [enn]; exact ifN (by omega) h
    · rw [enn]
      refine ifD (by omega) ⟨by omega, by omega, ?_⟩
      have hx : i % n < n := Nat.mod_lt _ (by omega)
      have hy : i / n < n := Nat.div_lt_of_lt_mul hi
      have hb := nn_lt hy hx
      have hs := gridUp_succ n (fun x y => l.getD (y + n * x) 0) i
      have hs' : gridUp n (fun x y => l.getD (y + n * x) 0) i ++ l.getD (i / n + n * (i % n)) 0 :: List.replicate 0 0 = gridUp n (fun x y => l.getD (y + n * x) 0) (i + 1) := by rw [hs]; rfl
      have hlen1 := gridUp_length n (fun x y => l.getD (y + n * x) 0) (i + 1)
      clear hs
      simp only [tdiv_nat, tmod_nat]
      generalize i % n = x at *
      generalize i / n = y at *
      have hm : n * x ≤ 256 := by omega
      have ea : Go.IntKind.wrap .i64 (y : Int) = (y : Int) := wrap_nat (by omega)
      have eb : Go.IntKind.wrap .i64 ((n : Int) * (x : Int)) = ((n * x : Nat) : Int) := by rw [← Int.natCast_mul, wrap_nat (by omega)]
      have ec : Go.IntKind.wrap .i64 ((y : Int) + ((n * x : Nat) : Int)) = ((y + n * x : Nat) : Int) := by rw [← Int.natCast_add, wrap_nat (by omega)]
      rw [ea, eb, ec, Int.toNat_natCast, hs', hlen1, wrap_succ (by omega)]
      exact ⟨⟨by omega, by omega⟩, by omega, ih⟩
theorem grid_bound {l : List Nat} {s : Int} {f : List Nat → Nat → List Nat} (hf : ∀ n, (f l n).length = n * n) : (if validF l s = true then f l s.toNat else []).length ≤ 1099511627776 := by
  split
  · rename_i hv
    obtain ⟨n, rfl, h3, h16, hnn, hlen, hall⟩ := valid_nat hv
    rw [hf, Int.toNat_natCast]; omega
  · simp
theorem swap_law {l : List Nat} {s : Int} {K : Bool → Prop} (hl : l.length ≤ 9223372036854775807) (h : K true) : laws_FnExactSwapFlake.wp l s K := by
  rw [laws_FnExactSwapFlake.eq]
  refine szFlake_ok (m := 1048576) hl (by decide) (fun _ => ifD (by decide) h) fun hlen => ifN (by omega) ?_
  have hl : l.length ≤ 1099511627776 := by omega
  have hr : (swapR l s).length ≤ 1099511627776 := grid_bound (f := swapL) fun n => gridL_length _ _
  refine toFlake_ok hl (spec_Swap hl (toFlake_ok hl (impl_Swap hl (eqFlake_self hr (ifF rfl (ifF (by simp) (toFlake_ok hl (eqFlake_self hl (ifF rfl ?_)))))))))
  refine markFlake_ok (k := 1) hl (by decide) (ifN (by omega) (eqFlake_self hr (ifF rfl (ifF (by simp) ?_))))
  refine markFlake_ok (k := 1) hr (by decide) (heldFlake_ok (k := 1) hr (by decide) (ifN (by omega) (ifF (by simp) ?_)))
  refine toFlake_ok hl (impl_Swap hl (eqFlake_self hr (ifF rfl (ifF (by simp) ?_))))
  exact heldFlake_ok (k := 1) hr (by decide) (ifN (by omega) (ifF (by simp) h))

def backL (l : List Nat) (n : Nat) : List Nat := gridL n fun x y => l.getD (n * n - 1 - (x + n * y)) 0
def backR (l : List Nat) (s : Int) : List Nat := if validF l s = true then backL l s.toNat else []
theorem impl_Back {l : List Nat} {s : Int} {K : List Nat → Int → Bool → Prop} (hl : l.length ≤ 1099511627776) (h : K (backR l s) (sideR l s) (validF l s)) : impl_BackFlake.wp l s K := by
  rw [impl_BackFlake.eq]
  refine impl_is hl ?_
  unfold backR sideR at h
  cases hv : validF l s
  · rw [hv] at h; exact ifT rfl h
  · rw [hv] at h
    refine ifF rfl ?_
    obtain ⟨n, rfl, h3, h16, hnn, hlen, hall⟩ := valid_nat hv
    have e : impl_frozen__BackFlake_1.wp (n : Int) l (n : Int) K = frozenT (fun x y K => impl_BackFlake_1.wp (n : Int) l x y K) impl_ValidFlake.wp (n : Int) K := impl_frozen__BackFlake_1.eq _ _ _ _
    show impl_frozen__BackFlake_1.wp (n : Int) l (n : Int) K
    rw [e]
    refine frozen_ok (g := fun x y => l.getD (n * n - 1 - (x + n * y)) 0) h3 h16 (fun x y K' hx hy hk => ?_) (fun x y hx hy => getD_fin hall (by rw [hlen]; have := nn_lt hx hy; omega)) h
    rw [impl_BackFlake_1.eq]
    have hb := nn_lt hx hy
    have h1 : n * (n - 1 - y) + n * y + n = n * n := by
      have : n * (n - 1 - y) + n * y + n = n * ((n - 1 - y) + y + 1) := by rw [Nat.mul_add, Nat.mul_add]; omega
      rw [this]; congr 1; omega
    have e0 : Go.IntKind.wrap .i64 ((n : Int) - 1) = (n : Int) - 1 := wrap64 (by omega) (by omega)
    have e1 : Go.IntKind.wrap .i64 ((n : Int) - 1 - (y : Int)) = ((n - 1 - y : Nat) : Int) := by rw [wrap64 (by omega) (by omega)]; omega
    have e1' : Go.IntKind.wrap .i64 ((n : Int) - 1 - (x : Int)) = ((n - 1 - x : Nat) : Int) := by rw [wrap64 (by omega) (by omega)]; omega
    have e2 : Go.IntKind.wrap .i64 ((n : Int) * ((n - 1 - y : Nat) : Int)) = ((n * (n - 1 - y) : Nat) : Int) := by rw [← Int.natCast_mul, wrap_nat (by omega)]
    have e3 : Go.IntKind.wrap .i64 (((n - 1 - x : Nat) : Int) + ((n * (n - 1 - y) : Nat) : Int)) = ((n * n - 1 - (x + n * y) : Nat) : Int) := by
      rw [← Int.natCast_add, wrap_nat (by omega)]
      congr 1; omega
    rw [e0, e1, e1', e2, e3, Int.toNat_natCast]
    exact ⟨⟨by omega, by omega⟩, hk⟩
theorem spec_Back {l : List Nat} {s : Int} {K : List Nat → Int → Bool → Prop} (hl : l.length ≤ 1099511627776) (h : K (backR l s) (sideR l s) (validF l s)) : spec_BackFlake.wp l s K := by
  rw [spec_BackFlake.eq]
  refine spec_is hl ?_
  unfold backR sideR at h
  cases hv : validF l s
  · rw [hv] at h; exact ifT rfl h
  · rw [hv] at h
    refine ifF rfl ?_
    obtain ⟨n, rfl, h3, h16, hnn, hlen, hall⟩ := valid_nat hv
    have enn : Go.IntKind.wrap .i64 ((n : Int) * (n : Int)) = ((n * n : Nat) : Int) := by rw [← Int.natCast_mul, wrap_nat (by omega)]
    have enn1 : Go.IntKind.wrap .i64 (((n * n : Nat) : Int) - 1) = ((n * n : Nat) : Int) - 1 := wrap64 (by omega) (by omega)
    intro J hJ
    rw [enn, enn1]
    have main := down (Q := fun i => J (n : Int) 0 (n : Int) [] (gridUp n (fun x y => l.getD (n * n - 1 - (x + n * y)) 0) i) (((n * n : Nat) : Int) - 1 - (i : Int))) (n := n * n) (hJ _ _ _ _ _ _ ?_) (fun i hi ih => hJ _ _ _ _ _ _ ?_) 0 (Nat.zero_le _)
    · simpa [gridUp] using main
    · exact ifN (by omega) h
    · refine ifD (by omega) ⟨⟨by omega, by omega⟩, ?_⟩
      have ei : i % n + n * (i / n) = i := Nat.mod_add_div i n
      have et : (((n * n : Nat) : Int) - 1 - (i : Int)).toNat = n * n - 1 - i := by omega
      have hs := gridUp_succ n (fun x y => l.getD (n * n - 1 - (x + n * y)) 0) i
      rw [ei] at hs
      have hs' : gridUp n (fun x y => l.getD (n * n - 1 - (x + n * y)) 0) i ++ l.getD (n * n - 1 - i) 0 :: List.replicate 0 0 = gridUp n (fun x y => l.getD (n * n - 1 - (x + n * y)) 0) (i + 1) := by rw [hs]; rfl
      have ew : Go.IntKind.wrap .i64 (((n * n : Nat) : Int) - 1 - (i : Int) - 1) = ((n * n : Nat) : Int) - 1 - ((i + 1 : Nat) : Int) := by rw [wrap64 (by omega) (by omega)]; omega
      rw [et, hs', gridUp_length, ew]
      exact ⟨by omega, ih⟩
theorem back_law {l : List Nat} {s : Int} {K : Bool → Prop} (hl : l.length ≤ 9223372036854775807) (h : K true) : laws_FnExactBackFlake.wp l s K := by
  rw [laws_FnExactBackFlake.eq]
  refine szFlake_ok (m := 1048576) hl (by decide) (fun _ => ifD (by decide) h) fun hlen => ifN (by omega) ?_
  have hl : l.length ≤ 1099511627776 := by omega
  have hr : (backR l s).length ≤ 1099511627776 := grid_bound (f := backL) fun n => gridL_length _ _
  refine toFlake_ok hl (spec_Back hl (toFlake_ok hl (impl_Back hl (eqFlake_self hr (ifF rfl (ifF (by simp) (toFlake_ok hl (eqFlake_self hl (ifF rfl ?_)))))))))
  refine markFlake_ok (k := 1) hl (by decide) (ifN (by omega) (eqFlake_self hr (ifF rfl (ifF (by simp) ?_))))
  refine markFlake_ok (k := 1) hr (by decide) (heldFlake_ok (k := 1) hr (by decide) (ifN (by omega) (ifF (by simp) ?_)))
  refine toFlake_ok hl (impl_Back hl (eqFlake_self hr (ifF rfl (ifF (by simp) ?_))))
  exact heldFlake_ok (k := 1) hr (by decide) (ifN (by omega) (ifF (by simp) h))
end Go.K.flakes
