/- Melts that are flushed. -/
import Derived.Test.YtplijfhgleofmaaL2
import Derived.Test.YtplijfhgleofmaaF7
set_option linter.unusedSimpArgs false
set_option linter.unusedVariables false
set_option maxRecDepth 10000
set_option maxHeartbeats 4000000
namespace Go.K.melts
open Go.K Go Ieee

def flushV (x : Nat) : Nat := if x % 2147483648 < 8388608 then (if 2147483648 ≤ x then 2147483648 else 0) else x
theorem can_list {l : List Nat} (h : ∀ b ∈ l, (Lit.float .f32 b).wf = true) : ∀ x ∈ l.map (cF .f32), Can x := by
  intro x hx
  obtain ⟨b, hb, rfl⟩ := List.mem_map.1 hx
  exact can_cF (by simpa [Lit.wf] using h b hb)
theorem can_get {l : List Nat} (h : ∀ x ∈ l, Can x) {i : Nat} (hi : i < l.length) : Can (l.getD i 0) := h _ (getD_mem 0 hi)
theorem spec_flush {x : Nat} {K : Nat → Prop} (hc : Can x) (hk : K (flushV x)) : spec_l01Flush.wp x K := by
  have e : spec_l01Bits.wp = bitsT := by funext a K; exact spec_l01Bits.eq a K
  have hx := hc.1
  rw [spec_l01Flush.eq, e]
  refine bitsT_ok hc ?_
  have e1 : ibits BinOp.and .i64 (x : Int) 2139095040 = (((x % 2 ^ 31 / 2 ^ 23) * 2 ^ 23 : Nat) : Int) := by
    rw [show (2139095040 : Int) = ((2139095040 : Nat) : Int) from rfl, ibits_andi (by omega) (by omega), and_exp, wrap_nat (by omega)]
  rw [e1]
  unfold flushV at hk
  have h31 : (2 : Nat) ^ 31 = 2147483648 := rfl
  have h23 : (2 : Nat) ^ 23 = 8388608 := rfl
  rw [h31, h23]
  by_cases hr : x % 2147483648 < 8388608
  · rw [if_pos hr] at hk
    refine ifT (by rw [beq_iff_eq]; omega) ?_
    rw [spec_l01From.eq]
    rw [show (2147483648 : Int) = ((2147483648 : Nat) : Int) from rfl, ibits_andi (by omega) (by omega), and_sign hx]
    by_cases hs : 2147483648 ≤ x
    · rw [if_pos hs] at hk ⊢
      rw [show cF .f32 (Int.toNat (Go.IntKind.wrap .u32 (Go.IntKind.wrap .i64 ((2147483648 : Nat) : Int)))) = 2147483648 by decide]
      exact hk
    · rw [if_neg hs] at hk ⊢
      rw [show cF .f32 (Int.toNat (Go.IntKind.wrap .u32 (Go.IntKind.wrap .i64 ((0 : Nat) : Int)))) = 0 by decide]
      exact hk
  · rw [if_neg hr] at hk
    exact ifF (by rw [beq_eq_false_iff_ne]; omega) hk
theorem copysign {s : Bool} {r : Nat} (hr : r < 9223372036854775808) : cF .f64 (Int.toNat (ibits Go.BinOp.or Go.IntKind.u64 (ibits Go.BinOp.andNot Go.IntKind.u64 (((0 : Nat)) : Int) (9223372036854775808 : Int)) (ibits Go.BinOp.and Go.IntKind.u64 ((double.word s r : Nat) : Int) (9223372036854775808 : Int)))) = if s = true then 9223372036854775808 else 0 := by
  have hS : double.signWeight = 9223372036854775808 := rfl
  have hw : double.word s r < 18446744073709551616 := by
    unfold Format.word; rw [hS]; split <;> omega
  rw [abs_bits 0, show (9223372036854775808 : Int) = ((9223372036854775808 : Nat) : Int) from rfl, ibits_andu hw (by omega), and_sign64 hr]
  cases s
  · rw [if_neg (by decide)]; decide
  · rw [if_pos rfl]; decide
theorem impl_flush {x : Nat} {K : Nat → Prop} (hc : Can x) (hf : fin .f32 x = true) (hk : K (flushV x)) : impl_FlushNumber.wp x K := by
  have hx := hc.1
  have hnan := fin_notNaN hf
  have hd := single_read x
  have hr : x % 2147483648 < 2139095040 := by
    unfold fin at hf
    rw [show FloatKind.decode .f32 x = single.read x from rfl, hd] at hf
    by_cases h : x % 2147483648 < 2139095040
    · exact h
    · rw [if_neg h] at hf
      by_cases h2 : x % 2147483648 = 2139095040
      · rw [if_pos h2] at hf; cases hf
      · rw [if_neg h2] at hf; cases hf
  rw [if_pos hr] at hd
  rw [impl_FlushNumber.eq, impl_IsSubnormal.eq]
  by_cases h0 : x % 2147483648 = 0
  · have hx2 : x = 0 ∨ x = 2147483648 := by omega
    rcases hx2 with rfl | rfl
    · exact ifF (by decide) (ifF rfl hk)
    · exact ifF (by decide) (ifF rfl hk)
  · have hm0 : 0 < mag (x % 2147483648) := by unfold mag; split <;> omega
    have hne : fne .f32 x 0 = true := by
      cases he : feq .f32 x 0
      · show (!feq .f32 x 0) = true
        rw [he]; rfl
      · exfalso
        unfold feq forder Format.order at he
        rw [show FloatKind.format .f32 = single from rfl, hd, show single.read 0 = .number false 0 (-149) from by decide] at he
        simp only [Datum.order] at he
        have h2 := compare_eq (by simpa using he)
        unfold signed at h2
        rw [Nat.shiftLeft_eq, Nat.shiftLeft_eq] at h2
        have h3 : 0 < mag (x % 2147483648) * 2 ^ (plc (x % 2147483648) - min (plc (x % 2147483648)) (-149)).toNat := Nat.mul_pos hm0 (Nat.pow_pos (by decide))
        simp only [Bool.false_eq_true, if_false] at h2
        split at h2 <;> omega
    refine ifT hne ?_
    rw [math_Abs.eq]
    refine ⟨by rw [isNaN_up]; exact hnan, ?_⟩
    have hb := single_read_bounds hd
    have hy : fconv .f32 .f64 x = double.nearest (x / 2147483648 % 2 == 1) (mag (x % 2147483648)) (plc (x % 2147483648)) := by
      unfold fconv
      rw [if_neg (by decide), show FloatKind.decode .f32 x = single.read x from rfl, hd]; rfl
    have hread := up_exact (a := (x / 2147483648 % 2 == 1)) hm0 hb
    obtain ⟨r', hw, hr'⟩ := double_nearest_fin (a := (x / 2147483648 % 2 == 1)) hb
    have hI : double.infRung = 9218868437227405312 := rfl
    rw [hI] at hr'
    rw [abs_bits, Int.toNat_natCast]
    have hz : double.read (fconv .f32 .f64 x % 9223372036854775808) = .number false (mag (x % 2147483648) * 2 ^ (52 - (mag (x % 2147483648)).log2)) (plc (x % 2147483648) + ((mag (x % 2147483648)).log2 : Int) - 52) := by
      rw [read_abs, hy, hread]
    have hzn : isNaNW .f64 (fconv .f32 .f64 x % 9223372036854775808) = false := by
      unfold isNaNW
      rw [show FloatKind.decode .f64 (fconv .f32 .f64 x % 9223372036854775808) = double.read (fconv .f32 .f64 x % 9223372036854775808) from rfl, hz]; rfl
    rw [cF_of_not hzn]
    have hcase : (mag (x % 2147483648) < 8388608 ∧ plc (x % 2147483648) = -149) ∨ (8388608 ≤ mag (x % 2147483648) ∧ mag (x % 2147483648) < 16777216 ∧ -149 ≤ plc (x % 2147483648)) := by
      unfold mag plc
      by_cases h : x % 2147483648 < 8388608
      · left; simp only [h, if_true]; exact ⟨trivial, trivial⟩
      · right; simp only [h, if_false]; omega
    rw [sub_least hm0 hz hcase]
    have hmr : decide (mag (x % 2147483648) < 8388608) = decide (x % 2147483648 < 8388608) := by
      unfold mag
      by_cases h : x % 2147483648 < 8388608
      · simp only [h, if_true]
      · simp only [h, if_false, decide_false]
        exact decide_eq_false (by omega)
    rw [hmr]
    unfold flushV at hk
    by_cases h : x % 2147483648 < 8388608
    · rw [if_pos h] at hk
      refine ifD h ?_
      rw [math_Copysign.eq]
      refine ⟨by decide, by rw [isNaN_up]; exact hnan, ?_⟩
      rw [hy, hw, copysign (by omega)]
      by_cases hs : 2147483648 ≤ x
      · rw [if_pos hs] at hk
        have : (x / 2147483648 % 2 == 1) = true := by rw [beq_iff_eq]; omega
        rw [this, if_pos rfl]
        refine ⟨by decide, ?_⟩
        rw [show fconv .f64 .f32 9223372036854775808 = 2147483648 by decide]; exact hk
      · rw [if_neg hs] at hk
        have : (x / 2147483648 % 2 == 1) = false := by rw [beq_eq_false_iff_ne]; omega
        rw [this, if_neg (by decide)]
        refine ⟨by decide, ?_⟩
        rw [show fconv .f64 .f32 0 = 0 by decide]; exact hk
    · rw [if_neg h] at hk
      exact ifN h hk

theorem phase_fin {x : Nat} (h : phB x = true) : fin .f32 x = true := by
  unfold phB at h
  rw [Bool.and_eq_true] at h
  obtain ⟨h1, h2⟩ := h
  have hn := notNaN_of_fge h1
  unfold fin
  cases hd : FloatKind.decode .f32 x with
  | number s m e => rfl
  | nan s t => unfold isNaNW at hn; rw [hd] at hn; cases hn
  | infinity s =>
    exfalso
    have hd' : single.read x = .infinity s := hd
    unfold fge forder Format.order at h1
    unfold fle forder Format.order at h2
    rw [show FloatKind.format .f32 = single from rfl, hd', show single.read 0 = .number false 0 (-149) from by decide] at h1
    rw [show FloatKind.format .f32 = single from rfl, hd', show single.read 1065353216 = .number false 8388608 (-23) from by decide] at h2
    cases s
    · simp [Datum.order] at h2
    · simp [Datum.order] at h1
section
variable (m : Melt)
def fluL (l : List Nat) : List Nat := marked (fun i => flushV (l.getD i 0)) l.length
def fluM : Melt := ⟨fluL m.p, fluL m.q, m.w1, m.h1, m.r1, m.w2, m.h2, m.r2, m.a, m.b, m.c, m.d, m.e, m.n⟩
def fluR : Melt := if isM m = true then fluM m else zeroM
theorem flu_small (hs : Small m) : Small (fluR m) := by
  unfold fluR
  split
  · exact ⟨by show (fluL m.p).length ≤ _; unfold fluL; rw [marked_length]; exact hs.1, by show (fluL m.q).length ≤ _; unfold fluL; rw [marked_length]; exact hs.2⟩
  · exact small_zero
theorem flu_facts {m : Melt} (hv : isM m = true) : m.p.all phB = true ∧ m.q.all (fin .f32) = true ∧ m.q.length = m.p.length := by
  have hv' := hv
  unfold isM at hv'
  simp only [Bool.and_eq_true, beq_iff_eq] at hv'
  obtain ⟨f1, f2, e1, e2, _, ⟨h1, h2⟩, _⟩ := hv'
  exact ⟨h1, h2, same_len f1 f2 e1 e2⟩
theorem spec_Flu (hs : Small m) (cp : ∀ x ∈ m.p, Can x) (cq : ∀ x ∈ m.q, Can x) {K : MK} (hk : K (fluR m).p (fluR m).q (fluR m).w1 (fluR m).h1 (fluR m).r1 (fluR m).w2 (fluR m).h2 (fluR m).r2 (fluR m).a (fluR m).b (fluR m).c (fluR m).d (fluR m).e (fluR m).n (isM m)) : spec_FlushMelt.wp m.p m.q m.w1 m.h1 m.r1 m.w2 m.h2 m.r2 m.a m.b m.c m.d m.e m.n K := by
  have s1 := hs.1
  have s2 := hs.2
  rw [spec_FlushMelt.eq]
  refine spec_is m hs ?_
  unfold fluR at hk
  cases hv : isM m
  · simp only [hv, Bool.false_eq_true, if_false] at hk; exact ifT rfl hk
  · simp only [hv, if_true] at hk
    obtain ⟨a1, a2, hlen⟩ := flu_facts hv
    refine ifF rfl (own_ok m hs fun J hJ => ?_)
    have main := down (Q := fun i => J m.w1 m.h1 m.r1 m.w2 m.h2 m.r2 m.a m.b m.c m.d m.e m.n 0 0 false 0 0 false 0 0 0 0 0 0 m.w1 m.h1 m.r1 m.w2 m.h2 m.r2 m.a m.b m.c m.d m.e m.n [] [] (marked (fun i => flushV (m.p.getD i 0)) i ++ m.p.drop i) (marked (fun i => flushV (m.q.getD i 0)) i ++ m.q.drop i) (m.p.length : Int) (i : Int)) (n := m.p.length) (hJ _ _ _ _ _ _ _ _ _ _ _ _ _ _ _ _ _ _ _ _ _ _ _ _ _ _ _ _ _ _ _ _ _ _ _ _ _ _ _ _ _ _ (ifN (by omega) ?_)) (fun i hi ih => ?_) 0 (Nat.zero_le _)
    · simpa [marked] using main
    · have e1 : marked (fun i => flushV (m.p.getD i 0)) m.p.length ++ m.p.drop m.p.length = fluL m.p := by rw [List.drop_length, List.append_nil]; rfl
      have e2 : marked (fun i => flushV (m.q.getD i 0)) m.p.length ++ m.q.drop m.p.length = fluL m.q := by rw [← hlen, List.drop_length, List.append_nil]; rfl
      rw [e1, e2]
      exact hk
    · have hi2 : i < m.q.length := by omega
      have l1 : (marked (fun i => flushV (m.p.getD i 0)) i ++ m.p.drop i).length = m.p.length := by simp [marked_length]; omega
      have l2 : (marked (fun i => flushV (m.q.getD i 0)) i ++ m.q.drop i).length = m.q.length := by simp [marked_length]; omega
      have t1 := set_step (V := fun i => flushV (m.p.getD i 0)) hi
      have t2 := set_step (V := fun i => flushV (m.q.getD i 0)) hi2
      refine hJ _ _ _ _ _ _ _ _ _ _ _ _ _ _ _ _ _ _ _ _ _ _ _ _ _ _ _ _ _ _ _ _ _ _ _ _ _ _ _ _ _ _ (ifD (by omega) ⟨⟨by omega, by omega⟩, ?_⟩)
      rw [Int.toNat_natCast]
      refine spec_flush (can_get cp hi) ⟨⟨by omega, by rw [l1]; omega⟩, ⟨by omega, by omega⟩, spec_flush (can_get cq hi2) ⟨⟨by omega, by rw [l2]; omega⟩, ?_⟩⟩
      rw [t1, t2, wrap_succ (by omega)]
      exact ih
theorem impl_Flu (hs : Small m) (cp : ∀ x ∈ m.p, Can x) (cq : ∀ x ∈ m.q, Can x) {K : MK} (hk : K (fluR m).p (fluR m).q (fluR m).w1 (fluR m).h1 (fluR m).r1 (fluR m).w2 (fluR m).h2 (fluR m).r2 (fluR m).a (fluR m).b (fluR m).c (fluR m).d (fluR m).e (fluR m).n (isM m)) : impl_FlushMelt.wp m.p m.q m.w1 m.h1 m.r1 m.w2 m.h2 m.r2 m.a m.b m.c m.d m.e m.n K := by
  have s1 := hs.1
  have s2 := hs.2
  rw [impl_FlushMelt.eq]
  refine cloned_ok m hs ?_
  unfold fluR at hk
  unfold okM
  cases hv : isM m <;> simp only [Bool.false_eq_true, if_false, if_true]
  · simp only [hv, Bool.false_eq_true, if_false] at hk; exact ifT rfl hk
  · simp only [hv, if_true] at hk
    obtain ⟨a1, a2, hlen⟩ := flu_facts hv
    refine ifF rfl fun J hJ => ?_
    have main := down (Q := fun i => J 0 0 false 0 0 false 0 0 0 0 0 0 m.w1 m.h1 m.r1 m.w2 m.h2 m.r2 m.a m.b m.c m.d m.e m.n [] [] (marked (fun i => flushV (m.p.getD i 0)) i ++ m.p.drop i) (marked (fun i => flushV (m.q.getD i 0)) i ++ m.q.drop i) (m.p.length : Int) (i : Int)) (n := m.p.length) (hJ _ _ _ _ _ _ _ _ _ _ _ _ _ _ _ _ _ _ _ _ _ _ _ _ _ _ _ _ _ _ (ifN (by omega) ?_)) (fun i hi ih => ?_) 0 (Nat.zero_le _)
    · simpa [marked] using main
    · have e1 : marked (fun i => flushV (m.p.getD i 0)) m.p.length ++ m.p.drop m.p.length = fluL m.p := by rw [List.drop_length, List.append_nil]; rfl
      have e2 : marked (fun i => flushV (m.q.getD i 0)) m.p.length ++ m.q.drop m.p.length = fluL m.q := by rw [← hlen, List.drop_length, List.append_nil]; rfl
      rw [e1, e2]
      exact hk
    · have hi2 : i < m.q.length := by omega
      have l1 : (marked (fun i => flushV (m.p.getD i 0)) i ++ m.p.drop i).length = m.p.length := by simp [marked_length]; omega
      have l2 : (marked (fun i => flushV (m.q.getD i 0)) i ++ m.q.drop i).length = m.q.length := by simp [marked_length]; omega
      have t1 := set_step (V := fun i => flushV (m.p.getD i 0)) hi
      have t2 := set_step (V := fun i => flushV (m.q.getD i 0)) hi2
      have f1 : fin .f32 (m.p.getD i 0) = true := phase_fin (List.all_eq_true.1 a1 _ (getD_mem 0 hi))
      have f2 : fin .f32 (m.q.getD i 0) = true := List.all_eq_true.1 a2 _ (getD_mem 0 hi2)
      refine hJ _ _ _ _ _ _ _ _ _ _ _ _ _ _ _ _ _ _ _ _ _ _ _ _ _ _ _ _ _ _ (ifD (by omega) ⟨⟨by omega, by rw [l1]; omega⟩, ⟨by omega, by rw [l2]; omega⟩, ?_⟩)
      rw [Int.toNat_natCast, getD_at hi, getD_at hi2]
      refine impl_flush (can_get cp hi) f1 (impl_flush (can_get cq hi2) f2 ⟨⟨by omega, by rw [l1]; omega⟩, ⟨by omega, by rw [l2]; omega⟩, ?_⟩)
      rw [t1, t2, wrap_succ (by omega)]
      exact ih
theorem flu_law (cp : ∀ x ∈ m.p, Can x) (cq : ∀ x ∈ m.q, Can x) (hp : m.p.length ≤ 9223372036854775807) (hq : m.q.length ≤ 9223372036854775807) {K : Bool → Prop} (hk : K true) :
    laws_FnExactFlushMelt.wp m.p m.q m.w1 m.h1 m.r1 m.w2 m.h2 m.r2 m.a m.b m.c m.d m.e m.n K := by
  rw [laws_FnExactFlushMelt.eq]
  refine szMelt_ok m hp hq (ifD (by decide) hk) fun hs k => ifN (by omega) ?_
  have hr := flu_small m hs
  refine toMelt_ok m hs (spec_Flu m hs cp cq (toMelt_ok m hs (impl_Flu m hs cp cq ?_)))
  refine eqMelt_self (fluR m) hr (ifF rfl (ifF (by simp) (toMelt_ok m hs (eqMelt_self m hs (ifF rfl ?_)))))
  refine markMelt_ok m hs (ifN (by unfold mkN; omega) (eqMelt_self (fluR m) hr (ifF rfl (ifF (by simp) ?_))))
  refine markMelt_ok (fluR m) hr (heldMelt_ok (fluR m) hr (ifN (by unfold mkN; omega) (ifF (by simp) ?_)))
  refine toMelt_ok m hs (impl_Flu m hs cp cq (eqMelt_self (fluR m) hr (ifF rfl (ifF (by simp) ?_))))
  exact heldMelt_ok (fluR m) hr (ifN (by unfold mkN; omega) (ifF (by simp) hk))
end
end Go.K.melts
