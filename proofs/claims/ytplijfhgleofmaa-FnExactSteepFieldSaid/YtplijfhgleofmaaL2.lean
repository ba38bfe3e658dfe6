/- Melts that are set and cooled. -/
import Derived.Test.YtplijfhgleofmaaL
set_option linter.unusedSimpArgs false
set_option linter.unusedVariables false
set_option maxRecDepth 10000
set_option maxHeartbeats 4000000
namespace Go.K.melts
open Go.K Go

abbrev MK := List Nat → List Nat → Int → Int → Bool → Int → Int → Bool → Nat → Nat → Nat → Nat → Nat → Int → Bool → Prop
def okM (m : Melt) : Melt := if isM m = true then m else zeroM
theorem small_zero : Small zeroM := ⟨by decide, by decide⟩
theorem small_ok {m : Melt} (h : Small m) : Small (okM m) := by
  unfold okM; split
  · exact h
  · exact small_zero
theorem own_ok (m : Melt) (hs : Small m) {K : List Nat → List Nat → Int → Int → Bool → Int → Int → Bool → Nat → Nat → Nat → Nat → Nat → Int → Prop} (hk : K m.p m.q m.w1 m.h1 m.r1 m.w2 m.h2 m.r2 m.a m.b m.c m.d m.e m.n) :
    spec_l03Own.wp m.w1 m.h1 m.r1 m.w2 m.h2 m.r2 m.a m.b m.c m.d m.e m.n m.p m.q K := by
  have s1 := hs.1
  have s2 := hs.2
  rw [spec_l03Own.eq, spec_l02Own.eq, spec_l02New.eq]
  refine ⟨by simp; omega, ?_⟩
  rw [spec_l02Own.eq, spec_l02New.eq]
  exact ⟨by simp; omega, hk⟩
theorem give_ok (m : Melt) (hs : Small m) {K : MK} (hk : K (okM m).p (okM m).q (okM m).w1 (okM m).h1 (okM m).r1 (okM m).w2 (okM m).h2 (okM m).r2 (okM m).a (okM m).b (okM m).c (okM m).d (okM m).e (okM m).n (isM m)) : spec_l03Give.wp m.p m.q m.w1 m.h1 m.r1 m.w2 m.h2 m.r2 m.a m.b m.c m.d m.e m.n K := by
  rw [spec_l03Give.eq]
  refine spec_is m hs ?_
  unfold okM at hk
  cases hv : isM m
  · simp only [hv, Bool.false_eq_true, if_false, if_true, Bool.false_and] at hk; exact ifT rfl hk
  · simp only [hv, Bool.false_eq_true, if_false, if_true, Bool.false_and] at hk; exact ifF rfl hk
theorem nonempty {m : Melt} (hv : isM m = true) : m.p.length ≠ 0 ∧ m.q.length ≠ 0 := by
  unfold isM at hv
  simp only [Bool.and_eq_true] at hv
  obtain ⟨f1, f2, _⟩ := hv
  obtain ⟨W, H, _, _, a1, _, a2, _, _, a3⟩ := field_nat f1
  obtain ⟨W', H', _, _, b1, _, b2, _, _, b3⟩ := field_nat f2
  have := Nat.mul_le_mul a1 a2
  have := Nat.mul_le_mul b1 b2
  exact ⟨by omega, by omega⟩
theorem cloned_ok (m : Melt) (hs : Small m) {K : MK} (hk : K (okM m).p (okM m).q (okM m).w1 (okM m).h1 (okM m).r1 (okM m).w2 (okM m).h2 (okM m).r2 (okM m).a (okM m).b (okM m).c (okM m).d (okM m).e (okM m).n (isM m)) : impl_Melt_cloned.wp m.p m.q m.w1 m.h1 m.r1 m.w2 m.h2 m.r2 m.a m.b m.c m.d m.e m.n K := by
  have s1 := hs.1
  have s2 := hs.2
  rw [impl_Melt_cloned.eq]
  refine impl_is m hs ?_
  unfold okM at hk
  cases hv : isM m
  · simp only [hv, Bool.false_eq_true, if_false, if_true, Bool.false_and] at hk; exact ifT rfl hk
  · simp only [hv, Bool.false_eq_true, if_false, if_true, Bool.false_and] at hk
    obtain ⟨n1, n2⟩ := nonempty hv
    refine ifF rfl ?_
    rw [slices_Clone_float32_float32.eq]
    refine ⟨n1, by simp; omega, ?_⟩
    rw [slices_Clone_float32_float32.eq]
    exact ⟨n2, by simp; omega, hk⟩

/-! ### SetMelt -/
section
variable (m : Melt) (a b c d e : Nat) (n : Int)
def setM : Melt := ⟨m.p, m.q, m.w1, m.h1, m.r1, m.w2, m.h2, m.r2, a, b, c, d, e, n⟩
def setR : Melt := if isM m = true then okM (setM m a b c d e n) else zeroM
def setB : Bool := isM m && isM (setM m a b c d e n)
theorem set_small (hs : Small m) : Small (setR m a b c d e n) := by
  unfold setR; split
  · exact small_ok (m := setM m a b c d e n) hs
  · exact small_zero
theorem spec_Set (hs : Small m) {K : MK} (hk : K (setR m a b c d e n).p (setR m a b c d e n).q (setR m a b c d e n).w1 (setR m a b c d e n).h1 (setR m a b c d e n).r1 (setR m a b c d e n).w2 (setR m a b c d e n).h2 (setR m a b c d e n).r2 (setR m a b c d e n).a (setR m a b c d e n).b (setR m a b c d e n).c (setR m a b c d e n).d (setR m a b c d e n).e (setR m a b c d e n).n (setB m a b c d e n)) : spec_SetMelt.wp m.p m.q m.w1 m.h1 m.r1 m.w2 m.h2 m.r2 m.a m.b m.c m.d m.e m.n a b c d e n K := by
  rw [spec_SetMelt.eq]
  refine spec_is m hs ?_
  unfold setR setB at hk
  cases hv : isM m
  · simp only [hv, Bool.false_eq_true, if_false, if_true, Bool.false_and] at hk; exact ifT rfl hk
  · simp only [hv, if_true, Bool.true_and] at hk
    exact ifF rfl (own_ok m hs (give_ok (setM m a b c d e n) hs hk))
theorem impl_Set (hs : Small m) {K : MK} (hk : K (setR m a b c d e n).p (setR m a b c d e n).q (setR m a b c d e n).w1 (setR m a b c d e n).h1 (setR m a b c d e n).r1 (setR m a b c d e n).w2 (setR m a b c d e n).h2 (setR m a b c d e n).r2 (setR m a b c d e n).a (setR m a b c d e n).b (setR m a b c d e n).c (setR m a b c d e n).d (setR m a b c d e n).e (setR m a b c d e n).n (setB m a b c d e n)) : impl_SetMelt.wp m.p m.q m.w1 m.h1 m.r1 m.w2 m.h2 m.r2 m.a m.b m.c m.d m.e m.n a b c d e n K := by
  rw [impl_SetMelt.eq]
  refine impl_is m hs ?_
  unfold setR setB at hk
  cases hv : isM m
  · simp only [hv, Bool.false_eq_true, if_false, if_true, Bool.false_and] at hk; exact ifT rfl hk
  · simp only [hv, if_true, Bool.true_and] at hk
    exact ifF rfl (cloned_ok (setM m a b c d e n) hs hk)
theorem set_law (hp : m.p.length ≤ 9223372036854775807) (hq : m.q.length ≤ 9223372036854775807) {K : Bool → Prop} (hk : K true) :
    laws_FnExactSetMelt.wp m.p m.q m.w1 m.h1 m.r1 m.w2 m.h2 m.r2 m.a m.b m.c m.d m.e m.n a b c d e n K := by
  rw [laws_FnExactSetMelt.eq]
  refine szMelt_ok m hp hq (ifD (by decide) hk) fun hs k => ifN (by omega) ?_
  have hr := set_small m a b c d e n hs
  refine toMelt_ok m hs (spec_Set m a b c d e n hs (toMelt_ok m hs (impl_Set m a b c d e n hs ?_)))
  refine eqMelt_self (setR m a b c d e n) hr (ifF rfl (ifF (by simp) (toMelt_ok m hs (eqMelt_self m hs (ifF rfl ?_)))))
  refine markMelt_ok m hs (ifN (by unfold mkN; omega) (eqMelt_self (setR m a b c d e n) hr (ifF rfl (ifF (by simp) ?_))))
  refine markMelt_ok (setR m a b c d e n) hr (heldMelt_ok (setR m a b c d e n) hr (ifN (by unfold mkN; omega) (ifF (by simp) ?_)))
  refine toMelt_ok m hs (impl_Set m a b c d e n hs (eqMelt_self (setR m a b c d e n) hr (ifF rfl (ifF (by simp) ?_))))
  exact heldMelt_ok (setR m a b c d e n) hr (ifN (by unfold mkN; omega) (ifF (by simp) hk))
end

/-! ### CoolMelt -/
section
variable (m : Melt) (x : Nat)
def coolL (l : List Nat) : List Nat := marked (fun i => farith .sub .f32 (l.getD i 0) x) l.length
def coolM : Melt := ⟨m.p, coolL x m.q, m.w1, m.h1, m.r1, m.w2, m.h2, m.r2, m.a, m.b, m.c, m.d, m.e, m.n⟩
def coolR : Melt := if isM m = true then okM (coolM m x) else zeroM
def coolB : Bool := isM m && isM (coolM m x)
theorem coolL_length (l : List Nat) : (coolL x l).length = l.length := marked_length _ _
theorem cool_small' (hs : Small m) : Small (coolM m x) := ⟨hs.1, by show (coolL x m.q).length ≤ _; rw [coolL_length]; exact hs.2⟩
theorem cool_small (hs : Small m) : Small (coolR m x) := by
  unfold coolR; split
  · exact small_ok (cool_small' m x hs)
  · exact small_zero
theorem getD_at {V : Nat → Nat} {l : List Nat} {i : Nat} (h : i < l.length) : (marked V i ++ l.drop i).getD i 0 = l.getD i 0 := by
  rw [List.drop_eq_getElem_cons h]
  have : (marked V i).length = i := marked_length _ _
  simp [List.getD, List.getElem?_append_right, this, h]
theorem cool_notfin (hv : isM m = true) (hx : fin .f32 x = false) : isM (coolM m x) = false := by
  obtain ⟨n1, n2⟩ := nonempty hv
  have hq : m.q.all (fin .f32) = true := by
    unfold isM at hv
    simp only [Bool.and_eq_true] at hv
    exact hv.2.2.2.2.2.1.2
  have h0 : fin .f32 (m.q.getD 0 0) = true := by
    have : m.q.getD 0 0 = m.q[0]'(by omega) := by simp [List.getD, show 0 < m.q.length by omega]
    rw [this]; exact List.all_eq_true.1 hq _ (List.getElem_mem _)
  have : (coolL x m.q).all (fin .f32) = false := by
    rw [List.all_eq_false]
    refine ⟨farith .sub .f32 (m.q.getD 0 0) x, ?_, ?_⟩
    · unfold coolL marked
      exact List.mem_map.2 ⟨0, by simp; omega, rfl⟩
    · rw [sub_notfin h0 hx]; decide
  unfold isM coolM
  simp only [this, Bool.and_false, Bool.false_and]
theorem spec_Cool (hs : Small m) {K : MK} (hk : K (coolR m x).p (coolR m x).q (coolR m x).w1 (coolR m x).h1 (coolR m x).r1 (coolR m x).w2 (coolR m x).h2 (coolR m x).r2 (coolR m x).a (coolR m x).b (coolR m x).c (coolR m x).d (coolR m x).e (coolR m x).n (coolB m x)) : spec_CoolMelt.wp m.p m.q m.w1 m.h1 m.r1 m.w2 m.h2 m.r2 m.a m.b m.c m.d m.e m.n x K := by
  have s2 := hs.2
  rw [spec_CoolMelt.eq]
  refine spec_is m hs ?_
  unfold coolR coolB at hk
  cases hv : isM m
  · simp only [hv, Bool.false_eq_true, if_false, if_true, Bool.false_and] at hk; exact ifT rfl hk
  · simp only [hv, if_true, Bool.true_and] at hk
    refine ifF rfl (own_ok m hs fun J hJ => ?_)
    have main := down (Q := fun i => J 0 0 false 0 0 false 0 0 0 0 0 0 m.w1 m.h1 m.r1 m.w2 m.h2 m.r2 m.a m.b m.c m.d m.e m.n [] [] m.p (marked (fun i => farith .sub .f32 (m.q.getD i 0) x) i ++ m.q.drop i) (m.q.length : Int) (i : Int)) (n := m.q.length) (hJ _ _ _ _ _ _ _ _ _ _ _ _ _ _ _ _ _ _ _ _ _ _ _ _ _ _ _ _ _ _ (ifN (by omega) ?_)) (fun i hi ih => ?_) 0 (Nat.zero_le _)
    · simpa [marked] using main
    · rw [List.drop_length, List.append_nil]
      exact give_ok (coolM m x) (cool_small' m x hs) hk
    · have hlen : (marked (fun i => farith .sub .f32 (m.q.getD i 0) x) i ++ m.q.drop i).length = m.q.length := by simp [marked_length]; omega
      refine hJ _ _ _ _ _ _ _ _ _ _ _ _ _ _ _ _ _ _ _ _ _ _ _ _ _ _ _ _ _ _ (ifD (by omega) ⟨⟨by omega, by rw [hlen]; omega⟩, ⟨by omega, by rw [hlen]; omega⟩, ?_⟩)
      rw [Int.toNat_natCast, getD_at hi, wrap_succ (by omega)]
      have := set_step (V := fun i => farith .sub .f32 (m.q.getD i 0) x) hi
      rw [this]
      exact ih
theorem impl_Cool (hs : Small m) {K : MK} (hk : K (coolR m x).p (coolR m x).q (coolR m x).w1 (coolR m x).h1 (coolR m x).r1 (coolR m x).w2 (coolR m x).h2 (coolR m x).r2 (coolR m x).a (coolR m x).b (coolR m x).c (coolR m x).d (coolR m x).e (coolR m x).n (coolB m x)) : impl_CoolMelt.wp m.p m.q m.w1 m.h1 m.r1 m.w2 m.h2 m.r2 m.a m.b m.c m.d m.e m.n x K := by
  have s2 := hs.2
  rw [impl_CoolMelt.eq]
  refine cloned_ok m hs ?_
  unfold coolR coolB at hk
  unfold okM
  cases hv : isM m <;> simp only [Bool.false_eq_true, if_false, if_true]
  · simp only [hv, Bool.false_eq_true, if_false, if_true, Bool.false_and] at hk; exact ifT rfl hk
  · simp only [hv, if_true, Bool.true_and] at hk
    refine ifF rfl (impl_fin ?_)
    cases hx : fin .f32 x
    · have hn := cool_notfin m x hv hx
      unfold okM at hk
      simp only [hn, Bool.false_eq_true, if_false] at hk
      exact ifT rfl hk
    refine ifF rfl fun J hJ => ?_
    have main := down (Q := fun i => J 0 0 false 0 0 false 0 0 0 0 0 0 m.w1 m.h1 m.r1 m.w2 m.h2 m.r2 m.a m.b m.c m.d m.e m.n [] [] m.p (marked (fun i => farith .sub .f32 (m.q.getD i 0) x) i ++ m.q.drop i) (m.q.length : Int) (i : Int)) (n := m.q.length) (hJ _ _ _ _ _ _ _ _ _ _ _ _ _ _ _ _ _ _ _ _ _ _ _ _ _ _ _ _ _ _ (ifN (by omega) ?_)) (fun i hi ih => ?_) 0 (Nat.zero_le _)
    · simpa [marked] using main
    · rw [List.drop_length, List.append_nil]
      exact cloned_ok (coolM m x) (cool_small' m x hs) hk
    · have hlen : (marked (fun i => farith .sub .f32 (m.q.getD i 0) x) i ++ m.q.drop i).length = m.q.length := by simp [marked_length]; omega
      refine hJ _ _ _ _ _ _ _ _ _ _ _ _ _ _ _ _ _ _ _ _ _ _ _ _ _ _ _ _ _ _ (ifD (by omega) ⟨⟨by omega, by rw [hlen]; omega⟩, ⟨by omega, by rw [hlen]; omega⟩, ?_⟩)
      rw [Int.toNat_natCast, getD_at hi, wrap_succ (by omega)]
      have := set_step (V := fun i => farith .sub .f32 (m.q.getD i 0) x) hi
      rw [this]
      exact ih
theorem cool_law (hp : m.p.length ≤ 9223372036854775807) (hq : m.q.length ≤ 9223372036854775807) {K : Bool → Prop} (hk : K true) :
    laws_FnExactCoolMelt.wp m.p m.q m.w1 m.h1 m.r1 m.w2 m.h2 m.r2 m.a m.b m.c m.d m.e m.n x K := by
  rw [laws_FnExactCoolMelt.eq]
  refine szMelt_ok m hp hq (ifD (by decide) hk) fun hs k => ifN (by omega) ?_
  have hr := cool_small m x hs
  refine toMelt_ok m hs (spec_Cool m x hs (toMelt_ok m hs (impl_Cool m x hs ?_)))
  refine eqMelt_self (coolR m x) hr (ifF rfl (ifF (by simp) (toMelt_ok m hs (eqMelt_self m hs (ifF rfl ?_)))))
  refine markMelt_ok m hs (ifN (by unfold mkN; omega) (eqMelt_self (coolR m x) hr (ifF rfl (ifF (by simp) ?_))))
  refine markMelt_ok (coolR m x) hr (heldMelt_ok (coolR m x) hr (ifN (by unfold mkN; omega) (ifF (by simp) ?_)))
  refine toMelt_ok m hs (impl_Cool m x hs (eqMelt_self (coolR m x) hr (ifF rfl (ifF (by simp) ?_))))
  exact heldMelt_ok (coolR m x) hr (ifN (by unfold mkN; omega) (ifF (by simp) hk))
end
end Go.K.melts
