/- Melts: valid ones; the helpers. -/
import Derived.Test.YtajlojldbmfokaaT
import Derived.Test.YtajlojldbmfokaaF6
set_option linter.unusedSimpArgs false
set_option linter.unusedVariables false
set_option maxRecDepth 10000
set_option maxHeartbeats 4000000
namespace Go.K.melts
open Go.K Go

structure Melt where
  p : List Nat
  q : List Nat
  w1 : Int
  h1 : Int
  r1 : Bool
  w2 : Int
  h2 : Int
  r2 : Bool
  a : Nat
  b : Nat
  c : Nat
  d : Nat
  e : Nat
  n : Int
def zeroM : Melt := ⟨[], [], 0, 0, false, 0, 0, false, 0, 0, 0, 0, 0, 0⟩

theorem sameFloat_eq : laws_sameFloat.wp = sameT := by funext a b K; exact laws_sameFloat.eq a b K
theorem eqFloat_self {l : List Nat} {K : Bool → Prop} (hl : l.length ≤ 1099511627776) (h : K true) : laws_eqFloat32S.wp l l K := by
  rw [laws_eqFloat32S.eq, sameFloat_eq]; exact eqFT_self hl h
theorem markFloat_ok {l : List Nat} {k : Nat} {K : List Nat → Int → Prop} (hl : l.length ≤ 1099511627776) (hk : k ≤ 1099511627776) (h : K (marked (mfV k) l.length) ((k + l.length : Nat) : Int)) : laws_markFloat32S.wp l (k : Int) K := by
  rw [laws_markFloat32S.eq]; exact markFT_ok hl hk h
theorem heldFloat_ok {n k : Nat} {K : Int → Prop} (hl : n ≤ 1099511627776) (hk : k ≤ 1099511627776) (h : K ((k + n : Nat) : Int)) : laws_heldFloat32S.wp (marked (mfV k) n) (k : Int) K := by
  rw [laws_heldFloat32S.eq]; exact heldFT_ok hl hk h
theorem toFloat_ok {l : List Nat} {K : List Nat → Prop} (hl : l.length ≤ 1099511627776) (h : K l) : laws_toFloat32S.wp l K := by
  rw [laws_toFloat32S.eq]; exact toFT_ok hl h
theorem szFloat_ok {l : List Nat} {m : Nat} {K : Int → Prop} (hn : l.length ≤ 9223372036854775807) (hm : m ≤ 1099511627776) (h1 : m < l.length → K (-1)) (h2 : l.length ≤ m → K ((m - l.length : Nat) : Int)) : laws_szFloat32S.wp l (m : Int) K := by
  rw [laws_szFloat32S.eq]; exact szT_ok hn hm h1 h2
theorem szField_ok {l : List Nat} {w h : Int} {r : Bool} {m : Nat} {K : Int → Prop} (hn : l.length ≤ 9223372036854775807) (hm : m ≤ 1099511627776) (h1 : m < l.length → K (-1)) (h2 : l.length ≤ m → K ((m - l.length : Nat) : Int)) : laws_szField.wp l w h r (m : Int) K := by
  rw [laws_szField.eq]
  exact szFloat_ok hn hm (fun h => ifD (by decide) (h1 h)) (fun h => ifN (by omega) (h2 h))
theorem toField_ok {l : List Nat} {w h : Int} {r : Bool} {K : List Nat → Int → Int → Bool → Prop} (hl : l.length ≤ 1099511627776) (hk : K l w h r) : laws_toField.wp l w h r K := by
  rw [laws_toField.eq]; exact toFloat_ok hl hk
theorem eqField_self {l : List Nat} {w h : Int} {r : Bool} {K : Bool → Prop} (hl : l.length ≤ 1099511627776) (hk : K true) : laws_eqField.wp l l w h r w h r K := by
  rw [laws_eqField.eq]
  exact ifF (by simp) (ifF (by simp) (ifF (by simp) (eqFloat_self hl (ifF rfl hk))))
theorem markField_ok {l : List Nat} {w h : Int} {r : Bool} {k : Nat} {K : List Nat → Int → Prop} (hl : l.length ≤ 1099511627776) (hk : k ≤ 1099511627776) (hK : K (marked (mfV k) l.length) ((k + l.length : Nat) : Int)) : laws_markField.wp l w h r (k : Int) K := by
  rw [laws_markField.eq]; exact markFloat_ok hl hk hK
theorem heldField_ok {n k : Nat} {w h : Int} {r : Bool} {K : Int → Prop} (hl : n ≤ 1099511627776) (hk : k ≤ 1099511627776) (hK : K ((k + n : Nat) : Int)) : laws_heldField.wp (marked (mfV k) n) w h r (k : Int) K := by
  rw [laws_heldField.eq]; exact heldFloat_ok hl hk (ifN (by omega) hK)

/-- lists that are short enough -/
def Small (m : Melt) : Prop := m.p.length ≤ 1048576 ∧ m.q.length ≤ 1048576
theorem szMelt_ok (m : Melt) {K : Int → Prop} (hp : m.p.length ≤ 9223372036854775807) (hq : m.q.length ≤ 9223372036854775807) (h1 : K (-1)) (h2 : Small m → ∀ n : Nat, K (n : Int)) :
    laws_szMelt.wp m.p m.q m.w1 m.h1 m.r1 m.w2 m.h2 m.r2 m.a m.b m.c m.d m.e m.n 1048576 K := by
  rw [laws_szMelt.eq]
  refine szField_ok (m := 1048576) hp (by decide) (fun _ => ifD (by decide) h1) fun hl => ifN (by omega) ?_
  refine szField_ok hq (by omega) (fun _ => ifD (by decide) h1) fun hl2 => ifN (by omega) ?_
  exact h2 ⟨hl, by omega⟩ _
theorem toMelt_ok (m : Melt) {K : List Nat → List Nat → Int → Int → Bool → Int → Int → Bool → Nat → Nat → Nat → Nat → Nat → Int → Prop} (hs : Small m) (hk : K m.p m.q m.w1 m.h1 m.r1 m.w2 m.h2 m.r2 m.a m.b m.c m.d m.e m.n) :
    laws_toMelt.wp m.p m.q m.w1 m.h1 m.r1 m.w2 m.h2 m.r2 m.a m.b m.c m.d m.e m.n K := by
  have h1 := hs.1
  have h2 := hs.2
  rw [laws_toMelt.eq]
  exact toField_ok (by omega) (toField_ok (by omega) hk)
theorem eqMelt_self (m : Melt) {K : Bool → Prop} (hs : Small m) (hk : K true) :
    laws_eqMelt.wp m.p m.q m.p m.q m.w1 m.h1 m.r1 m.w2 m.h2 m.r2 m.a m.b m.c m.d m.e m.n m.w1 m.h1 m.r1 m.w2 m.h2 m.r2 m.a m.b m.c m.d m.e m.n K := by
  have h1 := hs.1
  have h2 := hs.2
  rw [laws_eqMelt.eq, sameFloat_eq]
  exact eqField_self (by omega) (ifF rfl (eqField_self (by omega) (ifF rfl (sameT_self (ifF rfl (sameT_self (ifF rfl (sameT_self (ifF rfl (sameT_self (ifF rfl (sameT_self (ifF rfl (ifF (by simp) hk))))))))))))))
def mk1 (m : Melt) : List Nat := marked (mfV 1) m.p.length
def mk2 (m : Melt) : List Nat := marked (mfV (1 + m.p.length)) m.q.length
def mkN (m : Melt) : Int := ((1 + m.p.length + m.q.length : Nat) : Int)
theorem markMelt_ok (m : Melt) {K : List Nat → List Nat → Int → Prop} (hs : Small m) (hk : K (mk1 m) (mk2 m) (mkN m)) :
    laws_markMelt.wp m.p m.q m.w1 m.h1 m.r1 m.w2 m.h2 m.r2 m.a m.b m.c m.d m.e m.n 1 K := by
  have h1 := hs.1
  have h2 := hs.2
  rw [laws_markMelt.eq]
  exact markField_ok (k := 1) (by omega) (by decide) (markField_ok (by omega) (by omega) hk)
theorem heldMelt_ok (m : Melt) {K : Int → Prop} (hs : Small m) (hk : K (mkN m)) :
    laws_heldMelt.wp (mk1 m) (mk2 m) m.w1 m.h1 m.r1 m.w2 m.h2 m.r2 m.a m.b m.c m.d m.e m.n 1 K := by
  have h1 := hs.1
  have h2 := hs.2
  rw [laws_heldMelt.eq]
  exact heldField_ok (k := 1) (by omega) (by decide) (ifN (by omega) (heldField_ok (by omega) (by omega) (ifN (by omega) hk)))

/-! ### what is finite -/
theorem spec_fin {x : Nat} {K : Bool → Prop} (h : K (fin .f32 x)) : spec_l01Finite.wp x K := by
  rw [spec_l01Finite.eq, sub_self]; exact h
theorem impl_fin {x : Nat} {K : Bool → Prop} (h : K (fin .f32 x)) : impl_IsFinite.wp x K := by
  rw [impl_IsFinite.eq, impl_finite.eq, math_IsNaN.eq, fne_self, isNaN_up]
  cases hx : isNaNW .f32 x
  · refine ifT rfl ?_
    rw [math_IsInf.eq]
    refine ifT rfl ?_
    rw [math_Abs.eq]
    refine ⟨by rw [isNaN_up]; exact hx, ?_⟩
    rw [isInf_bits (by rw [isNaN_up]; exact hx), fin_up, Bool.not_not]
    exact h
  · refine ifF rfl ?_
    have : fin .f32 x = false := by
      cases hf : fin .f32 x
      · rfl
      · rw [fin_notNaN hf] at hx; cases hx
    rw [this] at h; exact h
theorem areFinite {l : List Nat} {K : Bool → Prop} (hl : l.length ≤ 1099511627776) (h : K (l.all (fin .f32))) : impl_areFinite.wp l K := by
  rw [impl_areFinite.eq, slices_ContainsFunc_float32_float32__areFinite_1.eq, slices_IndexFunc_float32_float32__areFinite_1.eq]
  intro J hJ
  refine all_loop (J := fun i => J (l.length : Int) i) (d := 0) h (fun h => hJ _ _ (ifN (by omega) h)) (fun i hi hp h => ?_) (fun i hi hp ih => ?_)
  · refine hJ _ _ (ifD (by omega) ⟨⟨by omega, by omega⟩, ?_⟩)
    rw [impl_areFinite_1.eq]
    refine impl_fin ?_
    rw [Int.toNat_natCast, hp]
    refine ifT rfl ?_
    rw [decide_eq_true (by omega)]
    exact h
  · refine hJ _ _ (ifD (by omega) ⟨⟨by omega, by omega⟩, ?_⟩)
    rw [impl_areFinite_1.eq]
    refine impl_fin ?_
    rw [Int.toNat_natCast, hp, wrap_succ (by omega)]
    exact ifF rfl ih
theorem spec_in {v a b : Int} {K : Bool → Prop} (h : K (inB v a b)) : spec_l00In.wp v a b K := by rw [spec_l00In.eq]; exact inT_ok h
theorem impl_in {v a b : Int} {K : Bool → Prop} (h : K (inB v a b)) : impl_within.wp v a b K := by rw [impl_within.eq]; exact inT'_ok h
theorem areWithin {l : List Int} {a b : Int} {K : Bool → Prop} (hl : l.length ≤ 1099511627776) (h : K (l.all fun v => inB v a b)) : impl_areWithin.wp l a b K := by
  rw [impl_areWithin.eq, slices_ContainsFunc_int64_int64__areWithin_1.eq, slices_IndexFunc_int64_int64__areWithin_1.eq]
  intro J hJ
  refine all_loop (J := fun i => J (l.length : Int) i) (d := 0) h (fun h => hJ _ _ (ifN (by omega) h)) (fun i hi hp h => ?_) (fun i hi hp ih => ?_)
  · refine hJ _ _ (ifD (by omega) ⟨⟨by omega, by omega⟩, ?_⟩)
    rw [impl_areWithin_1.eq]
    refine impl_in ?_
    rw [Int.toNat_natCast, hp]
    refine ifT rfl ?_
    rw [decide_eq_true (by omega)]
    exact h
  · refine hJ _ _ (ifD (by omega) ⟨⟨by omega, by omega⟩, ?_⟩)
    rw [impl_areWithin_1.eq]
    refine impl_in ?_
    rw [Int.toNat_natCast, hp, wrap_succ (by omega)]
    exact ifF rfl ih

/-! ### valid fields and melts -/
def sizeB (w h : Int) : Bool := inB w 1 16 && inB h 1 16
def fieldB (l : List Nat) (w h : Int) : Bool := sizeB w h && ((l.length : Int) == Go.IntKind.wrap .i64 (w * h))
theorem spec_field {l : List Nat} {w h : Int} {r : Bool} {K : Bool → Prop} (hk : K (fieldB l w h)) : spec_l02Is.wp w h r l K := by
  rw [spec_l02Is.eq, spec_l02Size.eq]
  unfold fieldB sizeB at hk
  refine spec_in (ifB_of (fun e => ?_) (fun e => ?_))
  · rw [e] at hk
    refine spec_in (ifB_of (fun e => ?_) (fun e => ?_))
    · rw [e] at hk; exact hk
    · rw [e] at hk; exact hk
  · rw [e] at hk; exact ifF rfl hk
theorem impl_field {l : List Nat} {w h : Int} {r : Bool} {K : Bool → Prop} (hk : K (fieldB l w h)) : impl_ValidField.wp l w h r K := by
  rw [impl_ValidField.eq]
  refine areWithin (by simp) ?_
  have e : ((w :: h :: List.replicate 0 0).all fun v => inB v 1 16) = sizeB w h := by simp [sizeB]
  rw [e]
  unfold fieldB at hk
  refine ifB_of (fun e => ?_) (fun e => ?_)
  · rw [e] at hk; exact hk
  · rw [e] at hk; exact hk
theorem field_nat {l : List Nat} {w h : Int} (hv : fieldB l w h = true) : ∃ W H : Nat, w = (W : Int) ∧ h = (H : Int) ∧ 1 ≤ W ∧ W ≤ 16 ∧ 1 ≤ H ∧ H ≤ 16 ∧ W * H ≤ 256 ∧ l.length = W * H := by
  simp only [fieldB, sizeB, Bool.and_eq_true, inB_iff, beq_iff_eq] at hv
  obtain ⟨⟨⟨h1, h2⟩, h3, h4⟩, h5⟩ := hv
  obtain ⟨W, rfl⟩ : ∃ n : Nat, w = (n : Int) := ⟨w.toNat, by omega⟩
  obtain ⟨H, rfl⟩ : ∃ n : Nat, h = (n : Int) := ⟨h.toNat, by omega⟩
  have hb : W * H ≤ 256 := Nat.mul_le_mul (show W ≤ 16 by omega) (show H ≤ 16 by omega)
  rw [← Int.natCast_mul, wrap_nat (by omega)] at h5
  exact ⟨W, H, rfl, rfl, by omega, by omega, by omega, by omega, hb, by omega⟩

def phB (x : Nat) : Bool := fge .f32 x 0 && fle .f32 x 1065353216
def mass (x : Nat) : Bool := fin .f32 x && fge .f32 x 0
def tailB (m : Melt) : Bool := mass m.a && (mass m.b && (mass m.c && (mass m.d && (fge .f32 m.e 0 && (flt .f32 m.e 1065353216 && inB m.n 1 8)))))
def isM (m : Melt) : Bool := fieldB m.p m.w1 m.h1 && (fieldB m.q m.w2 m.h2 && ((m.w1 == m.w2) && ((m.h1 == m.h2) && ((m.r1 == m.r2) && ((m.p.all phB && m.q.all (fin .f32)) && tailB m)))))
theorem spec_mass {x : Nat} {K : Bool → Prop} (h : K (mass x)) : spec_l03Least.wp x K := by
  rw [spec_l03Least.eq]
  refine spec_fin ?_
  unfold mass at h
  refine ifB_of (fun e => ?_) (fun e => ?_) <;> (rw [e] at h; exact h)
theorem impl_mass {x : Nat} {K : Bool → Prop} (h : K (mass x)) : impl_aMass.wp x K := by
  rw [impl_aMass.eq]
  refine impl_fin ?_
  unfold mass at h
  refine ifB_of (fun e => ?_) (fun e => ?_) <;> (rw [e] at h; exact h)
theorem same_len {m : Melt} (h1 : fieldB m.p m.w1 m.h1 = true) (h2 : fieldB m.q m.w2 m.h2 = true) (e1 : m.w1 = m.w2) (e2 : m.h1 = m.h2) : m.q.length = m.p.length := by
  obtain ⟨W, H, a1, a2, _, _, _, _, _, a3⟩ := field_nat h1
  obtain ⟨W', H', b1, b2, _, _, _, _, _, b3⟩ := field_nat h2
  have : W = W' := by omega
  have : H = H' := by omega
  subst_vars
  omega
theorem spec_is (m : Melt) (hs : Small m) {K : Bool → Prop} (hk : K (isM m)) : spec_l03Is.wp m.w1 m.h1 m.r1 m.w2 m.h2 m.r2 m.a m.b m.c m.d m.e m.n m.p m.q K := by
  have s1 := hs.1
  have s2 := hs.2
  rw [spec_l03Is.eq]
  unfold isM at hk
  refine spec_field ?_
  cases f1 : fieldB m.p m.w1 m.h1
  · rw [f1] at hk; exact ifT rfl hk
  rw [f1, Bool.true_and] at hk
  refine ifF rfl (spec_field ?_)
  cases f2 : fieldB m.q m.w2 m.h2
  · rw [f2] at hk; exact ifT rfl hk
  rw [f2, Bool.true_and] at hk
  refine ifF rfl (ifB_of (fun e => ?_) (fun e => ?_))
  · rw [show (m.w1 == m.w2) = false by simpa [bne] using e] at hk; exact hk
  have e1 : m.w1 = m.w2 := by simpa [bne] using e
  rw [show (m.w1 == m.w2) = true by simp [e1], Bool.true_and] at hk
  refine ifB_of (fun e => ?_) (fun e => ?_)
  · rw [show (m.h1 == m.h2) = false by simpa [bne] using e] at hk; exact hk
  have e2 : m.h1 = m.h2 := by simpa [bne] using e
  rw [show (m.h1 == m.h2) = true by simp [e2], Bool.true_and] at hk
  refine ifB_of (fun e => ?_) (fun e => ?_)
  · rw [show (m.r1 == m.r2) = false by simpa [bne] using e] at hk; exact hk
  rw [show (m.r1 == m.r2) = true by simpa [bne] using e, Bool.true_and] at hk
  have hlen := same_len f1 f2 e1 e2
  intro J hJ
  have hall : (List.range m.p.length).all (fun i => phB (m.p.getD i 0) && fin .f32 (m.q.getD i 0)) = (m.p.all phB && m.q.all (fin .f32)) := by
    rw [all_and, all_range m.p 0 phB]
    rw [← hlen, all_range m.q 0 (fin .f32)]
  rw [← hall] at hk
  have hrl : (List.range m.p.length).length = m.p.length := List.length_range
  have hget : ∀ i, i < m.p.length → (List.range m.p.length).getD i 0 = i := fun i hi => by simp [List.getD, hi]
  have main := all_loop (l := List.range m.p.length) (p := fun i => phB (m.p.getD i 0) && fin .f32 (m.q.getD i 0)) (d := 0) (J := fun i => J (m.p.length : Int) i) (K := fun b => K (b && tailB m)) hk (fun hk => ?_) (fun i hi hp hk => ?_) (fun i hi hp ih => ?_)
  · exact main
  · rw [hrl]
    refine hJ _ _ (ifN (by omega) (spec_mass ?_))
    rw [Bool.true_and] at hk
    unfold tailB at hk
    refine ifB_of (fun e => ?_) (fun e => ?_)
    · rw [e] at hk
      refine spec_mass (ifB_of (fun e => ?_) (fun e => ?_))
      · rw [e] at hk
        refine spec_mass (ifB_of (fun e => ?_) (fun e => ?_))
        · rw [e] at hk
          refine spec_mass (ifB_of (fun e => ?_) (fun e => ?_))
          · rw [e] at hk
            refine ifB_of (fun e => ?_) (fun e => ?_)
            · rw [e] at hk
              refine ifB_of (fun e => ?_) (fun e => ?_)
              · rw [e] at hk; exact spec_in hk
              · rw [e] at hk; exact hk
            · rw [e] at hk; exact hk
          · rw [e] at hk; exact hk
        · rw [e] at hk; exact hk
      · rw [e] at hk; exact hk
    · rw [e] at hk; exact hk
  · rw [hrl] at hi
    rw [hget i hi] at hp
    refine hJ _ _ (ifD (by omega) ⟨⟨by omega, by omega⟩, ?_⟩)
    rw [Int.toNat_natCast]
    refine ifB_of (fun e => hk) (fun e => ⟨⟨by omega, by omega⟩, ifB_of (fun e2 => hk) (fun e2 => ⟨⟨by omega, by omega⟩, spec_fin (ifB_of (fun e3 => hk) (fun e3 => ?_))⟩)⟩)
    exfalso
    have g1 : fge .f32 (m.p.getD i 0) 0 = true := by simpa using e
    have g2 := not_fgt g1
    rw [e2] at g2
    have g3 : fin .f32 (m.q.getD i 0) = true := by simpa using e3
    have : (phB (m.p.getD i 0) && fin .f32 (m.q.getD i 0)) = true := by unfold phB; rw [g1, g3, ← g2]; rfl
    rw [this] at hp; cases hp
  · rw [hrl] at hi
    rw [hget i hi] at hp
    simp only [Bool.and_eq_true, phB] at hp
    obtain ⟨⟨g1, g2⟩, g3⟩ := hp
    refine hJ _ _ (ifD (by omega) ⟨⟨by omega, by omega⟩, ?_⟩)
    rw [Int.toNat_natCast, g1]
    refine ifF rfl ⟨⟨by omega, by omega⟩, ifF ?_ ⟨⟨by omega, by omega⟩, spec_fin ?_⟩⟩
    · have := not_fgt g1
      rw [g2] at this
      simpa using this
    · rw [g3, wrap_succ (by omega)]
      exact ifF rfl ih
theorem impl_phases {l : List Nat} {K : Bool → Prop} (hl : l.length ≤ 1099511627776) (h : K (!l.all phB)) : slices_ContainsFunc_float32_float32__ValidMelt_1.wp l K := by
  rw [slices_ContainsFunc_float32_float32__ValidMelt_1.eq, slices_IndexFunc_float32_float32__ValidMelt_1.eq]
  have step : ∀ (x : Nat) (K' : Bool → Prop), K' (!phB x) → impl_ValidMelt_1.wp x K' := by
    intro x K' hk
    rw [impl_ValidMelt_1.eq]
    unfold phB at hk
    refine ifB_of (fun e => ?_) (fun e => ?_) <;> (rw [e] at hk; exact hk)
  intro J hJ
  refine all_loop (J := fun i => J (l.length : Int) i) (K := fun b => K (!b)) (d := 0) h (fun h => hJ _ _ (ifN (by omega) h)) (fun i hi hp h => ?_) (fun i hi hp ih => ?_)
  · refine hJ _ _ (ifD (by omega) ⟨⟨by omega, by omega⟩, step _ _ ?_⟩)
    rw [Int.toNat_natCast, hp]
    refine ifT rfl ?_
    rw [decide_eq_true (by omega)]
    exact h
  · refine hJ _ _ (ifD (by omega) ⟨⟨by omega, by omega⟩, step _ _ ?_⟩)
    rw [Int.toNat_natCast, hp, wrap_succ (by omega)]
    exact ifF rfl ih
theorem impl_is (m : Melt) (hs : Small m) {K : Bool → Prop} (hk : K (isM m)) : impl_ValidMelt.wp m.p m.q m.w1 m.h1 m.r1 m.w2 m.h2 m.r2 m.a m.b m.c m.d m.e m.n K := by
  have s1 := hs.1
  have s2 := hs.2
  rw [impl_ValidMelt.eq]
  unfold isM at hk
  refine impl_field ?_
  cases f1 : fieldB m.p m.w1 m.h1
  · rw [f1] at hk; exact ifT rfl hk
  rw [f1, Bool.true_and] at hk
  refine ifF rfl (impl_field ?_)
  cases f2 : fieldB m.q m.w2 m.h2
  · rw [f2] at hk; exact ifT rfl hk
  rw [f2, Bool.true_and] at hk
  refine ifF rfl ?_
  rw [impl_alike.eq]
  cases e1 : m.w1 == m.w2
  · rw [e1] at hk; exact ifF rfl (ifT rfl hk)
  rw [e1, Bool.true_and] at hk
  refine ifT rfl ?_
  cases e2 : m.h1 == m.h2
  · rw [e2] at hk; exact ifF rfl (ifT rfl hk)
  rw [e2, Bool.true_and] at hk
  refine ifT rfl ?_
  cases e3 : m.r1 == m.r2
  · rw [e3] at hk; exact ifT rfl hk
  rw [e3, Bool.true_and] at hk
  refine ifF rfl ?_
  rw [impl_finiteField.eq]
  refine areFinite (by omega) ?_
  cases e4 : m.q.all (fin .f32)
  · rw [e4, Bool.and_false, Bool.false_and] at hk; exact ifT rfl hk
  rw [e4, Bool.and_true] at hk
  refine ifF rfl (impl_phases (by omega) ?_)
  cases e5 : m.p.all phB
  · rw [e5] at hk; exact ifT rfl hk
  rw [e5, Bool.true_and] at hk
  refine ifF rfl fun J hJ => ?_
  have en : ([m.a, m.b, m.c, m.d].all mass && (fge .f32 m.e 0 && (flt .f32 m.e 1065353216 && inB m.n 1 8))) = tailB m := by
    simp only [List.all_cons, List.all_nil, tailB, Bool.and_true, Bool.and_assoc]
  rw [← en] at hk
  refine all_loop (l := [m.a, m.b, m.c, m.d]) (p := mass) (d := 0) (J := fun i => J m.w1 m.h1 m.r1 m.w2 m.h2 m.r2 m.a m.b m.c m.d m.e m.n [m.a, m.b, m.c, m.d] 4 i) (K := fun b => K (b && (fge .f32 m.e 0 && (flt .f32 m.e 1065353216 && inB m.n 1 8)))) hk (fun hk => ?_) (fun i hi hp hk => ?_) (fun i hi hp ih => ?_)
  · refine hJ _ _ _ _ _ _ _ _ _ _ _ _ _ _ _ (ifN (by show ¬ ((4 : Int) < 4); omega) ?_)
    rw [Bool.true_and] at hk
    refine ifB_of (fun e => ?_) (fun e => ?_)
    · rw [e] at hk
      refine ifB_of (fun e => ?_) (fun e => ?_)
      · rw [e] at hk; exact impl_in hk
      · rw [e] at hk; exact hk
    · rw [e] at hk; exact hk
  · have hi4 : i < 4 := hi
    refine hJ _ _ _ _ _ _ _ _ _ _ _ _ _ _ _ (ifD (by omega) ⟨⟨by omega, by show (i : Int) < 4; omega⟩, impl_mass ?_⟩)
    rw [Int.toNat_natCast, hp]; exact ifT rfl hk
  · have hi4 : i < 4 := hi
    refine hJ _ _ _ _ _ _ _ _ _ _ _ _ _ _ _ (ifD (by omega) ⟨⟨by omega, by show (i : Int) < 4; omega⟩, impl_mass ?_⟩)
    rw [Int.toNat_natCast, hp, wrap_succ (by omega)]; exact ifF rfl ih
end Go.K.melts
