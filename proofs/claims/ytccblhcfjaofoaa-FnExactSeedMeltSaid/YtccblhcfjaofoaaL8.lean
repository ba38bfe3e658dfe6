/- Melts that are seeded. -/
import Derived.Test.YtccblhcfjaofoaaL
set_option linter.unusedSimpArgs false
set_option linter.unusedVariables false
set_option maxRecDepth 10000
set_option maxHeartbeats 4000000
namespace Go.K.melts
open Go.K Go

abbrev MK := List Nat → List Nat → Int → Int → Bool → Int → Int → Bool → Nat → Nat → Nat → Nat → Nat → Int → Bool → Prop
def okM (m : Melt) : Melt := if isM m = true then m else zeroM
theorem small_zero : Small zeroM := ⟨by decide, by decide⟩
theorem own_ok (m : Melt) (hs : Small m) {K : List Nat → List Nat → Int → Int → Bool → Int → Int → Bool → Nat → Nat → Nat → Nat → Nat → Int → Prop} (hk : K m.p m.q m.w1 m.h1 m.r1 m.w2 m.h2 m.r2 m.a m.b m.c m.d m.e m.n) :
    spec_l03Own.wp m.w1 m.h1 m.r1 m.w2 m.h2 m.r2 m.a m.b m.c m.d m.e m.n m.p m.q K := by
  have s1 := hs.1
  have s2 := hs.2
  rw [spec_l03Own.eq, spec_l02Own.eq, spec_l02New.eq]
  refine ⟨by simp; omega, ?_⟩
  rw [spec_l02Own.eq, spec_l02New.eq]
  exact ⟨by simp; omega, hk⟩
theorem nonempty {m : Melt} (hv : isM m = true) : m.p.length ≠ 0 ∧ m.q.length ≠ 0 := by
  unfold isM at hv
  simp only [Bool.and_eq_true] at hv
  obtain ⟨f1, f2, _⟩ := hv
  obtain ⟨W, H, _, _, a1, _, a2, _, _, a3⟩ := field_nat f1
  obtain ⟨W', H', _, _, b1, _, b2, _, _, b3⟩ := field_nat f2
  have := Nat.mul_le_mul a1 a2
  have := Nat.mul_le_mul b1 b2
  exact ⟨by omega, by omega⟩
theorem cloned_ok (m : Melt) (hs : Small m) {K : MK} (hk : K (okM m).p (okM m).q (okM m).w1 (okM m).h1 (okM m).r1 (okM m).w2 (okM m).h2 (okM m).r2 (okM m).a (okM m).b (okM m).c (okM m).d (okM m).e (okM m).n (isM m)) : impl_Melt_cloned.wp m.p m.q m.w1 m.h1 m.r1 m.w2 m.h2 m.r2 m.a m.b m.c m.d m.e m.n K := by
  have s1 := hs.1
  have s2 := hs.2
  rw [impl_Melt_cloned.eq]
  refine impl_is m hs ?_
  unfold okM at hk
  cases hv : isM m
  · simp only [hv, Bool.false_eq_true, if_false] at hk; exact ifT rfl hk
  · simp only [hv, if_true] at hk
    obtain ⟨n1, n2⟩ := nonempty hv
    refine ifF rfl ?_
    rw [slices_Clone_float32_float32.eq]
    refine ⟨n1, by simp; omega, ?_⟩
    rw [slices_Clone_float32_float32.eq]
    exact ⟨n2, by simp; omega, hk⟩
theorem getD_at {V : Nat → Nat} {l : List Nat} {i : Nat} (h : i < l.length) : (marked V i ++ l.drop i).getD i 0 = l.getD i 0 := by
  rw [List.drop_eq_getElem_cons h]
  have : (marked V i).length = i := marked_length _ _
  simp [List.getD, List.getElem?_append_right, this, h]
theorem set_getD_self {l : List Nat} {i : Nat} (h : i < l.length) : l.set i (l.getD i 0) = l := by
  apply List.ext_getElem
  · simp
  · intro n h1 h2
    rw [List.getElem_set]
    split
    · rename_i e
      subst e
      simp [List.getD, h]
    · rfl

/-! ### discs -/
def gapV (d : Nat) (s : Int) (r : Bool) : Nat :=
  if (r && fgt .f32 d (farith .quo .f32 (fofint .f32 s) 1073741824)) = true then farith .sub .f32 d (fofint .f32 s)
  else if (r && flt .f32 d (fneg .f32 (farith .quo .f32 (fofint .f32 s) 1073741824))) = true then farith .add .f32 d (fofint .f32 s) else d
theorem spec_gap {a b : Nat} {s : Int} {r : Bool} {K : Nat → Prop} (hk : K (gapV (farith .sub .f32 a b) s r)) : spec_l02Gap.wp a b s r K := by
  rw [spec_l02Gap.eq]
  unfold gapV at hk
  cases r
  · simp only [Bool.false_and, Bool.false_eq_true, if_false] at hk
    exact ifF rfl (ifF rfl hk)
  · simp only [Bool.true_and] at hk
    refine ifT rfl (ifB_of (fun e => ?_) (fun e => ?_))
    · rw [if_pos e] at hk; exact hk
    · rw [if_neg (by rw [e]; decide)] at hk
      refine ifT rfl (ifB_of (fun e => ?_) (fun e => ?_))
      · rw [if_pos e] at hk; exact hk
      · rw [if_neg (by rw [e]; decide)] at hk; exact hk
theorem impl_gap {d : Nat} {s : Int} {r : Bool} {K : Nat → Prop} (hk : K (gapV d s r)) : impl_difference.wp d s r K := by
  rw [impl_difference.eq]
  unfold gapV at hk
  cases r
  · simp only [Bool.false_and, Bool.false_eq_true, if_false] at hk
    exact ifF rfl (ifF rfl hk)
  · simp only [Bool.true_and] at hk
    refine ifT rfl (ifB_of (fun e => ?_) (fun e => ?_))
    · rw [if_pos e] at hk; exact hk
    · rw [if_neg (by rw [e]; decide)] at hk
      refine ifT rfl (ifB_of (fun e => ?_) (fun e => ?_))
      · rw [if_pos e] at hk; exact hk
      · rw [if_neg (by rw [e]; decide)] at hk; exact hk
def discG (W H : Nat) (r : Bool) (x y z : Nat) (a b : Nat) : Nat :=
  if fle .f32 (farith .add .f32 (farith .mul .f32 (gapV (farith .sub .f32 (fofint .f32 (a : Int)) x) W r) (gapV (farith .sub .f32 (fofint .f32 (a : Int)) x) W r)) (farith .mul .f32 (gapV (farith .sub .f32 (fofint .f32 (b : Int)) y) H r) (gapV (farith .sub .f32 (fofint .f32 (b : Int)) y) H r))) (farith .mul .f32 z z) = true then 1065353216 else 0
def discL (W H : Nat) (r : Bool) (x y z : Nat) : List Nat := gridUp W (discG W H r x y z) (W * H)
def discOk (x y z : Nat) : Bool := fin .f32 x && (fin .f32 y && fin .f32 z)
theorem size_nat {w h : Int} (hv : sizeB w h = true) : ∃ W H : Nat, w = (W : Int) ∧ h = (H : Int) ∧ 1 ≤ W ∧ W ≤ 16 ∧ 1 ≤ H ∧ H ≤ 16 ∧ W * H ≤ 256 := by
  simp only [sizeB, Bool.and_eq_true, inB_iff] at hv
  obtain ⟨⟨h1, h2⟩, h3, h4⟩ := hv
  exact ⟨w.toNat, h.toNat, by omega, by omega, by omega, by omega, by omega, by omega, Nat.mul_le_mul (show w.toNat ≤ 16 by omega) (show h.toNat ≤ 16 by omega)⟩
section
variable {W H : Nat} {r : Bool} {x y z : Nat}
theorem spec_Disc {w h : Int} (hz : sizeB w h = true) (hw' : w = (W : Int)) (hh' : h = (H : Int)) (h1 : 1 ≤ W) (h2 : 1 ≤ H) (hw : W * H ≤ 256) {K : List Nat → Int → Int → Bool → Bool → Prop}
    (h0 : discOk x y z = false → K [] 0 0 false false) (hk : discOk x y z = true → K (discL W H r x y z) (W : Int) (H : Int) r true) : spec_DiscField.wp w h r x y z K := by
  have enn : Go.IntKind.wrap .i64 ((W : Int) * (H : Int)) = ((W * H : Nat) : Int) := by rw [← Int.natCast_mul, wrap_nat (by omega)]
  rw [spec_DiscField.eq, spec_l02Size.eq]
  unfold sizeB at hz
  rw [Bool.and_eq_true] at hz
  refine spec_in ?_
  rw [hz.1]
  refine ifT rfl (spec_in ?_)
  rw [hz.2]
  refine ifF rfl (spec_fin ?_)
  unfold discOk at h0 hk
  cases f1 : fin .f32 x
  · rw [f1] at h0; exact ifT rfl (h0 rfl)
  refine ifF rfl (spec_fin ?_)
  cases f2 : fin .f32 y
  · rw [f1, f2] at h0; exact ifT rfl (h0 rfl)
  refine ifF rfl (spec_fin ?_)
  cases f3 : fin .f32 z
  · rw [f1, f2, f3] at h0; exact ifT rfl (h0 rfl)
  rw [f1, f2, f3] at hk
  have hk := hk rfl
  refine ifF rfl ?_
  rw [spec_l02New.eq]
  subst hw'
  subst hh'
  intro J hJ
  refine down (Q := fun i => J 0 0 false (W : Int) (H : Int) r [] (gridUp W (discG W H r x y z) i) (farith .mul .f32 z z) (i : Int)) (n := W * H) (hJ _ _ _ _ _ _ _ _ _ _ ?_) (fun i hi ih => hJ _ _ _ _ _ _ _ _ _ _ ?_) 0 (Nat.zero_le _)
  · rw [enn]; exact ifN (by omega) hk
  · rw [enn]
    refine ifD (by omega) ⟨by omega, spec_gap ⟨by omega, spec_gap ?_⟩⟩
    have hx : i % W < W := Nat.mod_lt _ (by omega)
    have hy : i / W < H := Nat.div_lt_of_lt_mul hi
    have hs := gridUp_succ W (discG W H r x y z) i
    have hlen := gridUp_length W (discG W H r x y z) (i + 1)
    rw [tdiv_nat, tmod_nat]
    have hyl : i / W ≤ 256 := by
      have := Nat.div_le_self i W
      omega
    rw [wrap_nat (by omega)]
    have hs' : ∀ v, discG W H r x y z (i % W) (i / W) = v → gridUp W (discG W H r x y z) i ++ v :: List.replicate 0 0 = gridUp W (discG W H r x y z) (i + 1) := by
      intro v hv
      rw [hs, hv]; rfl
    refine ifB_of (fun e => ?_) (fun e => ?_)
    · have hv : discG W H r x y z (i % W) (i / W) = 1065353216 := by unfold discG; rw [if_pos e]
      rw [hs' _ hv, hlen, wrap_succ (by omega)]
      exact ⟨by omega, ih⟩
    · have hv : discG W H r x y z (i % W) (i / W) = 0 := by unfold discG; rw [if_neg (by rw [e]; decide)]
      rw [hs' _ hv, hlen, wrap_succ (by omega)]
      exact ⟨by omega, ih⟩
theorem impl_Disc {w h : Int} {K : List Nat → Int → Int → Bool → Bool → Prop}
    (h0 : (sizeB w h && discOk x y z) = false → K [] 0 0 false false) (hk : ∀ W H : Nat, w = (W : Int) → h = (H : Int) → 1 ≤ W → 1 ≤ H → discOk x y z = true → K (discL W H r x y z) (W : Int) (H : Int) r true) : impl_DiscField.wp w h r x y z K := by
  rw [impl_DiscField.eq]
  refine areWithin (by simp) ?_
  have e : ((w :: h :: List.replicate 0 0).all fun v => inB v 1 16) = sizeB w h := by simp [sizeB]
  rw [e]
  cases hz : sizeB w h
  · rw [hz] at h0; exact ifT rfl (h0 rfl)
  rw [hz, Bool.true_and] at h0
  refine ifF rfl (areFinite (by simp) ?_)
  have e : ((x :: y :: z :: List.replicate 0 0).all (fin .f32)) = discOk x y z := by simp [discOk]
  rw [e]
  cases hd : discOk x y z
  · exact ifT rfl (h0 hd)
  obtain ⟨W, H, rfl, rfl, h1, w16, h2, h16, hw⟩ := size_nat hz
  have hk := hk W H rfl rfl h1 h2 hd
  refine ifF rfl ?_
  rw [impl_made__DiscField_1.eq]
  intro J hJ
  have main := down (Q := fun b => J 0 0 false (W : Int) (H : Int) r [] (gridUp W (discG W H r x y z) (W * b)) (H : Int) (b : Int)) (n := H) ?_ ?_ 0 (Nat.zero_le _)
  · simpa [gridUp] using main
  · exact hJ _ _ _ _ _ _ _ _ _ _ (ifN (by omega) hk)
  · intro b hb ih
    refine hJ _ _ _ _ _ _ _ _ _ _ (ifD (by omega) fun J2 hJ2 => ?_)
    have inner := down (Q := fun a => J2 0 0 false (W : Int) (H : Int) r [] (gridUp W (discG W H r x y z) (a + W * b)) (b : Int) (H : Int) (b : Int) (W : Int) (a : Int)) (n := W) ?_ ?_ 0 (Nat.zero_le _)
    · rw [Nat.zero_add] at inner; exact inner
    · refine hJ2 _ _ _ _ _ _ _ _ _ _ _ _ _ (ifN (by omega) ?_)
      rw [wrap_succ (by omega), show W + W * b = W * (b + 1) by rw [Nat.mul_add]; omega]
      exact ih
    · intro a ha iha
      have hlt := wh_lt ha hb
      have hs := gridUp_succ W (discG W H r x y z) (a + W * b)
      obtain ⟨g1, g2⟩ := grid_at (y := b) ha
      rw [g1, g2] at hs
      have hs' : ∀ v, discG W H r x y z a b = v → gridUp W (discG W H r x y z) (a + W * b) ++ v :: List.replicate 0 0 = gridUp W (discG W H r x y z) (a + 1 + W * b) := by
        intro v hv
        rw [show a + 1 + W * b = a + W * b + 1 by omega, hs, hv]; rfl
      have hlen := gridUp_length W (discG W H r x y z) (a + 1 + W * b)
      refine hJ2 _ _ _ _ _ _ _ _ _ _ _ _ _ (ifD (by omega) ?_)
      rw [impl_DiscField_1.eq]
      refine impl_gap (impl_gap (ifB_of (fun e => ?_) (fun e => ?_)))
      · have hv : discG W H r x y z a b = 1065353216 := by unfold discG; rw [if_pos e]
        rw [hs' _ hv, hlen, wrap_succ (by omega)]
        exact ⟨by omega, iha⟩
      · have hv : discG W H r x y z a b = 0 := by unfold discG; rw [if_neg (by rw [e]; decide)]
        rw [hs' _ hv, hlen, wrap_succ (by omega)]
        exact ⟨by omega, iha⟩
end
section
variable (m : Melt) (x y z : Nat)
def seedV (D p : List Nat) (i : Nat) : Nat := if feq .f32 (D.getD i 0) 1065353216 = true then 1065353216 else p.getD i 0
def seedM : Melt := ⟨marked (seedV (discL m.w1.toNat m.h1.toNat m.r1 x y z) m.p) m.p.length, m.q, m.w1, m.h1, m.r1, m.w2, m.h2, m.r2, m.a, m.b, m.c, m.d, m.e, m.n⟩
def seedB : Bool := isM m && discOk x y z
def seedR : Melt := if seedB m x y z = true then seedM m x y z else zeroM
theorem seed_small (hs : Small m) : Small (seedR m x y z) := by
  unfold seedR
  split
  · exact ⟨by show (marked _ _).length ≤ _; rw [marked_length]; exact hs.1, hs.2⟩
  · exact small_zero
theorem seed_step {D p : List Nat} {i : Nat} (hi : i < p.length) (e : feq .f32 (D.getD i 0) 1065353216 = false) : marked (seedV D p) i ++ p.drop i = marked (seedV D p) (i + 1) ++ p.drop (i + 1) := by
  have hs := set_step (V := seedV D p) hi
  have hl : i < (marked (seedV D p) i ++ p.drop i).length := by simp [marked_length]; omega
  have hself := set_getD_self hl
  rw [getD_at hi] at hself
  have ev : seedV D p i = p.getD i 0 := by unfold seedV; rw [if_neg (by rw [e]; decide)]
  rw [ev] at hs
  rw [← hs]; exact hself.symm
theorem spec_Seed (hs : Small m) {K : MK} (hk : K (seedR m x y z).p (seedR m x y z).q (seedR m x y z).w1 (seedR m x y z).h1 (seedR m x y z).r1 (seedR m x y z).w2 (seedR m x y z).h2 (seedR m x y z).r2 (seedR m x y z).a (seedR m x y z).b (seedR m x y z).c (seedR m x y z).d (seedR m x y z).e (seedR m x y z).n (seedB m x y z)) : spec_SeedMelt.wp m.p m.q m.w1 m.h1 m.r1 m.w2 m.h2 m.r2 m.a m.b m.c m.d m.e m.n x y z K := by
  have s1 := hs.1
  rw [spec_SeedMelt.eq]
  refine spec_is m hs ?_
  unfold seedR seedB at hk
  cases hv : isM m
  · simp only [hv, Bool.false_and, Bool.false_eq_true, if_false] at hk; exact ifT rfl hk
  simp only [hv, Bool.true_and] at hk
  refine ifF rfl ?_
  have f1 : fieldB m.p m.w1 m.h1 = true := by
    unfold isM at hv
    simp only [Bool.and_eq_true] at hv
    exact hv.1
  have hz : sizeB m.w1 m.h1 = true := by
    unfold fieldB at f1
    rw [Bool.and_eq_true] at f1
    exact f1.1
  obtain ⟨W, H, a1, a2, h1, _, h2, _, hw, hl⟩ := field_nat f1
  refine spec_Disc hz a1 a2 h1 h2 hw (fun hd => ?_) (fun hd => ?_)
  · simp only [hd, Bool.false_eq_true, if_false] at hk; exact ifT rfl hk
  · simp only [hd, if_true] at hk
    refine ifF rfl (own_ok m hs fun J hJ => ?_)
    unfold seedM at hk
    rw [a1, a2, Int.toNat_natCast, Int.toNat_natCast] at hk
    have hD : (discL W H m.r1 x y z).length = m.p.length := by unfold discL; rw [gridUp_length, hl]
    generalize discL W H m.r1 x y z = D at *
    rw [hD]
    have main := down (Q := fun i => J 0 0 false 0 0 false 0 0 0 0 0 0 (W : Int) (H : Int) m.r1 m.w1 m.h1 m.r1 m.w2 m.h2 m.r2 m.a m.b m.c m.d m.e m.n [] [] D (marked (seedV D m.p) i ++ m.p.drop i) m.q (m.p.length : Int) (i : Int)) (n := m.p.length) (hJ _ _ _ _ _ _ _ _ _ _ _ _ _ _ _ _ _ _ _ _ _ _ _ _ _ _ _ _ _ _ _ _ _ _ (ifN (by omega) ?_)) (fun i hi ih => ?_) 0 (Nat.zero_le _)
    · simpa [marked] using main
    · rw [List.drop_length, List.append_nil, a1, a2]
      exact hk
    · have l1 : (marked (seedV D m.p) i ++ m.p.drop i).length = m.p.length := by simp [marked_length]; omega
      refine hJ _ _ _ _ _ _ _ _ _ _ _ _ _ _ _ _ _ _ _ _ _ _ _ _ _ _ _ _ _ _ _ _ _ _ (ifD (by omega) ⟨⟨by omega, by rw [hD]; omega⟩, ?_⟩)
      rw [Int.toNat_natCast, wrap_succ (by omega)]
      refine ifB_of (fun e => ?_) (fun e => ?_)
      · have hs := set_step (V := seedV D m.p) hi
        have ev : seedV D m.p i = 1065353216 := by unfold seedV; rw [if_pos e]
        rw [ev] at hs
        rw [hs]
        exact ⟨⟨by omega, by rw [l1]; omega⟩, ih⟩
      · rw [seed_step hi e]
        exact ih
theorem impl_Seed_v (hs : Small m) (hv : isM m = true) (W H : Nat) (a1 : m.w1 = (W : Int)) (a2 : m.h1 = (H : Int)) (hw : W * H ≤ 256) (hl : m.p.length = W * H) (hz : sizeB m.w1 m.h1 = true) {K : MK}
    (h0 : discOk x y z = false → K [] [] 0 0 false 0 0 false 0 0 0 0 0 0 false)
    (hk : discOk x y z = true → K (seedM m x y z).p m.q m.w1 m.h1 m.r1 m.w2 m.h2 m.r2 m.a m.b m.c m.d m.e m.n true) : impl_SeedMelt.wp m.p m.q m.w1 m.h1 m.r1 m.w2 m.h2 m.r2 m.a m.b m.c m.d m.e m.n x y z K := by
  have s1 := hs.1
  rw [impl_SeedMelt.eq]
  refine cloned_ok m hs ?_
  have eo : okM m = m := by unfold okM; rw [hv]; rfl
  rw [eo, hv]
  refine impl_Disc (fun hd => ?_) (fun W' H' b1 b2 _ _ hd => ?_)
  · rw [hz, Bool.true_and] at hd
    exact ifF rfl (ifT rfl (h0 hd))
  · have hk := hk hd
    have e1 : W' = W := by omega
    have e2 : H' = H := by omega
    rw [e1, e2]
    refine ifF rfl (ifF rfl fun J hJ => ?_)
    unfold seedM at hk
    rw [a1, a2, Int.toNat_natCast, Int.toNat_natCast] at hk
    have hD : (discL W H m.r1 x y z).length = m.p.length := by unfold discL; rw [gridUp_length, hl]
    generalize discL W H m.r1 x y z = D at *
    rw [hD]
    have main := down (Q := fun i => J 0 0 false 0 0 false 0 0 0 0 0 0 m.w1 m.h1 m.r1 m.w2 m.h2 m.r2 m.a m.b m.c m.d m.e m.n D [] [] (marked (seedV D m.p) i ++ m.p.drop i) m.q (m.p.length : Int) (i : Int)) (n := m.p.length) (hJ _ _ _ _ _ _ _ _ _ _ _ _ _ _ _ _ _ _ _ _ _ _ _ _ _ _ _ _ _ _ _ (ifN (by omega) ?_)) (fun i hi ih => ?_) 0 (Nat.zero_le _)
    · simpa [marked] using main
    · rw [List.drop_length, List.append_nil, a1, a2]
      exact hk
    · have l1 : (marked (seedV D m.p) i ++ m.p.drop i).length = m.p.length := by simp [marked_length]; omega
      refine hJ _ _ _ _ _ _ _ _ _ _ _ _ _ _ _ _ _ _ _ _ _ _ _ _ _ _ _ _ _ _ _ (ifD (by omega) ⟨⟨by omega, by rw [hD]; omega⟩, ?_⟩)
      rw [Int.toNat_natCast, wrap_succ (by omega)]
      refine ifB_of (fun e => ?_) (fun e => ?_)
      · have hs := set_step (V := seedV D m.p) hi
        have ev : seedV D m.p i = 1065353216 := by unfold seedV; rw [if_pos e]
        rw [ev] at hs
        rw [hs]
        exact ⟨⟨by omega, by rw [l1]; omega⟩, ih⟩
      · rw [seed_step hi e]
        exact ih
theorem impl_Seed (hs : Small m) {K : MK} (hk : K (seedR m x y z).p (seedR m x y z).q (seedR m x y z).w1 (seedR m x y z).h1 (seedR m x y z).r1 (seedR m x y z).w2 (seedR m x y z).h2 (seedR m x y z).r2 (seedR m x y z).a (seedR m x y z).b (seedR m x y z).c (seedR m x y z).d (seedR m x y z).e (seedR m x y z).n (seedB m x y z)) : impl_SeedMelt.wp m.p m.q m.w1 m.h1 m.r1 m.w2 m.h2 m.r2 m.a m.b m.c m.d m.e m.n x y z K := by
  unfold seedR seedB at hk
  cases hv : isM m
  · rw [impl_SeedMelt.eq]
    refine cloned_ok m hs ?_
    have eo : okM m = zeroM := by unfold okM; rw [hv]; rfl
    rw [eo, hv]
    simp only [hv, Bool.false_and, Bool.false_eq_true, if_false] at hk
    exact impl_Disc (fun _ => ifT rfl hk) (fun _ _ _ _ _ _ _ => ifT rfl hk)
  · have f1 : fieldB m.p m.w1 m.h1 = true := by
      unfold isM at hv
      simp only [Bool.and_eq_true] at hv
      exact hv.1
    have hz : sizeB m.w1 m.h1 = true := by
      unfold fieldB at f1
      rw [Bool.and_eq_true] at f1
      exact f1.1
    simp only [hv, Bool.true_and] at hk
    have k0 : discOk x y z = false → K [] [] 0 0 false 0 0 false 0 0 0 0 0 0 false := by
      intro hd
      simp only [hd, Bool.false_eq_true, if_false] at hk; exact hk
    have k1 : discOk x y z = true → K (seedM m x y z).p m.q m.w1 m.h1 m.r1 m.w2 m.h2 m.r2 m.a m.b m.c m.d m.e m.n true := by
      intro hd
      simp only [hd, if_true] at hk; exact hk
    exact Exists.elim (field_nat f1) fun W h => Exists.elim h fun H h => impl_Seed_v m x y z hs hv W H h.1 h.2.1 h.2.2.2.2.2.2.1 h.2.2.2.2.2.2.2 hz k0 k1
theorem seed_law (hp : m.p.length ≤ 9223372036854775807) (hq : m.q.length ≤ 9223372036854775807) {K : Bool → Prop} (hk : K true) :
    laws_FnExactSeedMelt.wp m.p m.q m.w1 m.h1 m.r1 m.w2 m.h2 m.r2 m.a m.b m.c m.d m.e m.n x y z K := by
  rw [laws_FnExactSeedMelt.eq]
  refine szMelt_ok m hp hq (ifD (by decide) hk) fun hs k => ifN (by omega) ?_
  have hr := seed_small m x y z hs
  refine toMelt_ok m hs (spec_Seed m x y z hs (toMelt_ok m hs (impl_Seed m x y z hs ?_)))
  refine eqMelt_self (seedR m x y z) hr (ifF rfl (ifF (by simp) (toMelt_ok m hs (eqMelt_self m hs (ifF rfl ?_)))))
  refine markMelt_ok m hs (ifN (by unfold mkN; omega) (eqMelt_self (seedR m x y z) hr (ifF rfl (ifF (by simp) ?_))))
  refine markMelt_ok (seedR m x y z) hr (heldMelt_ok (seedR m x y z) hr (ifN (by unfold mkN; omega) (ifF (by simp) ?_)))
  refine toMelt_ok m hs (impl_Seed m x y z hs (eqMelt_self (seedR m x y z) hr (ifF rfl (ifF (by simp) ?_))))
  exact heldMelt_ok (seedR m x y z) hr (ifN (by unfold mkN; omega) (ifF (by simp) hk))
end
end Go.K.melts
