/- Rain. -/
import Derived.Test.YtcmbpondkipbkaaL2
set_option linter.unusedSimpArgs false
set_option linter.unusedVariables false
set_option maxRecDepth 10000
set_option maxHeartbeats 4000000
namespace Go.K.heights
open Go.K Go

def nxI (s : Int) : Int := Int.tmod (Go.IntKind.wrap .i64 (Go.IntKind.wrap .i64 ((1103515245 : Int) * s) + (12345 : Int))) (2147483648 : Int)
def drI (s n : Int) : Int := Int.tmod (Go.IntKind.wrap .i64 (Int.tdiv (nxI s) (65536 : Int))) n
theorem nx_ok {s : Int} (h1 : 0 ≤ s) (h2 : s ≤ 2147483647) : 0 ≤ nxI s ∧ nxI s ≤ 2147483647 := by
  unfold nxI
  rw [wrap64 (x := 1103515245 * s) (by omega) (by omega), wrap64 (by omega) (by omega), Int.tmod_eq_emod_of_nonneg (by omega)]
  omega
theorem dr_ok {s : Int} {n : Nat} (h1 : 0 ≤ s) (h2 : s ≤ 2147483647) (hn : 0 < n) : ∃ k : Nat, drI s (n : Int) = (k : Int) ∧ k < n := by
  obtain ⟨h3, h4⟩ := nx_ok h1 h2
  unfold drI
  obtain ⟨z, hz⟩ : ∃ z : Nat, nxI s = (z : Int) := ⟨(nxI s).toNat, by omega⟩
  rw [hz, show (65536 : Int) = ((65536 : Nat) : Int) from rfl, tdiv_nat, wrap_nat (by omega), tmod_nat]
  exact ⟨_, rfl, Nat.mod_lt _ hn⟩
theorem spec_draw {s n : Int} {K : Int → Int → Prop} (hn : n ≠ 0) (hk : K (drI s n) (nxI s)) : spec_l05Draw.wp s n K := by
  rw [spec_l05Draw.eq, spec_l05Next.eq]
  exact ⟨hn, hk⟩
theorem impl_draw' {s n : Int} {K : Int → Int → Prop} (hn : n ≠ 0) (hk : K (nxI s) (drI s n)) : impl_use.wp s n K := by
  rw [impl_use.eq, impl_draw.eq]
  exact ⟨hn, hk⟩

/-- the rain, drop by drop -/
def rainU (W H : Nat) (rule : Int) : Nat → List Int × Int → List Int × Int
  | 0, p => p
  | n + 1, p => let q := rainU W H rule n p
    (fallL q.1 W H rule (drI q.2 W).toNat (drI (nxI q.2) H).toNat, nxI (nxI q.2))
theorem rainU_inv {W H : Nat} {rule : Int} {l : List Int} {s : Int} (h1 : 0 ≤ s) (h2 : s ≤ 2147483647) : ∀ n, (rainU W H rule n (l, s)).1.length = l.length ∧ 0 ≤ (rainU W H rule n (l, s)).2 ∧ (rainU W H rule n (l, s)).2 ≤ 2147483647
  | 0 => ⟨rfl, h1, h2⟩
  | n + 1 => by
    obtain ⟨a, b, c⟩ := rainU_inv (W := W) (H := H) (rule := rule) (l := l) h1 h2 n
    obtain ⟨d, e⟩ := nx_ok b c
    obtain ⟨f, g⟩ := nx_ok d e
    exact ⟨by show (fallL _ W H rule _ _).length = _; rw [fallL_length]; exact a, f, g⟩

structure RainR where
  l : List Int
  w : Int
  h : Int
  s : Int
  b : Bool
def noRain : RainR := ⟨[], 0, 0, 0, false⟩
def rainOk (l : List Int) (w h rule count seed : Int) : Bool := validH l w h && (inB rule 0 2 && (inB count 0 500 && inB seed 0 2147483647))
def rainE (l : List Int) (w h : Int) (s : Int) : RainR := if validH l w h = true then ⟨l, w, h, s, true⟩ else noRain
def rainR (l : List Int) (w h rule count seed : Int) : RainR :=
  if rainOk l w h rule count seed = true then rainE (rainU w.toNat h.toNat rule count.toNat (l, seed)).1 w h (rainU w.toNat h.toNat rule count.toNat (l, seed)).2 else noRain
theorem rainR_length {l : List Int} {w h rule count seed : Int} (hl : l.length ≤ 1099511627776) : (rainR l w h rule count seed).l.length ≤ 1099511627776 := by
  unfold rainR
  split
  · rename_i ho
    simp only [rainOk, Bool.and_eq_true, inB_iff] at ho
    have := (rainU_inv (W := w.toNat) (H := h.toNat) (rule := rule) (l := l) ho.2.2.2.1 ho.2.2.2.2 count.toNat).1
    unfold rainE
    split
    · show (rainU w.toNat h.toNat rule count.toNat (l, seed)).1.length ≤ _
      rw [this]; exact hl
    · simp [noRain]
  · simp [noRain]
theorem rain_facts {l : List Int} {w h rule count seed : Int} (ho : rainOk l w h rule count seed = true) : ∃ W H n : Nat, Geo l w h W H ∧ count = (n : Int) ∧ n ≤ 500 ∧ inB rule 0 2 = true ∧ 0 ≤ seed ∧ seed ≤ 2147483647 := by
  simp only [rainOk, Bool.and_eq_true] at ho
  obtain ⟨hv, h1, h2, h3⟩ := ho
  obtain ⟨W, H, rfl, rfl, a1, a2, a3, a4, a5, a6⟩ := valid_nat hv
  have h2 := inB_iff.1 h2
  have h3 := inB_iff.1 h3
  exact ⟨W, H, count.toNat, ⟨rfl, rfl, a1, a2, a3, a4, a5, a6⟩, by omega, by omega, h1, h3.1, h3.2⟩

theorem spec_Rain {l : List Int} {w h rule count seed : Int} {K : List Int → Int → Int → Int → Bool → Prop} (hl : l.length ≤ 1099511627776)
    (hk : K (rainR l w h rule count seed).l (rainR l w h rule count seed).w (rainR l w h rule count seed).h (rainR l w h rule count seed).s (rainR l w h rule count seed).b) : spec_RainOn.wp l w h rule count seed K := by
  rw [spec_RainOn.eq]
  refine spec_is hl ?_
  unfold rainR at hk
  cases hv : validH l w h
  · have ho : rainOk l w h rule count seed = false := by simp [rainOk, hv]
    rw [ho] at hk; exact ifT rfl hk
  refine ifF rfl ?_
  rw [spec_l05Rule.eq]
  refine spec_in ?_
  cases hr : inB rule 0 2
  · have ho : rainOk l w h rule count seed = false := by simp [rainOk, hr]
    rw [ho] at hk; exact ifT rfl hk
  refine ifF rfl (spec_in ?_)
  cases hc : inB count 0 500
  · have ho : rainOk l w h rule count seed = false := by simp [rainOk, hc]
    rw [ho] at hk; exact ifT rfl hk
  refine ifF rfl ?_
  rw [spec_l05Seed.eq]
  refine spec_in ?_
  cases hs : inB seed 0 2147483647
  · have ho : rainOk l w h rule count seed = false := by simp [rainOk, hs]
    rw [ho] at hk; exact ifT rfl hk
  have ho : rainOk l w h rule count seed = true := by simp [rainOk, hv, hr, hc, hs]
  rw [ho] at hk
  refine ifF rfl (own_ok hl ?_)
  obtain ⟨W, H, n, g, rfl, hn, _, s1, s2⟩ := rain_facts ho
  obtain ⟨rfl, rfl, w2, w16, h2, h16, wh, len⟩ := g
  simp only [if_true, Int.toNat_natCast] at hk
  intro J hJ
  have main := down (Q := fun i => J (W : Int) (H : Int) 0 0 (W : Int) (H : Int) [] (rainU W H rule i (l, seed)).1 ((n - i : Nat) : Int) (rainU W H rule i (l, seed)).2) (n := n) (hJ _ _ _ _ _ _ _ _ _ _ (ifN (by omega) ?_)) (fun i hi ih => ?_) 0 (Nat.zero_le _)
  · exact main
  · have hlen := (rainU_inv (W := W) (H := H) (rule := rule) (l := l) s1 s2 n).1
    refine spec_is (by rw [hlen]; exact hl) ?_
    unfold rainE at hk
    refine ifB_of (fun e => ?_) (fun e => ?_)
    · rw [Bool.not_eq_true'] at e
      rw [e] at hk; exact hk
    · rw [Bool.not_eq_false'] at e
      rw [e] at hk; exact hk
  · obtain ⟨a, b, c⟩ := rainU_inv (W := W) (H := H) (rule := rule) (l := l) s1 s2 i
    obtain ⟨d, e⟩ := nx_ok b c
    obtain ⟨X, eX, hX⟩ := dr_ok b c (show 0 < W by omega)
    obtain ⟨Y, eY, hY⟩ := dr_ok d e (show 0 < H by omega)
    have hr : rainU W H rule (i + 1) (l, seed) = (fallL (rainU W H rule i (l, seed)).1 W H rule X Y, nxI (nxI (rainU W H rule i (l, seed)).2)) := by
      show (fallL _ W H rule (drI _ W).toNat (drI (nxI _) H).toNat, _) = _
      rw [eX, eY, Int.toNat_natCast, Int.toNat_natCast]
    rw [hr] at ih
    have hb := wh_lt hX hY
    have e1 : Go.IntKind.wrap .i64 ((W : Int) * (Y : Int)) = ((W * Y : Nat) : Int) := by rw [← Int.natCast_mul, wrap_nat (by omega)]
    have e2 : Go.IntKind.wrap .i64 ((X : Int) + ((W * Y : Nat) : Int)) = ((X + W * Y : Nat) : Int) := by rw [← Int.natCast_add, wrap_nat (by omega)]
    refine hJ _ _ _ _ _ _ _ _ _ _ (ifD (by omega) (spec_draw (by omega) (spec_draw (by omega) ?_)))
    rw [eX, eY, e1, e2]
    refine spec_fall w2 w16 h2 h16 (by rw [a]; exact len) hX hY ?_
    rw [wrap64 (by omega) (by omega), show (((n - i : Nat) : Int) - 1) = ((n - (i + 1) : Nat) : Int) by omega]
    exact ih
theorem impl_Rain {l : List Int} {w h rule count seed : Int} {K : List Int → Int → Int → Int → Bool → Prop} (hl : l.length ≤ 1099511627776)
    (hk : K (rainR l w h rule count seed).l (rainR l w h rule count seed).w (rainR l w h rule count seed).h (rainR l w h rule count seed).s (rainR l w h rule count seed).b) : impl_RainOn.wp l w h rule count seed K := by
  rw [impl_RainOn.eq]
  refine impl_is hl ?_
  unfold rainR at hk
  cases hv : validH l w h
  · have ho : rainOk l w h rule count seed = false := by simp [rainOk, hv]
    rw [ho] at hk; exact ifT rfl hk
  refine ifF rfl ?_
  refine impl_in ?_
  cases hr : inB rule 0 2
  · have ho : rainOk l w h rule count seed = false := by simp [rainOk, hr]
    rw [ho] at hk; exact ifT rfl hk
  refine ifF rfl (impl_in ?_)
  cases hc : inB count 0 500
  · have ho : rainOk l w h rule count seed = false := by simp [rainOk, hc]
    rw [ho] at hk; exact ifT rfl hk
  refine ifF rfl ?_
  rw [impl_isSeed.eq]
  refine impl_in ?_
  cases hs : inB seed 0 2147483647
  · have ho : rainOk l w h rule count seed = false := by simp [rainOk, hs]
    rw [ho] at hk; exact ifT rfl hk
  have ho : rainOk l w h rule count seed = true := by simp [rainOk, hv, hr, hc, hs]
  rw [ho] at hk
  obtain ⟨W, H, n, g, rfl, hn, hr', s1, s2⟩ := rain_facts ho
  obtain ⟨rfl, rfl, w2, w16, h2, h16, wh, len⟩ := g
  have hpos : 2 * 2 ≤ W * H := Nat.mul_le_mul w2 h2
  refine ifF rfl (cloned_ok (by omega) hl ?_)
  simp only [if_true, Int.toNat_natCast] at hk
  intro J hJ
  have main := down (Q := fun i => J (W : Int) (H : Int) (rainU W H rule i (l, seed)).2 0 0 (rainU W H rule i (l, seed)).1 [] (n : Int) (i : Int)) (n := n) (hJ _ _ _ _ _ _ _ _ _ (ifN (by omega) ?_)) (fun i hi ih => ?_) 0 (Nat.zero_le _)
  · exact main
  · have hlen := (rainU_inv (W := W) (H := H) (rule := rule) (l := l) s1 s2 n).1
    refine impl_is (by rw [hlen]; exact hl) ?_
    unfold rainE at hk
    refine ifB_of (fun e => ?_) (fun e => ?_)
    · rw [Bool.not_eq_true'] at e
      rw [e] at hk; exact hk
    · rw [Bool.not_eq_false'] at e
      rw [e] at hk; exact hk
  · obtain ⟨a, b, c⟩ := rainU_inv (W := W) (H := H) (rule := rule) (l := l) s1 s2 i
    obtain ⟨d, e⟩ := nx_ok b c
    obtain ⟨X, eX, hX⟩ := dr_ok b c (show 0 < W by omega)
    obtain ⟨Y, eY, hY⟩ := dr_ok d e (show 0 < H by omega)
    have hru : rainU W H rule (i + 1) (l, seed) = (fallL (rainU W H rule i (l, seed)).1 W H rule X Y, nxI (nxI (rainU W H rule i (l, seed)).2)) := by
      show (fallL _ W H rule (drI _ W).toNat (drI (nxI _) H).toNat, _) = _
      rw [eX, eY, Int.toNat_natCast, Int.toNat_natCast]
    rw [hru] at ih
    refine hJ _ _ _ _ _ _ _ _ _ (ifD (by omega) (impl_draw' (by omega) (impl_draw' (by omega) ?_)))
    rw [eX, eY, wrap_succ (by omega)]
    exact impl_fell w2 w16 h2 h16 (by rw [a]; exact len) hX hY hr' ih
theorem rain_law {l : List Int} {w h rule count seed : Int} {K : Bool → Prop} (hl : l.length ≤ 9223372036854775807) (hk : K true) : laws_FnExactRainOn.wp l w h rule count seed K := by
  rw [laws_FnExactRainOn.eq]
  refine szH_ok (m := 1048576) hl (by decide) (fun _ => ifD (by decide) hk) fun hlen => ifN (by omega) ?_
  have hl : l.length ≤ 1099511627776 := by omega
  have hr : (rainR l w h rule count seed).l.length ≤ 1099511627776 := rainR_length hl
  refine toH_ok hl (spec_Rain hl (toH_ok hl (impl_Rain hl (eqH_self hr (ifF rfl (ifF (by simp) (ifF (by simp) (toH_ok hl (eqH_self hl (ifF rfl ?_))))))))))
  refine markH_ok (k := 1) hl (by decide) (ifN (by omega) (eqH_self hr (ifF rfl (ifF (by simp) (ifF (by simp) ?_)))))
  refine markH_ok (k := 1) hr (by decide) (heldH_ok (k := 1) hr (by decide) (ifN (by omega) (ifF (by simp) ?_)))
  refine toH_ok hl (impl_Rain hl (eqH_self hr (ifF rfl (ifF (by simp) (ifF (by simp) ?_)))))
  exact heldH_ok (k := 1) hr (by decide) (ifN (by omega) (ifF (by simp) hk))
end Go.K.heights
