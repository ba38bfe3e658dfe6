/- Rounds of what most take. -/
import Derived.Test.YtblejagpndbicaaLNe
set_option linter.unusedSimpArgs false
set_option linter.unusedVariables false
set_option maxRecDepth 10000
set_option maxHeartbeats 4000000
namespace Go.K.grains
open Go.K Go

def roundL (l : List Int) (W H : Nat) : List Int := gridI W (fun x y => mostV l W H x y) (W * H)
section
variable {l : List Int} {W H : Nat}
theorem round_length (l : List Int) (W H : Nat) : (roundL l W H).length = W * H := gridI_length _ _ _
theorem round_geo (g : Geo l W H) : Geo (roundL l W H) W H := by
  refine ⟨g.w1, g.w16, g.h1, g.h16, g.wh, round_length _ _ _, fun v hv => ?_⟩
  simp only [roundL, gridI, List.mem_map, List.mem_range] at hv
  obtain ⟨k, _, rfl⟩ := hv
  exact most_lab g
theorem impl_round (g : Geo l W H) {K : List Int → Int → Int → Prop} (hk : K (roundL l W H) W H) : impl_grown__Grains_majority.wp l (W : Int) (H : Int) (W : Int) (H : Int) K := by
  have hwh := g.wh
  have w16 := g.w16
  have h16 := g.h16
  rw [impl_grown__Grains_majority.eq]
  intro J hJ
  have main := down (Q := fun v => J 0 0 (W : Int) (H : Int) [] (gridI W (fun x y => mostV l W H x y) (W * v)) (H : Int) (v : Int)) (n := H) ?_ ?_ 0 (Nat.zero_le _)
  · simpa [gridI] using main
  · exact hJ _ _ _ _ _ _ _ _ (ifN (by omega) hk)
  · intro v hv ih
    refine hJ _ _ _ _ _ _ _ _ (ifD (by omega) fun J2 hJ2 => ?_)
    have inner := down (Q := fun u => J2 0 0 (W : Int) (H : Int) [] (gridI W (fun x y => mostV l W H x y) (u + W * v)) (v : Int) (H : Int) (v : Int) (W : Int) (u : Int)) (n := W) ?_ ?_ 0 (Nat.zero_le _)
    · rw [Nat.zero_add] at inner; exact inner
    · refine hJ2 _ _ _ _ _ _ _ _ _ _ _ (ifN (by omega) ?_)
      rw [wrap_succ (by omega), show W + W * v = W * (v + 1) by rw [Nat.mul_add]; omega]
      exact ih
    · intro u hu ihu
      have hb := wh_lt hu hv
      have hs := gridI_succ W (fun x y => mostV l W H x y) (u + W * v)
      obtain ⟨g1, g2⟩ := grid_at (y := v) hu
      rw [g1, g2] at hs
      have hs' : gridI W (fun x y => mostV l W H x y) (u + W * v) ++ mostV l W H u v :: List.replicate 0 0 = gridI W (fun x y => mostV l W H x y) (u + 1 + W * v) := by
        rw [show u + 1 + W * v = u + W * v + 1 by omega, hs]; rfl
      have hlen := gridI_length W (fun x y => mostV l W H x y) (u + 1 + W * v)
      refine hJ2 _ _ _ _ _ _ _ _ _ _ _ (ifD (by omega) ?_)
      refine impl_most g hu hv ?_
      rw [hs', hlen, wrap_succ (by omega)]
      exact ⟨by omega, ihu⟩
theorem impl_same {a b : List Int} {w h : Int} (hlen : a.length = b.length) (hl : a.length ≤ 1099511627776) {K : Bool → Prop} (hk : K (a == b)) : impl_SameGrains.wp a b w h w h K := by
  rw [impl_SameGrains.eq]
  refine ifT (by simp) (ifT (by simp) ?_)
  rw [slices_Equal_int64_int64.eq]
  refine ifF (by simp [hlen]) ?_
  intro J hJ
  refine same_loopI (J := fun i => J (a.length : Int) i) hlen hk (fun h => hJ _ _ (ifN (by omega) h)) (fun i hi hp h => hJ _ _ (ifD (by omega) ⟨⟨by omega, by omega⟩, ⟨by omega, by omega⟩, ifT ?_ h⟩)) (fun i hi hp h => hJ _ _ (ifD (by omega) ⟨⟨by omega, by omega⟩, ⟨by omega, by omega⟩, ifF ?_ ?_⟩))
  · rw [Int.toNat_natCast]; simpa using hp
  · rw [Int.toNat_natCast]; simpa using hp
  · rw [wrap_succ (by omega)]; exact h
end
/-- rounds, until nothing changes -/
def roundsU (W H : Nat) : Nat → List Int → Nat → List Int × Nat
  | 0, l, n => (l, n)
  | r + 1, l, n => if (roundL l W H == l) = true then (l, n) else roundsU W H r (roundL l W H) (n + 1)
theorem rounds_geo {W H : Nat} : ∀ (r : Nat) (l : List Int) (n : Nat), Geo l W H → Geo (roundsU W H r l n).1 W H
  | 0, l, n, g => g
  | r + 1, l, n, g => by
    unfold roundsU
    split
    · exact g
    · exact rounds_geo r _ _ (round_geo g)
theorem impl_rounds {W H R : Nat} {J : Int → Int → Int → Int → List Int → List Int → Int → Int → Int → Prop} {K : List Int → Int → Int → Int → Bool → Prop} (hR : R ≤ 64)
    (hJ : ∀ (x5 x6 x7 x8 : Int) (x9 x10 : List Int) (x11 x12 x13 : Int), ifB (Decidable.decide (x13 < x12)) (impl_grown__Grains_majority.wp x9 x5 x6 x5 x6 fun y14 y15 y16 => impl_SameGrains.wp y14 x9 y15 y16 x5 x6 fun y17 => ifB y17 (K x9 x5 x6 x11 Bool.true) (J y15 y16 x7 x8 y14 x10 (Go.IntKind.wrap .i64 (x11 + (1 : Int))) x12 (Go.IntKind.wrap .i64 (x13 + (1 : Int))))) (K x9 x5 x6 x11 Bool.true) → J x5 x6 x7 x8 x9 x10 x11 x12 x13) :
    ∀ (r : Nat) (l : List Int) (n k : Nat), Geo l W H → k + r = R → n ≤ k → K (roundsU W H r l n).1 W H ((roundsU W H r l n).2 : Int) true → J (W : Int) (H : Int) 0 0 l [] (n : Int) (R : Int) (k : Int)
  | 0, l, n, k, g, hk, hn, h => hJ _ _ _ _ _ _ _ _ _ (ifN (by omega) h)
  | r + 1, l, n, k, g, hk, hn, h => by
    refine hJ _ _ _ _ _ _ _ _ _ (ifD (by omega) (impl_round g (impl_same (by rw [round_length, g.len]) (by rw [round_length]; have := g.wh; omega) ?_)))
    unfold roundsU at h
    cases e : (roundL l W H == l)
    · rw [e, if_neg (by decide)] at h
      refine ifF rfl ?_
      rw [wrap_succ (by omega), wrap_succ (by omega)]
      exact impl_rounds hR hJ r _ (n + 1) (k + 1) (round_geo g) (by omega) (by omega) h
    · rw [e, if_pos rfl] at h
      exact ifT rfl h
section
variable (l : List Int) (w h r : Int)
def majB : Bool := validG l w h && inB r 0 64
def majP : List Int × Nat := roundsU w.toNat h.toNat r.toNat l 0
def majL : List Int := if majB l w h r = true then (majP l w h r).1 else []
def majW : Int := if majB l w h r = true then w else 0
def majH : Int := if majB l w h r = true then h else 0
def majN : Int := if majB l w h r = true then ((majP l w h r).2 : Int) else 0
theorem maj_small : (majL l w h r).length ≤ 1099511627776 := by
  unfold majL
  split
  · rename_i hb
    unfold majB at hb
    rw [Bool.and_eq_true] at hb
    obtain ⟨W, H, rfl, rfl, g⟩ := valid_nat hb.1
    unfold majP
    have g2 := rounds_geo (W := W) (H := H) r.toNat l 0 g
    rw [Int.toNat_natCast, Int.toNat_natCast, g2.len]
    have := g.wh
    omega
  · simp
theorem impl_Maj (hl : l.length ≤ 1099511627776) {K : List Int → Int → Int → Int → Bool → Prop} (hk : K (majL l w h r) (majW l w h r) (majH l w h r) (majN l w h r) (majB l w h r)) : impl_MajorityGrains.wp l w h r K := by
  rw [impl_MajorityGrains.eq]
  refine impl_is hl ?_
  unfold majL majW majH majN majB at hk
  cases hv : validG l w h
  · simp only [hv, Bool.false_and, Bool.false_eq_true, if_false] at hk; exact ifT rfl hk
  refine ifF rfl (impl_in ?_)
  cases hr : inB r 0 64
  · simp only [hr, Bool.and_false, Bool.false_eq_true, if_false] at hk; exact ifT rfl hk
  simp only [hv, hr, Bool.true_and, if_true] at hk
  rw [inB_iff] at hr
  obtain ⟨W, H, rfl, rfl, g⟩ := valid_nat hv
  obtain ⟨R, rfl⟩ : ∃ R : Nat, r = (R : Int) := ⟨r.toNat, by omega⟩
  refine ifF rfl ?_
  rw [slices_Clone_int64_int64.eq]
  unfold majP at hk
  rw [Int.toNat_natCast, Int.toNat_natCast, Int.toNat_natCast] at hk
  have hne : l.length ≠ 0 := by
    rw [g.len]
    have := Nat.mul_pos g.w1 g.h1
    omega
  refine ⟨hne, by simpa using hl, ?_⟩
  intro J hJ
  exact impl_rounds (J := J) (by omega) hJ R l 0 0 g (by omega) (by omega) hk
end
end Go.K.grains
