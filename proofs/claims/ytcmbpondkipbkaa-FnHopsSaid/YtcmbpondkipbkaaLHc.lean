/- Atoms that hop. -/
import Derived.Test.YtcmbpondkipbkaaLHb
set_option linter.unusedSimpArgs false
set_option linter.unusedVariables false
set_option maxRecDepth 10000
set_option maxHeartbeats 4000000
namespace Go.K.heights
open Go.K Go

def pairI (l : List Int) (W H : Nat) (i : Nat) : Int :=
  Go.IntKind.wrap .i64 (min (l.getD i 0) (l.getD (cellN W H (((i % W : Nat) : Int) + 1) ((i / W : Nat) : Int)) 0) + min (l.getD i 0) (l.getD (cellN W H ((i % W : Nat) : Int) (((i / W : Nat) : Int) + 1)) 0))
def sumU (l : List Int) (W H : Nat) : Nat → Int
  | 0 => 0
  | i + 1 => Go.IntKind.wrap .i64 (sumU l W H i + pairI l W H i)
def bondsL (l : List Int) (W H : Nat) : Int := sumU l W H (W * H)

section
variable {l : List Int} {W H : Nat}
theorem impl_bonds (w2 : 2 ≤ W) (w16 : W ≤ 16) (h2 : 2 ≤ H) (h16 : H ≤ 16) (hl : l.length = W * H) {K : Int → Prop} (hk : K (bondsL l W H)) : impl_Heights_bonds.wp l (W : Int) (H : Int) K := by
  have hwh : W * H ≤ 256 := Nat.mul_le_mul w16 h16
  rw [impl_Heights_bonds.eq, impl_Heights_pairs__Heights_bonds_1.eq, hl]
  intro J hJ
  refine down (Q := fun i => J (W : Int) (H : Int) (sumU l W H i) ((W * H : Nat) : Int) (i : Int)) (n := W * H) (hJ _ _ _ _ _ (ifN (by omega) hk)) (fun i hi ih => hJ _ _ _ _ _ (ifD (by omega) ⟨⟨by omega, by omega⟩, by omega, by omega, ?_⟩)) 0 (Nat.zero_le _)
  have hx : i % W < W := Nat.mod_lt _ (by omega)
  have hy : i / W < H := Nat.div_lt_of_lt_mul hi
  have c1 := cell_lt (W := W) (H := H) (by omega) (by omega) (((i % W : Nat) : Int) + 1) ((i / W : Nat) : Int)
  have c2 := cell_lt (W := W) (H := H) (by omega) (by omega) ((i % W : Nat) : Int) (((i / W : Nat) : Int) + 1)
  have mm : ∀ x y : Int, mmI false x y = min x y := by
    intro x y; show minI x y = min x y; unfold minI; split <;> omega
  rw [tmod_nat, tdiv_nat, Int.toNat_natCast]
  have ih' : J (W : Int) (H : Int) (Go.IntKind.wrap .i64 (sumU l W H i + Go.IntKind.wrap .i64 (min (l.getD i 0) (l.getD (cellN W H (((i % W : Nat) : Int) + 1) ((i / W : Nat) : Int)) 0) + min (l.getD i 0) (l.getD (cellN W H ((i % W : Nat) : Int) (((i / W : Nat) : Int) + 1)) 0)))) ((W * H : Nat) : Int) ((i + 1 : Nat) : Int) := ih
  clear ih
  generalize i % W = p at *
  generalize i / W = q at *
  have a1 : Go.IntKind.wrap .i64 ((p : Int) + 1) = (p : Int) + 1 := wrap64 (by omega) (by omega)
  have a2 : Go.IntKind.wrap .i64 (q : Int) = (q : Int) := wrap_nat (by omega)
  have a3 : Go.IntKind.wrap .i64 ((q : Int) + 1) = (q : Int) + 1 := wrap64 (by omega) (by omega)
  rw [a1, a2, a3, impl_Heights_top.eq]
  refine impl_cell w2 w16 h2 h16 ⟨by omega, by omega⟩ ⟨by omega, by omega⟩ ⟨⟨by omega, by omega⟩, ?_⟩
  rw [impl_Heights_bonds_1.eq, impl_Heights_top.eq]
  refine impl_cell w2 w16 h2 h16 ⟨by omega, by omega⟩ ⟨by omega, by omega⟩ ⟨⟨by omega, by omega⟩, ?_⟩
  rw [impl_Heights_bonds_1.eq, mm, mm, Int.toNat_natCast, Int.toNat_natCast, wrap_succ (by omega)]
  exact ih'
end

structure HopR where
  l : List Int
  w : Int
  h : Int
  s : Int
  b : Bool
def noHop : HopR := ⟨[], 0, 0, 0, false⟩
def dn1 (l : List Int) (i : Nat) : List Int := l.set i (Go.IntKind.wrap .i64 (l.getD i 0 - 1))
def hopE (l m : List Int) (W H : Nat) : HopR := if validH m W H = true then ⟨m, W, H, Go.IntKind.wrap .i64 (bondsL l W H - bondsL m W H), true⟩ else noHop
def hopN (l : List Int) (W H x y : Nat) (way : Nat) : HopR :=
  if (l.getD (x + W * y) 0 == 0) = true then noHop else hopE l (up1 (dn1 l (x + W * y)) ((nearL W H x y).getD way 0).toNat) W H
def hopR (l : List Int) (w h x y way : Int) : HopR :=
  if hasB l w h x y = true then if inB way 0 3 = true then hopN l w.toNat h.toNat x.toNat y.toNat way.toNat else noHop else noHop
theorem hop_len (l : List Int) (i j : Nat) : (up1 (dn1 l i) j).length = l.length := by simp [up1, dn1]
theorem hopR_length {l : List Int} {w h x y way : Int} (hl : l.length ≤ 1099511627776) : (hopR l w h x y way).l.length ≤ 1099511627776 := by
  unfold hopR
  split
  · split
    · unfold hopN
      split
      · simp [noHop]
      · unfold hopE
        split
        · show (up1 _ _).length ≤ _
          rw [hop_len]; exact hl
        · simp [noHop]
    · simp [noHop]
  · simp [noHop]
theorem way_nat {way : Int} (h : inB way 0 3 = true) : ∃ n : Nat, way = (n : Int) ∧ n < 4 := by
  have := inB_iff.1 h
  exact ⟨way.toNat, by omega, by omega⟩
theorem impl_Hop {l : List Int} {w h x y way : Int} {K : List Int → Int → Int → Int → Bool → Prop} (hl : l.length ≤ 1099511627776)
    (hk : K (hopR l w h x y way).l (hopR l w h x y way).w (hopR l w h x y way).h (hopR l w h x y way).s (hopR l w h x y way).b) : impl_HopTo.wp l w h x y way K := by
  rw [impl_HopTo.eq]
  refine impl_has hl ?_
  unfold hopR at hk
  cases hv : hasB l w h x y
  · simp only [hv, Bool.false_eq_true, if_false] at hk; exact ifT rfl hk
  simp only [hv, if_true] at hk
  refine ifF rfl (impl_in ?_)
  cases hr : inB way 0 3
  · simp only [hr, Bool.false_eq_true, if_false] at hk; exact ifT rfl hk
  simp only [hr, if_true] at hk
  refine ifF rfl ?_
  obtain ⟨n, rfl, hn⟩ := way_nat hr
  obtain ⟨W, H, X, Y, g, rfl, rfl, hX, hY⟩ := has_nat hv
  obtain ⟨rfl, rfl, w2, w16, h2, h16, wh, len⟩ := g
  simp only [Int.toNat_natCast] at hk
  have hb := wh_lt hX hY
  have ec : cellN W H (X : Int) (Y : Int) = X + W * Y := by unfold cellN; rw [pl_self hX, pl_self hY]
  rw [impl_Heights_top.eq]
  refine impl_cell w2 w16 h2 h16 ⟨by omega, by omega⟩ ⟨by omega, by omega⟩ ?_
  rw [ec, Int.toNat_natCast]
  refine ⟨⟨by omega, by omega⟩, ?_⟩
  unfold hopN at hk
  refine ifB_of (fun e => ?_) (fun e => ?_)
  · rw [e] at hk; exact hk
  rw [e] at hk
  simp only [Bool.false_eq_true, if_false] at hk
  refine cloned_ok (by omega) hl ?_
  refine impl_cell w2 w16 h2 h16 ⟨by omega, by omega⟩ ⟨by omega, by omega⟩ ?_
  rw [ec, Int.toNat_natCast]
  refine ⟨⟨by omega, by omega⟩, ⟨by omega, by omega⟩, ?_⟩
  refine impl_near w2 w16 h2 h16 hX hY ?_
  have hln : (nearL W H X Y).length = 4 := rfl
  obtain ⟨k, ek, hk'⟩ := near_mem (by omega) (by omega) (getD_mem 0 (show n < (nearL W H X Y).length by omega))
  rw [ek, Int.toNat_natCast] at hk
  rw [Int.toNat_natCast, ek, Int.toNat_natCast, hln]
  refine ⟨⟨by omega, by omega⟩, ⟨by omega, by omega⟩, ⟨by omega, by omega⟩, ?_⟩
  have hlen := hop_len l (X + W * Y) k
  refine impl_is (l := up1 (dn1 l (X + W * Y)) k) (by rw [hlen]; exact hl) ?_
  unfold hopE at hk
  refine ifB_of (fun e => ?_) (fun e => ?_)
  · rw [Bool.not_eq_true'] at e
    rw [e] at hk; exact hk
  · rw [Bool.not_eq_false'] at e
    rw [e] at hk
    exact impl_bonds w2 w16 h2 h16 len (impl_bonds (l := up1 (dn1 l (X + W * Y)) k) w2 w16 h2 h16 (by rw [hlen]; exact len) hk)
end Go.K.heights
