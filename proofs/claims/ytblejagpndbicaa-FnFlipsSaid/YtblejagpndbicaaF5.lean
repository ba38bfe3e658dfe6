/- Fields of cells that meet at their edges; folds. -/
import Derived.Test.YtblejagpndbicaaF3
set_option linter.unusedSimpArgs false
set_option linter.unusedVariables false
set_option maxRecDepth 10000
namespace Go.K

def foldU {α β : Type} (f : β → α → β) (s : β) (L : List α) (i : Nat) : β := (L.take i).foldl f s
theorem foldU_zero {α β : Type} (f : β → α → β) (s : β) (L : List α) : foldU f s L 0 = s := by simp [foldU]
theorem foldU_succ {α β : Type} {f : β → α → β} {s : β} {L : List α} {i : Nat} (d : α) (h : i < L.length) : foldU f s L (i + 1) = f (foldU f s L i) (L.getD i d) := by
  have e : L.getD i d = L[i] := by simp [List.getD, h]
  unfold foldU
  rw [List.take_succ_eq_append_getElem h, List.foldl_append, e]; rfl
theorem getD_mem {α : Type} {L : List α} {i : Nat} (d : α) (h : i < L.length) : L.getD i d ∈ L := by
  have e : L.getD i d = L[i] := by simp [List.getD, h]
  rw [e]; exact List.getElem_mem h

def inB (v a b : Int) : Bool := decide (a ≤ v) && decide (v ≤ b)
def inT (v a b : Int) (K : Bool → Prop) : Prop := ifB (decide (v ≥ a)) (K (decide (v ≤ b))) (K false)
def inT' (v a b : Int) (K : Bool → Prop) : Prop := ifB (decide (a ≤ v)) (K (decide (v ≤ b))) (K false)
theorem inT_ok {v a b : Int} {K : Bool → Prop} (h : K (inB v a b)) : inT v a b K := by
  unfold inB at h
  by_cases h1 : a ≤ v
  · rw [decide_eq_true h1, Bool.true_and] at h; exact ifD h1 h
  · rw [decide_eq_false h1, Bool.false_and] at h; exact ifN h1 h
theorem inT'_ok {v a b : Int} {K : Bool → Prop} (h : K (inB v a b)) : inT' v a b K := inT_ok h
theorem inB_iff {v a b : Int} : inB v a b = true ↔ a ≤ v ∧ v ≤ b := by simp [inB]

/-! ### a place in a ring -/
def pl (W : Nat) (x : Int) : Nat := (x + W).toNat % W
theorem pl_lt {W : Nat} (h : 0 < W) (x : Int) : pl W x < W := Nat.mod_lt _ h
theorem pl_eq {W : Nat} {x : Int} (h0 : 2 ≤ W) (hW : W ≤ 1048576) (h1 : -1 ≤ x) (h2 : x ≤ W) : Int.tmod (Go.IntKind.wrap .i64 (Int.tmod x W + W)) W = (pl W x : Int) := by
  unfold pl
  by_cases hn : x = -1
  · subst hn
    have e1 : Int.tmod (-1 : Int) (W : Int) = -1 := by
      rw [Int.neg_tmod, Int.tmod_eq_of_lt (by decide) (by omega)]
    rw [e1, wrap64 (by omega) (by omega)]
    rw [show (-1 : Int) + (W : Int) = ((W - 1 : Nat) : Int) by omega, tmod_nat, Int.toNat_natCast]
  · obtain ⟨n, rfl⟩ : ∃ n : Nat, x = (n : Int) := ⟨x.toNat, by omega⟩
    rw [tmod_nat]
    have hm : n % W < W := Nat.mod_lt _ (by omega)
    rw [wrap64 (by omega) (by omega)]
    rw [show (((n % W : Nat) : Int) + (W : Int)) = ((n % W + W : Nat) : Int) by omega, tmod_nat]
    rw [show ((n : Int) + (W : Int)).toNat = n + W by omega]
    congr 1
    rw [Nat.add_mod_right, Nat.add_mod_right, Nat.mod_mod]
theorem pl_self {W x : Nat} (h : x < W) : pl W (x : Int) = x := by
  unfold pl
  rw [show ((x : Int) + (W : Int)).toNat = x + W by omega, Nat.add_mod_right, Nat.mod_eq_of_lt h]
theorem pl_prev {W x : Nat} (h0 : 2 ≤ W) (h : x < W) : pl W ((x : Int) - 1) ≠ x := by
  unfold pl
  by_cases hx : x = 0
  · subst hx
    rw [show (((0 : Nat) : Int) - 1 + (W : Int)).toNat = W - 1 by omega, Nat.mod_eq_of_lt (by omega)]
    omega
  · rw [show ((x : Int) - 1 + (W : Int)).toNat = x - 1 + W by omega, Nat.add_mod_right, Nat.mod_eq_of_lt (by omega)]
    omega
theorem pl_next {W x : Nat} (h0 : 2 ≤ W) (h : x < W) : pl W ((x : Int) + 1) ≠ x := by
  unfold pl
  by_cases hx : x + 1 = W
  · rw [show ((x : Int) + 1 + (W : Int)).toNat = W + W by omega, Nat.add_mod_right, Nat.mod_self]
    omega
  · rw [show ((x : Int) + 1 + (W : Int)).toNat = x + 1 + W by omega, Nat.add_mod_right, Nat.mod_eq_of_lt (by omega)]
    omega
def cellN (W H : Nat) (x y : Int) : Nat := pl W x + W * pl H y
theorem wh_lt {W H x y : Nat} (hx : x < W) (hy : y < H) : x + W * y < W * H := by
  have := Nat.mul_le_mul_left W (show y + 1 ≤ H by omega)
  rw [Nat.mul_add] at this; omega
theorem cell_lt {W H : Nat} (hW : 0 < W) (hH : 0 < H) (x y : Int) : cellN W H x y < W * H := wh_lt (pl_lt hW x) (pl_lt hH y)
theorem cell_inj {W x y x' y' : Nat} (hx : x < W) (hx' : x' < W) (h : x + W * y = x' + W * y') : x = x' ∧ y = y' := by
  obtain ⟨e1, e2⟩ := grid_at (y := y) hx
  obtain ⟨e3, e4⟩ := grid_at (y := y') hx'
  rw [h] at e1 e2
  exact ⟨e1.symm.trans e3, e2.symm.trans e4⟩
def nearL (W H : Nat) (x y : Int) : List Int := [(cellN W H (x - 1) y : Int), (cellN W H (x + 1) y : Int), (cellN W H x (y - 1) : Int), (cellN W H x (y + 1) : Int)]
theorem near_mem {W H : Nat} (hW : 0 < W) (hH : 0 < H) {x y k : Int} (h : k ∈ nearL W H x y) : ∃ j : Nat, k = (j : Int) ∧ j < W * H := by
  simp only [nearL, List.mem_cons, List.not_mem_nil, or_false] at h
  rcases h with rfl | rfl | rfl | rfl <;> exact ⟨_, rfl, cell_lt hW hH _ _⟩
theorem near_ne {W H x y : Nat} (hW : 2 ≤ W) (hH : 2 ≤ H) (hx : x < W) (hy : y < H) {k : Int} (h : k ∈ nearL W H x y) : k ≠ ((x + W * y : Nat) : Int) := by
  have ex := pl_self hx
  have ey := pl_self hy
  simp only [nearL, List.mem_cons, List.not_mem_nil, or_false] at h
  have go : ∀ {a b : Nat}, a < W → (a ≠ x ∨ b ≠ y) → ((a + W * b : Nat) : Int) ≠ ((x + W * y : Nat) : Int) := by
    intro a b ha hne he
    have he' : a + W * b = x + W * y := by omega
    obtain ⟨h1, h2⟩ := cell_inj ha hx he'
    rcases hne with h | h
    · exact h h1
    · exact h h2
  rcases h with rfl | rfl | rfl | rfl
  · exact go (pl_lt (by omega) _) (.inl (pl_prev hW hx))
  · exact go (pl_lt (by omega) _) (.inl (pl_next hW hx))
  · exact go (pl_lt (by omega) _) (.inr (pl_prev hH hy))
  · exact go (pl_lt (by omega) _) (.inr (pl_next hH hy))
end Go.K
