/- Sums over rows and rings; what a source draws. -/
import Derived.Test.YtblejagpndbicaaF5
set_option linter.unusedSimpArgs false
set_option linter.unusedVariables false
set_option maxRecDepth 10000
namespace Go.K

def sumN (f : Nat → Int) : Nat → Int
  | 0 => 0
  | n + 1 => sumN f n + f n
theorem sumN_congr {f g : Nat → Int} : ∀ {n : Nat}, (∀ i, i < n → f i = g i) → sumN f n = sumN g n
  | 0, _ => rfl
  | n + 1, h => by
    show sumN f n + f n = sumN g n + g n
    rw [sumN_congr fun i hi => h i (by omega), h n (by omega)]
theorem sumN_add (f g : Nat → Int) : ∀ n, sumN (fun i => f i + g i) n = sumN f n + sumN g n
  | 0 => rfl
  | n + 1 => by
    show sumN (fun i => f i + g i) n + (f n + g n) = sumN f n + f n + (sumN g n + g n)
    rw [sumN_add f g n]; omega
theorem sumN_split (f : Nat → Int) (n : Nat) : ∀ m, sumN f (n + m) = sumN f n + sumN (fun i => f (n + i)) m
  | 0 => by simp [sumN]
  | m + 1 => by
    show sumN f (n + m) + f (n + m) = sumN f n + (sumN (fun i => f (n + i)) m + f (n + m))
    rw [sumN_split f n m]; omega
theorem sumN_rows (f : Nat → Int) (W : Nat) : ∀ H, sumN f (W * H) = sumN (fun y => sumN (fun x => f (x + W * y)) W) H
  | 0 => rfl
  | H + 1 => by
    show sumN f (W * H + W) = sumN (fun y => sumN (fun x => f (x + W * y)) W) H + sumN (fun x => f (x + W * H)) W
    rw [sumN_split, sumN_rows f W H]
    congr 1
    exact sumN_congr fun i _ => by rw [Nat.add_comm]
theorem sumN_front (f : Nat → Int) : ∀ n, sumN f (n + 1) = f 0 + sumN (fun i => f (i + 1)) n
  | 0 => by simp [sumN]
  | n + 1 => by
    show sumN f (n + 1) + f (n + 1) = f 0 + (sumN (fun i => f (i + 1)) n + f (n + 1))
    rw [sumN_front f n]; omega
theorem sumN_bound {f : Nat → Int} {a b : Int} : ∀ {n : Nat}, (∀ i, i < n → a ≤ f i ∧ f i ≤ b) → a * n ≤ sumN f n ∧ sumN f n ≤ b * n
  | 0, _ => by simp [sumN]
  | n + 1, h => by
    have h1 := sumN_bound (n := n) fun i hi => h i (by omega)
    have h2 := h n (by omega)
    have e1 : a * ((n + 1 : Nat) : Int) = a * n + a := by rw [Int.natCast_add, Int.mul_add]; simp
    have e2 : b * ((n + 1 : Nat) : Int) = b * n + b := by rw [Int.natCast_add, Int.mul_add]; simp
    show _ ≤ sumN f n + f n ∧ sumN f n + f n ≤ _
    omega
theorem sumN_mono {f g : Nat → Int} : ∀ {n : Nat}, (∀ i, i < n → f i ≤ g i) → sumN f n ≤ sumN g n
  | 0, _ => by simp [sumN]
  | n + 1, h => by
    have h1 := sumN_mono (n := n) fun i hi => h i (by omega)
    have h2 := h n (by omega)
    show sumN f n + f n ≤ sumN g n + g n
    omega
theorem sumN_one {f : Nat → Int} {n i : Nat} (hi : i < n) (h : ∀ j, j < n → 0 ≤ f j) : f i ≤ sumN f n := by
  induction n with
  | zero => omega
  | succ n ih =>
    show f i ≤ sumN f n + f n
    have h0 := (sumN_bound (f := f) (a := 0) (b := sumN f n) (n := 0) (fun i hi => absurd hi (Nat.not_lt_zero _)))
    have hn : 0 ≤ sumN f n := by
      have := sumN_mono (f := fun _ => 0) (g := f) (n := n) fun j hj => h j (by omega)
      have hz : ∀ k : Nat, sumN (fun _ => (0 : Int)) k = 0 := by
        intro k; induction k with
        | zero => rfl
        | succ k ih => show sumN (fun _ => (0 : Int)) k + 0 = 0; rw [ih]; rfl
      rw [hz] at this; exact this
    by_cases e : i = n
    · subst e; omega
    · have := ih (by omega) fun j hj => h j (by omega)
      have := h n (by omega)
      omega
/-- one value is another one -/
theorem sumN_set (f : Nat → Int) (i : Nat) (v : Int) : ∀ n, sumN (fun j => if j = i then v else f j) n = if i < n then sumN f n - f i + v else sumN f n
  | 0 => by simp [sumN]
  | n + 1 => by
    show sumN (fun j => if j = i then v else f j) n + (if n = i then v else f n) = if i < n + 1 then sumN f n + f n - f i + v else sumN f n + f n
    rw [sumN_set f i v n]
    by_cases h : n = i
    · subst h; simp
    · rw [if_neg h]
      by_cases h2 : i < n
      · rw [if_pos h2, if_pos (by omega)]; omega
      · rw [if_neg h2, if_neg (by omega)]
theorem sumN_turn {W : Nat} (hW : 0 < W) (g : Nat → Int) : sumN (fun x => g ((x + 1) % W)) W = sumN g W := by
  obtain ⟨n, rfl⟩ : ∃ n, W = n + 1 := ⟨W - 1, by omega⟩
  rw [sumN_front g n]
  show sumN (fun x => g ((x + 1) % (n + 1))) n + g ((n + 1) % (n + 1)) = _
  rw [Nat.mod_self, sumN_congr (g := fun x => g (x + 1)) fun i hi => by rw [Nat.mod_eq_of_lt (by omega)]]
  omega
/-- a place in a ring, of any number -/
def rp (W : Nat) (x : Int) : Nat := (x % (W : Int)).toNat
theorem rp_lt {W : Nat} (h : 0 < W) (x : Int) : rp W x < W := by
  have h1 := Int.emod_nonneg x (show (W : Int) ≠ 0 by omega)
  have h2 := Int.emod_lt_of_pos x (show (0 : Int) < W by omega)
  unfold rp; omega
theorem rp_val {W : Nat} (h : 0 < W) (x : Int) : (rp W x : Int) = x % (W : Int) := by
  have h1 := Int.emod_nonneg x (show (W : Int) ≠ 0 by omega)
  unfold rp; omega
theorem rp_self {W x : Nat} (h : x < W) : rp W (x : Int) = x := by
  unfold rp; rw [Int.emod_eq_of_lt (by omega) (by omega)]; simp
theorem rp_ring {W : Nat} (h : 0 < W) (a b : Int) : rp W (rp W a + b) = rp W (a + b) := by
  have : ((rp W a : Int) + b) % (W : Int) = (a + b) % (W : Int) := by
    rw [rp_val h, Int.emod_add_emod]
  unfold rp at *; rw [this]
theorem rp_nat (W n : Nat) : rp W (n : Int) = n % W := by
  unfold rp; rw [← Int.natCast_emod, Int.toNat_natCast]
theorem sumN_ringN {W : Nat} (hW : 0 < W) : ∀ (k : Nat) (g : Nat → Int), sumN (fun x => g (rp W ((x : Int) + k))) W = sumN g W
  | 0, g => sumN_congr fun i hi => by rw [Int.natCast_zero, Int.add_zero, rp_self hi]
  | k + 1, g => by
    have := sumN_turn hW (fun j => g (rp W ((j : Int) + k)))
    rw [sumN_ringN hW k g] at this
    rw [← this]
    refine sumN_congr fun i hi => ?_
    rw [← rp_nat, rp_ring hW]
    congr 2
    omega
theorem sumN_ring {W : Nat} (hW : 0 < W) (k : Int) (g : Nat → Int) : sumN (fun x => g (rp W ((x : Int) + k))) W = sumN g W := by
  rw [← sumN_ringN hW (rp W k) g]
  refine sumN_congr fun i hi => ?_
  rw [Int.add_comm (i : Int) k, Int.add_comm (i : Int) (rp W k), rp_ring hW]
theorem pl_rp {W : Nat} (hW : 0 < W) {x : Int} (h : -1 ≤ x) : pl W x = rp W x := by
  unfold pl
  have : rp W x = rp W (x + W) := by unfold rp; rw [Int.add_emod_right]
  rw [this]
  obtain ⟨n, hn⟩ : ∃ n : Nat, x + W = (n : Int) := ⟨(x + W).toNat, by omega⟩
  rw [hn, rp_nat]; simp
theorem sumN_right {W H : Nat} (hW : 0 < W) (g : Nat → Int) : sumN (fun i => g (cellN W H (((i % W : Nat) : Int) + 1) ((i / W : Nat) : Int))) (W * H) = sumN g (W * H) := by
  rw [sumN_rows, sumN_rows]
  refine sumN_congr fun y hy => ?_
  have := sumN_ring hW 1 (fun x => g (x + W * y))
  rw [← this]
  refine sumN_congr fun x hx => ?_
  have e := grid_at (n := W) (x := x) (y := y) hx
  rw [e.1, e.2]
  unfold cellN
  rw [pl_rp hW (by omega), pl_self hy]
theorem sumN_below {W H : Nat} (hW : 0 < W) (hH : 0 < H) (g : Nat → Int) : sumN (fun i => g (cellN W H ((i % W : Nat) : Int) (((i / W : Nat) : Int) + 1))) (W * H) = sumN g (W * H) := by
  rw [sumN_rows, sumN_rows]
  have := sumN_ring hH 1 (fun y => sumN (fun x => g (x + W * y)) W)
  rw [← this]
  refine sumN_congr fun y hy => ?_
  refine sumN_congr fun x hx => ?_
  have e := grid_at (n := W) (x := x) (y := y) hx
  rw [e.1, e.2]
  unfold cellN
  rw [pl_rp hH (by omega), pl_self hx]
/-- the sum of a list -/
def sumL (l : List Int) : Int := sumN (fun i => l.getD i 0) l.length
theorem sumL_set {l : List Int} {i : Nat} (hi : i < l.length) (v : Int) : sumL (l.set i v) = sumL l - l.getD i 0 + v := by
  unfold sumL
  rw [List.length_set]
  have := sumN_set (fun j => l.getD j 0) i v l.length
  rw [if_pos hi] at this
  rw [← this]
  refine sumN_congr fun j hj => ?_
  by_cases e : j = i
  · subst e; simp [List.getD, List.getElem?_set, hi]
  · rw [if_neg e]; simp only [List.getD, List.getElem?_set]; rw [if_neg (fun h => e h.symm)]
/-- eight bits of a number -/
theorem and255 (x : Int) : 0 ≤ ibits BinOp.and .u64 x 255 ∧ ibits BinOp.and .u64 x 255 ≤ 255 := by
  have key : ibits BinOp.and .u64 x 255 = Go.IntKind.wrap .u64 ((BitVec.ofInt 64 x &&& BitVec.ofInt 64 255).toNat : Int) := rfl
  have h3 : (BitVec.ofInt 64 x &&& BitVec.ofInt 64 255).toNat ≤ 255 := by
    rw [BitVec.toNat_and]
    exact Nat.and_le_right
  rw [key, wrapu64 (by omega) (by omega)]
  omega
end Go.K
