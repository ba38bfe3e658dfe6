/- Pairs that are not alike; what a turn does to them. -/
import Derived.Test.YtblejagpndbicaaLRb
set_option linter.unusedSimpArgs false
set_option linter.unusedVariables false
set_option maxRecDepth 10000
set_option maxHeartbeats 4000000
namespace Go.K.grains
open Go.K Go
attribute [local irreducible] impl_ValidGrains.wp impl_UnlikePairs.wp impl_Grains_unlike.wp

/-- the way of a number, and the cell there -/
def wayX (k : Nat) : Int := [-1, 1, 0, 0, -1, 1, -1, 1].getD k 0
def wayY (k : Nat) : Int := [0, 0, -1, 1, -1, -1, 1, 1].getD k 0
def backK (k : Nat) : Nat := [1, 0, 3, 2, 7, 6, 5, 4].getD k 0
def goN (W H k i : Nat) : Nat := cellN W H (((i % W : Nat) : Int) + wayX k) (((i / W : Nat) : Int) + wayY k)
theorem go_around (l : List Int) (W H x y : Nat) (hx : x < W) {k : Nat} (hk : k < 8) : (aroundG l W H x y).getD k 0 = l.getD (goN W H k (x + W * y)) 0 := by
  obtain ⟨e1, e2⟩ := grid_at (y := y) hx
  unfold goN
  rw [e1, e2]
  have h : k = 0 ∨ k = 1 ∨ k = 2 ∨ k = 3 ∨ k = 4 ∨ k = 5 ∨ k = 6 ∨ k = 7 := by omega
  rcases h with rfl | rfl | rfl | rfl | rfl | rfl | rfl | rfl <;> simp [aroundG, atG, wayX, wayY, Int.sub_eq_add_neg]
theorem go_lt {W H : Nat} (hW : 0 < W) (hH : 0 < H) (k i : Nat) : goN W H k i < W * H := cell_lt hW hH _ _
theorem way_back {k : Nat} (hk : k < 8) : backK k < 8 ∧ wayX (backK k) = - wayX k ∧ wayY (backK k) = - wayY k ∧ -1 ≤ wayX k ∧ wayX k ≤ 1 ∧ -1 ≤ wayY k ∧ wayY k ≤ 1 := by
  have h : k = 0 ∨ k = 1 ∨ k = 2 ∨ k = 3 ∨ k = 4 ∨ k = 5 ∨ k = 6 ∨ k = 7 := by omega
  rcases h with rfl | rfl | rfl | rfl | rfl | rfl | rfl | rfl <;> decide
theorem go_back {W H : Nat} (hW : 0 < W) (hH : 0 < H) {k i : Nat} (hk : k < 8) (hi : i < W * H) : goN W H (backK k) (goN W H k i) = i := by
  obtain ⟨b1, b2, b3, b4, b5, b6, b7⟩ := way_back hk
  have hx : i % W < W := Nat.mod_lt _ hW
  have hy : i / W < H := Nat.div_lt_of_lt_mul hi
  have ei : i % W + W * (i / W) = i := Nat.mod_add_div i W
  unfold goN
  rw [b2, b3]
  unfold cellN
  generalize i % W = p at *
  generalize i / W = q at *
  rw [pl_rp hW (x := (p : Int) + wayX k) (by omega), pl_rp hH (x := (q : Int) + wayY k) (by omega)]
  have l1 := rp_lt hW ((p : Int) + wayX k)
  have l2 := rp_lt hH ((q : Int) + wayY k)
  obtain ⟨g1, g2⟩ := grid_at (y := rp H ((q : Int) + wayY k)) l1
  rw [g1, g2, pl_rp hW (by omega), pl_rp hH (by omega), rp_ring hW, rp_ring hH]
  have f1 : (p : Int) + wayX k + -wayX k = (p : Int) := by omega
  have f2 : (q : Int) + wayY k + -wayY k = (q : Int) := by omega
  rw [f1, f2, rp_self hx, rp_self hy, ei]
theorem back_back {k : Nat} (hk : k < 8) : backK (backK k) = k := by
  have h : k = 0 ∨ k = 1 ∨ k = 2 ∨ k = 3 ∨ k = 4 ∨ k = 5 ∨ k = 6 ∨ k = 7 := by omega
  rcases h with rfl | rfl | rfl | rfl | rfl | rfl | rfl | rfl <;> decide
/-- pairs, by their way -/
def pairK (l : List Int) (W H k i : Nat) : Int := uneq (l.getD (goN W H k i) 0) (l.getD i 0)
def pairT (l : List Int) (W H k : Nat) : Int := sumN (pairK l W H k) (W * H)
def pairS (l : List Int) (W H : Nat) : Int := sumN (fun k => pairT l W H k) 8
theorem sumN_swap (f : Nat → Nat → Int) (m : Nat) : ∀ n, sumN (fun i => sumN (fun k => f i k) m) n = sumN (fun k => sumN (fun i => f i k) n) m
  | 0 => by
    induction m with
    | zero => rfl
    | succ m ih => show (0 : Int) = sumN (fun k => (0 : Int)) m + 0; rw [Int.add_zero]; exact ih
  | n + 1 => by
    show sumN (fun i => sumN (fun k => f i k) m) n + sumN (fun k => f n k) m = _
    rw [sumN_swap f m n, ← sumN_add]
    rfl
theorem unl_go {l : List Int} {W H x y : Nat} (hx : x < W) (v : Int) : unl l W H x y v = sumN (fun k => uneq (l.getD (goN W H k (x + W * y)) 0) v) 8 :=
  sumN_congr fun k hk => by rw [go_around l W H x y hx hk]
/-- what one cell does -/
def dif (l : List Int) (v o : Int) (j : Nat) : Int := uneq (l.getD j 0) v - uneq (l.getD j 0) o
theorem pairT_set {l : List Int} {W H : Nat} (hW : 0 < W) (hH : 0 < H) (len : l.length = W * H) {k c : Nat} (hk : k < 8) (hc : c < W * H) (v : Int) :
    pairT (l.set c v) W H k = pairT l W H k + if goN W H k c = c then 0 else dif l v (l.getD c 0) (goN W H k c) + dif l v (l.getD c 0) (goN W H (backK k) c) := by
  obtain ⟨b1, b2⟩ := way_back hk
  have hset : ∀ j, (l.set c v).getD j 0 = if j = c then v else l.getD j 0 := by
    intro j
    by_cases e : j = c
    · subst e; rw [if_pos rfl]; simp [List.getD, List.getElem?_set, len, hc]
    · rw [if_neg e]; simp only [List.getD, List.getElem?_set]; rw [if_neg (fun h => e h.symm)]
  have inj : ∀ i, i < W * H → (goN W H k i = c ↔ i = goN W H (backK k) c) := by
    intro i hi
    constructor
    · intro h; rw [← h, go_back hW hH hk hi]
    · intro h
      have := go_back hW hH b1 hc
      rw [back_back hk] at this
      rw [h, this]
  have hself : goN W H k c = c ↔ c = goN W H (backK k) c := inj c hc
  -- the differences
  have key : ∀ i, i < W * H → pairK (l.set c v) W H k i = pairK l W H k i + ((if i = c then (if goN W H k c = c then 0 else dif l v (l.getD c 0) (goN W H k c)) else 0) + (if i = goN W H (backK k) c then (if goN W H k c = c then 0 else dif l v (l.getD c 0) (goN W H (backK k) c)) else 0)) := by
    intro i hi
    unfold pairK
    rw [hset, hset]
    by_cases h1 : i = c
    · subst h1
      rw [if_pos rfl, if_pos rfl]
      by_cases h2 : goN W H k i = i
      · rw [if_pos h2, h2, uneq_self, uneq_self]
        simp
      · rw [if_neg h2, if_neg (fun h => h2 (hself.2 h)), if_neg h2]
        unfold dif
        omega
    · rw [if_neg h1, if_neg h1]
      by_cases h2 : i = goN W H (backK k) c
      · have h3 : goN W H k i = c := (inj i hi).2 h2
        have h4 : ¬ goN W H k c = c := fun h => h1 (by rw [h2]; exact (hself.1 h).symm)
        rw [if_pos h3, if_pos h2, if_neg h4, h3, ← h2]
        unfold dif
        rw [uneq_comm v, uneq_comm (l.getD c 0)]
        omega
      · have h3 : ¬ goN W H k i = c := fun h => h2 ((inj i hi).1 h)
        rw [if_neg h3, if_neg h2]
        omega
  unfold pairT
  rw [sumN_congr key, sumN_add]
  congr 1
  rw [sumN_add]
  have one : ∀ (a : Nat) (A : Int), a < W * H → sumN (fun i => if i = a then A else 0) (W * H) = A := by
    intro a A ha
    have := sumN_set (fun _ => 0) a A (W * H)
    rw [if_pos ha] at this
    have hz : ∀ n : Nat, sumN (fun _ => (0 : Int)) n = 0 := by
      intro n
      induction n with
      | zero => rfl
      | succ n ih => show sumN (fun _ => (0 : Int)) n + 0 = 0; rw [ih]; rfl
    rw [hz] at this
    rw [this]; omega
  rw [one c _ hc, one (goN W H (backK k) c) _ (go_lt hW hH _ _)]
  split <;> omega
theorem sumN_eight (f : Nat → Int) : sumN f 8 = f 0 + f 1 + f 2 + f 3 + f 4 + f 5 + f 6 + f 7 := by
  simp [sumN]
/-- a cell that takes another label: the pairs do not become more than what is told around it -/
theorem pairS_set {l : List Int} {W H : Nat} (hW : 0 < W) (hH : 0 < H) (len : l.length = W * H) {x y : Nat} (hx : x < W) (hy : y < H) (v : Int) :
    pairS (l.set (x + W * y) v) W H ≤ pairS l W H + 2 * (unl l W H x y v - unl l W H x y (l.getD (x + W * y) 0)) := by
  have hc := wh_lt hx hy
  generalize hcc : x + W * y = c at *
  have hle : ∀ k, k < 8 → pairT (l.set c v) W H k ≤ pairT l W H k + (dif l v (l.getD c 0) (goN W H k c) + dif l v (l.getD c 0) (goN W H (backK k) c)) := by
    intro k hk
    rw [pairT_set hW hH len hk hc]
    obtain ⟨b1, b2⟩ := way_back hk
    split
    · rename_i h
      have h2 : goN W H (backK k) c = c := by
        have := go_back hW hH hk hc
        rw [h] at this; exact this
      rw [h, h2]
      have : 0 ≤ dif l v (l.getD c 0) c := by
        unfold dif
        rw [uneq_self]
        have := uneq_le (l.getD c 0) v
        omega
      omega
    · omega
  have h1 := sumN_mono (n := 8) hle
  rw [sumN_add, sumN_add] at h1
  have hd : sumN (fun k => dif l v (l.getD c 0) (goN W H k c)) 8 = unl l W H x y v - unl l W H x y (l.getD c 0) := by
    rw [unl_go hx, unl_go hx, hcc]
    have := sumN_add (fun k => dif l v (l.getD c 0) (goN W H k c)) (fun k => uneq (l.getD (goN W H k c) 0) (l.getD c 0)) 8
    rw [sumN_congr (g := fun k => uneq (l.getD (goN W H k c) 0) v) (fun k _ => by unfold dif; omega)] at this
    omega
  have hb : sumN (fun k => dif l v (l.getD c 0) (goN W H (backK k) c)) 8 = sumN (fun k => dif l v (l.getD c 0) (goN W H k c)) 8 := by
    rw [sumN_eight, sumN_eight]
    show dif l v (l.getD c 0) (goN W H 1 c) + dif l v (l.getD c 0) (goN W H 0 c) + dif l v (l.getD c 0) (goN W H 3 c) + dif l v (l.getD c 0) (goN W H 2 c) + dif l v (l.getD c 0) (goN W H 7 c) + dif l v (l.getD c 0) (goN W H 6 c) + dif l v (l.getD c 0) (goN W H 5 c) + dif l v (l.getD c 0) (goN W H 4 c) = _
    omega
  rw [hb, hd] at h1
  unfold pairS
  have h2 : sumN (fun i => pairT (l.set c v) W H i) 8 ≤ sumN (fun k => pairT l W H k) 8 + (unl l W H x y v - unl l W H x y (l.getD c 0) + (unl l W H x y v - unl l W H x y (l.getD c 0))) := h1
  omega
/-- the sum that is told is that of all pairs -/
theorem pairs_unl (l : List Int) {W H : Nat} (hW : 0 < W) : sumN (fun i => unl l W H (i % W) (i / W) (l.getD i 0)) (W * H) = pairS l W H := by
  unfold pairS pairT
  rw [← sumN_swap (fun i k => pairK l W H k i) 8 (W * H)]
  refine sumN_congr fun i hi => ?_
  have hx : i % W < W := Nat.mod_lt _ hW
  rw [unl_go hx]
  refine sumN_congr fun k hk => ?_
  rw [Nat.mod_add_div]
  rfl
section
variable {l : List Int} {W H : Nat}
theorem impl_Unlike (g : Geo l W H) {K : Int → Bool → Prop} (hk : K (Int.tdiv (pairS l W H) 2) true) : impl_UnlikePairs.wp l (W : Int) (H : Int) K := by
  have hlen := g.len
  have hwh := g.wh
  have w1 := g.w1
  have w16 := g.w16
  have h16 := g.h16
  rw [impl_UnlikePairs.eq]
  refine impl_is (by omega) ?_
  rw [g.valid]
  refine ifF rfl ?_
  have hb := fun n => sumN_bound (f := fun i => unl l W H (i % W) (i / W) (l.getD i 0)) (a := 0) (b := 8) (n := n) fun i _ => unl_le _ _ _ _ _ _
  rw [← pairs_unl l (by omega)] at hk
  intro J hJ
  rw [hlen] at *
  refine down (Q := fun i => J (W : Int) (H : Int) (sumN (fun i => unl l W H (i % W) (i / W) (l.getD i 0)) i) ((W * H : Nat) : Int) (i : Int)) (n := W * H) (hJ _ _ _ _ _ (ifN (by omega) ?_)) (fun i hi ih => hJ _ _ _ _ _ (ifD (by omega) ⟨⟨by omega, by omega⟩, by omega, by omega, ?_⟩)) 0 (Nat.zero_le _)
  · have := hb (W * H)
    obtain ⟨n, hn⟩ : ∃ n : Nat, sumN (fun i => unl l W H (i % W) (i / W) (l.getD i 0)) (W * H) = (n : Int) := ⟨(sumN (fun i => unl l W H (i % W) (i / W) (l.getD i 0)) (W * H)).toNat, by omega⟩
    rw [hn] at hk this ⊢
    have e : Int.tdiv (n : Int) 2 = ((n / 2 : Nat) : Int) := tdiv_nat n 2
    rw [e] at hk ⊢
    rw [wrap_nat (by omega)]
    exact hk
  · have hx : i % W < W := Nat.mod_lt _ (by omega)
    have hy : i / W < H := Nat.div_lt_of_lt_mul hi
    have := hb i
    have u := unl_le l W H (i % W) (i / W) (l.getD i 0)
    have es : sumN (fun i => unl l W H (i % W) (i / W) (l.getD i 0)) (i + 1) = sumN (fun i => unl l W H (i % W) (i / W) (l.getD i 0)) i + unl l W H (i % W) (i / W) (l.getD i 0) := rfl
    rw [es] at ih
    rw [tmod_nat, tdiv_nat, Int.toNat_natCast]
    have ey : Go.IntKind.wrap .i64 ((i / W : Nat) : Int) = ((i / W : Nat) : Int) := wrap_nat (by omega)
    rw [ey]
    refine impl_unl g hx hy ?_
    rw [wrap64 (by omega) (by omega), wrap_succ (by omega)]
    exact ih
end
/-! ### without a chance -/
theorem cold_lim {e : Nat} (h : 0 < e) : limU 0 e = 0 := by
  obtain ⟨k, rfl⟩ : ∃ k, e = k + 1 := ⟨e - 1, by omega⟩
  clear h
  induction k with
  | zero => decide
  | succ k ih =>
    show farith .mul .f32 (limU 0 (k + 1)) 0 = 0
    rw [ih]; decide
theorem thirty_gt : Gt .f32 15 15 1191182336 := gt_of (m := 8388608) (e := -8) 8 (by decide) (by decide) (by decide) (by decide) (by decide) (by decide)
theorem less_zero {d : Nat} (hd : d < 32768) : lessB (d : Int) 0 = false := by
  have hp : Pn .f32 15 (fofint .f32 (d : Int)) := by
    have hl : LeP 15 d 0 := by
      refine LeP_of 0 (by decide) (by decide) ?_
      simp
      omega
    obtain ⟨m, e, h1, h2, _⟩ := near (fk := .f32) (s := false) hl ⟨by decide, by decide⟩
    refine ⟨m, e, ?_, h2⟩
    rw [← h1]
    have : decide ((d : Int) < 0) = false := decide_eq_false (by omega)
    show FloatKind.decode .f32 (FloatKind.encode .f32 (.number (decide ((d : Int) < 0)) (d : Int).natAbs 0)) = _
    rw [this, Int.natAbs_natCast]
  obtain ⟨m, e, h, _⟩ := quo_pn (r := 0) hp thirty_gt (by decide) ⟨by decide, by decide⟩
  unfold lessB
  rw [flt_num h]
  rfl
theorem atG_self' {l : List Int} {W H x y : Nat} (hx : x < W) (hy : y < H) : atG l W H x y = l.getD (x + W * y) 0 := atG_self hx hy
theorem cold_step {W H : Nat} {l0 : List Int} {st : List Int × Int × Nat} (h : Kept l0 W H st) : pairS (flipS 0 W H st).1 W H ≤ pairS st.1 W H := by
  obtain ⟨l, s, t⟩ := st
  obtain ⟨g, s0, s1, mem⟩ := h
  simp only at g s0 s1
  have n1 := nx_ok s0 s1
  have n2 := nx_ok n1.1 n1.2.1
  have n3 := nx_ok n2.1 n2.2.1
  have n4 := nx_ok n3.1 n3.2.1
  have hx : dN s % W < W := Nat.mod_lt _ g.w1
  have hy : dN (nxI s) % H < H := Nat.mod_lt _ g.h1
  refine turn_cases (P := fun q => pairS q.1 W H ≤ pairS l W H) (fun a b => ?_) (fun a b c => ?_) (fun s' _ => Int.le_refl _)
  · have := pairS_set g.w1 g.h1 g.len hx hy ((aroundG l W H (dN s % W : Nat) (dN (nxI s) % H : Nat)).getD (dN (nxI (nxI s)) % 8) 0)
    rw [← atG_self hx hy] at this
    dsimp only at a ⊢
    omega
  · exfalso
    rw [cold_lim (by omega), n4.2.2.1, less_zero n4.2.2.2] at b
    exact absurd b (by decide)
theorem cold_steps {W H : Nat} {l0 : List Int} : ∀ (n : Nat) {st : List Int × Int × Nat}, Kept l0 W H st → pairS (flipU 0 W H n st).1 W H ≤ pairS st.1 W H
  | 0, st, h => Int.le_refl _
  | n + 1, st, h => Int.le_trans (cold_steps n (flip_kept h)) (cold_step h)
/-! ### what changes -/
def chg (a b : List Int) (n : Nat) : Int := sumN (fun i => uneq (a.getD i 0) (b.getD i 0)) n
theorem chg_set (a b : List Int) (i : Nat) (v : Int) (n : Nat) : chg a (b.set i v) n ≤ chg a b n + 1 := by
  have hle : ∀ j, j < n → uneq (a.getD j 0) ((b.set i v).getD j 0) ≤ uneq (a.getD j 0) (b.getD j 0) + (if j = i then 1 else 0) := by
    intro j _
    have h1 := uneq_le (a.getD j 0) ((b.set i v).getD j 0)
    have h2 := uneq_le (a.getD j 0) (b.getD j 0)
    by_cases e : j = i
    · rw [if_pos e]; omega
    · rw [if_neg e]
      have : (b.set i v).getD j 0 = b.getD j 0 := by simp only [List.getD, List.getElem?_set]; rw [if_neg (fun h => e h.symm)]
      rw [this]; omega
  have h1 := sumN_mono hle
  rw [sumN_add] at h1
  have h2 := sumN_set (fun _ => 0) i 1 n
  have hz : ∀ n : Nat, sumN (fun _ => (0 : Int)) n = 0 := by
    intro n
    induction n with
    | zero => rfl
    | succ n ih => show sumN (fun _ => (0 : Int)) n + 0 = 0; rw [ih]; rfl
  have h3 : sumN (fun j => if j = i then (1 : Int) else 0) n ≤ 1 := by
    rw [h2]
    split <;> rw [hz] <;> omega
  unfold chg
  omega
theorem flip_chg (ch W H : Nat) (a : List Int) (n : Nat) (st : List Int × Int × Nat) (h : chg a st.1 n ≤ st.2.2) : chg a (flipS ch W H st).1 n ≤ (flipS ch W H st).2.2 := by
  have put : ∀ i v, chg a (st.1.set i v) n ≤ ((st.2.2 + 1 : Nat) : Int) := fun i v => by
    have := chg_set a st.1 i v n
    omega
  exact turn_cases (P := fun q => chg a q.1 n ≤ q.2.2) (fun _ _ => put _ _) (fun _ _ _ => put _ _) (fun _ _ => h)
theorem flips_chg (ch W H : Nat) (a : List Int) (n : Nat) : ∀ (m : Nat) (st : List Int × Int × Nat), chg a st.1 n ≤ st.2.2 → chg a (flipU ch W H m st).1 n ≤ (flipU ch W H m st).2.2
  | 0, st, h => h
  | m + 1, st, h => flips_chg ch W H a n m _ (flip_chg ch W H a n st h)
theorem chg_self (a : List Int) : ∀ n, chg a a n = 0
  | 0 => rfl
  | n + 1 => by
    show chg a a n + uneq (a.getD n 0) (a.getD n 0) = 0
    rw [chg_self a n, uneq_self]; rfl
end Go.K.grains
