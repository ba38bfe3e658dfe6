/- Majorities: rounds one after another, flat grains, no new labels. -/
import Derived.Test.YtblejagpndbicaaLNf
import Derived.Test.YtblejagpndbicaaLPb
import Derived.Test.YtblejagpndbicaaLR
set_option linter.unusedSimpArgs false
set_option linter.unusedVariables false
set_option maxRecDepth 10000
set_option maxHeartbeats 4000000
namespace Go.K.grains
open Go.K Go
attribute [local irreducible] laws_r8At.wp laws_r8Long.wp spec_R8Grains.wp impl_ValidGrains.wp impl_MajorityGrains.wp impl_SameGrains.wp impl_FlatGrains.wp impl_LabelsOf.wp impl_set.wp impl_grown__FlatGrains_1.wp impl_FlatGrains_1.wp impl_areWithin.wp impl_within.wp impl_isLabel.wp

section
variable {W H : Nat}
theorem rounds_shift : ∀ (r : Nat) (l : List Int) (n : Nat), roundsU W H r l n = ((roundsU W H r l 0).1, (roundsU W H r l 0).2 + n)
  | 0, l, n => by simp [roundsU]
  | r + 1, l, n => by
    unfold roundsU
    split
    · simp
    · rw [rounds_shift r _ (n + 1), rounds_shift r _ (0 + 1)]
      simp only [Nat.zero_add]
      congr 1
      omega
theorem rounds_le : ∀ (r : Nat) (l : List Int), (roundsU W H r l 0).2 ≤ r
  | 0, l => by simp [roundsU]
  | r + 1, l => by
    unfold roundsU
    split
    · simp
    · rw [rounds_shift r _ (0 + 1)]
      have := rounds_le r (roundL l W H)
      simp only
      omega
theorem rounds_still : ∀ (r : Nat) (l : List Int), (roundsU W H r l 0).2 < r → roundL (roundsU W H r l 0).1 W H = (roundsU W H r l 0).1
  | 0, l, h => by omega
  | r + 1, l, h => by
    unfold roundsU at h ⊢
    split at h
    · rename_i e
      rw [if_pos e]
      exact eq_of_beq e
    · rename_i e
      rw [if_neg e]
      rw [rounds_shift r _ (0 + 1)] at h ⊢
      exact rounds_still r _ (by simp only at h; omega)
theorem rounds_fix {l : List Int} (h : roundL l W H = l) (r : Nat) : roundsU W H r l 0 = (l, 0) := by
  cases r with
  | zero => rfl
  | succ r =>
    unfold roundsU
    rw [if_pos (by rw [h]; exact beq_self_eq_true l)]
theorem rounds_one (l : List Int) : ((roundsU W H 1 l 0).2 = 0 ∧ (roundsU W H 1 l 0).1 = l) ∨ ((roundsU W H 1 l 0).2 = 1 ∧ ∀ r, roundsU W H (r + 1) l 0 = ((roundsU W H r (roundsU W H 1 l 0).1 0).1, (roundsU W H r (roundsU W H 1 l 0).1 0).2 + 1)) := by
  by_cases e : (roundL l W H == l) = true
  · left
    unfold roundsU
    rw [if_pos e]
    exact ⟨rfl, rfl⟩
  · right
    have e1 : roundsU W H 1 l 0 = (roundL l W H, 1) := by
      unfold roundsU
      rw [if_neg e]; rfl
    rw [e1]
    refine ⟨rfl, fun r => ?_⟩
    have e2 : roundsU W H (r + 1) l 0 = roundsU W H r (roundL l W H) 1 := by
      show (if (roundL l W H == l) = true then (l, 0) else roundsU W H r (roundL l W H) (0 + 1)) = _
      rw [if_neg e]
    rw [e2, rounds_shift]
theorem most_mem {l : List Int} (g : Geo l W H) (x y : Nat) : mostV l W H x y ∈ l := by
  have h := (most_best (l := l) (W := W) (H := H) (x := x) (y := y)).1
  simp only [nineG, aroundG, List.cons_append, List.nil_append, List.mem_cons, List.not_mem_nil, or_false] at h
  rcases h with h | h | h | h | h | h | h | h | h <;> (rw [h]; exact atG_mem g _ _)
theorem round_mem {l : List Int} (g : Geo l W H) {v : Int} (hv : v ∈ roundL l W H) : v ∈ l := by
  simp only [roundL, gridI, List.mem_map, List.mem_range] at hv
  obtain ⟨k, _, rfl⟩ := hv
  exact most_mem g _ _
theorem rounds_mem : ∀ (r : Nat) (l : List Int), Geo l W H → ∀ v, v ∈ (roundsU W H r l 0).1 → v ∈ l
  | 0, l, g, v, h => h
  | r + 1, l, g, v, h => by
    unfold roundsU at h
    split at h
    · exact h
    · rw [rounds_shift r _ (0 + 1)] at h
      exact round_mem g (rounds_mem r _ (round_geo g) v h)
theorem flat_geo (w1 : 1 ≤ W) (w16 : W ≤ 16) (h1 : 1 ≤ H) (h16 : H ≤ 16) {v : Nat} (hv : v < 64) : Geo (List.replicate (W * H) (v : Int)) W H :=
  ⟨w1, w16, h1, h16, Nat.mul_le_mul w16 h16, by simp, fun u hu => by rw [List.eq_of_mem_replicate hu]; omega⟩
theorem flat_round (w1 : 1 ≤ W) (w16 : W ≤ 16) (h1 : 1 ≤ H) (h16 : H ≤ 16) {v : Nat} (hv : v < 64) : roundL (List.replicate (W * H) (v : Int)) W H = List.replicate (W * H) (v : Int) := by
  have g := flat_geo w1 w16 h1 h16 hv
  refine List.eq_replicate_iff.2 ⟨round_length _ _ _, fun u hu => List.eq_of_mem_replicate (round_mem g hu)⟩
theorem grid_flat (W : Nat) (v : Int) (n : Nat) : gridI W (fun _ _ => v) n = List.replicate n v := by
  refine List.eq_replicate_iff.2 ⟨gridI_length _ _ _, fun u hu => ?_⟩
  simp only [gridI, List.mem_map, List.mem_range] at hu
  obtain ⟨k, _, rfl⟩ := hu
  rfl
theorem flat_ok (w1 : 1 ≤ W) (w16 : W ≤ 16) (h1 : 1 ≤ H) (h16 : H ≤ 16) {v : Nat} (hv : v < 64) {K : List Int → Int → Int → Bool → Prop} (hk : K (List.replicate (W * H) (v : Int)) W H true) : impl_FlatGrains.wp (W : Int) (H : Int) (v : Int) K := by
  have hwh : W * H ≤ 256 := Nat.mul_le_mul w16 h16
  rw [impl_FlatGrains.eq]
  refine areWithin (by simp) ?_
  have e1 : ((W : Int) :: (H : Int) :: List.replicate 0 0).all (fun v => inB v 1 16) = true := by
    simp only [List.all_cons, List.replicate_zero, List.all_nil, Bool.and_true, Bool.and_eq_true, inB_iff]
    omega
  rw [e1]
  refine ifF rfl ?_
  rw [impl_isLabel.eq]
  refine impl_in ?_
  have e2 : inB (v : Int) 0 63 = true := by rw [inB_iff]; omega
  rw [e2]
  refine ifF rfl ?_
  rw [← grid_flat W] at hk
  rw [impl_grown__FlatGrains_1.eq]
  intro J hJ
  have main := down (Q := fun u => J 0 0 (W : Int) (H : Int) [] (gridI W (fun _ _ => (v : Int)) (W * u)) (H : Int) (u : Int)) (n := H) ?_ ?_ 0 (Nat.zero_le _)
  · simpa [gridI] using main
  · exact hJ _ _ _ _ _ _ _ _ (ifN (by omega) hk)
  · intro y hy ih
    refine hJ _ _ _ _ _ _ _ _ (ifD (by omega) fun J2 hJ2 => ?_)
    have inner := down (Q := fun u => J2 0 0 (W : Int) (H : Int) [] (gridI W (fun _ _ => (v : Int)) (u + W * y)) (y : Int) (H : Int) (y : Int) (W : Int) (u : Int)) (n := W) ?_ ?_ 0 (Nat.zero_le _)
    · rw [Nat.zero_add] at inner; exact inner
    · refine hJ2 _ _ _ _ _ _ _ _ _ _ _ (ifN (by omega) ?_)
      rw [wrap_succ (by omega), show W + W * y = W * (y + 1) by rw [Nat.mul_add]; omega]
      exact ih
    · intro u hu ihu
      have hb := wh_lt hu hy
      have hs := gridI_succ W (fun _ _ => (v : Int)) (u + W * y)
      have hs' : gridI W (fun _ _ => (v : Int)) (u + W * y) ++ (v : Int) :: List.replicate 0 0 = gridI W (fun _ _ => (v : Int)) (u + 1 + W * y) := by
        rw [show u + 1 + W * y = u + W * y + 1 by omega, hs]; rfl
      have hlen := gridI_length W (fun _ _ => (v : Int)) (u + 1 + W * y)
      refine hJ2 _ _ _ _ _ _ _ _ _ _ _ (ifD (by omega) ?_)
      rw [impl_FlatGrains_1.eq, hs', hlen, wrap_succ (by omega)]
      exact ⟨by omega, ihu⟩
theorem maj_ok {l : List Int} (g : Geo l W H) {R : Nat} {r : Int} (er : r = (R : Int)) (hR : R ≤ 64) {K : List Int → Int → Int → Int → Bool → Prop} (hk : K (roundsU W H R l 0).1 W H ((roundsU W H R l 0).2 : Int) true) : impl_MajorityGrains.wp l (W : Int) (H : Int) r K := by
  subst er
  refine impl_Maj l W H R (by have := g.len; have := g.wh; omega) ?_
  have hb : majB l W H R = true := by
    unfold majB
    rw [g.valid, Bool.true_and, inB_iff]
    omega
  unfold majL majW majH majN
  rw [if_pos hb, if_pos hb, if_pos hb, if_pos hb, hb]
  unfold majP
  simp only [Int.toNat_natCast]
  exact hk
theorem labels_ok {l : List Int} (g : Geo l W H) {K : List Int → Bool → Prop} (hk : K (setZ l) true) : impl_LabelsOf.wp l (W : Int) (H : Int) K := by
  have hl : l.length ≤ 1099511627776 := by have := g.len; have := g.wh; omega
  rw [impl_LabelsOf.eq]
  refine impl_is hl ?_
  rw [g.valid]
  exact ifF rfl (set_ok hl hk)
theorem same_self {l : List Int} (g : Geo l W H) {K : Bool → Prop} (hk : K true) : impl_SameGrains.wp l l (W : Int) (H : Int) (W : Int) (H : Int) K := by
  refine impl_same rfl (by have := g.len; have := g.wh; omega) ?_
  rw [beq_self_eq_true]; exact hk
theorem set_len {l m : List Int} (h : ∀ v, v ∈ m → v ∈ l) : (setZ m).length ≤ (setZ l).length :=
  nodup_le (setZ_nodup m) fun x hx => by rw [setZ_mem] at hx ⊢; exact h x hx
theorem setZ_le (l : List Int) : (setZ l).length ≤ l.length := by
  rw [setZ_firsts]
  unfold firsts
  rw [List.length_map]
  exact Nat.le_trans (List.length_filter_le _ _) (by simp)
end
def foundB (L : List Int) (v : Int) (j : Nat) : Bool := (List.range j).any fun i => L.getD i 0 == v
theorem foundB_succ (L : List Int) (v : Int) (j : Nat) : foundB L v (j + 1) = (foundB L v j || (L.getD j 0 == v)) := by
  unfold foundB
  rw [List.range_succ, List.any_append]
  simp
theorem foundB_mem {L : List Int} {v : Int} (h : v ∈ L) : foundB L v L.length = true := by
  obtain ⟨i, hi, e⟩ := List.getElem_of_mem h
  unfold foundB
  rw [List.any_eq_true]
  refine ⟨i, by simp [hi], ?_⟩
  rw [beq_iff_eq]
  simp [List.getD, hi, e]
/-- a search in a list -/
theorem found_loop {P : Bool → Int → Prop} {E : Bool → Prop} {L N : List Int} {k : Nat} (hL : L.length ≤ 1099511627776) (hk : k < N.length) (hv : N.getD k 0 ∈ L) (he : E true)
    (step : ∀ (b : Bool) (i : Int), ifB (decide (i < (L.length : Int))) (ifB b (P true (Go.IntKind.wrap .i64 (i + 1))) ((0 ≤ i ∧ i < (L.length : Int)) ∧ (0 ≤ (k : Int) ∧ (k : Int) < (N.length : Int)) ∧ P (L.getD (Int.toNat i) 0 == N.getD (Int.toNat (k : Int)) 0) (Go.IntKind.wrap .i64 (i + 1)))) (E b) → P b i) : P false 0 := by
  refine down (Q := fun i => P (foundB L (N.getD k 0) i) (i : Int)) (n := L.length) (step _ _ (ifN (by omega) ?_)) (fun i hi ih => step _ _ (ifD (by omega) ?_)) 0 (Nat.zero_le _)
  · rw [foundB_mem hv]; exact he
  · rw [foundB_succ] at ih
    rw [Int.toNat_natCast, Int.toNat_natCast, wrap_succ (by omega)]
    refine ifB_of (fun e => ?_) (fun e => ?_)
    · rw [e, Bool.true_or] at ih; exact ih
    · rw [e, Bool.false_or] at ih
      exact ⟨⟨by omega, by omega⟩, ⟨by omega, by omega⟩, ih⟩
set_option hygiene false in
local macro "tail_tac" : tactic => `(tactic| (
  refine at_ok bb (i := 1) (n := 64) rfl rfl (by omega) fun v hv => ?_
  refine flat_ok g.w1 g.w16 g.h1 g.h16 hv ?_
  refine maj_ok (R := 5) (fgeo v hv) rfl (by omega) ?_
  rw [ffix v hv 5]
  refine labels_ok g (labels_ok g1 ?_)
  refine ifF rfl (ifF rfl (ifF rfl (ifF rfl (ifF rfl ?_))))
  have hsl := set_len mem
  have hs1 := setZ_le l
  refine same_self (fgeo v hv) (ifF rfl (ifN (by omega) ?_))
  intro J hJ
  refine down (Q := fun k => J (setZ l) (setZ (roundsU W H r l 0).1) (k : Int)) (n := (setZ (roundsU W H r l 0).1).length) (hJ _ _ _ (ifN (by omega) hk)) (fun k hk2 ih => hJ _ _ _ (ifD (by omega) ?_)) 0 (Nat.zero_le _)
  intro J2 hJ2
  refine found_loop (P := fun b i => J2 (setZ l) (setZ (roundsU W H r l 0).1) (k : Int) b i) (by omega) hk2 ?_ ?_ (fun b i h => hJ2 _ _ _ b i h)
  · rw [setZ_mem]
    refine mem _ ?_
    rw [← setZ_mem]
    exact getD_mem 0 hk2
  · refine ifF rfl ?_
    rw [wrap_succ (by omega)]
    exact ih))
theorem maj_law (a b : List Int) (wa : ∀ v ∈ a, (Lit.int .u8 v).wf = true) (wb : ∀ v ∈ b, (Lit.int .u8 v).wf = true) {K : Bool → Prop} (hk : K true) : laws_FnMajorities.wp a b K := by
  have ba := bytes_wf wa
  have bb := bytes_wf wb
  rw [laws_FnMajorities.eq]
  refine long_ok (ifT rfl hk) fun la lb => ifF rfl ?_
  refine drawn_ok ba (by omega) fun l W H w6 h6 g => ?_
  refine at_ok bb (i := 0) (n := 12) rfl rfl (by omega) fun r hr => ?_
  have g1 := rounds_geo r l 0 g
  have g2 := rounds_geo 1 l 0 g
  have g3 := rounds_geo 11 _ 0 g2
  have g4 := rounds_geo 12 l 0 g
  refine maj_ok g rfl (by omega) ?_
  refine maj_ok (R := 1) g rfl (by omega) ?_
  refine maj_ok (R := 11) g2 rfl (by omega) ?_
  refine maj_ok (R := 12) g rfl (by omega) ?_
  have r1 := rounds_le (W := W) (H := H) r l
  have r2 := rounds_le (W := W) (H := H) 1 l
  have r3 := rounds_le (W := W) (H := H) 11 (roundsU W H 1 l 0).1
  have one := rounds_one (W := W) (H := H) l
  have still := rounds_still (W := W) (H := H) r l
  have mem := rounds_mem (W := W) (H := H) r l g
  have e12 := rounds_shift (W := W) (H := H) 12 l
  have fgeo : ∀ v : Nat, v < 64 → Geo (List.replicate (W * H) (v : Int)) W H := fun v hv => flat_geo g.w1 g.w16 g.h1 g.h16 hv
  have ffix : ∀ v : Nat, v < 64 → ∀ R, roundsU W H R (List.replicate (W * H) (v : Int)) 0 = (List.replicate (W * H) (v : Int), 0) := fun v hv R => rounds_fix (flat_round g.w1 g.w16 g.h1 g.h16 hv) R
  have hlen := g.len
  have hwh := g.wh
  have hlen1 := g1.len
  refine ifF rfl (ifF rfl (ifF rfl (ifF rfl (ifN (by omega) (ifN (by omega) ?_)))))
  -- the first round
  have first : ∀ {A B : Prop}, (((roundsU W H 1 l 0).2 = 0 ∧ (roundsU W H 1 l 0).1 = l) → A) → (((roundsU W H 1 l 0).2 = 1 ∧ ∀ r, roundsU W H (r + 1) l 0 = ((roundsU W H r (roundsU W H 1 l 0).1 0).1, (roundsU W H r (roundsU W H 1 l 0).1 0).2 + 1)) → B) → ifB (((roundsU W H 1 l 0).2 : Int) == (0 : Int)) A B := by
    intro A B hA hB
    rcases one with h | h
    · refine ifT (by rw [h.1]; rfl) (hA h)
    · refine ifF (by rw [h.1]; rfl) (hB h)
  refine first (fun h => ?_) (fun h => ?_)
  · rw [h.2]
    refine same_self g (ifF rfl (ifF (by rw [h.1]; rfl) ?_))
    refine maj_ok (R := 1) g1 rfl (by omega) (ifF rfl ?_)
    refine ifB_of (fun e => ?_) (fun _ => ?_)
    · have e := of_decide_eq_true e
      rw [rounds_fix (still (by omega)) 1]
      refine ifF rfl ?_
      tail_tac
    · tail_tac
  · refine ifT (by rw [h.1]; rfl) (ifF ?_ ?_)
    · rw [h.2 11, wrap_succ (by omega)]; simp
    · rw [h.2 11]
      refine same_self g3 (ifF rfl ?_)
      refine maj_ok (R := 1) g1 rfl (by omega) (ifF rfl ?_)
      refine ifB_of (fun e => ?_) (fun _ => ?_)
      · have e := of_decide_eq_true e
        rw [rounds_fix (still (by omega)) 1]
        refine ifF rfl ?_
        tail_tac
      · tail_tac
end Go.K.grains
