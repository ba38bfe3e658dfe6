/- Turns, told. -/
import Derived.Test.YtblejagpndbicaaLRc
set_option linter.unusedSimpArgs false
set_option linter.unusedVariables false
set_option maxRecDepth 10000
set_option maxHeartbeats 4000000
namespace Go.K.grains
open Go.K Go
attribute [local irreducible] laws_r8At.wp laws_r8Long.wp spec_R8Grains.wp impl_ValidGrains.wp impl_SameGrains.wp impl_LabelsOf.wp impl_set.wp impl_areWithin.wp impl_within.wp impl_isLabel.wp impl_FlipGrains.wp impl_UnlikePairs.wp impl_CountOfLabel.wp

theorem nodup_at {N : List Int} (h : N.Nodup) {i j : Nat} (hi : i < N.length) (hj : j < N.length) (e : N.getD i 0 = N.getD j 0) : i = j := by
  have e1 : N.getD i 0 = N[i] := by simp [List.getD, hi]
  have e2 : N.getD j 0 = N[j] := by simp [List.getD, hj]
  rw [e1, e2] at e
  exact (List.getElem_inj h).1 e
/-- each one is counted once -/
theorem count_sum {N : List Int} (hN : N.Nodup) : ∀ {L : List Int}, (∀ v, v ∈ L → v ∈ N) → sumN (fun j => ((L.count (N.getD j 0) : Nat) : Int)) N.length = (L.length : Int)
  | [], _ => by
    have hz : ∀ n : Nat, sumN (fun j => ((([] : List Int).count (N.getD j 0) : Nat) : Int)) n = 0 := by
      intro n
      induction n with
      | zero => rfl
      | succ n ih => show sumN _ n + ((([] : List Int).count (N.getD n 0) : Nat) : Int) = 0; rw [ih]; simp
    rw [hz]; rfl
  | a :: t, h => by
    have ih := count_sum hN (L := t) fun v hv => h v (List.mem_cons_of_mem _ hv)
    obtain ⟨i, hi, ei⟩ := List.getElem_of_mem (h a (List.mem_cons_self ..))
    have ei' : N.getD i 0 = a := by simp [List.getD, hi, ei]
    have e : ∀ j, j < N.length → (((a :: t).count (N.getD j 0) : Nat) : Int) = ((t.count (N.getD j 0) : Nat) : Int) + (if j = i then 1 else 0) := by
      intro j hj
      rw [List.count_cons]
      by_cases hji : j = i
      · subst hji
        rw [if_pos (by rw [ei']; exact beq_self_eq_true a), if_pos rfl]; simp
      · rw [if_neg (by
          rw [beq_iff_eq]
          intro hh
          exact hji (nodup_at hN hj hi (by rw [ei', hh]))), if_neg hji]; simp
    rw [sumN_congr e, sumN_add, ih]
    have h2 := sumN_set (fun _ => 0) i 1 N.length
    have hz : ∀ n : Nat, sumN (fun _ => (0 : Int)) n = 0 := by
      intro n
      induction n with
      | zero => rfl
      | succ n ih => show sumN (fun _ => (0 : Int)) n + 0 = 0; rw [ih]; rfl
    rw [if_pos hi, hz] at h2
    rw [h2]
    simp
section
variable {l : List Int} {W H : Nat}
theorem count_ok (g : Geo l W H) {v : Int} (h0 : 0 ≤ v) (h1 : v < 64) {K : Int → Bool → Prop} (hk : K (l.count v : Int) true) : impl_CountOfLabel.wp l (W : Int) (H : Int) v K := by
  have hlen := g.len
  have hwh := g.wh
  rw [impl_CountOfLabel.eq]
  refine impl_is (by omega) ?_
  rw [g.valid]
  refine ifF rfl ?_
  rw [impl_isLabel.eq]
  refine impl_in ?_
  rw [show inB v 0 63 = true by rw [inB_iff]; omega]
  refine ifF rfl ?_
  intro J hJ
  have hle : ∀ i, (l.take i).count v ≤ 256 := fun i => Nat.le_trans (List.count_le_length ..) (by rw [List.length_take]; omega)
  have start : ((l.take 0).count v : Int) = 0 := by simp
  rw [← start]
  refine down (Q := fun i => J ((l.take i).count v : Int) (l.length : Int) (i : Int)) (n := l.length) (hJ _ _ _ (ifN (by omega) ?_)) (fun i hi ih => hJ _ _ _ (ifD (by omega) ⟨⟨by omega, by omega⟩, ?_⟩)) 0 (Nat.zero_le _)
  · rw [List.take_length]; exact hk
  · have hs := count_step (L := l) v hi
    have := hle i
    rw [hs] at ih
    rw [Int.toNat_natCast, wrap_succ (i := i) (by omega)]
    refine ifB_of (fun c => ?_) (fun c => ?_)
    · rw [if_pos c] at ih
      rw [wrap64 (by omega) (by omega)]
      exact ih
    · rw [if_neg (by rw [c]; decide), Int.add_zero] at ih
      exact ih
end
theorem tdiv_mono {a b : Int} (h0 : 0 ≤ a) (h : a ≤ b) : Int.tdiv a 2 ≤ Int.tdiv b 2 := by
  obtain ⟨m, rfl⟩ : ∃ m : Nat, a = (m : Int) := ⟨a.toNat, by omega⟩
  obtain ⟨n, rfl⟩ : ∃ n : Nat, b = (n : Int) := ⟨b.toNat, by omega⟩
  have e1 : Int.tdiv (m : Int) 2 = ((m / 2 : Nat) : Int) := tdiv_nat m 2
  have e2 : Int.tdiv (n : Int) 2 = ((n / 2 : Nat) : Int) := tdiv_nat n 2
  rw [e1, e2]
  have : m / 2 ≤ n / 2 := Nat.div_le_div_right (by omega)
  omega
theorem pairS_nn (l : List Int) (W H : Nat) : 0 ≤ pairS l W H := by
  have h1 : ∀ k, k < 8 → 0 ≤ pairT l W H k ∧ pairT l W H k ≤ pairT l W H k := fun k _ => by
    have := sumN_bound (f := pairK l W H k) (a := 0) (b := 1) (n := W * H) fun i _ => uneq_le _ _
    unfold pairT
    omega
  have h2 := sumN_mono (f := fun _ => 0) (g := fun k => pairT l W H k) (n := 8) fun k hk => (h1 k hk).1
  have hz : sumN (fun _ => (0 : Int)) 8 = 0 := by decide
  rw [hz] at h2
  exact h2
theorem flips_law (a b : List Int) (wa : ∀ v ∈ a, (Lit.int .u8 v).wf = true) (wb : ∀ v ∈ b, (Lit.int .u8 v).wf = true) {K : Bool → Prop} (hk : K true) : laws_FnFlips.wp a b K := by
  have ba := bytes_wf wa
  have bb := bytes_wf wb
  rw [laws_FnFlips.eq]
  refine long_ok (ifT rfl hk) fun la lb => ifF rfl ?_
  refine drawn_ok ba (by omega) fun l W H w6 h6 g => ?_
  refine at_ok bb (i := 0) (n := 256) rfl rfl (by omega) fun p hp => ?_
  refine at_ok bb (i := 1) (n := 256) rfl rfl (by omega) fun q hq => ?_
  refine at_ok bb (i := 2) (n := 30) rfl rfl (by omega) fun n hn => ?_
  refine at_ok bb (i := 3) (n := 30) rfl rfl (by omega) fun m hm => ?_
  rw [wrap64 (x := 256 * (p : Int)) (by omega) (by omega), wrap64 (x := 256 * (p : Int) + (q : Int)) (by omega) (by omega)]
  have s0 : 0 ≤ 256 * (p : Int) + (q : Int) := by omega
  have s1 : 256 * (p : Int) + (q : Int) ≤ 2147483647 := by omega
  generalize 256 * (p : Int) + (q : Int) = s at *
  have k0 : Kept l W H (l, s, 0) := ⟨g, s0, s1, fun v h => h⟩
  have kc := flips_kept (ch := 0) n k0
  have k1 := flips_kept (ch := 1056964608) n k0
  have k2 := flips_kept (ch := 1056964608) (n + m) k0
  have cold := cold_steps n k0
  have hsum := flipU_add 1056964608 W H n m (l, s, 0)
  have hchg := flips_chg 1056964608 W H l (W * H) (n + m) (l, s, 0) (by rw [chg_self]; simp)
  have hlt := flips_le 1056964608 W H (n + m) (l, s, 0)
  have hlt1 := flips_le 1056964608 W H n (l, s, 0)
  refine impl_Flip g rfl (by omega) s0 s1 ?_
  refine impl_Unlike g ?_
  refine impl_Unlike kc.geo ?_
  refine impl_Flip g rfl (by omega) s0 s1 ?_
  have hshift : flipU 1056964608 W H m (flipU 1056964608 W H n (l, s, 0)) = ((flipU 1056964608 W H m ((flipU 1056964608 W H n (l, s, 0)).1, (flipU 1056964608 W H n (l, s, 0)).2.1, 0)).1, (flipU 1056964608 W H m ((flipU 1056964608 W H n (l, s, 0)).1, (flipU 1056964608 W H n (l, s, 0)).2.1, 0)).2.1, (flipU 1056964608 W H m ((flipU 1056964608 W H n (l, s, 0)).1, (flipU 1056964608 W H n (l, s, 0)).2.1, 0)).2.2 + (flipU 1056964608 W H n (l, s, 0)).2.2) := by
    have := flips_shift 1056964608 W H m (flipU 1056964608 W H n (l, s, 0)).1 (flipU 1056964608 W H n (l, s, 0)).2.1 0 (flipU 1056964608 W H n (l, s, 0)).2.2
    rw [Nat.zero_add] at this
    exact this
  rw [hshift] at hsum
  refine impl_Flip k1.geo rfl (by omega) k1.s0 k1.s1 ?_
  have enm : Go.IntKind.wrap .i64 ((n : Int) + (m : Int)) = ((n + m : Nat) : Int) := by rw [wrap64 (by omega) (by omega)]; omega
  rw [enm]
  refine impl_Flip g rfl (by omega) s0 s1 ?_
  generalize flipU 1056964608 W H (n + m) (l, s, 0) = whole at *
  generalize flipU 1056964608 W H m ((flipU 1056964608 W H n (l, s, 0)).1, (flipU 1056964608 W H n (l, s, 0)).2.1, 0) = second at *
  generalize flipU 1056964608 W H n (l, s, 0) = first at *
  generalize flipU 0 W H n (l, s, 0) = cl at *
  subst hsum
  dsimp only at *
  have g2 : Geo second.1 W H := k2.geo
  have mem2 : ∀ v, v ∈ second.1 → v ∈ l := k2.mem
  have tm := tdiv_mono (pairS_nn cl.1 W H) cold
  refine ifF rfl (ifF rfl (ifF rfl (ifF rfl (ifF rfl (ifF rfl (ifN (by omega) (ifF (by simp) (ifF ?_ ?_))))))))
  · rw [wrap64 (by omega) (by omega)]
    have : (first.2.2 : Int) + (second.2.2 : Int) = ((second.2.2 + first.2.2 : Nat) : Int) := by omega
    rw [this]; simp
  refine same_self g2 (ifF rfl ?_)
  have hlen := g.len
  have hlen2 := g2.len
  have hwh := g.wh
  refine impl_is (by omega) ?_
  rw [g2.valid]
  refine ifF rfl ?_
  intro J hJ
  have hcb := fun n => sumN_bound (f := fun i => uneq (l.getD i 0) (second.1.getD i 0)) (a := 0) (b := 1) (n := n) fun i _ => uneq_le _ _
  refine down (Q := fun i => J (W : Int) (H : Int) (W : Int) (H : Int) l second.1 ((second.2.2 + first.2.2 : Nat) : Int) (chg l second.1 i) (i : Int)) (n := W * H) (hJ _ _ _ _ _ _ _ _ _ (ifN (by omega) ?_)) (fun i hi ih => hJ _ _ _ _ _ _ _ _ _ (ifD (by omega) ⟨⟨by omega, by omega⟩, ⟨by omega, by omega⟩, ?_⟩)) 0 (Nat.zero_le _)
  · refine labels_ok g (labels_ok g2 (ifF rfl (ifF rfl (ifN (by omega) ?_))))
    intro J2 hJ2
    have hs1 := setZ_le l
    have hs2 := setZ_le second.1
    have tot := count_sum (setZ_nodup second.1) (L := second.1) fun v hv => by rw [setZ_mem]; exact hv
    have hcle : ∀ n, 0 ≤ sumN (fun j => ((second.1.count ((setZ second.1).getD j 0) : Nat) : Int)) n ∧ sumN (fun j => ((second.1.count ((setZ second.1).getD j 0) : Nat) : Int)) n ≤ 256 * n := fun n => by
      have := sumN_bound (f := fun j => ((second.1.count ((setZ second.1).getD j 0) : Nat) : Int)) (a := 0) (b := 256) (n := n) fun i _ => by
        have : second.1.count ((setZ second.1).getD i 0) ≤ second.1.length := List.count_le_length ..
        omega
      omega
    refine down (Q := fun k => J2 (W : Int) (H : Int) (W : Int) (H : Int) (setZ l) (setZ second.1) l second.1 (sumN (fun j => ((second.1.count ((setZ second.1).getD j 0) : Nat) : Int)) k) (k : Int)) (n := (setZ second.1).length) (hJ2 _ _ _ _ _ _ _ _ _ _ (ifN (by omega) ?_)) (fun k hkk ih => hJ2 _ _ _ _ _ _ _ _ _ _ (ifD (by omega) ?_)) 0 (Nat.zero_le _)
    · rw [tot, hlen, hlen2, beq_self_eq_true]; exact hk
    · have hmem : (setZ second.1).getD k 0 ∈ second.1 := by rw [← setZ_mem]; exact getD_mem 0 hkk
      have hlab := g2.lab _ hmem
      have hcnt : second.1.count ((setZ second.1).getD k 0) ≤ second.1.length := List.count_le_length ..
      have hb := hcle k
      have es : sumN (fun j => ((second.1.count ((setZ second.1).getD j 0) : Nat) : Int)) (k + 1) = sumN (fun j => ((second.1.count ((setZ second.1).getD j 0) : Nat) : Int)) k + ((second.1.count ((setZ second.1).getD k 0) : Nat) : Int) := rfl
      rw [es] at ih
      intro J3 hJ3
      refine found_loop (P := fun b i => J3 (W : Int) (H : Int) (W : Int) (H : Int) (setZ l) (setZ second.1) l second.1 _ (k : Int) b i) (by omega) hkk ?_ ?_ (fun b i h => hJ3 _ _ _ _ _ _ _ _ _ _ b i h)
      · rw [setZ_mem]; exact mem2 _ hmem
      · refine ⟨⟨by omega, by omega⟩, ?_⟩
        rw [Int.toNat_natCast]
        refine count_ok g2 hlab.1 hlab.2 (ifF rfl (ifF rfl ?_))
        rw [wrap64 (by omega) (by omega), wrap_succ (by omega)]
        exact ih
  · have hb := hcb i
    have es : chg l second.1 (i + 1) = chg l second.1 i + uneq (l.getD i 0) (second.1.getD i 0) := rfl
    rw [es] at ih
    have hci : chg l second.1 i = sumN (fun i => uneq (l.getD i 0) (second.1.getD i 0)) i := rfl
    rw [Int.toNat_natCast, wrap_succ (i := i) (by omega)]
    refine ifB_of (fun c => ?_) (fun c => ?_)
    · have e2 : uneq (l.getD i 0) (second.1.getD i 0) = 1 := by unfold uneq; rw [if_pos c]
      rw [e2] at ih
      rw [wrap64 (by omega) (by omega)]
      exact ih
    · have e2 : uneq (l.getD i 0) (second.1.getD i 0) = 0 := by unfold uneq; rw [if_neg (by rw [c]; decide)]
      rw [e2, Int.add_zero] at ih
      exact ih
end Go.K.grains
