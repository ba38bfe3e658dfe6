/- What is drawn: heights, seeds. -/
import Derived.Test.YtcmbpondkipbkaaLHa
import Derived.Test.YtcmbpondkipbkaaF20
set_option linter.unusedSimpArgs false
set_option linter.unusedVariables false
set_option maxRecDepth 10000
set_option maxHeartbeats 4000000
namespace Go.K.heights
open Go.K Go
attribute [local irreducible] spec_l00Src_pick.wp spec_l00Src_next.wp laws_b10At.wp spec_B10Heights.wp spec_l05DrawOk.wp spec_B10Seed.wp impl_Heights_atoms.wp impl_AtomsIn.wp impl_ValidHeights.wp

def Bytes (l : List Int) : Prop := ∀ b ∈ l, 0 ≤ b ∧ b ≤ 255
theorem Bytes.at {l : List Int} (h : Bytes l) (i : Nat) : 0 ≤ l.getD i 0 ∧ l.getD i 0 ≤ 255 := by
  by_cases hi : i < l.length
  · exact h _ (getD_mem 0 hi)
  · simp [List.getD, List.getElem?_eq_none (Nat.le_of_not_lt hi)]
theorem bytes_wf {l : List Int} (h : ∀ b ∈ l, (Lit.int .u8 b).wf = true) : Bytes l := by
  intro b hb
  have := h b hb
  have h1 : IntKind.u8.min ≤ b ∧ b ≤ IntKind.u8.max := by simpa [Lit.wf] using this
  have e1 : IntKind.u8.min = 0 := by decide
  have e2 : IntKind.u8.max = 255 := by decide
  omega
section
variable {code : List Int}
theorem next_ok (hb : Bytes code) (hl : code.length ≤ 1099511627776) {at_ s : Int} (h0 : 0 ≤ at_) (h1 : at_ ≤ 1000000000) {K : Int → Int → Int → Prop} (hk : ∀ s' v, 0 ≤ v → v ≤ 255 → K (at_ + 1) s' v) : spec_l00Src_next.wp at_ s code K := by
  rw [spec_l00Src_next.eq]
  intro J hJ
  have main : ∀ v, 0 ≤ v → v ≤ 255 → J at_ s v := by
    intro v v0 v1
    refine hJ _ _ _ ?_
    rw [wrap64 (x := at_ + 1) (by omega) (by omega)]
    refine ifB_of (fun _ => hk _ _ v0 v1) (fun _ => ?_)
    have := and255 (ishr Go.IntKind.u64 (Go.IntKind.wrap Go.IntKind.u64 (Go.IntKind.wrap Go.IntKind.u64 (Go.IntKind.wrap Go.IntKind.u64 (s * (6364136223846793005 : Int)) + Go.IntKind.wrap Go.IntKind.u64 v) + (1442695040888963407 : Int))) (40 : Int))
    rw [wrap64 (by omega) (by omega)]
    exact hk _ _ this.1 this.2
  refine ifB_of (fun e => ?_) (fun e => ?_)
  · have e := of_decide_eq_true e
    have := hb.at (Int.toNat at_)
    refine ⟨⟨h0, e⟩, ?_⟩
    rw [wrap64 (by omega) (by omega)]
    exact main _ this.1 this.2
  · exact main 0 (by omega) (by omega)
theorem tmod_lt {x : Int} {n : Nat} (h0 : 0 ≤ x) (hn : 0 < n) : ∃ v : Nat, Int.tmod x (n : Int) = (v : Int) ∧ v < n := by
  obtain ⟨k, rfl⟩ : ∃ k : Nat, x = (k : Int) := ⟨x.toNat, by omega⟩
  exact ⟨k % n, tmod_nat k n, Nat.mod_lt _ hn⟩
theorem pick_ok (hb : Bytes code) (hl : code.length ≤ 1099511627776) {at_ s m : Int} {n : Nat} (em : m = (n : Int)) (h0 : 0 ≤ at_) (h1 : at_ ≤ 999999999) (hn : 1 ≤ n) (hn2 : n ≤ 1000000) {K : Int → Int → Int → Prop} (hk : ∀ at' s' (v : Nat), at_ ≤ at' → at' ≤ at_ + 2 → v < n → K at' s' (v : Int)) : spec_l00Src_pick.wp at_ s code m K := by
  subst em
  rw [spec_l00Src_pick.eq]
  refine ifB_of (fun e => ?_) (fun e => ?_)
  · exact hk _ _ 0 (by omega) (by omega) (by omega)
  · refine next_ok hb hl h0 (by omega) fun s' v v0 v1 => ifB_of (fun _ => ?_) (fun _ => ?_)
    · refine next_ok hb hl (by omega) (by omega) fun s2 w w0 w1 => ⟨by omega, ?_⟩
      rw [wrap64 (x := v * 256) (by omega) (by omega), wrap64 (by omega) (by omega)]
      obtain ⟨r, er, hr⟩ := tmod_lt (x := v * 256 + w) (n := n) (by omega) (by omega)
      rw [er]
      exact hk _ _ _ (by omega) (by omega) hr
    · obtain ⟨r, er, hr⟩ := tmod_lt (x := v) (n := n) (by omega) (by omega)
      refine ⟨by omega, ?_⟩
      rw [er]
      exact hk _ _ _ (by omega) (by omega) hr
theorem at_ok (hb : Bytes code) {i n : Nat} {i' n' : Int} (ei : i' = (i : Int)) (en : n' = (n : Int)) (hn : 1 ≤ n) (hi : i ≤ 1000) {K : Int → Prop} (hk : ∀ v : Nat, v < n → K (v : Int)) : laws_b10At.wp code i' n' K := by
  subst ei en
  rw [laws_b10At.eq]
  refine ifB_of (fun e => hk 0 (by omega)) (fun e => ifB_of (fun e2 => ?_) (fun e2 => ?_))
  · have := hb.at i
    have e2 := of_decide_eq_true e2
    rw [Int.toNat_natCast, wrap64 (by omega) (by omega)]
    obtain ⟨r, er, hr⟩ := tmod_lt (n := n) this.1 (by omega)
    rw [er]
    exact ⟨⟨by omega, e2⟩, by omega, hk _ hr⟩
  · rw [wrap64 (x := (i : Int) * 37) (by omega) (by omega), wrap64 (by omega) (by omega)]
    obtain ⟨r, er, hr⟩ := tmod_lt (x := (i : Int) * 37 + 11) (n := n) (by omega) (by omega)
    rw [er]
    exact ⟨by omega, hk _ hr⟩
theorem long_ok {a b : List Int} {K : Bool → Prop} (h1 : K true) (h2 : a.length ≤ 1048576 → b.length ≤ 1048576 → K false) : laws_b10Long.wp a b K := by
  rw [laws_b10Long.eq]
  refine ifB_of (fun _ => h1) (fun e => ?_)
  have e := of_decide_eq_false e
  by_cases hb : (b.length : Int) > 1048576
  · rw [decide_eq_true hb]; exact h1
  · rw [decide_eq_false hb]; exact h2 (by omega) (by omega)
/-- drawn heights -/
structure Drawn (l : List Int) (W H : Nat) : Prop where
  w2 : 2 ≤ W
  w5 : W ≤ 5
  h2 : 2 ≤ H
  h5 : H ≤ 5
  len : l.length = W * H
  top : ∀ v ∈ l, 0 ≤ v ∧ v ≤ 3
theorem drawn_ok (hb : Bytes code) (hl : code.length ≤ 1099511627776) {K : List Int → Int → Int → Prop} (hk : ∀ l (W H : Nat), Drawn l W H → K l (W : Int) (H : Int)) : spec_B10Heights.wp code K := by
  rw [spec_B10Heights.eq, spec_l00From.eq, spec_l05DrawOk.eq]
  refine pick_ok (n := 4) hb hl (by rfl) (by omega) (by omega) (by omega) (by omega) fun a1 s1 w q1 q2 hw => ?_
  refine pick_ok (n := 4) hb hl (by rfl) (by omega) (by omega) (by omega) (by omega) fun a2 s2 h q3 q4 hh => ?_
  refine pick_ok (n := 3) hb hl (by rfl) (by omega) (by omega) (by omega) (by omega) fun a3 s3 kind q5 q6 hkd => ?_
  intro J hJ
  have ew : Go.IntKind.wrap Go.IntKind.i64 ((2 : Int) + (w : Int)) = ((2 + w : Nat) : Int) := by rw [wrap64 (by omega) (by omega)]; omega
  have eh : Go.IntKind.wrap Go.IntKind.i64 ((2 : Int) + (h : Int)) = ((2 + h : Nat) : Int) := by rw [wrap64 (by omega) (by omega)]; omega
  rw [ew, eh]
  have hwh : (2 + w) * (2 + h) ≤ 25 := Nat.mul_le_mul (show 2 + w ≤ 5 by omega) (show 2 + h ≤ 5 by omega)
  have en : Go.IntKind.wrap Go.IntKind.i64 (((2 + w : Nat) : Int) * ((2 + h : Nat) : Int)) = (((2 + w) * (2 + h) : Nat) : Int) := by rw [← Int.natCast_mul, wrap_nat (by omega)]
  have main : ∀ k i : Nat, i + k = (2 + w) * (2 + h) → ∀ (a s : Int) (l : List Int), 0 ≤ a → a ≤ 6 + 4 * i → l.length = i → (∀ v ∈ l, 0 ≤ v ∧ v ≤ 3) → J a s 0 0 ((2 + w : Nat) : Int) ((2 + h : Nat) : Int) [] l (kind : Int) (i : Int) := by
    intro k
    induction k with
    | zero =>
      intro i hi a s l a0 a1 hlen ht
      refine hJ _ _ _ _ _ _ _ _ _ _ ?_
      rw [en]
      refine ifN (by omega) ?_
      exact hk l (2 + w) (2 + h) ⟨by omega, by omega, by omega, by omega, by omega, ht⟩
    | succ k ih =>
      intro i hi a s l a0 a1 hlen ht
      refine hJ _ _ _ _ _ _ _ _ _ _ ?_
      rw [en]
      refine ifD (by omega) ?_
      have put : ∀ (a' s' : Int) (v : Nat), 0 ≤ a' → a' ≤ 6 + 4 * (i + 1) → v ≤ 3 → List.length (l ++ (v : Int) :: List.replicate (0 : Nat) (0 : Int)) ≤ (1099511627776 : Nat) ∧ J a' s' 0 0 ((2 + w : Nat) : Int) ((2 + h : Nat) : Int) [] (l ++ (v : Int) :: List.replicate (0 : Nat) (0 : Int)) (kind : Int) (Go.IntKind.wrap Go.IntKind.i64 ((i : Int) + (1 : Int))) := by
        intro a' s' v b0 b1 hv
        refine ⟨by simp; omega, ?_⟩
        rw [wrap_succ (by omega)]
        refine ih (i + 1) (by omega) a' s' _ b0 (by omega) (by simp; omega) ?_
        intro u hu
        rw [List.mem_append] at hu
        rcases hu with hu | hu
        · exact ht u hu
        · simp at hu; omega
      refine pick_ok (n := 4) hb hl (by rfl) (by omega) (by omega) (by omega) (by omega) fun a4 s4 v q7 q8 hv => ifB_of (fun _ => ?_) (fun _ => ?_)
      · refine pick_ok (n := 2) hb hl (by rfl) (by omega) (by omega) (by omega) (by omega) fun a5 s5 v q9 q10 hv => ?_
        exact put _ _ _ (by omega) (by omega) (by omega)
      · exact put _ _ _ (by omega) (by omega) (by omega)
  exact main ((2 + w) * (2 + h)) 0 (by omega) _ _ [] (by omega) (by omega) rfl (by simp)
theorem seed_ok (hb : Bytes code) (hl : code.length ≤ 1099511627776) {K : Int → Prop} (hk : ∀ s, 0 ≤ s → s ≤ 2147483647 → K s) : spec_B10Seed.wp code K := by
  rw [spec_B10Seed.eq, spec_l00From.eq]
  refine pick_ok (n := 32768) hb hl (by rfl) (by omega) (by omega) (by omega) (by omega) fun a1 s1 w q1 q2 hw => ?_
  refine pick_ok (n := 65536) hb hl (by rfl) (by omega) (by omega) (by omega) (by omega) fun a2 s2 h q3 q4 hh => ?_
  rw [wrap64 (x := (w : Int) * 65536) (by omega) (by omega), wrap64 (by omega) (by omega)]
  exact hk _ (by omega) (by omega)
end
section
variable {l : List Int} {W H : Nat}
theorem Drawn.wh (d : Drawn l W H) : W * H ≤ 25 := Nat.mul_le_mul d.w5 d.h5
theorem Drawn.at (d : Drawn l W H) (i : Nat) : 0 ≤ l.getD i 0 ∧ l.getD i 0 ≤ 3 := by
  by_cases hi : i < l.length
  · exact d.top _ (getD_mem 0 hi)
  · simp [List.getD, List.getElem?_eq_none (Nat.le_of_not_lt hi)]
theorem valid_of (w2 : 2 ≤ W) (w16 : W ≤ 16) (h2 : 2 ≤ H) (h16 : H ≤ 16) (len : l.length = W * H) (ht : ∀ v ∈ l, 0 ≤ v ∧ v ≤ 1000) : validH l W H = true := by
  have hwh : W * H ≤ 256 := Nat.mul_le_mul w16 h16
  simp only [validH, sizeB, Bool.and_eq_true, inB_iff, beq_iff_eq, List.all_eq_true]
  refine ⟨fun v hv => ht v hv, ⟨⟨by omega, by omega⟩, by omega, by omega⟩, ?_⟩
  rw [← Int.natCast_mul, wrap_nat (by omega), len]
theorem Drawn.valid (d : Drawn l W H) : validH l W H = true :=
  valid_of d.w2 (by have := d.w5; omega) d.h2 (by have := d.h5; omega) d.len fun v hv => by have := d.top v hv; omega
theorem valid_top (h : validH l W H = true) (i : Nat) : 0 ≤ l.getD i 0 ∧ l.getD i 0 ≤ 1000 := by
  simp only [validH, Bool.and_eq_true, List.all_eq_true, inB_iff] at h
  by_cases hi : i < l.length
  · exact h.1 _ (getD_mem 0 hi)
  · simp [List.getD, List.getElem?_eq_none (Nat.le_of_not_lt hi)]
/-- the sum of all tops -/
theorem atoms_ok (len : l.length ≤ 256) (ht : ∀ i, 0 ≤ l.getD i 0 ∧ l.getD i 0 ≤ 1000) {w h : Int} {K : Int → Prop} (hk : K (sumL l)) : impl_Heights_atoms.wp l w h K := by
  rw [impl_Heights_atoms.eq]
  intro J hJ
  have hb : ∀ i : Nat, i ≤ 256 → 0 ≤ sumN (fun i => l.getD i 0) i ∧ sumN (fun i => l.getD i 0) i ≤ 1000 * i := fun i hi => by
    have := sumN_bound (f := fun i => l.getD i 0) (a := 0) (b := 1000) (n := i) fun i _ => ht i
    omega
  refine down (Q := fun i => J (sumN (fun i => l.getD i 0) i) (l.length : Int) (i : Int)) (n := l.length) (hJ _ _ _ (ifN (by omega) hk)) (fun i hi ih => hJ _ _ _ (ifD (by omega) ⟨⟨by omega, by omega⟩, ?_⟩)) 0 (Nat.zero_le _)
  have h1 := hb (i + 1) (by omega)
  have e : sumN (fun i => l.getD i 0) i + l.getD i 0 = sumN (fun i => l.getD i 0) (i + 1) := rfl
  rw [Int.toNat_natCast, e, wrap_succ (by omega), wrap64 (by omega) (by omega)]
  exact ih
theorem impl_atoms (hv : validH l W H = true) {K : Int → Bool → Prop} (hk : K (sumL l) true) : impl_AtomsIn.wp l (W : Int) (H : Int) K := by
  obtain ⟨W', H', e1, e2, w2, w16, h2, h16, wh, len⟩ := valid_nat hv
  rw [impl_AtomsIn.eq]
  refine impl_is (by omega) ?_
  rw [hv]
  refine ifF rfl (atoms_ok (by omega) (valid_top hv) hk)
end
end Go.K.heights
