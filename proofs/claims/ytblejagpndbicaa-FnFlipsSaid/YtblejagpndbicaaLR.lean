/- What is drawn: grains. -/
import Derived.Test.YtblejagpndbicaaLMc
import Derived.Test.YtblejagpndbicaaF20
set_option linter.unusedSimpArgs false
set_option linter.unusedVariables false
set_option maxRecDepth 10000
set_option maxHeartbeats 4000000
namespace Go.K.grains
open Go.K Go
attribute [local irreducible] spec_l00Src_pick.wp spec_l00Src_next.wp spec_l00Src_one.wp laws_r8At.wp laws_r8Long.wp spec_R8Grains.wp spec_l04DrawOk.wp impl_ValidGrains.wp

def Bytes (l : List Int) : Prop := ∀ b ∈ l, 0 ≤ b ∧ b ≤ 255
theorem Bytes.at {l : List Int} (h : Bytes l) (i : Nat) : 0 ≤ l.getD i 0 ∧ l.getD i 0 ≤ 255 := by
  by_cases hi : i < l.length
  · exact h _ (getD_mem 0 hi)
  · simp [List.getD, List.getElem?_eq_none (Nat.le_of_not_lt hi)]
theorem bytes_wf {l : List Int} (h : ∀ b ∈ l, (Lit.int .u8 b).wf = true) : Bytes l := by
  intro b hb
  have := h b hb
  have h1 : IntKind.u8.min ≤ b ∧ b ≤ IntKind.u8.max := by simpa [Lit.wf] using this
  have e1 : IntKind.u8.min = 0 := by decide
  have e2 : IntKind.u8.max = 255 := by decide
  omega
section
variable {code : List Int}
theorem next_ok (hb : Bytes code) (hl : code.length ≤ 1099511627776) {at_ s : Int} (h0 : 0 ≤ at_) (h1 : at_ ≤ 1000000000) {K : Int → Int → Int → Prop} (hk : ∀ s' v, 0 ≤ v → v ≤ 255 → K (at_ + 1) s' v) : spec_l00Src_next.wp at_ s code K := by
  rw [spec_l00Src_next.eq]
  intro J hJ
  have main : ∀ v, 0 ≤ v → v ≤ 255 → J at_ s v := by
    intro v v0 v1
    refine hJ _ _ _ ?_
    rw [wrap64 (x := at_ + 1) (by omega) (by omega)]
    refine ifB_of (fun _ => hk _ _ v0 v1) (fun _ => ?_)
    have := and255 (ishr Go.IntKind.u64 (Go.IntKind.wrap Go.IntKind.u64 (Go.IntKind.wrap Go.IntKind.u64 (Go.IntKind.wrap Go.IntKind.u64 (s * (6364136223846793005 : Int)) + Go.IntKind.wrap Go.IntKind.u64 v) + (1442695040888963407 : Int))) (40 : Int))
    rw [wrap64 (by omega) (by omega)]
    exact hk _ _ this.1 this.2
  refine ifB_of (fun e => ?_) (fun e => ?_)
  · have e := of_decide_eq_true e
    have := hb.at (Int.toNat at_)
    refine ⟨⟨h0, e⟩, ?_⟩
    rw [wrap64 (by omega) (by omega)]
    exact main _ this.1 this.2
  · exact main 0 (by omega) (by omega)
theorem tmod_lt {x : Int} {n : Nat} (h0 : 0 ≤ x) (hn : 0 < n) : ∃ v : Nat, Int.tmod x (n : Int) = (v : Int) ∧ v < n := by
  obtain ⟨k, rfl⟩ : ∃ k : Nat, x = (k : Int) := ⟨x.toNat, by omega⟩
  exact ⟨k % n, tmod_nat k n, Nat.mod_lt _ hn⟩
theorem pick_ok (hb : Bytes code) (hl : code.length ≤ 1099511627776) {at_ s m : Int} {n : Nat} (em : m = (n : Int)) (h0 : 0 ≤ at_) (h1 : at_ ≤ 999999999) (hn : 1 ≤ n) (hn2 : n ≤ 1000000) {K : Int → Int → Int → Prop} (hk : ∀ at' s' (v : Nat), at_ ≤ at' → at' ≤ at_ + 2 → v < n → K at' s' (v : Int)) : spec_l00Src_pick.wp at_ s code m K := by
  subst em
  rw [spec_l00Src_pick.eq]
  refine ifB_of (fun e => ?_) (fun e => ?_)
  · exact hk _ _ 0 (by omega) (by omega) (by omega)
  · refine next_ok hb hl h0 (by omega) fun s' v v0 v1 => ifB_of (fun _ => ?_) (fun _ => ?_)
    · refine next_ok hb hl (by omega) (by omega) fun s2 w w0 w1 => ⟨by omega, ?_⟩
      rw [wrap64 (x := v * 256) (by omega) (by omega), wrap64 (by omega) (by omega)]
      obtain ⟨r, er, hr⟩ := tmod_lt (x := v * 256 + w) (n := n) (by omega) (by omega)
      rw [er]
      exact hk _ _ _ (by omega) (by omega) hr
    · obtain ⟨r, er, hr⟩ := tmod_lt (x := v) (n := n) (by omega) (by omega)
      refine ⟨by omega, ?_⟩
      rw [er]
      exact hk _ _ _ (by omega) (by omega) hr
theorem at_ok (hb : Bytes code) {i n : Nat} {i' n' : Int} (ei : i' = (i : Int)) (en : n' = (n : Int)) (hn : 1 ≤ n) {K : Int → Prop} (hk : ∀ v : Nat, v < n → K (v : Int)) : laws_r8At.wp code i' n' K := by
  subst ei en
  rw [laws_r8At.eq]
  refine ifB_of (fun e => hk 0 (by omega)) (fun e => ifB_of (fun e2 => hk 0 (by omega)) (fun e2 => ?_))
  have := hb.at i
  have e2 := of_decide_eq_false e2
  rw [Int.toNat_natCast, wrap64 (by omega) (by omega)]
  obtain ⟨r, er, hr⟩ := tmod_lt (n := n) this.1 (by omega)
  rw [er]
  exact ⟨⟨by omega, by omega⟩, by omega, hk _ hr⟩
theorem long_ok {a b : List Int} {K : Bool → Prop} (h1 : K true) (h2 : a.length ≤ 48 → b.length ≤ 48 → K false) : laws_r8Long.wp a b K := by
  rw [laws_r8Long.eq]
  refine ifB_of (fun _ => h1) (fun e => ?_)
  have e := of_decide_eq_false e
  by_cases hb : (b.length : Int) > 48
  · rw [decide_eq_true hb]; exact h1
  · rw [decide_eq_false hb]; exact h2 (by omega) (by omega)
theorem one_ok (hb : Bytes code) (hl : code.length ≤ 1099511627776) {at_ s : Int} (h0 : 0 ≤ at_) (h1 : at_ ≤ 999999999) {K : Int → Int → Bool → Prop} (hk : ∀ at' s' v, at_ ≤ at' → at' ≤ at_ + 2 → K at' s' v) : spec_l00Src_one.wp at_ s code 4 K := by
  rw [spec_l00Src_one.eq]
  exact pick_ok (n := 4) hb hl (by rfl) h0 h1 (by omega) (by omega) fun a s v q1 q2 _ => hk _ _ _ q1 q2
/-- drawn grains -/
theorem drawn_ok (hb : Bytes code) (hl : code.length ≤ 1099511627776) {K : List Int → Int → Int → Prop} (hk : ∀ l (W H : Nat), W ≤ 6 → H ≤ 6 → Geo l W H → K l (W : Int) (H : Int)) : spec_R8Grains.wp code K := by
  rw [spec_R8Grains.eq, spec_l00From.eq, spec_l04DrawOk.eq]
  refine pick_ok (n := 6) hb hl (by rfl) (by omega) (by omega) (by omega) (by omega) fun a1 s1 w q1 q2 hw => ?_
  refine pick_ok (n := 6) hb hl (by rfl) (by omega) (by omega) (by omega) (by omega) fun a2 s2 h q3 q4 hh => ?_
  rw [spec_l04New.eq]
  refine pick_ok (n := 4) hb hl (by rfl) (by omega) (by omega) (by omega) (by omega) fun a3 s3 c q5 q6 hc => ?_
  intro J hJ
  have ew : Go.IntKind.wrap Go.IntKind.i64 ((1 : Int) + (w : Int)) = ((1 + w : Nat) : Int) := by rw [wrap64 (by omega) (by omega)]; omega
  have eh : Go.IntKind.wrap Go.IntKind.i64 ((1 : Int) + (h : Int)) = ((1 + h : Nat) : Int) := by rw [wrap64 (by omega) (by omega)]; omega
  have ec : Go.IntKind.wrap Go.IntKind.i64 ((1 : Int) + (c : Int)) = ((1 + c : Nat) : Int) := by rw [wrap64 (by omega) (by omega)]; omega
  rw [ew, eh, ec]
  have hwh : (1 + w) * (1 + h) ≤ 36 := Nat.mul_le_mul (show 1 + w ≤ 6 by omega) (show 1 + h ≤ 6 by omega)
  have hpos : 0 < (1 + w) * (1 + h) := Nat.mul_pos (by omega) (by omega)
  have en : Go.IntKind.wrap Go.IntKind.i64 (((1 + w : Nat) : Int) * ((1 + h : Nat) : Int)) = (((1 + w) * (1 + h) : Nat) : Int) := by rw [← Int.natCast_mul, wrap_nat (by omega)]
  have main : ∀ k i : Nat, i + k = (1 + w) * (1 + h) → ∀ (a s : Int) (l : List Int), 0 ≤ a → a ≤ 6 + 2 * i → l.length = i → (∀ v, v ∈ l → 0 ≤ v ∧ v < 64) → J a s 0 0 ((1 + w : Nat) : Int) ((1 + h : Nat) : Int) [] l ((1 + c : Nat) : Int) (i : Int) := by
    intro k
    induction k with
    | zero =>
      intro i hi a s l a0 a1 hlen ht
      refine hJ _ _ _ _ _ _ _ _ _ _ ?_
      rw [en]
      refine ifN (by omega) ?_
      refine one_ok hb hl (by omega) (by omega) fun a' s' v _ _ => ifB_of (fun _ => ⟨⟨by omega, by omega⟩, ?_⟩) (fun _ => ?_)
      · refine hk _ (1 + w) (1 + h) (by omega) (by omega) ⟨by omega, by omega, by omega, by omega, by omega, by rw [List.length_set]; omega, ?_⟩
        intro v hv
        rcases List.mem_or_eq_of_mem_set hv with h | h
        · exact ht v h
        · omega
      · exact hk _ (1 + w) (1 + h) (by omega) (by omega) ⟨by omega, by omega, by omega, by omega, by omega, by omega, ht⟩
    | succ k ih =>
      intro i hi a s l a0 a1 hlen ht
      refine hJ _ _ _ _ _ _ _ _ _ _ ?_
      rw [en]
      refine ifD (by omega) ?_
      refine pick_ok hb hl rfl (by omega) (by omega) (by omega) (by omega) fun a4 s4 v q7 q8 hv => ?_
      refine ⟨by simp; omega, ?_⟩
      rw [wrap_succ (by omega)]
      refine ih (i + 1) (by omega) a4 s4 _ (by omega) (by omega) (by simp; omega) ?_
      intro u hu
      rw [List.mem_append] at hu
      rcases hu with hu | hu
      · exact ht u hu
      · simp at hu; omega
  exact main ((1 + w) * (1 + h)) 0 (by omega) _ _ [] (by omega) (by omega) rfl (by simp)
end
theorem Geo.valid {l : List Int} {W H : Nat} (g : Geo l W H) : validG l W H = true := by
  obtain ⟨w1, w16, h1, h16, wh, len, lab⟩ := g
  simp only [validG, sizeB, Bool.and_eq_true, inB_iff, beq_iff_eq, List.all_eq_true]
  refine ⟨⟨by omega, by omega⟩, ?_, fun v hv => ?_⟩
  · rw [← Int.natCast_mul, wrap_nat (by omega), len]
  · have := lab v hv; omega
end Go.K.grains
