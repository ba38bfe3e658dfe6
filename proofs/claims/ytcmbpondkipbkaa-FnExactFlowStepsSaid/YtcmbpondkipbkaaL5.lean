/- Steps that flow. -/
import Derived.Test.YtcmbpondkipbkaaL2
set_option linter.unusedSimpArgs false
set_option linter.unusedVariables false
set_option maxRecDepth 10000
set_option maxHeartbeats 4000000
namespace Go.K.heights
open Go.K Go

def overF (l : List Int) (t : Int) (c k : Int) : Int := if l.getD k.toNat 0 > t then Go.IntKind.wrap .i64 (c + 1) else c
def overN (l : List Int) (W H : Nat) (i : Nat) : Int := foldU (overF l (l.getD i 0)) 0 (nearL W H ((i % W : Nat) : Int) ((i / W : Nat) : Int)) 4
def flowI (l : List Int) (W H : Nat) (need : Int) (i : Nat) : Int := if overN l W H i ≥ need then l.getD i 0 + 1 else l.getD i 0
def flowL (l : List Int) (W H : Nat) (need : Int) : List Int := marked (flowI l W H need) (W * H)
def anyF (l : List Int) (W H : Nat) (need : Int) (n : Nat) : Bool := (List.range n).any fun i => decide (overN l W H i ≥ need)
theorem anyF_succ (l : List Int) (W H : Nat) (need : Int) (n : Nat) : anyF l W H need (n + 1) = (anyF l W H need n || decide (overN l W H n ≥ need)) := by
  simp [anyF, List.range_succ, List.any_append]
/-- heights that are not too great -/
def Fit (l : List Int) (b : Int) : Prop := ∀ i, i < l.length → 0 ≤ l.getD i 0 ∧ l.getD i 0 ≤ b
theorem flow_length (l : List Int) (W H : Nat) (need : Int) : (flowL l W H need).length = W * H := marked_length _ _
theorem flow_fit {l : List Int} {W H : Nat} {need b : Int} (hl : l.length = W * H) (hf : Fit l b) : Fit (flowL l W H need) (b + 1) := by
  intro i hi
  rw [flow_length] at hi
  unfold flowL
  rw [marked_getD _ 0 hi]
  have := hf i (by omega)
  unfold flowI
  split <;> omega
theorem flow_same {l : List Int} {W H : Nat} {need : Int} (hl : l.length = W * H) : (flowL l W H need == l) = !anyF l W H need (W * H) := by
  cases ha : anyF l W H need (W * H)
  · have hall : ∀ i, i < W * H → flowI l W H need i = l.getD i 0 := by
      intro i hi
      unfold anyF at ha
      rw [List.any_eq_false] at ha
      have := ha i (by simpa using hi)
      unfold flowI
      rw [if_neg (by simpa using this)]
    have h3 : flowL l W H need = marked (fun i => l.getD i 0) (W * H) := by
      unfold flowL marked
      exact List.map_congr_left fun i hi => hall i (by simpa using hi)
    have this : flowL l W H need = l := by
      have h2 := marked_getD_self l 0
      rw [hl] at h2
      exact h3.trans h2
    simp [this]
  · rw [Bool.not_true, beq_eq_false_iff_ne]
    intro e
    unfold anyF at ha
    rw [List.any_eq_true] at ha
    obtain ⟨i, hi, hc⟩ := ha
    have hi : i < W * H := by simpa using hi
    have h1 : (flowL l W H need).getD i 0 = l.getD i 0 := by rw [e]
    unfold flowL at h1
    rw [marked_getD _ 0 hi] at h1
    unfold flowI at h1
    rw [if_pos (by simpa using hc)] at h1
    omega

theorem set_getD_self {l : List Int} {i : Nat} (h : i < l.length) : l.set i (l.getD i 0) = l := by
  apply List.ext_getElem
  · simp
  · intro n h1 h2
    rw [List.getElem_set]
    split
    · rename_i e
      subst e
      simp [List.getD, h]
    · rfl
theorem same_loopI {l m : List Int} (hlen : l.length = m.length) {J : Int → Prop} {K : Bool → Prop} (h : K (l == m)) (hend : K true → J (l.length : Int)) (hbad : ∀ i : Nat, i < l.length → (l.getD i 0 == m.getD i 0) = false → K false → J (i : Int))
    (hstep : ∀ i : Nat, i < l.length → (l.getD i 0 == m.getD i 0) = true → J ((i + 1 : Nat) : Int) → J (i : Int)) : J 0 := by
  have key := down (Q := fun i => K (l.drop i == m.drop i) → J (i : Int)) (n := l.length) (by
    intro h
    rw [List.drop_length, hlen, List.drop_length] at h
    exact hend h) (by
    intro i hi ih h
    have hi2 : i < m.length := by omega
    rw [List.drop_eq_getElem_cons hi, List.drop_eq_getElem_cons hi2] at h
    have e1 : l.getD i 0 = l[i] := by simp [List.getD, hi]
    have e2 : m.getD i 0 = m[i] := by simp [List.getD, hi2]
    have e3 : ((l[i] :: List.drop (i + 1) l) == (m[i] :: List.drop (i + 1) m)) = (l[i] == m[i] && List.drop (i + 1) l == List.drop (i + 1) m) := rfl
    rw [e3] at h
    cases hp : l[i] == m[i]
    · rw [hp] at h; exact hbad i hi (by rw [e1, e2]; exact hp) h
    · rw [hp] at h; exact hstep i hi (by rw [e1, e2]; exact hp) (ih h)) 0 (Nat.zero_le _)
  exact key (by simpa using h)

section
variable {l : List Int} {W H : Nat}
theorem spec_flow (w2 : 2 ≤ W) (w16 : W ≤ 16) (h2 : 2 ≤ H) (h16 : H ≤ 16) (hl : l.length = W * H) (hf : Fit l 2000) {need : Int} {K : List Int → Int → Int → Bool → Prop}
    (hk : K (flowL l W H need) (W : Int) (H : Int) (anyF l W H need (W * H))) : spec_l05Flow.wp (W : Int) (H : Int) l need 1 K := by
  have hwh : W * H ≤ 256 := Nat.mul_le_mul w16 h16
  rw [spec_l05Flow.eq]
  refine own_ok (by omega) fun J hJ => ?_
  rw [hl]
  have main := down (Q := fun i => J 0 0 (W : Int) (H : Int) [] (marked (flowI l W H need) i ++ l.drop i) (anyF l W H need i) ((W * H : Nat) : Int) (i : Int)) (n := W * H) (hJ _ _ _ _ _ _ _ _ _ (ifN (by omega) ?_)) (fun i hi ih => hJ _ _ _ _ _ _ _ _ _ (ifD (by omega) ?_)) 0 (Nat.zero_le _)
  · simpa [marked, anyF] using main
  · rw [← hl, List.drop_length, List.append_nil, hl]; exact hk
  · have hx : i % W < W := Nat.mod_lt _ (by omega)
    have hy : i / W < H := Nat.div_lt_of_lt_mul hi
    have ei : i = i % W + W * (i / W) := (Nat.mod_add_div i W).symm
    have e0 : spec_l05Near.wp (W : Int) (H : Int) l (i : Int) = spec_l05Near.wp (W : Int) (H : Int) l ((i % W + W * (i / W) : Nat) : Int) := by rw [← ei]
    rw [e0]
    refine spec_near w2 w16 h2 h16 hx hy fun J2 hJ2 => ?_
    have hln : (nearL W H ((i % W : Nat) : Int) ((i / W : Nat) : Int)).length = 4 := rfl
    have hfi := hf i (by omega)
    have hil : i < l.length := by omega
    have hlen : (marked (flowI l W H need) i ++ l.drop i).length = W * H := by simp [marked_length]; omega
    have hget : (marked (flowI l W H need) i ++ l.drop i).getD i 0 = l.getD i 0 := by
      rw [List.drop_eq_getElem_cons hil]
      have : (marked (flowI l W H need) i).length = i := marked_length _ _
      simp [List.getD, List.getElem?_append_right, this, hil]
    rw [hln]
    refine down (Q := fun j => J2 0 0 (W : Int) (H : Int) (nearL W H ((i % W : Nat) : Int) ((i / W : Nat) : Int)) [] (marked (flowI l W H need) i ++ l.drop i) (anyF l W H need i) (i : Int) (foldU (overF l (l.getD i 0)) 0 (nearL W H ((i % W : Nat) : Int) ((i / W : Nat) : Int)) j) ((W * H : Nat) : Int) (i : Int) 4 (j : Int)) (n := 4) (hJ2 _ _ _ _ _ _ _ _ _ _ _ _ _ _ (ifN (by decide) ?_)) (fun j hj ihj => ?_) 0 (Nat.zero_le _)
    · show ifB (decide (overN l W H i ≥ need)) _ _
      have hs := set_step (V := flowI l W H need) hil
      rw [anyF_succ] at ih
      by_cases hc : overN l W H i ≥ need
      · refine ifD hc ⟨⟨by omega, by omega⟩, ?_⟩
        rw [Int.toNat_natCast, hget, wrap64 (by omega) (by omega)]
        refine ifD (by omega) ⟨⟨by omega, by omega⟩, ⟨by omega, by omega⟩, ?_⟩
        have ev : flowI l W H need i = l.getD i 0 + 1 := by unfold flowI; rw [if_pos hc]
        rw [ev] at hs
        rw [hs, wrap_succ (by omega)]
        rw [decide_eq_true hc, Bool.or_true] at ih
        exact ih
      · refine ifN hc ?_
        have ev : flowI l W H need i = l.getD i 0 := by unfold flowI; rw [if_neg hc]
        rw [decide_eq_false hc, Bool.or_false] at ih
        have e : marked (flowI l W H need) i ++ l.drop i = marked (flowI l W H need) (i + 1) ++ l.drop (i + 1) := by
          rw [← hs, ev]
          have hself := set_getD_self (l := marked (flowI l W H need) i ++ l.drop i) (i := i) (by omega)
          rw [hget] at hself
          exact hself.symm
        rw [e, wrap_succ (by omega)]
        exact ih
    · obtain ⟨k, ek, hk'⟩ := near_mem (by omega) (by omega) (getD_mem 0 (show j < (nearL W H ((i % W : Nat) : Int) ((i / W : Nat) : Int)).length by omega))
      rw [foldU_succ 0 (by omega), ek] at ihj
      have hfk := hf k (by omega)
      refine hJ2 _ _ _ _ _ _ _ _ _ _ _ _ _ _ (ifD (by omega) ⟨⟨by omega, by rw [hln]; omega⟩, ?_⟩)
      rw [Int.toNat_natCast, ek, Int.toNat_natCast, Int.toNat_natCast]
      refine ⟨⟨by omega, by omega⟩, ⟨by omega, by omega⟩, ?_⟩
      rw [wrap64 (x := l.getD k 0 - l.getD i 0) (by omega) (by omega), wrap64 (x := 1 * (l.getD k 0 - l.getD i 0)) (by omega) (by omega), wrap_succ (i := j) (by omega)]
      have eo : ∀ c : Int, overF l (l.getD i 0) c (k : Int) = if l.getD k 0 > l.getD i 0 then Go.IntKind.wrap .i64 (c + 1) else c := by intro c; unfold overF; rw [Int.toNat_natCast]
      rw [eo] at ihj
      by_cases hc : l.getD k 0 > l.getD i 0
      · rw [if_pos hc] at ihj; exact ifD (by omega) ihj
      · rw [if_neg hc] at ihj; exact ifN (by omega) ihj

theorem impl_how (w2 : 2 ≤ W) (w16 : W ≤ 16) (h2 : 2 ≤ H) (h16 : H ≤ 16) (hl : l.length = W * H) (hf : Fit l 2000) {need : Int} {i : Nat} (hi : i < W * H) {K : Int → Prop} (hk : K (flowI l W H need i)) :
    impl_FlowSteps_1.wp l (W : Int) (H : Int) ((i % W : Nat) : Int) ((i / W : Nat) : Int) need K := by
  have hwh : W * H ≤ 256 := Nat.mul_le_mul w16 h16
  have hx : i % W < W := Nat.mod_lt _ (by omega)
  have hy : i / W < H := Nat.div_lt_of_lt_mul hi
  have ei : i % W + W * (i / W) = i := Nat.mod_add_div i W
  have hfi := hf i (by omega)
  have ec : cellN W H ((i % W : Nat) : Int) ((i / W : Nat) : Int) = i := by unfold cellN; rw [pl_self hx, pl_self hy, ei]
  unfold flowI overN at hk
  rw [impl_FlowSteps_1.eq, impl_Heights_top.eq]
  generalize i % W = x at *
  generalize i / W = y at *
  refine impl_cell w2 w16 h2 h16 ⟨by omega, by omega⟩ ⟨by omega, by omega⟩ ?_
  rw [ec, Int.toNat_natCast]
  refine ⟨⟨by omega, by omega⟩, ?_⟩
  rw [impl_Heights_count__FlowSteps_1_1.eq]
  refine impl_near w2 w16 h2 h16 hx hy fun J hJ => ?_
  have hln : (nearL W H (x : Int) (y : Int)).length = 4 := rfl
  rw [hln]
  refine down (Q := fun j => J (W : Int) (H : Int) (nearL W H (x : Int) (y : Int)) (foldU (overF l (l.getD i 0)) 0 (nearL W H (x : Int) (y : Int)) j) 4 (j : Int)) (n := 4) (hJ _ _ _ _ _ _ (ifN (by decide) ?_)) (fun j hj ihj => ?_) 0 (Nat.zero_le _)
  · rw [wrap64 (by omega) (by omega)]
    by_cases hc : foldU (overF l (l.getD i 0)) 0 (nearL W H (x : Int) (y : Int)) 4 ≥ need
    · rw [if_pos hc] at hk; exact ifD hc hk
    · rw [if_neg hc] at hk; exact ifN hc hk
  · obtain ⟨k, ek, hk'⟩ := near_mem (by omega) (by omega) (getD_mem 0 (show j < (nearL W H (x : Int) (y : Int)).length by omega))
    rw [foldU_succ 0 (by omega), ek] at ihj
    refine hJ _ _ _ _ _ _ (ifD (by omega) ⟨⟨by omega, by rw [hln]; omega⟩, ?_⟩)
    rw [Int.toNat_natCast, ek, Int.toNat_natCast, impl_FlowSteps_1_1.eq]
    refine ⟨⟨by omega, by omega⟩, ?_⟩
    have eo : ∀ c : Int, overF l (l.getD i 0) c (k : Int) = if l.getD k 0 > l.getD i 0 then Go.IntKind.wrap .i64 (c + 1) else c := by intro c; unfold overF; rw [Int.toNat_natCast]
    rw [eo] at ihj
    rw [wrap_succ (i := j) (by omega)]
    by_cases hc : l.getD k 0 > l.getD i 0
    · rw [if_pos hc] at ihj; exact ifD hc ihj
    · rw [if_neg hc] at ihj; exact ifN hc ihj
theorem same_ok {m : List Int} (hl : l.length ≤ 1048576) {a b : Int} {K : Bool → Prop} (hlen : m.length = l.length) (hk : K (m == l)) : impl_SameHeights.wp m l a b a b K := by
  rw [impl_SameHeights.eq, slices_Equal_int64_int64.eq]
  refine ifT (by simp) (ifT (by simp) (ifF (by simp [hlen]) fun J hJ => ?_))
  refine same_loopI (J := fun x => J (m.length : Int) x) hlen hk (fun h => hJ _ _ (ifN (by omega) h)) (fun i hi hp h => ?_) (fun i hi hp ih => ?_)
  · refine hJ _ _ (ifD (by omega) ⟨⟨by omega, by omega⟩, ⟨by omega, by omega⟩, ?_⟩)
    rw [Int.toNat_natCast]
    exact ifT (by simpa [bne] using hp) h
  · refine hJ _ _ (ifD (by omega) ⟨⟨by omega, by omega⟩, ⟨by omega, by omega⟩, ?_⟩)
    rw [Int.toNat_natCast, wrap_succ (by omega)]
    exact ifF (by simpa [bne] using hp) ih

def flows (W H : Nat) (need : Int) : Nat → List Int → List Int
  | 0, l => l
  | r + 1, l => if anyF l W H need (W * H) = true then flows W H need r (flowL l W H need) else l
theorem flows_length {W H : Nat} {need : Int} : ∀ (r : Nat) (l : List Int), l.length = W * H → (flows W H need r l).length = W * H
  | 0, l, h => h
  | r + 1, l, h => by
    unfold flows
    split
    · exact flows_length r _ (flow_length _ _ _ _)
    · exact h
end
def flowOk (l : List Int) (w h need rounds : Int) : Bool := validH l w h && (inB need 1 4 && inB rounds 0 50)
def flowR (l : List Int) (w h need rounds : Int) : FallR := if flowOk l w h need rounds = true then giveR (flows w.toNat h.toNat need rounds.toNat l) w h else noFall
theorem flow_facts {l : List Int} {w h need rounds : Int} (ho : flowOk l w h need rounds = true) : ∃ W H n : Nat, Geo l w h W H ∧ rounds = (n : Int) ∧ n ≤ 50 ∧ Fit l 1000 := by
  simp only [flowOk, Bool.and_eq_true] at ho
  obtain ⟨hv, h1, h2⟩ := ho
  have hv' := hv
  obtain ⟨W, H, rfl, rfl, a1, a2, a3, a4, a5, a6⟩ := valid_nat hv
  have h2 := inB_iff.1 h2
  refine ⟨W, H, rounds.toNat, ⟨rfl, rfl, a1, a2, a3, a4, a5, a6⟩, by omega, by omega, fun i hi => ?_⟩
  simp only [validH, Bool.and_eq_true] at hv'
  have := List.all_eq_true.1 hv'.1 _ (getD_mem 0 hi)
  exact inB_iff.1 this
theorem flowR_length {l : List Int} {w h need rounds : Int} : (flowR l w h need rounds).l.length ≤ 1099511627776 := by
  unfold flowR
  split
  · rename_i ho
    obtain ⟨W, H, n, g, rfl, _, _⟩ := flow_facts ho
    obtain ⟨rfl, rfl, _, _, _, _, wh, len⟩ := g
    refine giveR_length ?_
    rw [Int.toNat_natCast, Int.toNat_natCast, Int.toNat_natCast, flows_length _ _ len]; omega
  · simp [noFall]
theorem fit_mono {l : List Int} {a b : Int} (h : Fit l a) (hab : a ≤ b) : Fit l b := fun i hi => by have := h i hi; exact ⟨by omega, by omega⟩
theorem spec_give {m : List Int} {w h : Int} {K : List Int → Int → Int → Bool → Prop} (hm : m.length ≤ 1099511627776) (hk : K (giveR m w h).l (giveR m w h).w (giveR m w h).h (giveR m w h).b) : spec_l05Give.wp m w h K := by
  rw [spec_l05Give.eq]
  refine spec_is hm ?_
  unfold giveR at hk
  refine ifB_of (fun e => ?_) (fun e => ?_)
  · rw [Bool.not_eq_true'] at e
    rw [e] at hk; exact hk
  · rw [Bool.not_eq_false'] at e
    rw [e] at hk; exact hk
theorem impl_give {m : List Int} {w h : Int} {K : List Int → Int → Int → Bool → Prop} (hm : m.length ≤ 1099511627776) (hk : K (giveR m w h).l (giveR m w h).w (giveR m w h).h (giveR m w h).b) : impl_Heights_told.wp m w h K := by
  rw [impl_Heights_told.eq]
  refine impl_is hm ?_
  unfold giveR at hk
  refine ifB_of (fun e => ?_) (fun e => ?_)
  · rw [Bool.not_eq_true'] at e
    rw [e] at hk; exact hk
  · rw [Bool.not_eq_false'] at e
    rw [e] at hk; exact hk
theorem spec_Flow {l : List Int} {w h need rounds : Int} {K : List Int → Int → Int → Bool → Prop} (hl : l.length ≤ 1099511627776)
    (hk : K (flowR l w h need rounds).l (flowR l w h need rounds).w (flowR l w h need rounds).h (flowR l w h need rounds).b) : spec_FlowSteps.wp l w h need rounds K := by
  rw [spec_FlowSteps.eq, spec_l05Flows.eq]
  refine spec_is hl ?_
  unfold flowR at hk
  cases hv : validH l w h
  · have ho : flowOk l w h need rounds = false := by simp [flowOk, hv]
    rw [ho] at hk; exact ifT rfl hk
  refine ifF rfl (spec_in ?_)
  cases hr : inB need 1 4
  · have ho : flowOk l w h need rounds = false := by simp [flowOk, hr]
    rw [ho] at hk; exact ifT rfl hk
  refine ifF rfl (spec_in ?_)
  cases hc : inB rounds 0 50
  · have ho : flowOk l w h need rounds = false := by simp [flowOk, hc]
    rw [ho] at hk; exact ifT rfl hk
  have ho : flowOk l w h need rounds = true := by simp [flowOk, hv, hr, hc]
  rw [ho] at hk
  refine ifF rfl (own_ok hl ?_)
  obtain ⟨W, H, n, g, rfl, hn, hfit⟩ := flow_facts ho
  obtain ⟨rfl, rfl, w2, w16, h2, h16, wh, len⟩ := g
  simp only [if_true, Int.toNat_natCast] at hk
  intro J hJ
  have key : ∀ (r : Nat) (m : List Int), r ≤ 50 → m.length = W * H → Fit m (1050 - r) → K (giveR (flows W H need r m) W H).l (giveR (flows W H need r m) W H).w (giveR (flows W H need r m) W H).h (giveR (flows W H need r m) W H).b → J 0 0 (W : Int) (H : Int) [] m (r : Int) := by
    intro r
    induction r with
    | zero =>
      intro m _ hm hf hk
      refine hJ _ _ _ _ _ _ _ (ifN (by omega) ?_)
      exact spec_give (by omega) hk
    | succ r ih =>
      intro m hr50 hm hf hk
      refine hJ _ _ _ _ _ _ _ (ifD (by omega) ?_)
      refine spec_flow w2 w16 h2 h16 hm (fit_mono hf (by omega)) ?_
      unfold flows at hk
      cases ha : anyF m W H need (W * H)
      · rw [ha] at hk
        exact ifT rfl (spec_give (by omega) hk)
      · rw [ha] at hk
        refine ifF rfl ?_
        rw [wrap64 (by omega) (by omega), show (((r + 1 : Nat) : Int) - 1) = (r : Int) by omega]
        exact ih _ (by omega) (flow_length _ _ _ _) (fit_mono (flow_fit hm hf) (by omega)) hk
  exact key n l (by omega) len (fit_mono hfit (by omega)) hk
theorem impl_Flow {l : List Int} {w h need rounds : Int} {K : List Int → Int → Int → Bool → Prop} (hl : l.length ≤ 1099511627776)
    (hk : K (flowR l w h need rounds).l (flowR l w h need rounds).w (flowR l w h need rounds).h (flowR l w h need rounds).b) : impl_FlowSteps.wp l w h need rounds K := by
  rw [impl_FlowSteps.eq, impl_Heights_turned__FlowSteps_1.eq]
  refine impl_is hl ?_
  unfold flowR at hk
  cases hv : validH l w h
  · have ho : flowOk l w h need rounds = false := by simp [flowOk, hv]
    rw [ho] at hk; exact ifT rfl hk
  refine ifF rfl (impl_in ?_)
  cases hr : inB need 1 4
  · have ho : flowOk l w h need rounds = false := by simp [flowOk, hr]
    rw [ho] at hk; exact ifT rfl hk
  refine ifF rfl (impl_in ?_)
  cases hc : inB rounds 0 50
  · have ho : flowOk l w h need rounds = false := by simp [flowOk, hc]
    rw [ho] at hk; exact ifT rfl hk
  have ho : flowOk l w h need rounds = true := by simp [flowOk, hv, hr, hc]
  rw [ho] at hk
  obtain ⟨W, H, n, g, rfl, hn, hfit⟩ := flow_facts ho
  obtain ⟨rfl, rfl, w2, w16, h2, h16, wh, len⟩ := g
  have hpos : 2 * 2 ≤ W * H := Nat.mul_le_mul w2 h2
  refine ifF rfl (cloned_ok (by omega) hl ?_)
  simp only [if_true, Int.toNat_natCast] at hk
  intro J hJ
  have key : ∀ (r : Nat) (m : List Int), r ≤ n → m.length = W * H → Fit m (1050 - r) → K (giveR (flows W H need r m) W H).l (giveR (flows W H need r m) W H).w (giveR (flows W H need r m) W H).h (giveR (flows W H need r m) W H).b → J (W : Int) (H : Int) 0 0 m [] (n : Int) ((n - r : Nat) : Int) := by
    intro r
    induction r with
    | zero =>
      intro m _ hm hf hk
      refine hJ _ _ _ _ _ _ _ _ (ifN (by omega) ?_)
      exact impl_give (by omega) hk
    | succ r ih =>
      intro m hrn hm hf hk
      refine hJ _ _ _ _ _ _ _ _ (ifD (by omega) ?_)
      refine cloned_ok (by omega) (by omega) fun J2 hJ2 => ?_
      rw [hm]
      have inner := down (Q := fun i => J2 (W : Int) (H : Int) 0 0 (W : Int) (H : Int) m [] (marked (flowI m W H need) i ++ m.drop i) (n : Int) ((n - (r + 1) : Nat) : Int) ((W * H : Nat) : Int) (i : Int)) (n := W * H) (hJ2 _ _ _ _ _ _ _ _ _ _ _ _ _ (ifN (by omega) ?_)) (fun i hi ihi => hJ2 _ _ _ _ _ _ _ _ _ _ _ _ _ (ifD (by omega) ⟨by omega, by omega, ?_⟩)) 0 (Nat.zero_le _)
      · simpa [marked] using inner
      · rw [← hm, List.drop_length, List.append_nil, hm]
        refine same_ok (by omega) (by rw [hm]; exact flow_length m W H need) ?_
        show ifB (flowL m W H need == m) _ _
        rw [flow_same hm]
        unfold flows at hk
        cases ha : anyF m W H need (W * H)
        · rw [ha] at hk
          exact ifT rfl (impl_give (by omega) hk)
        · rw [ha] at hk
          refine ifF rfl ?_
          rw [wrap_succ (by omega), show n - (r + 1) + 1 = n - r by omega]
          exact ih _ (by omega) (flow_length _ _ _ _) (fit_mono (flow_fit hm hf) (by omega)) hk
      · have hil : i < m.length := by omega
        have hlen : (marked (flowI m W H need) i ++ m.drop i).length = W * H := by simp [marked_length]; omega
        have hs := set_step (V := flowI m W H need) hil
        rw [tmod_nat, tdiv_nat]
        have hy : i / W < H := Nat.div_lt_of_lt_mul hi
        have ey : Go.IntKind.wrap .i64 ((i / W : Nat) : Int) = ((i / W : Nat) : Int) := wrap_nat (by have := Nat.div_le_self i W; omega)
        rw [ey]
        refine impl_how w2 w16 h2 h16 hm (fit_mono hf (by omega)) hi ?_
        rw [Int.toNat_natCast, hs, hlen, wrap_succ (by omega)]
        exact ⟨⟨by omega, by omega⟩, ihi⟩
  have := key n l (Nat.le_refl _) len (fit_mono hfit (by omega)) hk
  rwa [Nat.sub_self] at this
theorem flow_law {l : List Int} {w h need rounds : Int} {K : Bool → Prop} (hl : l.length ≤ 9223372036854775807) (hk : K true) : laws_FnExactFlowSteps.wp l w h need rounds K := by
  rw [laws_FnExactFlowSteps.eq]
  refine szH_ok (m := 1048576) hl (by decide) (fun _ => ifD (by decide) hk) fun hlen => ifN (by omega) ?_
  have hl : l.length ≤ 1099511627776 := by omega
  have hr : (flowR l w h need rounds).l.length ≤ 1099511627776 := flowR_length
  refine toH_ok hl (spec_Flow hl (toH_ok hl (impl_Flow hl (eqH_self hr (ifF rfl (ifF (by simp) (toH_ok hl (eqH_self hl (ifF rfl ?_)))))))))
  refine markH_ok (k := 1) hl (by decide) (ifN (by omega) (eqH_self hr (ifF rfl (ifF (by simp) ?_))))
  refine markH_ok (k := 1) hr (by decide) (heldH_ok (k := 1) hr (by decide) (ifN (by omega) (ifF (by simp) ?_)))
  refine toH_ok hl (impl_Flow hl (eqH_self hr (ifF rfl (ifF (by simp) ?_))))
  exact heldH_ok (k := 1) hr (by decide) (ifN (by omega) (ifF (by simp) hk))
end Go.K.heights
