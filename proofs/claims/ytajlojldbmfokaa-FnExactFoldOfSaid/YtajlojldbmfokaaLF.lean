/- Folds of a phase. -/
import Derived.Test.YtajlojldbmfokaaLE
import Derived.Test.YtajlojldbmfokaaF15
set_option linter.unusedSimpArgs false
set_option linter.unusedVariables false
set_option maxRecDepth 10000
set_option maxHeartbeats 4000000
namespace Go.K.melts
open Go.K Go Ieee

/-! ### points of the unit circle -/
def phQ (x : Nat) : Nat × Nat := qloop 4 (behindV x) 0
def phC (x : Nat) : Nat := sineV (farith .sub .f64 4598175219545276416 (phQ x).1)
def phS (x : Nat) : Nat := sineV (phQ x).1
def ph64r (c s : Nat) (q : Int) : Nat := if (q == 1) = true then farith .sub .f64 0 s else if (q == 2) = true then farith .sub .f64 0 c else if (q == 3) = true then s else c
def ph64i (c s : Nat) (q : Int) : Nat := if (q == 1) = true then c else if (q == 2) = true then farith .sub .f64 0 s else if (q == 3) = true then farith .sub .f64 0 c else s
def phRe (x : Nat) : Nat := fconv .f64 .f32 (ph64r (phC x) (phS x) ((phQ x).2 : Int))
def phIm (x : Nat) : Nat := fconv .f64 .f32 (ph64i (phC x) (phS x) ((phQ x).2 : Int))
theorem impl_fin64 {x : Nat} {K : Bool → Prop} (hf : fin .f64 x = true) (h : K true) : impl_finite.wp x K := by
  rw [impl_finite.eq, math_IsNaN.eq, fne_self]
  have hx := fin_notNaN hf
  rw [hx]
  refine ifT rfl ?_
  rw [math_IsInf.eq]
  refine ifT rfl ?_
  rw [math_Abs.eq]
  refine ⟨hx, ?_⟩
  rw [isInf_bits hx, hf]
  exact h
section
variable {x : Nat} {k : Int}
theorem ph_parts (hx : Bd .f64 k x) (hk : k ≤ 51) : fge .f64 (phQ x).1 4598175219545276416 = false ∧ Bd .f64 0 (phQ x).1 ∧ Bd .f64 1 (farith .sub .f64 4598175219545276416 (phQ x).1) := by
  obtain ⟨s, m, d, h⟩ := near_bd hx hk
  obtain ⟨a, b⟩ := qloop_pz (behind_pz h) 0
  exact ⟨a, b, sub_bd quarter_bd b (by decide) ⟨by decide, by decide⟩⟩
theorem ph_bd (hx : Bd .f64 k x) (hk : k ≤ 51) : Bd .f64 1 (phC x) ∧ Bd .f64 1 (phS x) := by
  obtain ⟨_, a, b⟩ := ph_parts hx hk
  obtain ⟨_, _, _, h1⟩ := near_bd a (by decide)
  obtain ⟨_, _, _, h2⟩ := near_bd b (by decide)
  exact ⟨sine_bd h2, sine_bd h1⟩
theorem ph64_bd {c s : Nat} (q : Int) (hc : Bd .f64 1 c) (hs : Bd .f64 1 s) : Bd .f64 1 (ph64r c s q) ∧ Bd .f64 1 (ph64i c s q) := by
  have zc := zero_sub_bd hc ⟨by decide, by decide⟩
  have zs := zero_sub_bd hs ⟨by decide, by decide⟩
  unfold ph64r ph64i
  constructor
  · split
    · exact zs
    · split
      · exact zc
      · split
        · exact hs
        · exact hc
  · split
    · exact hc
    · split
      · exact zs
      · split
        · exact zc
        · exact hs
theorem re_bd (hx : Bd .f64 k x) (hk : k ≤ 51) : Bd .f32 1 (phRe x) ∧ Bd .f32 1 (phIm x) := by
  obtain ⟨a, b⟩ := ph_bd hx hk
  obtain ⟨c, d⟩ := ph64_bd ((phQ x).2 : Int) a b
  exact ⟨down_bd c (by decide) (by decide), down_bd d (by decide) (by decide)⟩
theorem impl_phas (hx : Bd .f64 k x) (hk : k ≤ 51) {K : Nat → Nat → Prop} (h : K (phRe x) (phIm x)) : impl_PhasorOf.wp x K := by
  rw [impl_PhasorOf.eq]
  refine impl_fin64 hx.fin (ifF rfl (abs_ok hx.notNaN (ifF (bd_notfar hx hk) ?_)))
  obtain ⟨s, m, d, hn⟩ := near_bd hx hk
  obtain ⟨a, b, c⟩ := ph_parts hx hk
  obtain ⟨_, _, _, n1⟩ := near_bd c (by decide)
  obtain ⟨_, _, _, n2⟩ := near_bd b (by decide)
  obtain ⟨bc, bs⟩ := ph_bd hx hk
  obtain ⟨br, bi⟩ := ph64_bd ((phQ x).2 : Int) bc bs
  refine impl_beh hn ?_
  intro J hJ
  refine qloop_ok (J := J) hJ 4 (behindV x) 0 (by decide) a ?_
  refine impl_sin n1 (impl_sin n2 ?_)
  have fr := bd_fits br (by decide)
  have fi := bd_fits bi (by decide)
  unfold phRe phIm at h
  change ifB (((phQ x).2 : Int) == 1) (fitsF .f64 .f32 (farith .sub .f64 0 (phS x)) = true ∧ fitsF .f64 .f32 (phC x) = true ∧ K (fconv .f64 .f32 (farith .sub .f64 0 (phS x))) (fconv .f64 .f32 (phC x)))
    (ifB (((phQ x).2 : Int) == 2) (fitsF .f64 .f32 (farith .sub .f64 0 (phC x)) = true ∧ fitsF .f64 .f32 (farith .sub .f64 0 (phS x)) = true ∧ K (fconv .f64 .f32 (farith .sub .f64 0 (phC x))) (fconv .f64 .f32 (farith .sub .f64 0 (phS x))))
    (ifB (((phQ x).2 : Int) == 3) (fitsF .f64 .f32 (phS x) = true ∧ fitsF .f64 .f32 (farith .sub .f64 0 (phC x)) = true ∧ K (fconv .f64 .f32 (phS x)) (fconv .f64 .f32 (farith .sub .f64 0 (phC x))))
    (fitsF .f64 .f32 (phC x) = true ∧ fitsF .f64 .f32 (phS x) = true ∧ K (fconv .f64 .f32 (phC x)) (fconv .f64 .f32 (phS x)))))
  unfold ph64r at h fr
  unfold ph64i at h fi
  generalize ((phQ x).2 : Int) = q at *
  refine ifB_of (fun e1 => ?_) (fun e1 => ifB_of (fun e2 => ?_) (fun e2 => ifB_of (fun e3 => ?_) (fun e3 => ?_)))
  · simp only [e1, if_true] at h fr fi; exact ⟨fr, fi, h⟩
  · simp only [e1, e2, if_true, if_false, Bool.false_eq_true] at h fr fi; exact ⟨fr, fi, h⟩
  · simp only [e1, e2, e3, if_true, if_false, Bool.false_eq_true] at h fr fi; exact ⟨fr, fi, h⟩
  · simp only [e1, e2, e3, if_true, if_false, Bool.false_eq_true] at h fr fi; exact ⟨fr, fi, h⟩
theorem spec_phas (hx : Bd .f64 k x) (hk : k ≤ 51) {K : Nat → Nat → Prop} (h : K (phRe x) (phIm x)) : spec_l01Phasor.wp x K := by
  have hfar2 := far_eq hx.fin
  rw [bd_notfar hx hk, Bool.or_eq_false_iff] at hfar2
  obtain ⟨s, m, d, hn⟩ := near_bd hx hk
  obtain ⟨a, b, c⟩ := ph_parts hx hk
  obtain ⟨bc, bs⟩ := ph_bd hx hk
  obtain ⟨br, bi⟩ := ph64_bd ((phQ x).2 : Int) bc bs
  rw [spec_l01Phasor.eq, fne_sub, hx.fin]
  refine ifF rfl (ifF hfar2.1 (ifF hfar2.2 ⟨by rw [hn.toint]; rfl, ?_⟩))
  intro J hJ
  have main0 : J (behindV x) := by
    refine hJ _ ?_
    intro J5 hJ5
    refine qloop_ok (J := J5) hJ5 4 (behindV x) 0 (by decide) a ?_
    refine spec_sin c.fin (bd_notfar c (by decide)) (spec_sin b.fin (bd_notfar b (by decide)) ?_)
    have fr := bd_fits br (by decide)
    have fi := bd_fits bi (by decide)
    unfold phRe phIm at h
    change ifB (((phQ x).2 : Int) == 1) (spec_l01Narrow.wp (farith .sub .f64 0 (phS x)) fun y1 => spec_l01Narrow.wp (phC x) fun y2 => K y1 y2)
      (ifB (((phQ x).2 : Int) == 2) (spec_l01Narrow.wp (farith .sub .f64 0 (phC x)) fun y1 => spec_l01Narrow.wp (farith .sub .f64 0 (phS x)) fun y2 => K y1 y2)
      (ifB (((phQ x).2 : Int) == 3) (spec_l01Narrow.wp (phS x) fun y1 => spec_l01Narrow.wp (farith .sub .f64 0 (phC x)) fun y2 => K y1 y2)
      (spec_l01Narrow.wp (phC x) fun y1 => spec_l01Narrow.wp (phS x) fun y2 => K y1 y2)))
    unfold ph64r at h fr
    unfold ph64i at h fi
    generalize ((phQ x).2 : Int) = q at *
    refine ifB_of (fun e1 => ?_) (fun e1 => ifB_of (fun e2 => ?_) (fun e2 => ifB_of (fun e3 => ?_) (fun e3 => ?_)))
    · simp only [e1, if_true] at h fr fi; exact narrow_ok fr (narrow_ok fi h)
    · simp only [e1, e2, if_true, if_false, Bool.false_eq_true] at h fr fi; exact narrow_ok fr (narrow_ok fi h)
    · simp only [e1, e2, e3, if_true, if_false, Bool.false_eq_true] at h fr fi; exact narrow_ok fr (narrow_ok fi h)
    · simp only [e1, e2, e3, if_true, if_false, Bool.false_eq_true] at h fr fi; exact narrow_ok fr (narrow_ok fi h)
  unfold behindV fracV wholeF at main0
  refine ifB_of (fun e => ?_) (fun e => ?_)
  · rw [if_pos e] at main0; exact main0
  · rw [if_neg (by simp [e])] at main0; exact main0
end
end Go.K.melts
