/- FnFlips: the program's answer is the reference's, for every input that the statement lets in; the input reads as it did. -/
import Derived.Test.YtblejagpndbicaaRows
import Derived.Test.YtblejagpndbicaaO
import Derived.Test.YtblejagpndbicaaLRd
import Derived.Test.YtblejagpndbicaaK21
namespace Go.Proofs.Ytblejagpndbicaa
open Go.ChangeShapes Go.WideShapes Go.ChangeAt Go.RowKit Go.K
set_option linter.unusedVariables false
set_option linter.unusedSimpArgs false
set_option maxRecDepth 100000

theorem Try.own : ownKnob Try.prog.godebug = none := by kernel_rfl
theorem Try.laidOut : laidOutB Try.prog = true := by kernel_rfl
theorem maxLen_eq : maxLen = 9223372036854775807 := by decide
theorem open_22 {H : Type} {enc : TypeId × Value → H} {W : World} {base : Nat} {v : Value} {d : DataW H} {p : List MemPlace} (hv : Value.okWide Try.prog W .any base 22 v) (h : DataW.Trod enc Try.prog W 0 (fun _ => true) true 22 v d p) :
    ∃ x : Value, ∃ l : List Int, RoIn W x (.I .u8 l) ∧ l.length ≤ 9223372036854775807 ∧ (∀ b ∈ l, (Lit.int .u8 b).wf = true) ∧ v = x := by
  obtain ⟨a0, len, cap, rfl⟩ := okWide_slice Try.underlying22 hv
  obtain ⟨fuel, h⟩ := h
  obtain ⟨x, l, e, r, w, m, _⟩ := trod_intsR Try.underlying22 Try.underlying5 (show Try.prog.cellsOf 5 = 1 by kernel_rfl) h
  cases e
  exact ⟨_, l, r, by rw [← maxLen_eq]; exact m, w, rfl⟩

theorem FnFlips_lifted (os : Os) (started : os.Started) (H : Type) (enc : TypeId × Value → H) :
    ReturnsInHanded {} Try.checked os 7 .any (Rows.fnFlipsSpec.pre6 enc Try.prog Try.f7 Rows.fnFlipsRow.domain false) (Rows.fnFlipsSpec.post enc Try.prog Try.f7 false true false false) := by
  refine returnsInHanded_of_change (C := Try.checked) Try.own started (by kernel_rfl) Try.func7
    (ChangeSpec.witness6 (enc := enc) (C := Try.checked) false ⟨#[], #[.slice none 0 0, .slice none 0 0], []⟩ 8 (by kernel_rfl) (by kernel_rfl) (by kernel_rfl) (by kernel_rfl)) ?_
  intro W base args ds gs before hval0 hW hcnd _
  have hval : ∀ (j : Nat) t v, Try.f7.params[j]? = some t → args[j]? = some v → Value.okWide Try.prog W .any base t v := hval0
  have hW' : DataW.Whole enc Try.prog Try.f7.params.toList Rows.fnFlipsSpec.vars false W args.toList ds gs before := hW
  obtain ⟨p, q, hA0, hV, rfl, hfz, hnd⟩ := hW
  have hA : DataW.TrodAll enc Try.prog W 0 (fun _ => true) true Try.f7.params.toList args.toList ds p := hA0
  rw [Try.params7] at hA hval
  obtain ⟨v0, v1, d0, d1, p0, p1, rfl, rfl, rfl, h0, h1⟩ := trodAll_two hA
  obtain ⟨rfl, rfl⟩ := trodVars_none hV
  obtain ⟨u0, l0, r0, m0, w0, e0⟩ := open_22 (hval 0 22 v0 rfl rfl) h0
  subst e0
  obtain ⟨u1, l1, r1, m1, w1, e1⟩ := open_22 (hval 1 22 v1 rfl rfl) h1
  subst e1
  have hro : RoAll W [v0, v1] [(.I .u8 l0), (.I .u8 l1)] := (.cons r0 (.cons r1 .nil))
  refine (ro_run (lv := [.li l0, .li l1]) (cargs := [.slice (some ⟨0, 0, none⟩) l0.length 0, .slice (some ⟨1, 0, none⟩) l1.length 0]) (args := #[v0, v1]) Go.K.grains.laws_FnFlips.ok hro (by kernel_rfl) (by kernel_rfl) ?_ ?_ ?_).mono fun e W' ⟨he, hfr⟩ => ?_
  · exact (LR.cons (RoAll.vr hro 0 rfl rfl) (LR.cons (RoAll.vr hro 1 rfl rfl) LR.nil))
  · intro c rout h
    cases h; rfl
  · have key : ∀ W0 : List Int → List Int → (Bool → Prop) → Prop, W0 (l0) (l1) (fun b => [LV.bool b] = [.bool true]) → appK Go.K.grains.laws_FnFlips.c.otys Go.K.grains.laws_FnFlips.c.itys W0 [.li l0, .li l1] (lam Go.K.grains.laws_FnFlips.c.otys fun lvo => lvo = [.bool true]) := fun W0 h => h
    exact key Go.K.grains.laws_FnFlips.wp (@id (Go.K.grains.laws_FnFlips.wp _ _ _) (Go.K.grains.flips_law l0 l1 w0 w1 rfl))
  · subst he
    exact ⟨_, rfl, law_post Try.laidOut (by decide +kernel) hW' rfl (by kernel_rfl) Try.underlying4 rfl rfl rfl hfr⟩

theorem FnFlips_holds : Rows.FnFlipsSaid :=
  OpenClaim.holds_of_wide 7 Try.f7 rfl rfl rfl rfl rfl rfl rfl ⟨rfl, rfl, rfl, rfl, rfl⟩ rfl rfl rfl rfl rfl (by kernel_rfl) Try.func7 (by kernel_rfl)
    (of_decide_eq_true (by kernel_rfl)) (by unfold Func.isWrapper; first | (rw [if_pos (by decide +kernel)]; kernel_rfl) | (rw [if_neg (by decide +kernel)]; exact ⟨rfl, rfl⟩))
    (fun os started H enc _ => FnFlips_lifted os started H enc)
end Go.Proofs.Ytblejagpndbicaa
