/- FnExactNewFlake: the program's answer is the reference's, for every input that the statement lets in; the input reads as it did. -/
import Derived.Test.YtnhijhkdbpknjaaRows
import Derived.Test.YtnhijhkdbpknjaaO
import Derived.Test.YtnhijhkdbpknjaaL3
import Derived.Test.YtnhijhkdbpknjaaK21
namespace Go.Proofs.Ytnhijhkdbpknjaa
open Go.ChangeShapes Go.WideShapes Go.ChangeAt Go.RowKit Go.K
set_option linter.unusedVariables false
set_option linter.unusedSimpArgs false
set_option maxRecDepth 100000

theorem Try.own : ownKnob Try.prog.godebug = none := by kernel_rfl
theorem Try.laidOut : laidOutB Try.prog = true := by kernel_rfl
theorem maxLen_eq : maxLen = 9223372036854775807 := by decide

theorem FnExactNewFlake_lifted (os : Os) (started : os.Started) (H : Type) (enc : TypeId × Value → H) :
    ReturnsInHanded {} Try.checked os 6 .any (Rows.fnExactNewFlakeSpec.pre6 enc Try.prog Try.f6 Rows.fnExactNewFlakeRow.domain false) (Rows.fnExactNewFlakeSpec.post enc Try.prog Try.f6 false true false false) := by
  refine returnsInHanded_of_change (C := Try.checked) Try.own started (by kernel_rfl) Try.func6
    (ChangeSpec.witness6 (enc := enc) (C := Try.checked) false ⟨#[], #[.int .i64 0, .float .f32 0], []⟩ 8 (by kernel_rfl) (by kernel_rfl) (by kernel_rfl) (by kernel_rfl)) ?_
  intro W base args ds gs before hval0 hW hcnd _
  have hval : ∀ (j : Nat) t v, Try.f6.params[j]? = some t → args[j]? = some v → Value.okWide Try.prog W .any base t v := hval0
  have hW' : DataW.Whole enc Try.prog Try.f6.params.toList Rows.fnExactNewFlakeSpec.vars false W args.toList ds gs before := hW
  obtain ⟨p, q, hA0, hV, rfl, hfz, hnd⟩ := hW
  have hA : DataW.TrodAll enc Try.prog W 0 (fun _ => true) true Try.f6.params.toList args.toList ds p := hA0
  rw [Try.params6] at hA hval
  obtain ⟨v0, v1, d0, d1, p0, p1, rfl, rfl, rfl, h0, h1⟩ := trodAll_two hA
  obtain ⟨rfl, rfl⟩ := trodVars_none hV
  obtain ⟨x0, rfl, _, _, w0⟩ := open_int Try.underlying2 (hval 0 2 v0 rfl rfl) h0
  obtain ⟨b1, rfl, _, _, w1⟩ := open_float Try.underlying22 (hval 1 22 v1 rfl rfl) h1
  have hro : RoAll W [] [] := .nil
  refine (ro_run (lv := [.int x0, .flt (cF .f32 b1)]) (cargs := [.int .i64 x0, .float .f32 (cF .f32 b1)]) (args := #[.int .i64 x0, .float .f32 b1]) Go.K.flakes.laws_FnExactNewFlake.ok hro (by kernel_rfl) (by kernel_rfl) ?_ ?_ ?_).mono fun e W' ⟨he, hfr⟩ => ?_
  · exact (LR.cons rfl (LR.cons ⟨b1, rfl, rfl⟩ LR.nil))
  · intro c rout h
    cases h; rfl
  · exact Go.K.flakes.new_law rfl
  · subst he
    exact ⟨_, rfl, law_post Try.laidOut (by decide +kernel) hW' rfl (by kernel_rfl) Try.underlying4 rfl rfl rfl hfr⟩

theorem FnExactNewFlake_holds : Rows.FnExactNewFlakeSaid :=
  OpenClaim.holds_of_wide 6 Try.f6 rfl rfl rfl rfl rfl rfl rfl ⟨rfl, rfl, rfl, rfl, rfl⟩ rfl rfl rfl rfl rfl (by kernel_rfl) Try.func6 (by kernel_rfl)
    (of_decide_eq_true (by kernel_rfl)) (by unfold Func.isWrapper; first | (rw [if_pos (by decide +kernel)]; kernel_rfl) | (rw [if_neg (by decide +kernel)]; exact ⟨rfl, rfl⟩))
    (fun os started H enc _ => FnExactNewFlake_lifted os started H enc)
end Go.Proofs.Ytnhijhkdbpknjaa
