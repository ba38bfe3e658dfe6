/- FnExactSameFlake: the program's answer is the reference's, for every input that the statement lets in; the input reads as it did. -/
import Derived.Test.YtnhijhkdbpknjaaRows
import Derived.Test.YtnhijhkdbpknjaaO
import Derived.Test.YtnhijhkdbpknjaaL4
import Derived.Test.YtnhijhkdbpknjaaK21
namespace Go.Proofs.Ytnhijhkdbpknjaa
open Go.ChangeShapes Go.WideShapes Go.ChangeAt Go.RowKit Go.K
set_option linter.unusedVariables false
set_option linter.unusedSimpArgs false
set_option maxRecDepth 100000

theorem Try.own : ownKnob Try.prog.godebug = none := by kernel_rfl
theorem Try.laidOut : laidOutB Try.prog = true := by kernel_rfl
theorem maxLen_eq : maxLen = 9223372036854775807 := by decide
theorem open_31 {H : Type} {enc : TypeId × Value → H} {W : World} {base : Nat} {v : Value} {d : DataW H} {p : List MemPlace} (hv : Value.okWide Try.prog W .any base 31 v) (h : DataW.Trod enc Try.prog W 0 (fun _ => true) true 31 v d p) :
    ∃ x0 : Int, (Lit.int .i64 x0).wf = true ∧ ∃ x1 : Value, ∃ l1 : List Nat, RoIn W x1 (.F .f32 (l1.map (cF .f32))) ∧ (l1.map (cF .f32)).length ≤ 9223372036854775807 ∧ (∀ b ∈ l1, (Lit.float .f32 b).wf = true) ∧ v = .agg #[.int .i64 x0, x1] := by
  obtain ⟨cs, rfl, hsz⟩ := okWide_struct Try.underlying31 hv
  obtain ⟨fuel, h⟩ := h
  rw [show Try.prog.cellsOf 31 = 2 by kernel_rfl] at hsz
  obtain ⟨cs⟩ := cs
  obtain ⟨c0, t0, rfl⟩ : ∃ a l, cs = a :: l := List.exists_cons_of_length_pos (by simp only [List.size_toArray, List.length_cons] at hsz; omega)
  obtain ⟨c1, t1, rfl⟩ : ∃ a l, t0 = a :: l := List.exists_cons_of_length_pos (by simp only [List.size_toArray, List.length_cons] at hsz; omega)
  obtain rfl : t1 = [] := List.eq_nil_of_length_eq_zero (by simp only [List.size_toArray, List.length_cons] at hsz; omega)
  replace h : DataW.trod enc Try.prog W 0 (fun _ => true) true fuel 31 [c0, c1] = some (d, p) := h
  obtain ⟨xs, n, _, _, _, hl, hf⟩ := DataW.trod_struct Try.underlying31 h
  obtain ⟨y_0, hy_0⟩ : ∃ y, xs[0]? = some y := ⟨_, List.getElem?_eq_getElem (by rw [hl]; decide)⟩
  have g_0 := hf 0 _ rfl
  rw [hy_0] at g_0
  replace g_0 : DataW.trod enc Try.prog W 0 (fun _ => true) true n 2 [c0] = some y_0 := g_0
  obtain ⟨x0, e0, _, w0⟩ := DataW.trod_int Try.underlying2 g_0
  cases e0
  obtain ⟨y_1, hy_1⟩ : ∃ y, xs[1]? = some y := ⟨_, List.getElem?_eq_getElem (by rw [hl]; decide)⟩
  have g_1 := hf 1 _ rfl
  rw [hy_1] at g_1
  replace g_1 : DataW.trod enc Try.prog W 0 (fun _ => true) true n 29 [c1] = some y_1 := g_1
  obtain ⟨x1, l1, e1, r1, w1, m1, _⟩ := trod_floats Try.underlying29 Try.underlying22 (show Try.prog.cellsOf 22 = 1 by kernel_rfl) g_1
  cases e1
  exact ⟨x0, w0, _, l1, r1, by rw [List.length_map, ← maxLen_eq]; exact m1, w1, rfl⟩

theorem FnExactSameFlake_lifted (os : Os) (started : os.Started) (H : Type) (enc : TypeId × Value → H) :
    ReturnsInHanded {} Try.checked os 4 .any (Rows.fnExactSameFlakeSpec.pre6 enc Try.prog Try.f4 Rows.fnExactSameFlakeRow.domain false) (Rows.fnExactSameFlakeSpec.post enc Try.prog Try.f4 false true false false) := by
  refine returnsInHanded_of_change (C := Try.checked) Try.own started (by kernel_rfl) Try.func4
    (ChangeSpec.witness6 (enc := enc) (C := Try.checked) false ⟨#[], #[.agg #[.int .i64 0, .slice none 0 0], .agg #[.int .i64 0, .slice none 0 0]], []⟩ 8 (by kernel_rfl) (by kernel_rfl) (by kernel_rfl) (by kernel_rfl)) ?_
  intro W base args ds gs before hval0 hW hcnd _
  have hval : ∀ (j : Nat) t v, Try.f4.params[j]? = some t → args[j]? = some v → Value.okWide Try.prog W .any base t v := hval0
  have hW' : DataW.Whole enc Try.prog Try.f4.params.toList Rows.fnExactSameFlakeSpec.vars false W args.toList ds gs before := hW
  obtain ⟨p, q, hA0, hV, rfl, hfz, hnd⟩ := hW
  have hA : DataW.TrodAll enc Try.prog W 0 (fun _ => true) true Try.f4.params.toList args.toList ds p := hA0
  rw [Try.params4] at hA hval
  obtain ⟨v0, v1, d0, d1, p0, p1, rfl, rfl, rfl, h0, h1⟩ := trodAll_two hA
  obtain ⟨rfl, rfl⟩ := trodVars_none hV
  obtain ⟨x0_0, w0_0, u0_1, l0_1, r0_1, m0_1, w0_1, e0⟩ := open_31 (hval 0 31 v0 rfl rfl) h0
  subst e0
  obtain ⟨x1_0, w1_0, u1_1, l1_1, r1_1, m1_1, w1_1, e1⟩ := open_31 (hval 1 31 v1 rfl rfl) h1
  subst e1
  have hro : RoAll W [u0_1, u1_1] [(.F .f32 (l0_1.map (cF .f32))), (.F .f32 (l1_1.map (cF .f32)))] := (.cons r0_1 (.cons r1_1 .nil))
  refine (ro_run (lv := [.lf (l0_1.map (cF .f32)), .lf (l1_1.map (cF .f32)), .int x0_0, .int x1_0]) (cargs := [.agg #[.int .i64 x0_0, .slice (some ⟨0, 0, none⟩) (l0_1.map (cF .f32)).length 0], .agg #[.int .i64 x1_0, .slice (some ⟨1, 0, none⟩) (l1_1.map (cF .f32)).length 0]]) (args := #[.agg #[.int .i64 x0_0, u0_1], .agg #[.int .i64 x1_0, u1_1]]) Go.K.flakes.laws_FnExactSameFlake.ok hro (by kernel_rfl) (by kernel_rfl) ?_ ?_ ?_).mono fun e W' ⟨he, hfr⟩ => ?_
  · exact (LR.cons ⟨_, rfl, (LR.cons rfl (LR.cons (RoAll.vr hro 0 rfl rfl) LR.nil))⟩ (LR.cons ⟨_, rfl, (LR.cons rfl (LR.cons (RoAll.vr hro 1 rfl rfl) LR.nil))⟩ LR.nil))
  · intro c rout h
    cases h; rfl
  · exact Go.K.flakes.same_law m0_1 m1_1 (Go.K.flakes.can_list w0_1) (Go.K.flakes.can_list w1_1) rfl
  · subst he
    exact ⟨_, rfl, law_post Try.laidOut (by decide +kernel) hW' rfl (by kernel_rfl) Try.underlying4 rfl rfl rfl hfr⟩

theorem FnExactSameFlake_holds : Rows.FnExactSameFlakeSaid :=
  OpenClaim.holds_of_wide 4 Try.f4 rfl rfl rfl rfl rfl rfl rfl ⟨rfl, rfl, rfl, rfl, rfl⟩ rfl rfl rfl rfl rfl (by kernel_rfl) Try.func4 (by kernel_rfl)
    (of_decide_eq_true (by kernel_rfl)) (by unfold Func.isWrapper; first | (rw [if_pos (by decide +kernel)]; kernel_rfl) | (rw [if_neg (by decide +kernel)]; exact ⟨rfl, rfl⟩))
    (fun os started H enc _ => FnExactSameFlake_lifted os started H enc)
end Go.Proofs.Ytnhijhkdbpknjaa
