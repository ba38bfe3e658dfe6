/- FnExactBesideLabel: the program's answer is the reference's, for every input that the statement lets in; the input reads as it did. -/
import Derived.Test.YtblejagpndbicaaRows
import Derived.Test.YtblejagpndbicaaO
import Derived.Test.YtblejagpndbicaaLQ
import Derived.Test.YtblejagpndbicaaK21
namespace Go.Proofs.Ytblejagpndbicaa
open Go.ChangeShapes Go.WideShapes Go.ChangeAt Go.RowKit Go.K
set_option linter.unusedVariables false
set_option linter.unusedSimpArgs false
set_option maxRecDepth 100000

theorem Try.own : ownKnob Try.prog.godebug = none := by kernel_rfl
theorem Try.laidOut : laidOutB Try.prog = true := by kernel_rfl
theorem maxLen_eq : maxLen = 9223372036854775807 := by decide
theorem open_41 {H : Type} {enc : TypeId × Value → H} {W : World} {base : Nat} {v : Value} {d : DataW H} {p : List MemPlace} (hv : Value.okWide Try.prog W .any base 41 v) (h : DataW.Trod enc Try.prog W 0 (fun _ => true) true 41 v d p) :
    ∃ x0 : Int, (Lit.int .i64 x0).wf = true ∧ ∃ x1 : Int, (Lit.int .i64 x1).wf = true ∧ ∃ x2 : Value, ∃ l2 : List Int, RoIn W x2 (.I .i64 l2) ∧ l2.length ≤ 9223372036854775807 ∧ (∀ b ∈ l2, (Lit.int .i64 b).wf = true) ∧ v = .agg #[.int .i64 x0, .int .i64 x1, x2] := by
  obtain ⟨cs, rfl, hsz⟩ := okWide_struct Try.underlying41 hv
  obtain ⟨fuel, h⟩ := h
  rw [show Try.prog.cellsOf 41 = 3 by kernel_rfl] at hsz
  obtain ⟨cs⟩ := cs
  obtain ⟨c0, t0, rfl⟩ : ∃ a l, cs = a :: l := List.exists_cons_of_length_pos (by simp only [List.size_toArray, List.length_cons] at hsz; omega)
  obtain ⟨c1, t1, rfl⟩ : ∃ a l, t0 = a :: l := List.exists_cons_of_length_pos (by simp only [List.size_toArray, List.length_cons] at hsz; omega)
  obtain ⟨c2, t2, rfl⟩ : ∃ a l, t1 = a :: l := List.exists_cons_of_length_pos (by simp only [List.size_toArray, List.length_cons] at hsz; omega)
  obtain rfl : t2 = [] := List.eq_nil_of_length_eq_zero (by simp only [List.size_toArray, List.length_cons] at hsz; omega)
  replace h : DataW.trod enc Try.prog W 0 (fun _ => true) true fuel 41 [c0, c1, c2] = some (d, p) := h
  obtain ⟨xs, n, _, _, _, hl, hf⟩ := DataW.trod_struct Try.underlying41 h
  obtain ⟨y_0, hy_0⟩ : ∃ y, xs[0]? = some y := ⟨_, List.getElem?_eq_getElem (by rw [hl]; decide)⟩
  have g_0 := hf 0 _ rfl
  rw [hy_0] at g_0
  replace g_0 : DataW.trod enc Try.prog W 0 (fun _ => true) true n 2 [c0] = some y_0 := g_0
  obtain ⟨x0, e0, _, w0⟩ := DataW.trod_int Try.underlying2 g_0
  cases e0
  obtain ⟨y_1, hy_1⟩ : ∃ y, xs[1]? = some y := ⟨_, List.getElem?_eq_getElem (by rw [hl]; decide)⟩
  have g_1 := hf 1 _ rfl
  rw [hy_1] at g_1
  replace g_1 : DataW.trod enc Try.prog W 0 (fun _ => true) true n 2 [c1] = some y_1 := g_1
  obtain ⟨x1, e1, _, w1⟩ := DataW.trod_int Try.underlying2 g_1
  cases e1
  obtain ⟨y_2, hy_2⟩ : ∃ y, xs[2]? = some y := ⟨_, List.getElem?_eq_getElem (by rw [hl]; decide)⟩
  have g_2 := hf 2 _ rfl
  rw [hy_2] at g_2
  replace g_2 : DataW.trod enc Try.prog W 0 (fun _ => true) true n 24 [c2] = some y_2 := g_2
  obtain ⟨x2, l2, e2, r2, w2, m2, _⟩ := trod_intsR Try.underlying24 Try.underlying2 (show Try.prog.cellsOf 2 = 1 by kernel_rfl) g_2
  cases e2
  exact ⟨x0, w0, x1, w1, _, l2, r2, by rw [← maxLen_eq]; exact m2, w2, rfl⟩

theorem FnExactBesideLabel_lifted (os : Os) (started : os.Started) (H : Type) (enc : TypeId × Value → H) :
    ReturnsInHanded {} Try.checked os 8 .any (Rows.fnExactBesideLabelSpec.pre6 enc Try.prog Try.f8 Rows.fnExactBesideLabelRow.domain false) (Rows.fnExactBesideLabelSpec.post enc Try.prog Try.f8 false true false false) := by
  refine returnsInHanded_of_change (C := Try.checked) Try.own started (by kernel_rfl) Try.func8
    (ChangeSpec.witness6 (enc := enc) (C := Try.checked) false ⟨#[], #[.agg #[.int .i64 0, .int .i64 0, .slice none 0 0], .int .i64 0], []⟩ 8 (by kernel_rfl) (by kernel_rfl) (by kernel_rfl) (by kernel_rfl)) ?_
  intro W base args ds gs before hval0 hW hcnd _
  have hval : ∀ (j : Nat) t v, Try.f8.params[j]? = some t → args[j]? = some v → Value.okWide Try.prog W .any base t v := hval0
  have hW' : DataW.Whole enc Try.prog Try.f8.params.toList Rows.fnExactBesideLabelSpec.vars false W args.toList ds gs before := hW
  obtain ⟨p, q, hA0, hV, rfl, hfz, hnd⟩ := hW
  have hA : DataW.TrodAll enc Try.prog W 0 (fun _ => true) true Try.f8.params.toList args.toList ds p := hA0
  rw [Try.params8] at hA hval
  obtain ⟨v0, v1, d0, d1, p0, p1, rfl, rfl, rfl, h0, h1⟩ := trodAll_two hA
  obtain ⟨rfl, rfl⟩ := trodVars_none hV
  obtain ⟨x0_0, w0_0, x0_1, w0_1, u0_2, l0_2, r0_2, m0_2, w0_2, e0⟩ := open_41 (hval 0 41 v0 rfl rfl) h0
  subst e0
  obtain ⟨x1, rfl, _, _, w1⟩ := open_int Try.underlying2 (hval 1 2 v1 rfl rfl) h1
  have hro : RoAll W [u0_2] [(.I .i64 l0_2)] := (.cons r0_2 .nil)
  refine (ro_run (lv := [.li l0_2, .int x0_0, .int x0_1, .int x1]) (cargs := [.agg #[.int .i64 x0_0, .int .i64 x0_1, .slice (some ⟨0, 0, none⟩) l0_2.length 0], .int .i64 x1]) (args := #[.agg #[.int .i64 x0_0, .int .i64 x0_1, u0_2], .int .i64 x1]) Go.K.grains.laws_FnExactBesideLabel.ok hro (by kernel_rfl) (by kernel_rfl) ?_ ?_ ?_).mono fun e W' ⟨he, hfr⟩ => ?_
  · exact (LR.cons ⟨_, rfl, (LR.cons rfl (LR.cons rfl (LR.cons (RoAll.vr hro 0 rfl rfl) LR.nil)))⟩ (LR.cons rfl LR.nil))
  · intro c rout h
    cases h; rfl
  · have key : ∀ W0 : List Int → Int → Int → Int → (Bool → Prop) → Prop, W0 (l0_2) (x0_0) (x0_1) (x1) (fun b => [LV.bool b] = [.bool true]) → appK Go.K.grains.laws_FnExactBesideLabel.c.otys Go.K.grains.laws_FnExactBesideLabel.c.itys W0 [.li l0_2, .int x0_0, .int x0_1, .int x1] (lam Go.K.grains.laws_FnExactBesideLabel.c.otys fun lvo => lvo = [.bool true]) := fun W0 h => h
    exact key Go.K.grains.laws_FnExactBesideLabel.wp (@id (Go.K.grains.laws_FnExactBesideLabel.wp _ _ _ _ _) (Go.K.grains.bes_law (l := l0_2) (w := x0_0) (h := x0_1) (a := x1) m0_2 rfl))
  · subst he
    exact ⟨_, rfl, law_post Try.laidOut (by decide +kernel) hW' rfl (by kernel_rfl) Try.underlying4 rfl rfl rfl hfr⟩

theorem FnExactBesideLabel_holds : Rows.FnExactBesideLabelSaid :=
  OpenClaim.holds_of_wide 8 Try.f8 rfl rfl rfl rfl rfl rfl rfl ⟨rfl, rfl, rfl, rfl, rfl⟩ rfl rfl rfl rfl rfl (by kernel_rfl) Try.func8 (by kernel_rfl)
    (of_decide_eq_true (by kernel_rfl)) (by unfold Func.isWrapper; first | (rw [if_pos (by decide +kernel)]; kernel_rfl) | (rw [if_neg (by decide +kernel)]; exact ⟨rfl, rfl⟩))
    (fun os started H enc _ => FnExactBesideLabel_lifted os started H enc)
end Go.Proofs.Ytblejagpndbicaa
