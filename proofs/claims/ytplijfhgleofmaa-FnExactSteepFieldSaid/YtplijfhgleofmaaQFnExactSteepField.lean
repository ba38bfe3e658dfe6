/- FnExactSteepField: the program's answer is the reference's, for every input that the statement lets in; the input reads as it did. -/
import Derived.Test.YtplijfhgleofmaaRows
import Derived.Test.YtplijfhgleofmaaO
import Derived.Test.YtplijfhgleofmaaL7
import Derived.Test.YtplijfhgleofmaaK21
namespace Go.Proofs.Ytplijfhgleofmaa
open Go.ChangeShapes Go.WideShapes Go.ChangeAt Go.RowKit Go.K
set_option linter.unusedVariables false
set_option linter.unusedSimpArgs false
set_option maxRecDepth 100000

theorem Try.own : ownKnob Try.prog.godebug = none := by kernel_rfl
theorem Try.laidOut : laidOutB Try.prog = true := by kernel_rfl
theorem maxLen_eq : maxLen = 9223372036854775807 := by decide
theorem open_24 {H : Type} {enc : TypeId × Value → H} {W : World} {base : Nat} {v : Value} {d : DataW H} {p : List MemPlace} (hv : Value.okWide Try.prog W .any base 24 v) (h : DataW.Trod enc Try.prog W 0 (fun _ => true) true 24 v d p) :
    ∃ x0 : Int, (Lit.int .i64 x0).wf = true ∧ ∃ x1 : Int, (Lit.int .i64 x1).wf = true ∧ ∃ x2 : Bool, ∃ x3 : Value, ∃ l3 : List Nat, RoIn W x3 (.F .f32 (l3.map (cF .f32))) ∧ (l3.map (cF .f32)).length ≤ 9223372036854775807 ∧ (∀ b ∈ l3, (Lit.float .f32 b).wf = true) ∧ v = .agg #[.int .i64 x0, .int .i64 x1, .bool x2, x3] := by
  obtain ⟨cs, rfl, hsz⟩ := okWide_struct Try.underlying24 hv
  obtain ⟨fuel, h⟩ := h
  rw [show Try.prog.cellsOf 24 = 4 by kernel_rfl] at hsz
  obtain ⟨cs⟩ := cs
  obtain ⟨c0, t0, rfl⟩ : ∃ a l, cs = a :: l := List.exists_cons_of_length_pos (by simp only [List.size_toArray, List.length_cons] at hsz; omega)
  obtain ⟨c1, t1, rfl⟩ : ∃ a l, t0 = a :: l := List.exists_cons_of_length_pos (by simp only [List.size_toArray, List.length_cons] at hsz; omega)
  obtain ⟨c2, t2, rfl⟩ : ∃ a l, t1 = a :: l := List.exists_cons_of_length_pos (by simp only [List.size_toArray, List.length_cons] at hsz; omega)
  obtain ⟨c3, t3, rfl⟩ : ∃ a l, t2 = a :: l := List.exists_cons_of_length_pos (by simp only [List.size_toArray, List.length_cons] at hsz; omega)
  obtain rfl : t3 = [] := List.eq_nil_of_length_eq_zero (by simp only [List.size_toArray, List.length_cons] at hsz; omega)
  replace h : DataW.trod enc Try.prog W 0 (fun _ => true) true fuel 24 [c0, c1, c2, c3] = some (d, p) := h
  obtain ⟨xs, n, _, _, _, hl, hf⟩ := DataW.trod_struct Try.underlying24 h
  obtain ⟨y_0, hy_0⟩ : ∃ y, xs[0]? = some y := ⟨_, List.getElem?_eq_getElem (by rw [hl]; decide)⟩
  have g_0 := hf 0 _ rfl
  rw [hy_0] at g_0
  replace g_0 : DataW.trod enc Try.prog W 0 (fun _ => true) true n 2 [c0] = some y_0 := g_0
  obtain ⟨x0, e0, _, w0⟩ := DataW.trod_int Try.underlying2 g_0
  cases e0
  obtain ⟨y_1, hy_1⟩ : ∃ y, xs[1]? = some y := ⟨_, List.getElem?_eq_getElem (by rw [hl]; decide)⟩
  have g_1 := hf 1 _ rfl
  rw [hy_1] at g_1
  replace g_1 : DataW.trod enc Try.prog W 0 (fun _ => true) true n 2 [c1] = some y_1 := g_1
  obtain ⟨x1, e1, _, w1⟩ := DataW.trod_int Try.underlying2 g_1
  cases e1
  obtain ⟨y_2, hy_2⟩ : ∃ y, xs[2]? = some y := ⟨_, List.getElem?_eq_getElem (by rw [hl]; decide)⟩
  have g_2 := hf 2 _ rfl
  rw [hy_2] at g_2
  replace g_2 : DataW.trod enc Try.prog W 0 (fun _ => true) true n 4 [c2] = some y_2 := g_2
  obtain ⟨x2, e2, _⟩ := DataW.trod_bool Try.underlying4 g_2
  cases e2
  obtain ⟨y_3, hy_3⟩ : ∃ y, xs[3]? = some y := ⟨_, List.getElem?_eq_getElem (by rw [hl]; decide)⟩
  have g_3 := hf 3 _ rfl
  rw [hy_3] at g_3
  replace g_3 : DataW.trod enc Try.prog W 0 (fun _ => true) true n 22 [c3] = some y_3 := g_3
  obtain ⟨x3, l3, e3, r3, w3, m3, _⟩ := trod_floats Try.underlying22 Try.underlying33 (show Try.prog.cellsOf 33 = 1 by kernel_rfl) g_3
  cases e3
  exact ⟨x0, w0, x1, w1, x2, _, l3, r3, by rw [List.length_map, ← maxLen_eq]; exact m3, w3, rfl⟩

theorem FnExactSteepField_lifted (os : Os) (started : os.Started) (H : Type) (enc : TypeId × Value → H) :
    ReturnsInHanded {} Try.checked os 3 .any (Rows.fnExactSteepFieldSpec.pre6 enc Try.prog Try.f3 Rows.fnExactSteepFieldRow.domain false) (Rows.fnExactSteepFieldSpec.post enc Try.prog Try.f3 false true false false) := by
  refine returnsInHanded_of_change (C := Try.checked) Try.own started (by kernel_rfl) Try.func3
    (ChangeSpec.witness6 (enc := enc) (C := Try.checked) false ⟨#[], #[.agg #[.int .i64 0, .int .i64 0, .bool false, .slice none 0 0]], []⟩ 8 (by kernel_rfl) (by kernel_rfl) (by kernel_rfl) (by kernel_rfl)) ?_
  intro W base args ds gs before hval0 hW hcnd _
  have hval : ∀ (j : Nat) t v, Try.f3.params[j]? = some t → args[j]? = some v → Value.okWide Try.prog W .any base t v := hval0
  have hW' : DataW.Whole enc Try.prog Try.f3.params.toList Rows.fnExactSteepFieldSpec.vars false W args.toList ds gs before := hW
  obtain ⟨p, q, hA0, hV, rfl, hfz, hnd⟩ := hW
  have hA : DataW.TrodAll enc Try.prog W 0 (fun _ => true) true Try.f3.params.toList args.toList ds p := hA0
  rw [Try.params3] at hA hval
  obtain ⟨v0, d0, rfl, rfl, h0⟩ := trodAll_one hA
  obtain ⟨rfl, rfl⟩ := trodVars_none hV
  obtain ⟨x0_0, w0_0, x0_1, w0_1, x0_2, u0_3, l0_3, r0_3, m0_3, w0_3, e0⟩ := open_24 (hval 0 24 v0 rfl rfl) h0
  subst e0
  have hro : RoAll W [u0_3] [(.F .f32 (l0_3.map (cF .f32)))] := (.cons r0_3 .nil)
  refine (ro_run (lv := [.lf (l0_3.map (cF .f32)), .int x0_0, .int x0_1, .bool x0_2]) (cargs := [.agg #[.int .i64 x0_0, .int .i64 x0_1, .bool x0_2, .slice (some ⟨0, 0, none⟩) (l0_3.map (cF .f32)).length 0]]) (args := #[.agg #[.int .i64 x0_0, .int .i64 x0_1, .bool x0_2, u0_3]]) Go.K.melts.laws_FnExactSteepField.ok hro (by kernel_rfl) (by kernel_rfl) ?_ ?_ ?_).mono fun e W' ⟨he, hfr⟩ => ?_
  · exact (LR.cons ⟨_, rfl, (LR.cons rfl (LR.cons rfl (LR.cons rfl (LR.cons (RoAll.vr hro 0 rfl rfl) LR.nil))))⟩ LR.nil)
  · intro c rout h
    cases h; rfl
  · have key : ∀ W0 : List Nat → Int → Int → Bool → (Bool → Prop) → Prop, W0 ((l0_3.map (cF .f32))) (x0_0) (x0_1) (x0_2) (fun b => [LV.bool b] = [.bool true]) → appK Go.K.melts.laws_FnExactSteepField.c.otys Go.K.melts.laws_FnExactSteepField.c.itys W0 [.lf (l0_3.map (cF .f32)), .int x0_0, .int x0_1, .bool x0_2] (lam Go.K.melts.laws_FnExactSteepField.c.otys fun lvo => lvo = [.bool true]) := fun W0 h => h
    exact key Go.K.melts.laws_FnExactSteepField.wp (@id (Go.K.melts.laws_FnExactSteepField.wp _ _ _ _ _) (Go.K.melts.steep_law (l0_3.map (cF .f32)) x0_0 x0_1 x0_2 m0_3 rfl))
  · subst he
    exact ⟨_, rfl, law_post Try.laidOut (by decide +kernel) hW' rfl (by kernel_rfl) Try.underlying4 rfl rfl rfl hfr⟩

theorem FnExactSteepField_holds : Rows.FnExactSteepFieldSaid :=
  OpenClaim.holds_of_wide 3 Try.f3 rfl rfl rfl rfl rfl rfl rfl ⟨rfl, rfl, rfl, rfl, rfl⟩ rfl rfl rfl rfl rfl (by kernel_rfl) Try.func3 (by kernel_rfl)
    (of_decide_eq_true (by kernel_rfl)) (by unfold Func.isWrapper; first | (rw [if_pos (by decide +kernel)]; kernel_rfl) | (rw [if_neg (by decide +kernel)]; exact ⟨rfl, rfl⟩))
    (fun os started H enc _ => FnExactSteepField_lifted os started H enc)
end Go.Proofs.Ytplijfhgleofmaa
