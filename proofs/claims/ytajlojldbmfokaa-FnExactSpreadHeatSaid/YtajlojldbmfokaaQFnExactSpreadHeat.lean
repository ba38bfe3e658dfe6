/- FnExactSpreadHeat: the program's answer is the reference's, for every input that the statement lets in; the input reads as it did. -/
import Derived.Test.YtajlojldbmfokaaRows
import Derived.Test.YtajlojldbmfokaaO
import Derived.Test.YtajlojldbmfokaaLZ
import Derived.Test.YtajlojldbmfokaaK21
namespace Go.Proofs.Ytajlojldbmfokaa
open Go.ChangeShapes Go.WideShapes Go.ChangeAt Go.RowKit Go.K
set_option linter.unusedVariables false
set_option linter.unusedSimpArgs false
set_option maxRecDepth 100000

theorem Try.own : ownKnob Try.prog.godebug = none := by kernel_rfl
theorem Try.laidOut : laidOutB Try.prog = true := by kernel_rfl
theorem maxLen_eq : maxLen = 9223372036854775807 := by decide
theorem open_27 {H : Type} {enc : TypeId × Value → H} {W : World} {base : Nat} {v : Value} {d : DataW H} {p : List MemPlace} (hv : Value.okWide Try.prog W .any base 27 v) (h : DataW.Trod enc Try.prog W 0 (fun _ => true) true 27 v d p) :
    ∃ x0 : Int, (Lit.int .i64 x0).wf = true ∧ ∃ x1 : Int, (Lit.int .i64 x1).wf = true ∧ ∃ x2 : Bool, ∃ x3 : Value, ∃ l3 : List Nat, RoIn W x3 (.F .f32 (l3.map (cF .f32))) ∧ (l3.map (cF .f32)).length ≤ 9223372036854775807 ∧ (∀ b ∈ l3, (Lit.float .f32 b).wf = true) ∧ ∃ x4 : Int, (Lit.int .i64 x4).wf = true ∧ ∃ x5 : Int, (Lit.int .i64 x5).wf = true ∧ ∃ x6 : Bool, ∃ x7 : Value, ∃ l7 : List Nat, RoIn W x7 (.F .f32 (l7.map (cF .f32))) ∧ (l7.map (cF .f32)).length ≤ 9223372036854775807 ∧ (∀ b ∈ l7, (Lit.float .f32 b).wf = true) ∧ ∃ x8 : Nat, (Lit.float .f32 x8).wf = true ∧ ∃ x9 : Nat, (Lit.float .f32 x9).wf = true ∧ ∃ x10 : Nat, (Lit.float .f32 x10).wf = true ∧ ∃ x11 : Nat, (Lit.float .f32 x11).wf = true ∧ ∃ x12 : Nat, (Lit.float .f32 x12).wf = true ∧ ∃ x13 : Int, (Lit.int .i64 x13).wf = true ∧ v = .agg #[.int .i64 x0, .int .i64 x1, .bool x2, x3, .int .i64 x4, .int .i64 x5, .bool x6, x7, .float .f32 x8, .float .f32 x9, .float .f32 x10, .float .f32 x11, .float .f32 x12, .int .i64 x13] := by
  obtain ⟨cs, rfl, hsz⟩ := okWide_struct Try.underlying27 hv
  obtain ⟨fuel, h⟩ := h
  rw [show Try.prog.cellsOf 27 = 14 by kernel_rfl] at hsz
  obtain ⟨cs⟩ := cs
  obtain ⟨c0, t0, rfl⟩ : ∃ a l, cs = a :: l := List.exists_cons_of_length_pos (by simp only [List.size_toArray, List.length_cons] at hsz; omega)
  obtain ⟨c1, t1, rfl⟩ : ∃ a l, t0 = a :: l := List.exists_cons_of_length_pos (by simp only [List.size_toArray, List.length_cons] at hsz; omega)
  obtain ⟨c2, t2, rfl⟩ : ∃ a l, t1 = a :: l := List.exists_cons_of_length_pos (by simp only [List.size_toArray, List.length_cons] at hsz; omega)
  obtain ⟨c3, t3, rfl⟩ : ∃ a l, t2 = a :: l := List.exists_cons_of_length_pos (by simp only [List.size_toArray, List.length_cons] at hsz; omega)
  obtain ⟨c4, t4, rfl⟩ : ∃ a l, t3 = a :: l := List.exists_cons_of_length_pos (by simp only [List.size_toArray, List.length_cons] at hsz; omega)
  obtain ⟨c5, t5, rfl⟩ : ∃ a l, t4 = a :: l := List.exists_cons_of_length_pos (by simp only [List.size_toArray, List.length_cons] at hsz; omega)
  obtain ⟨c6, t6, rfl⟩ : ∃ a l, t5 = a :: l := List.exists_cons_of_length_pos (by simp only [List.size_toArray, List.length_cons] at hsz; omega)
  obtain ⟨c7, t7, rfl⟩ : ∃ a l, t6 = a :: l := List.exists_cons_of_length_pos (by simp only [List.size_toArray, List.length_cons] at hsz; omega)
  obtain ⟨c8, t8, rfl⟩ : ∃ a l, t7 = a :: l := List.exists_cons_of_length_pos (by simp only [List.size_toArray, List.length_cons] at hsz; omega)
  obtain ⟨c9, t9, rfl⟩ : ∃ a l, t8 = a :: l := List.exists_cons_of_length_pos (by simp only [List.size_toArray, List.length_cons] at hsz; omega)
  obtain ⟨c10, t10, rfl⟩ : ∃ a l, t9 = a :: l := List.exists_cons_of_length_pos (by simp only [List.size_toArray, List.length_cons] at hsz; omega)
  obtain ⟨c11, t11, rfl⟩ : ∃ a l, t10 = a :: l := List.exists_cons_of_length_pos (by simp only [List.size_toArray, List.length_cons] at hsz; omega)
  obtain ⟨c12, t12, rfl⟩ : ∃ a l, t11 = a :: l := List.exists_cons_of_length_pos (by simp only [List.size_toArray, List.length_cons] at hsz; omega)
  obtain ⟨c13, t13, rfl⟩ : ∃ a l, t12 = a :: l := List.exists_cons_of_length_pos (by simp only [List.size_toArray, List.length_cons] at hsz; omega)
  obtain rfl : t13 = [] := List.eq_nil_of_length_eq_zero (by simp only [List.size_toArray, List.length_cons] at hsz; omega)
  replace h : DataW.trod enc Try.prog W 0 (fun _ => true) true fuel 27 [c0, c1, c2, c3, c4, c5, c6, c7, c8, c9, c10, c11, c12, c13] = some (d, p) := h
  obtain ⟨xs, n, _, _, _, hl, hf⟩ := DataW.trod_struct Try.underlying27 h
  obtain ⟨y_0, hy_0⟩ : ∃ y, xs[0]? = some y := ⟨_, List.getElem?_eq_getElem (by rw [hl]; decide)⟩
  have g_0 := hf 0 _ rfl
  rw [hy_0] at g_0
  replace g_0 : DataW.trod enc Try.prog W 0 (fun _ => true) true n 24 [c0, c1, c2, c3] = some y_0 := g_0
  obtain ⟨xs_0, n_0, _, _, _, hl_0, hf_0⟩ := DataW.trod_struct Try.underlying24 g_0
  obtain ⟨y_0_0, hy_0_0⟩ : ∃ y, xs_0[0]? = some y := ⟨_, List.getElem?_eq_getElem (by rw [hl_0]; decide)⟩
  have g_0_0 := hf_0 0 _ rfl
  rw [hy_0_0] at g_0_0
  replace g_0_0 : DataW.trod enc Try.prog W 0 (fun _ => true) true n_0 2 [c0] = some y_0_0 := g_0_0
  obtain ⟨x0, e0, _, w0⟩ := DataW.trod_int Try.underlying2 g_0_0
  cases e0
  obtain ⟨y_0_1, hy_0_1⟩ : ∃ y, xs_0[1]? = some y := ⟨_, List.getElem?_eq_getElem (by rw [hl_0]; decide)⟩
  have g_0_1 := hf_0 1 _ rfl
  rw [hy_0_1] at g_0_1
  replace g_0_1 : DataW.trod enc Try.prog W 0 (fun _ => true) true n_0 2 [c1] = some y_0_1 := g_0_1
  obtain ⟨x1, e1, _, w1⟩ := DataW.trod_int Try.underlying2 g_0_1
  cases e1
  obtain ⟨y_0_2, hy_0_2⟩ : ∃ y, xs_0[2]? = some y := ⟨_, List.getElem?_eq_getElem (by rw [hl_0]; decide)⟩
  have g_0_2 := hf_0 2 _ rfl
  rw [hy_0_2] at g_0_2
  replace g_0_2 : DataW.trod enc Try.prog W 0 (fun _ => true) true n_0 4 [c2] = some y_0_2 := g_0_2
  obtain ⟨x2, e2, _⟩ := DataW.trod_bool Try.underlying4 g_0_2
  cases e2
  obtain ⟨y_0_3, hy_0_3⟩ : ∃ y, xs_0[3]? = some y := ⟨_, List.getElem?_eq_getElem (by rw [hl_0]; decide)⟩
  have g_0_3 := hf_0 3 _ rfl
  rw [hy_0_3] at g_0_3
  replace g_0_3 : DataW.trod enc Try.prog W 0 (fun _ => true) true n_0 22 [c3] = some y_0_3 := g_0_3
  obtain ⟨x3, l3, e3, r3, w3, m3, _⟩ := trod_floats Try.underlying22 Try.underlying25 (show Try.prog.cellsOf 25 = 1 by kernel_rfl) g_0_3
  cases e3
  obtain ⟨y_1, hy_1⟩ : ∃ y, xs[1]? = some y := ⟨_, List.getElem?_eq_getElem (by rw [hl]; decide)⟩
  have g_1 := hf 1 _ rfl
  rw [hy_1] at g_1
  replace g_1 : DataW.trod enc Try.prog W 0 (fun _ => true) true n 24 [c4, c5, c6, c7] = some y_1 := g_1
  obtain ⟨xs_1, n_1, _, _, _, hl_1, hf_1⟩ := DataW.trod_struct Try.underlying24 g_1
  obtain ⟨y_1_0, hy_1_0⟩ : ∃ y, xs_1[0]? = some y := ⟨_, List.getElem?_eq_getElem (by rw [hl_1]; decide)⟩
  have g_1_0 := hf_1 0 _ rfl
  rw [hy_1_0] at g_1_0
  replace g_1_0 : DataW.trod enc Try.prog W 0 (fun _ => true) true n_1 2 [c4] = some y_1_0 := g_1_0
  obtain ⟨x4, e4, _, w4⟩ := DataW.trod_int Try.underlying2 g_1_0
  cases e4
  obtain ⟨y_1_1, hy_1_1⟩ : ∃ y, xs_1[1]? = some y := ⟨_, List.getElem?_eq_getElem (by rw [hl_1]; decide)⟩
  have g_1_1 := hf_1 1 _ rfl
  rw [hy_1_1] at g_1_1
  replace g_1_1 : DataW.trod enc Try.prog W 0 (fun _ => true) true n_1 2 [c5] = some y_1_1 := g_1_1
  obtain ⟨x5, e5, _, w5⟩ := DataW.trod_int Try.underlying2 g_1_1
  cases e5
  obtain ⟨y_1_2, hy_1_2⟩ : ∃ y, xs_1[2]? = some y := ⟨_, List.getElem?_eq_getElem (by rw [hl_1]; decide)⟩
  have g_1_2 := hf_1 2 _ rfl
  rw [hy_1_2] at g_1_2
  replace g_1_2 : DataW.trod enc Try.prog W 0 (fun _ => true) true n_1 4 [c6] = some y_1_2 := g_1_2
  obtain ⟨x6, e6, _⟩ := DataW.trod_bool Try.underlying4 g_1_2
  cases e6
  obtain ⟨y_1_3, hy_1_3⟩ : ∃ y, xs_1[3]? = some y := ⟨_, List.getElem?_eq_getElem (by rw [hl_1]; decide)⟩
  have g_1_3 := hf_1 3 _ rfl
  rw [hy_1_3] at g_1_3
  replace g_1_3 : DataW.trod enc Try.prog W 0 (fun _ => true) true n_1 22 [c7] = some y_1_3 := g_1_3
  obtain ⟨x7, l7, e7, r7, w7, m7, _⟩ := trod_floats Try.underlying22 Try.underlying25 (show Try.prog.cellsOf 25 = 1 by kernel_rfl) g_1_3
  cases e7
  obtain ⟨y_2, hy_2⟩ : ∃ y, xs[2]? = some y := ⟨_, List.getElem?_eq_getElem (by rw [hl]; decide)⟩
  have g_2 := hf 2 _ rfl
  rw [hy_2] at g_2
  replace g_2 : DataW.trod enc Try.prog W 0 (fun _ => true) true n 25 [c8] = some y_2 := g_2
  obtain ⟨x8, e8, w8⟩ := trod_flt Try.underlying25 g_2
  cases e8
  obtain ⟨y_3, hy_3⟩ : ∃ y, xs[3]? = some y := ⟨_, List.getElem?_eq_getElem (by rw [hl]; decide)⟩
  have g_3 := hf 3 _ rfl
  rw [hy_3] at g_3
  replace g_3 : DataW.trod enc Try.prog W 0 (fun _ => true) true n 25 [c9] = some y_3 := g_3
  obtain ⟨x9, e9, w9⟩ := trod_flt Try.underlying25 g_3
  cases e9
  obtain ⟨y_4, hy_4⟩ : ∃ y, xs[4]? = some y := ⟨_, List.getElem?_eq_getElem (by rw [hl]; decide)⟩
  have g_4 := hf 4 _ rfl
  rw [hy_4] at g_4
  replace g_4 : DataW.trod enc Try.prog W 0 (fun _ => true) true n 25 [c10] = some y_4 := g_4
  obtain ⟨x10, e10, w10⟩ := trod_flt Try.underlying25 g_4
  cases e10
  obtain ⟨y_5, hy_5⟩ : ∃ y, xs[5]? = some y := ⟨_, List.getElem?_eq_getElem (by rw [hl]; decide)⟩
  have g_5 := hf 5 _ rfl
  rw [hy_5] at g_5
  replace g_5 : DataW.trod enc Try.prog W 0 (fun _ => true) true n 25 [c11] = some y_5 := g_5
  obtain ⟨x11, e11, w11⟩ := trod_flt Try.underlying25 g_5
  cases e11
  obtain ⟨y_6, hy_6⟩ : ∃ y, xs[6]? = some y := ⟨_, List.getElem?_eq_getElem (by rw [hl]; decide)⟩
  have g_6 := hf 6 _ rfl
  rw [hy_6] at g_6
  replace g_6 : DataW.trod enc Try.prog W 0 (fun _ => true) true n 25 [c12] = some y_6 := g_6
  obtain ⟨x12, e12, w12⟩ := trod_flt Try.underlying25 g_6
  cases e12
  obtain ⟨y_7, hy_7⟩ : ∃ y, xs[7]? = some y := ⟨_, List.getElem?_eq_getElem (by rw [hl]; decide)⟩
  have g_7 := hf 7 _ rfl
  rw [hy_7] at g_7
  replace g_7 : DataW.trod enc Try.prog W 0 (fun _ => true) true n 2 [c13] = some y_7 := g_7
  obtain ⟨x13, e13, _, w13⟩ := DataW.trod_int Try.underlying2 g_7
  cases e13
  exact ⟨x0, w0, x1, w1, x2, _, l3, r3, by rw [List.length_map, ← maxLen_eq]; exact m3, w3, x4, w4, x5, w5, x6, _, l7, r7, by rw [List.length_map, ← maxLen_eq]; exact m7, w7, x8, w8, x9, w9, x10, w10, x11, w11, x12, w12, x13, w13, rfl⟩

theorem FnExactSpreadHeat_lifted (os : Os) (started : os.Started) (H : Type) (enc : TypeId × Value → H) :
    ReturnsInHanded {} Try.checked os 6 .any (Rows.fnExactSpreadHeatSpec.pre6 enc Try.prog Try.f6 Rows.fnExactSpreadHeatRow.domain false) (Rows.fnExactSpreadHeatSpec.post enc Try.prog Try.f6 false true false false) := by
  refine returnsInHanded_of_change (C := Try.checked) Try.own started (by kernel_rfl) Try.func6
    (ChangeSpec.witness6 (enc := enc) (C := Try.checked) false ⟨#[], #[.agg #[.int .i64 0, .int .i64 0, .bool false, .slice none 0 0, .int .i64 0, .int .i64 0, .bool false, .slice none 0 0, .float .f32 0, .float .f32 0, .float .f32 0, .float .f32 0, .float .f32 0, .int .i64 0], .float .f32 0], []⟩ 8 (by kernel_rfl) (by kernel_rfl) (by kernel_rfl) (by kernel_rfl)) ?_
  intro W base args ds gs before hval0 hW hcnd _
  have hval : ∀ (j : Nat) t v, Try.f6.params[j]? = some t → args[j]? = some v → Value.okWide Try.prog W .any base t v := hval0
  have hW' : DataW.Whole enc Try.prog Try.f6.params.toList Rows.fnExactSpreadHeatSpec.vars false W args.toList ds gs before := hW
  obtain ⟨p, q, hA0, hV, rfl, hfz, hnd⟩ := hW
  have hA : DataW.TrodAll enc Try.prog W 0 (fun _ => true) true Try.f6.params.toList args.toList ds p := hA0
  rw [Try.params6] at hA hval
  obtain ⟨v0, v1, d0, d1, p0, p1, rfl, rfl, rfl, h0, h1⟩ := trodAll_two hA
  obtain ⟨rfl, rfl⟩ := trodVars_none hV
  obtain ⟨x0_0, w0_0, x0_1, w0_1, x0_2, u0_3, l0_3, r0_3, m0_3, w0_3, x0_4, w0_4, x0_5, w0_5, x0_6, u0_7, l0_7, r0_7, m0_7, w0_7, b0_8, w0_8, b0_9, w0_9, b0_10, w0_10, b0_11, w0_11, b0_12, w0_12, x0_13, w0_13, e0⟩ := open_27 (hval 0 27 v0 rfl rfl) h0
  subst e0
  obtain ⟨b1, rfl, _, _, w1⟩ := open_float Try.underlying25 (hval 1 25 v1 rfl rfl) h1
  have hro : RoAll W [u0_3, u0_7] [(.F .f32 (l0_3.map (cF .f32))), (.F .f32 (l0_7.map (cF .f32)))] := (.cons r0_3 (.cons r0_7 .nil))
  refine (ro_run (lv := [.lf (l0_3.map (cF .f32)), .lf (l0_7.map (cF .f32)), .int x0_0, .int x0_1, .bool x0_2, .int x0_4, .int x0_5, .bool x0_6, .flt (cF .f32 b0_8), .flt (cF .f32 b0_9), .flt (cF .f32 b0_10), .flt (cF .f32 b0_11), .flt (cF .f32 b0_12), .int x0_13, .flt (cF .f32 b1)]) (cargs := [.agg #[.int .i64 x0_0, .int .i64 x0_1, .bool x0_2, .slice (some ⟨0, 0, none⟩) (l0_3.map (cF .f32)).length 0, .int .i64 x0_4, .int .i64 x0_5, .bool x0_6, .slice (some ⟨1, 0, none⟩) (l0_7.map (cF .f32)).length 0, .float .f32 (cF .f32 b0_8), .float .f32 (cF .f32 b0_9), .float .f32 (cF .f32 b0_10), .float .f32 (cF .f32 b0_11), .float .f32 (cF .f32 b0_12), .int .i64 x0_13], .float .f32 (cF .f32 b1)]) (args := #[.agg #[.int .i64 x0_0, .int .i64 x0_1, .bool x0_2, u0_3, .int .i64 x0_4, .int .i64 x0_5, .bool x0_6, u0_7, .float .f32 b0_8, .float .f32 b0_9, .float .f32 b0_10, .float .f32 b0_11, .float .f32 b0_12, .int .i64 x0_13], .float .f32 b1]) Go.K.melts.laws_FnExactSpreadHeat.ok hro (by kernel_rfl) (by kernel_rfl) ?_ ?_ ?_).mono fun e W' ⟨he, hfr⟩ => ?_
  · exact (LR.cons ⟨_, rfl, (LR.cons rfl (LR.cons rfl (LR.cons rfl (LR.cons (RoAll.vr hro 0 rfl rfl) (LR.cons rfl (LR.cons rfl (LR.cons rfl (LR.cons (RoAll.vr hro 1 rfl rfl) (LR.cons ⟨b0_8, rfl, rfl⟩ (LR.cons ⟨b0_9, rfl, rfl⟩ (LR.cons ⟨b0_10, rfl, rfl⟩ (LR.cons ⟨b0_11, rfl, rfl⟩ (LR.cons ⟨b0_12, rfl, rfl⟩ (LR.cons rfl LR.nil))))))))))))))⟩ (LR.cons ⟨b1, rfl, rfl⟩ LR.nil))
  · intro c rout h
    cases h; rfl
  · have key : ∀ W0 : List Nat → List Nat → Int → Int → Bool → Int → Int → Bool → Nat → Nat → Nat → Nat → Nat → Int → Nat → (Bool → Prop) → Prop, W0 ((l0_3.map (cF .f32))) ((l0_7.map (cF .f32))) (x0_0) (x0_1) (x0_2) (x0_4) (x0_5) (x0_6) ((cF .f32 b0_8)) ((cF .f32 b0_9)) ((cF .f32 b0_10)) ((cF .f32 b0_11)) ((cF .f32 b0_12)) (x0_13) ((cF .f32 b1)) (fun b => [LV.bool b] = [.bool true]) → appK Go.K.melts.laws_FnExactSpreadHeat.c.otys Go.K.melts.laws_FnExactSpreadHeat.c.itys W0 [.lf (l0_3.map (cF .f32)), .lf (l0_7.map (cF .f32)), .int x0_0, .int x0_1, .bool x0_2, .int x0_4, .int x0_5, .bool x0_6, .flt (cF .f32 b0_8), .flt (cF .f32 b0_9), .flt (cF .f32 b0_10), .flt (cF .f32 b0_11), .flt (cF .f32 b0_12), .int x0_13, .flt (cF .f32 b1)] (lam Go.K.melts.laws_FnExactSpreadHeat.c.otys fun lvo => lvo = [.bool true]) := fun W0 h => h
    exact key Go.K.melts.laws_FnExactSpreadHeat.wp (@id (Go.K.melts.laws_FnExactSpreadHeat.wp _ _ _ _ _ _ _ _ _ _ _ _ _ _ _ _) (Go.K.melts.spread_law ⟨l0_3.map (cF .f32), l0_7.map (cF .f32), x0_0, x0_1, x0_2, x0_4, x0_5, x0_6, cF .f32 b0_8, cF .f32 b0_9, cF .f32 b0_10, cF .f32 b0_11, cF .f32 b0_12, x0_13⟩ (cF .f32 b1) m0_3 m0_7 rfl))
  · subst he
    exact ⟨_, rfl, law_post Try.laidOut (by decide +kernel) hW' rfl (by kernel_rfl) Try.underlying4 rfl rfl rfl hfr⟩

theorem FnExactSpreadHeat_holds : Rows.FnExactSpreadHeatSaid :=
  OpenClaim.holds_of_wide 6 Try.f6 rfl rfl rfl rfl rfl rfl rfl ⟨rfl, rfl, rfl, rfl, rfl⟩ rfl rfl rfl rfl rfl (by kernel_rfl) Try.func6 (by kernel_rfl)
    (of_decide_eq_true (by kernel_rfl)) (by unfold Func.isWrapper; first | (rw [if_pos (by decide +kernel)]; kernel_rfl) | (rw [if_neg (by decide +kernel)]; exact ⟨rfl, rfl⟩))
    (fun os started H enc _ => FnExactSpreadHeat_lifted os started H enc)
end Go.Proofs.Ytajlojldbmfokaa
