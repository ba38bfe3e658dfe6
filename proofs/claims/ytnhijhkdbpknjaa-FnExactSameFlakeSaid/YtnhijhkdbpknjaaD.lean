import Derived.Test.YtnhijhkdbpknjaaK20
import Derived.Test.YtnhijhkdbpknjaaProg
set_option maxRecDepth 100000
namespace Go.K.flakes
open Go.Proofs

noncomputable def bodyOf (f : Func) : Code := match f.body with
  | some c => c
  | none => .skip
-- loop.example/g01247/spec.l01Finite
noncomputable def spec_l01Finite.g : Sig := ⟨57, [(.v (.a (.one (.flt .f32))))], [], [.flt], [(.v (.a (.one .bool)))], [], [.bool]⟩
noncomputable def spec_l01Finite.ib  : FnI := ⟨Try.prog, [], [], 7, [.tmp 2], bodyOf Try.f57, .leaf, []⟩
noncomputable def spec_l01Finite.i : FnI := spec_l01Finite.ib 
noncomputable def spec_l01Finite.bd  : Nat → (Bool → Prop) → Prop := (spec_l01Finite.ib ).W spec_l01Finite.g
noncomputable def spec_l01Finite.wp : Nat → (Bool → Prop) → Prop := spec_l01Finite.bd 
noncomputable def spec_l01Finite.c : Ctr := spec_l01Finite.g.ctr spec_l01Finite.wp

-- loop.example/g01247/spec.l06Size
noncomputable def spec_l06Size.g : Sig := ⟨44, [(.v (.a (.one (.flt .f32))))], [], [.flt], [(.v (.a (.one .bool)))], [], [.bool]⟩
noncomputable def spec_l06Size.ib (w_spec_l01Finite : Nat → (Bool → Prop) → Prop) : FnI := ⟨Try.prog, [], [spec_l01Finite.g.ctr w_spec_l01Finite], 9, [.tmp 2], bodyOf Try.f44, .leaf, []⟩
noncomputable def spec_l06Size.i : FnI := spec_l06Size.ib spec_l01Finite.wp
noncomputable def spec_l06Size.bd (w_spec_l01Finite : Nat → (Bool → Prop) → Prop) : Nat → (Bool → Prop) → Prop := (spec_l06Size.ib w_spec_l01Finite).W spec_l06Size.g
noncomputable def spec_l06Size.wp : Nat → (Bool → Prop) → Prop := spec_l06Size.bd spec_l01Finite.wp
noncomputable def spec_l06Size.c : Ctr := spec_l06Size.g.ctr spec_l06Size.wp

-- loop.example/g01247/spec.l06Square
noncomputable def spec_l06Square.g : Sig := ⟨45, [(.v (.a (.one (.flt .f32))))], [], [.flt], [(.v (.a (.one (.sl 0))))], [(.row 59 (.C .f32))], [.lc]⟩
noncomputable def spec_l06Square.ib  : FnI := ⟨Try.prog, [], [], 20, [.tmp 2], bodyOf Try.f45, .leaf, []⟩
noncomputable def spec_l06Square.i : FnI := spec_l06Square.ib 
noncomputable def spec_l06Square.bd  : Nat → (List (Nat × Nat) → Prop) → Prop := (spec_l06Square.ib ).W spec_l06Square.g
noncomputable def spec_l06Square.wp : Nat → (List (Nat × Nat) → Prop) → Prop := spec_l06Square.bd 
noncomputable def spec_l06Square.c : Ctr := spec_l06Square.g.ctr spec_l06Square.wp

-- loop.example/g01247/spec.SquareShape
noncomputable def spec_SquareShape.g : Sig := ⟨12, [(.v (.a (.one (.flt .f32))))], [], [.flt], [(.tup [(.a (.one (.sl 0))), (.a (.one .bool))])], [(.row 59 (.C .f32))], [.lc, .bool]⟩
noncomputable def spec_SquareShape.ib (w_spec_l06Size : Nat → (Bool → Prop) → Prop) (w_spec_l06Square : Nat → (List (Nat × Nat) → Prop) → Prop) : FnI := ⟨Try.prog, [], [spec_l06Size.g.ctr w_spec_l06Size, spec_l06Square.g.ctr w_spec_l06Square], 9, [.tmp 2, .tmp 3], bodyOf Try.f12, .leaf, []⟩
noncomputable def spec_SquareShape.i : FnI := spec_SquareShape.ib spec_l06Size.wp spec_l06Square.wp
noncomputable def spec_SquareShape.bd (w_spec_l06Size : Nat → (Bool → Prop) → Prop) (w_spec_l06Square : Nat → (List (Nat × Nat) → Prop) → Prop) : Nat → (List (Nat × Nat) → Bool → Prop) → Prop := (spec_SquareShape.ib w_spec_l06Size w_spec_l06Square).W spec_SquareShape.g
noncomputable def spec_SquareShape.wp : Nat → (List (Nat × Nat) → Bool → Prop) → Prop := spec_SquareShape.bd spec_l06Size.wp spec_l06Square.wp
noncomputable def spec_SquareShape.c : Ctr := spec_SquareShape.g.ctr spec_SquareShape.wp

-- math.IsNaN
noncomputable def math_IsNaN.g : Sig := ⟨89, [(.v (.a (.one (.flt .f64))))], [], [.flt], [(.v (.a (.one .bool)))], [], [.bool]⟩
noncomputable def math_IsNaN.ib  : FnI := ⟨Try.prog, [], [], 6, [.tmp 2], bodyOf Try.f89, .leaf, []⟩
noncomputable def math_IsNaN.i : FnI := math_IsNaN.ib 
noncomputable def math_IsNaN.bd  : Nat → (Bool → Prop) → Prop := (math_IsNaN.ib ).W math_IsNaN.g
noncomputable def math_IsNaN.wp : Nat → (Bool → Prop) → Prop := math_IsNaN.bd 
noncomputable def math_IsNaN.c : Ctr := math_IsNaN.g.ctr math_IsNaN.wp

-- math.Abs
noncomputable def math_Abs.g : Sig := ⟨95, [(.v (.a (.one (.flt .f64))))], [], [.flt], [(.v (.a (.one (.flt .f64))))], [], [.flt]⟩
noncomputable def math_Abs.ib  : FnI := ⟨Try.prog, [(94, .bits64), (96, .from64)], [], 7, [.tmp 2], bodyOf Try.f95, .leaf, []⟩
noncomputable def math_Abs.i : FnI := math_Abs.ib 
noncomputable def math_Abs.bd  : Nat → (Nat → Prop) → Prop := (math_Abs.ib ).W math_Abs.g
noncomputable def math_Abs.wp : Nat → (Nat → Prop) → Prop := math_Abs.bd 
noncomputable def math_Abs.c : Ctr := math_Abs.g.ctr math_Abs.wp

-- math.IsInf
noncomputable def math_IsInf.g : Sig := ⟨90, [(.v (.a (.one (.flt .f64)))), (.v (.a (.one (.int .i64))))], [], [.flt, .int], [(.v (.a (.one .bool)))], [], [.bool]⟩
noncomputable def math_IsInf.ib (w_math_Abs : Nat → (Nat → Prop) → Prop) : FnI := ⟨Try.prog, [], [math_Abs.g.ctr w_math_Abs], 15, [.tmp 4], bodyOf Try.f90, .leaf, [0]⟩
noncomputable def math_IsInf.i : FnI := math_IsInf.ib math_Abs.wp
noncomputable def math_IsInf.bd (w_math_Abs : Nat → (Nat → Prop) → Prop) : Nat → Int → (Bool → Prop) → Prop := (math_IsInf.ib w_math_Abs).W math_IsInf.g
noncomputable def math_IsInf.wp : Nat → Int → (Bool → Prop) → Prop := math_IsInf.bd math_Abs.wp
noncomputable def math_IsInf.c : Ctr := math_IsInf.g.ctr math_IsInf.wp

-- loop.example/g01247/impl.finite
noncomputable def impl_finite.g : Sig := ⟨82, [(.v (.a (.one (.flt .f64))))], [], [.flt], [(.v (.a (.one .bool)))], [], [.bool]⟩
noncomputable def impl_finite.ib (w_math_IsNaN : Nat → (Bool → Prop) → Prop) (w_math_IsInf : Nat → Int → (Bool → Prop) → Prop) : FnI := ⟨Try.prog, [], [math_IsNaN.g.ctr w_math_IsNaN, math_IsInf.g.ctr w_math_IsInf], 11, [.tmp 2], bodyOf Try.f82, .leaf, []⟩
noncomputable def impl_finite.i : FnI := impl_finite.ib math_IsNaN.wp math_IsInf.wp
noncomputable def impl_finite.bd (w_math_IsNaN : Nat → (Bool → Prop) → Prop) (w_math_IsInf : Nat → Int → (Bool → Prop) → Prop) : Nat → (Bool → Prop) → Prop := (impl_finite.ib w_math_IsNaN w_math_IsInf).W impl_finite.g
noncomputable def impl_finite.wp : Nat → (Bool → Prop) → Prop := impl_finite.bd math_IsNaN.wp math_IsInf.wp
noncomputable def impl_finite.c : Ctr := impl_finite.g.ctr impl_finite.wp

-- loop.example/g01247/impl.IsFinite
noncomputable def impl_IsFinite.g : Sig := ⟨59, [(.v (.a (.one (.flt .f32))))], [], [.flt], [(.v (.a (.one .bool)))], [], [.bool]⟩
noncomputable def impl_IsFinite.ib (w_impl_finite : Nat → (Bool → Prop) → Prop) : FnI := ⟨Try.prog, [], [impl_finite.g.ctr w_impl_finite], 6, [.tmp 2], bodyOf Try.f59, .leaf, []⟩
noncomputable def impl_IsFinite.i : FnI := impl_IsFinite.ib impl_finite.wp
noncomputable def impl_IsFinite.bd (w_impl_finite : Nat → (Bool → Prop) → Prop) : Nat → (Bool → Prop) → Prop := (impl_IsFinite.ib w_impl_finite).W impl_IsFinite.g
noncomputable def impl_IsFinite.wp : Nat → (Bool → Prop) → Prop := impl_IsFinite.bd impl_finite.wp
noncomputable def impl_IsFinite.c : Ctr := impl_IsFinite.g.ctr impl_IsFinite.wp

-- loop.example/g01247/impl.aLength
noncomputable def impl_aLength.g : Sig := ⟨46, [(.v (.a (.one (.flt .f32))))], [], [.flt], [(.v (.a (.one .bool)))], [], [.bool]⟩
noncomputable def impl_aLength.ib (w_impl_IsFinite : Nat → (Bool → Prop) → Prop) : FnI := ⟨Try.prog, [], [impl_IsFinite.g.ctr w_impl_IsFinite], 9, [.tmp 2], bodyOf Try.f46, .leaf, []⟩
noncomputable def impl_aLength.i : FnI := impl_aLength.ib impl_IsFinite.wp
noncomputable def impl_aLength.bd (w_impl_IsFinite : Nat → (Bool → Prop) → Prop) : Nat → (Bool → Prop) → Prop := (impl_aLength.ib w_impl_IsFinite).W impl_aLength.g
noncomputable def impl_aLength.wp : Nat → (Bool → Prop) → Prop := impl_aLength.bd impl_IsFinite.wp
noncomputable def impl_aLength.c : Ctr := impl_aLength.g.ctr impl_aLength.wp

-- loop.example/g01247/impl.SquareShape
noncomputable def impl_SquareShape.g : Sig := ⟨13, [(.v (.a (.one (.flt .f32))))], [], [.flt], [(.tup [(.a (.one (.sl 0))), (.a (.one .bool))])], [(.row 59 (.C .f32))], [.lc, .bool]⟩
noncomputable def impl_SquareShape.ib (w_impl_aLength : Nat → (Bool → Prop) → Prop) : FnI := ⟨Try.prog, [], [impl_aLength.g.ctr w_impl_aLength], 24, [.tmp 2, .tmp 3], bodyOf Try.f13, .leaf, []⟩
noncomputable def impl_SquareShape.i : FnI := impl_SquareShape.ib impl_aLength.wp
noncomputable def impl_SquareShape.bd (w_impl_aLength : Nat → (Bool → Prop) → Prop) : Nat → (List (Nat × Nat) → Bool → Prop) → Prop := (impl_SquareShape.ib w_impl_aLength).W impl_SquareShape.g
noncomputable def impl_SquareShape.wp : Nat → (List (Nat × Nat) → Bool → Prop) → Prop := impl_SquareShape.bd impl_aLength.wp
noncomputable def impl_SquareShape.c : Ctr := impl_SquareShape.g.ctr impl_SquareShape.wp

-- loop.example/g01247/laws.sameFloat
noncomputable def laws_sameFloat.g : Sig := ⟨75, [(.v (.a (.one (.flt .f64)))), (.v (.a (.one (.flt .f64))))], [], [.flt, .flt], [(.v (.a (.one .bool)))], [], [.bool]⟩
noncomputable def laws_sameFloat.ib  : FnI := ⟨Try.prog, [], [], 37, [.tmp 4], bodyOf Try.f75, .leaf, []⟩
noncomputable def laws_sameFloat.i : FnI := laws_sameFloat.ib 
noncomputable def laws_sameFloat.bd  : Nat → Nat → (Bool → Prop) → Prop := (laws_sameFloat.ib ).W laws_sameFloat.g
noncomputable def laws_sameFloat.wp : Nat → Nat → (Bool → Prop) → Prop := laws_sameFloat.bd 
noncomputable def laws_sameFloat.c : Ctr := laws_sameFloat.g.ctr laws_sameFloat.wp

-- loop.example/g01247/laws.sameComplex
noncomputable def laws_sameComplex.g : Sig := ⟨47, [(.v (.a (.one (.cpx .f64)))), (.v (.a (.one (.cpx .f64))))], [], [.flt, .flt, .flt, .flt], [(.v (.a (.one .bool)))], [], [.bool]⟩
noncomputable def laws_sameComplex.ib (w_laws_sameFloat : Nat → Nat → (Bool → Prop) → Prop) : FnI := ⟨Try.prog, [], [laws_sameFloat.g.ctr w_laws_sameFloat], 17, [.tmp 4], bodyOf Try.f47, .leaf, []⟩
noncomputable def laws_sameComplex.i : FnI := laws_sameComplex.ib laws_sameFloat.wp
noncomputable def laws_sameComplex.bd (w_laws_sameFloat : Nat → Nat → (Bool → Prop) → Prop) : Nat → Nat → Nat → Nat → (Bool → Prop) → Prop := (laws_sameComplex.ib w_laws_sameFloat).W laws_sameComplex.g
noncomputable def laws_sameComplex.wp : Nat → Nat → Nat → Nat → (Bool → Prop) → Prop := laws_sameComplex.bd laws_sameFloat.wp
noncomputable def laws_sameComplex.c : Ctr := laws_sameComplex.g.ctr laws_sameComplex.wp

-- loop.example/g01247/laws.eqComplex64S
noncomputable def laws_eqComplex64S.g : Sig := ⟨14, [(.v (.a (.one (.sl 0)))), (.v (.a (.one (.sl 1))))], [(.rd (.C .f32)), (.rd (.C .f32))], [.lc, .lc], [(.v (.a (.one .bool)))], [.keep, .keep], [.bool]⟩
noncomputable def laws_eqComplex64S.ib (w_laws_sameComplex : Nat → Nat → Nat → Nat → (Bool → Prop) → Prop) : FnI := ⟨Try.prog, [], [laws_sameComplex.g.ctr w_laws_sameComplex], 29, [.tmp 4], bodyOf Try.f14, (.seq .leaf (.seq .leaf (.seq (.seq .leaf (.block (.loop ⟨[5], [.int], [(.v (.a (.one (.int .i64))))], [.keep, .keep]⟩ .leaf))) .leaf))), []⟩
noncomputable def laws_eqComplex64S.i : FnI := laws_eqComplex64S.ib laws_sameComplex.wp
noncomputable def laws_eqComplex64S.bd (w_laws_sameComplex : Nat → Nat → Nat → Nat → (Bool → Prop) → Prop) : List (Nat × Nat) → List (Nat × Nat) → (Bool → Prop) → Prop := (laws_eqComplex64S.ib w_laws_sameComplex).W laws_eqComplex64S.g
noncomputable def laws_eqComplex64S.wp : List (Nat × Nat) → List (Nat × Nat) → (Bool → Prop) → Prop := laws_eqComplex64S.bd laws_sameComplex.wp
noncomputable def laws_eqComplex64S.c : Ctr := laws_eqComplex64S.g.ctr laws_eqComplex64S.wp

-- loop.example/g01247/laws.markComplex64S
noncomputable def laws_markComplex64S.g : Sig := ⟨15, [(.v (.a (.one (.sl 0)))), (.v (.a (.one (.int .i64))))], [(.row 59 (.C .f32))], [.lc, .int], [(.v (.a (.one (.int .i64))))], [(.row 59 (.C .f32))], [.lc, .int]⟩
noncomputable def laws_markComplex64S.ib  : FnI := ⟨Try.prog, [], [], 22, [.tmp 4], bodyOf Try.f15, (.seq .leaf (.seq (.seq .leaf (.block (.loop ⟨[1, 5], [.lc, .int, .int], [(.v (.a (.one (.int .i64)))), (.v (.a (.one (.int .i64))))], [(.row 59 (.C .f32))]⟩ .leaf))) .leaf)), [1]⟩
noncomputable def laws_markComplex64S.i : FnI := laws_markComplex64S.ib 
noncomputable def laws_markComplex64S.bd  : List (Nat × Nat) → Int → (List (Nat × Nat) → Int → Prop) → Prop := (laws_markComplex64S.ib ).W laws_markComplex64S.g
noncomputable def laws_markComplex64S.wp : List (Nat × Nat) → Int → (List (Nat × Nat) → Int → Prop) → Prop := laws_markComplex64S.bd 
noncomputable def laws_markComplex64S.c : Ctr := laws_markComplex64S.g.ctr laws_markComplex64S.wp

-- loop.example/g01247/laws.heldComplex64S
noncomputable def laws_heldComplex64S.g : Sig := ⟨16, [(.v (.a (.one (.sl 0)))), (.v (.a (.one (.int .i64))))], [(.rd (.C .f32))], [.lc, .int], [(.v (.a (.one (.int .i64))))], [.keep], [.int]⟩
noncomputable def laws_heldComplex64S.ib  : FnI := ⟨Try.prog, [], [], 24, [.tmp 4], bodyOf Try.f16, (.seq .leaf (.seq (.seq .leaf (.block (.loop ⟨[1, 5], [.int, .int], [(.v (.a (.one (.int .i64)))), (.v (.a (.one (.int .i64))))], [.keep]⟩ .leaf))) .leaf)), [1]⟩
noncomputable def laws_heldComplex64S.i : FnI := laws_heldComplex64S.ib 
noncomputable def laws_heldComplex64S.bd  : List (Nat × Nat) → Int → (Int → Prop) → Prop := (laws_heldComplex64S.ib ).W laws_heldComplex64S.g
noncomputable def laws_heldComplex64S.wp : List (Nat × Nat) → Int → (Int → Prop) → Prop := laws_heldComplex64S.bd 
noncomputable def laws_heldComplex64S.c : Ctr := laws_heldComplex64S.g.ctr laws_heldComplex64S.wp

-- loop.example/g01247/laws.FnExactSquareShape
noncomputable def laws_FnExactSquareShape.g : Sig := ⟨3, [(.v (.a (.one (.flt .f32))))], [], [.flt], [(.v (.a (.one .bool)))], [], [.bool]⟩
noncomputable def laws_FnExactSquareShape.ib (w_spec_SquareShape : Nat → (List (Nat × Nat) → Bool → Prop) → Prop) (w_impl_SquareShape : Nat → (List (Nat × Nat) → Bool → Prop) → Prop) (w_laws_eqComplex64S : List (Nat × Nat) → List (Nat × Nat) → (Bool → Prop) → Prop) (w_laws_markComplex64S : List (Nat × Nat) → Int → (List (Nat × Nat) → Int → Prop) → Prop) (w_laws_heldComplex64S : List (Nat × Nat) → Int → (Int → Prop) → Prop) : FnI := ⟨Try.prog, [], [spec_SquareShape.g.ctr w_spec_SquareShape, impl_SquareShape.g.ctr w_impl_SquareShape, laws_eqComplex64S.g.ctr w_laws_eqComplex64S, laws_markComplex64S.g.ctr w_laws_markComplex64S, laws_heldComplex64S.g.ctr w_laws_heldComplex64S], 63, [.tmp 2], bodyOf Try.f3, .leaf, []⟩
noncomputable def laws_FnExactSquareShape.i : FnI := laws_FnExactSquareShape.ib spec_SquareShape.wp impl_SquareShape.wp laws_eqComplex64S.wp laws_markComplex64S.wp laws_heldComplex64S.wp
noncomputable def laws_FnExactSquareShape.bd (w_spec_SquareShape : Nat → (List (Nat × Nat) → Bool → Prop) → Prop) (w_impl_SquareShape : Nat → (List (Nat × Nat) → Bool → Prop) → Prop) (w_laws_eqComplex64S : List (Nat × Nat) → List (Nat × Nat) → (Bool → Prop) → Prop) (w_laws_markComplex64S : List (Nat × Nat) → Int → (List (Nat × Nat) → Int → Prop) → Prop) (w_laws_heldComplex64S : List (Nat × Nat) → Int → (Int → Prop) → Prop) : Nat → (Bool → Prop) → Prop := (laws_FnExactSquareShape.ib w_spec_SquareShape w_impl_SquareShape w_laws_eqComplex64S w_laws_markComplex64S w_laws_heldComplex64S).W laws_FnExactSquareShape.g
noncomputable def laws_FnExactSquareShape.wp : Nat → (Bool → Prop) → Prop := laws_FnExactSquareShape.bd spec_SquareShape.wp impl_SquareShape.wp laws_eqComplex64S.wp laws_markComplex64S.wp laws_heldComplex64S.wp
noncomputable def laws_FnExactSquareShape.c : Ctr := laws_FnExactSquareShape.g.ctr laws_FnExactSquareShape.wp

-- loop.example/g01247/laws.szFloat32S
noncomputable def laws_szFloat32S.g : Sig := ⟨48, [(.v (.a (.one (.sl 0)))), (.v (.a (.one (.int .i64))))], [(.rd (.F .f32))], [.lf, .int], [(.v (.a (.one (.int .i64))))], [.keep], [.int]⟩
noncomputable def laws_szFloat32S.ib  : FnI := ⟨Try.prog, [], [], 12, [.tmp 4], bodyOf Try.f48, .leaf, [1]⟩
noncomputable def laws_szFloat32S.i : FnI := laws_szFloat32S.ib 
noncomputable def laws_szFloat32S.bd  : List Nat → Int → (Int → Prop) → Prop := (laws_szFloat32S.ib ).W laws_szFloat32S.g
noncomputable def laws_szFloat32S.wp : List Nat → Int → (Int → Prop) → Prop := laws_szFloat32S.bd 
noncomputable def laws_szFloat32S.c : Ctr := laws_szFloat32S.g.ctr laws_szFloat32S.wp

-- loop.example/g01247/laws.szFlake
noncomputable def laws_szFlake.g : Sig := ⟨17, [(.v (.a (.agg [(.int .i64), (.sl 0)]))), (.v (.a (.one (.int .i64))))], [(.rd (.F .f32))], [.lf, .int, .int], [(.v (.a (.one (.int .i64))))], [.keep], [.int]⟩
noncomputable def laws_szFlake.ib (w_laws_szFloat32S : List Nat → Int → (Int → Prop) → Prop) : FnI := ⟨Try.prog, [], [laws_szFloat32S.g.ctr w_laws_szFloat32S], 12, [.tmp 4], bodyOf Try.f17, .leaf, [1]⟩
noncomputable def laws_szFlake.i : FnI := laws_szFlake.ib laws_szFloat32S.wp
noncomputable def laws_szFlake.bd (w_laws_szFloat32S : List Nat → Int → (Int → Prop) → Prop) : List Nat → Int → Int → (Int → Prop) → Prop := (laws_szFlake.ib w_laws_szFloat32S).W laws_szFlake.g
noncomputable def laws_szFlake.wp : List Nat → Int → Int → (Int → Prop) → Prop := laws_szFlake.bd laws_szFloat32S.wp
noncomputable def laws_szFlake.c : Ctr := laws_szFlake.g.ctr laws_szFlake.wp

-- loop.example/g01247/laws.toFloat32S
noncomputable def laws_toFloat32S.g : Sig := ⟨50, [(.v (.a (.one (.sl 0))))], [(.rd (.F .f32))], [.lf], [(.v (.a (.one (.sl 1))))], [.keep, (.row 22 (.F .f32))], [.lf]⟩
noncomputable def laws_toFloat32S.ib  : FnI := ⟨Try.prog, [], [], 22, [.tmp 2], bodyOf Try.f50, (.seq .leaf (.seq .leaf (.seq (.seq .leaf (.block (.loop ⟨[3, 4], [.lf, .int], [(.v (.a (.one (.sl 1)))), (.v (.a (.one (.int .i64))))], [.keep, (.row 22 (.F .f32))]⟩ .leaf))) .leaf))), []⟩
noncomputable def laws_toFloat32S.i : FnI := laws_toFloat32S.ib 
noncomputable def laws_toFloat32S.bd  : List Nat → (List Nat → Prop) → Prop := (laws_toFloat32S.ib ).W laws_toFloat32S.g
noncomputable def laws_toFloat32S.wp : List Nat → (List Nat → Prop) → Prop := laws_toFloat32S.bd 
noncomputable def laws_toFloat32S.c : Ctr := laws_toFloat32S.g.ctr laws_toFloat32S.wp

-- loop.example/g01247/laws.toFlake
noncomputable def laws_toFlake.g : Sig := ⟨19, [(.v (.a (.agg [(.int .i64), (.sl 0)])))], [(.rd (.F .f32))], [.lf, .int], [(.v (.a (.agg [(.int .i64), (.sl 1)])))], [.keep, (.row 22 (.F .f32))], [.lf, .int]⟩
noncomputable def laws_toFlake.ib (w_laws_toFloat32S : List Nat → (List Nat → Prop) → Prop) : FnI := ⟨Try.prog, [], [laws_toFloat32S.g.ctr w_laws_toFloat32S], 12, [.cell 2 34], bodyOf Try.f19, .leaf, []⟩
noncomputable def laws_toFlake.i : FnI := laws_toFlake.ib laws_toFloat32S.wp
noncomputable def laws_toFlake.bd (w_laws_toFloat32S : List Nat → (List Nat → Prop) → Prop) : List Nat → Int → (List Nat → Int → Prop) → Prop := (laws_toFlake.ib w_laws_toFloat32S).W laws_toFlake.g
noncomputable def laws_toFlake.wp : List Nat → Int → (List Nat → Int → Prop) → Prop := laws_toFlake.bd laws_toFloat32S.wp
noncomputable def laws_toFlake.c : Ctr := laws_toFlake.g.ctr laws_toFlake.wp

-- loop.example/g01247/spec.l01Bits
noncomputable def spec_l01Bits.g : Sig := ⟨86, [(.v (.a (.one (.flt .f32))))], [], [.flt], [(.v (.a (.one (.int .i64))))], [], [.int]⟩
noncomputable def spec_l01Bits.ib  : FnI := ⟨Try.prog, [(93, .bits32)], [], 9, [.tmp 2], bodyOf Try.f86, .leaf, []⟩
noncomputable def spec_l01Bits.i : FnI := spec_l01Bits.ib 
noncomputable def spec_l01Bits.bd  : Nat → (Int → Prop) → Prop := (spec_l01Bits.ib ).W spec_l01Bits.g
noncomputable def spec_l01Bits.wp : Nat → (Int → Prop) → Prop := spec_l01Bits.bd 
noncomputable def spec_l01Bits.c : Ctr := spec_l01Bits.g.ctr spec_l01Bits.wp

-- loop.example/g01247/spec.l01Same
noncomputable def spec_l01Same.g : Sig := ⟨76, [(.v (.a (.one (.flt .f32)))), (.v (.a (.one (.flt .f32))))], [], [.flt, .flt], [(.v (.a (.one .bool)))], [], [.bool]⟩
noncomputable def spec_l01Same.ib (w_spec_l01Bits : Nat → (Int → Prop) → Prop) : FnI := ⟨Try.prog, [], [spec_l01Bits.g.ctr w_spec_l01Bits], 10, [.tmp 4], bodyOf Try.f76, .leaf, []⟩
noncomputable def spec_l01Same.i : FnI := spec_l01Same.ib spec_l01Bits.wp
noncomputable def spec_l01Same.bd (w_spec_l01Bits : Nat → (Int → Prop) → Prop) : Nat → Nat → (Bool → Prop) → Prop := (spec_l01Same.ib w_spec_l01Bits).W spec_l01Same.g
noncomputable def spec_l01Same.wp : Nat → Nat → (Bool → Prop) → Prop := spec_l01Same.bd spec_l01Bits.wp
noncomputable def spec_l01Same.c : Ctr := spec_l01Same.g.ctr spec_l01Same.wp

-- loop.example/g01247/spec.l01SameAll
noncomputable def spec_l01SameAll.g : Sig := ⟨49, [(.v (.a (.one (.sl 0)))), (.v (.a (.one (.sl 1))))], [(.rd (.F .f32)), (.rd (.F .f32))], [.lf, .lf], [(.v (.a (.one .bool)))], [.keep, .keep], [.bool]⟩
noncomputable def spec_l01SameAll.ib (w_spec_l01Same : Nat → Nat → (Bool → Prop) → Prop) : FnI := ⟨Try.prog, [], [spec_l01Same.g.ctr w_spec_l01Same], 27, [.tmp 4], bodyOf Try.f49, (.seq .leaf (.seq .leaf (.seq (.seq .leaf (.block (.loop ⟨[5], [.int], [(.v (.a (.one (.int .i64))))], [.keep, .keep]⟩ .leaf))) .leaf))), []⟩
noncomputable def spec_l01SameAll.i : FnI := spec_l01SameAll.ib spec_l01Same.wp
noncomputable def spec_l01SameAll.bd (w_spec_l01Same : Nat → Nat → (Bool → Prop) → Prop) : List Nat → List Nat → (Bool → Prop) → Prop := (spec_l01SameAll.ib w_spec_l01Same).W spec_l01SameAll.g
noncomputable def spec_l01SameAll.wp : List Nat → List Nat → (Bool → Prop) → Prop := spec_l01SameAll.bd spec_l01Same.wp
noncomputable def spec_l01SameAll.c : Ctr := spec_l01SameAll.g.ctr spec_l01SameAll.wp

-- loop.example/g01247/spec.SameFlake
noncomputable def spec_SameFlake.g : Sig := ⟨18, [(.v (.a (.agg [(.int .i64), (.sl 0)]))), (.v (.a (.agg [(.int .i64), (.sl 1)])))], [(.rd (.F .f32)), (.rd (.F .f32))], [.lf, .lf, .int, .int], [(.v (.a (.one .bool)))], [.keep, .keep], [.bool]⟩
noncomputable def spec_SameFlake.ib (w_spec_l01SameAll : List Nat → List Nat → (Bool → Prop) → Prop) : FnI := ⟨Try.prog, [], [spec_l01SameAll.g.ctr w_spec_l01SameAll], 17, [.tmp 4], bodyOf Try.f18, .leaf, []⟩
noncomputable def spec_SameFlake.i : FnI := spec_SameFlake.ib spec_l01SameAll.wp
noncomputable def spec_SameFlake.bd (w_spec_l01SameAll : List Nat → List Nat → (Bool → Prop) → Prop) : List Nat → List Nat → Int → Int → (Bool → Prop) → Prop := (spec_SameFlake.ib w_spec_l01SameAll).W spec_SameFlake.g
noncomputable def spec_SameFlake.wp : List Nat → List Nat → Int → Int → (Bool → Prop) → Prop := spec_SameFlake.bd spec_l01SameAll.wp
noncomputable def spec_SameFlake.c : Ctr := spec_SameFlake.g.ctr spec_SameFlake.wp

-- math.Signbit
noncomputable def math_Signbit.g : Sig := ⟨87, [(.v (.a (.one (.flt .f64))))], [], [.flt], [(.v (.a (.one .bool)))], [], [.bool]⟩
noncomputable def math_Signbit.ib  : FnI := ⟨Try.prog, [(94, .bits64)], [], 7, [.tmp 2], bodyOf Try.f87, .leaf, []⟩
noncomputable def math_Signbit.i : FnI := math_Signbit.ib 
noncomputable def math_Signbit.bd  : Nat → (Bool → Prop) → Prop := (math_Signbit.ib ).W math_Signbit.g
noncomputable def math_Signbit.wp : Nat → (Bool → Prop) → Prop := math_Signbit.bd 
noncomputable def math_Signbit.c : Ctr := math_Signbit.g.ctr math_Signbit.wp

-- loop.example/g01247/impl.SameNumber
noncomputable def impl_SameNumber.g : Sig := ⟨78, [(.v (.a (.one (.flt .f32)))), (.v (.a (.one (.flt .f32))))], [], [.flt, .flt], [(.v (.a (.one .bool)))], [], [.bool]⟩
noncomputable def impl_SameNumber.ib (w_math_Signbit : Nat → (Bool → Prop) → Prop) : FnI := ⟨Try.prog, [], [math_Signbit.g.ctr w_math_Signbit], 33, [.tmp 4], bodyOf Try.f78, .leaf, []⟩
noncomputable def impl_SameNumber.i : FnI := impl_SameNumber.ib math_Signbit.wp
noncomputable def impl_SameNumber.bd (w_math_Signbit : Nat → (Bool → Prop) → Prop) : Nat → Nat → (Bool → Prop) → Prop := (impl_SameNumber.ib w_math_Signbit).W impl_SameNumber.g
noncomputable def impl_SameNumber.wp : Nat → Nat → (Bool → Prop) → Prop := impl_SameNumber.bd math_Signbit.wp
noncomputable def impl_SameNumber.c : Ctr := impl_SameNumber.g.ctr impl_SameNumber.wp

-- slices.EqualFunc[[]float32,[]float32,float32,float32]
noncomputable def slices_EqualFunc_float32_float32_float32_float32__SameNumber.g : Sig := ⟨77, [(.v (.a (.one (.sl 0)))), (.v (.a (.one (.sl 1)))), (.v (.fn 78 [] []))], [(.rd (.F .f32)), (.rd (.F .f32))], [.lf, .lf], [(.v (.a (.one .bool)))], [.keep, .keep], [.bool]⟩
noncomputable def slices_EqualFunc_float32_float32_float32_float32__SameNumber.ib (w_impl_SameNumber : Nat → Nat → (Bool → Prop) → Prop) : FnI := ⟨Try.prog, [], [impl_SameNumber.g.ctr w_impl_SameNumber], 32, [.tmp 6], bodyOf Try.f77, (.seq .leaf (.seq .leaf (.seq (.seq .leaf (.block (.loop ⟨[15, 16, 17], [.int, .int], [(.v (.a (.one (.sl 0)))), (.v (.a (.one (.int .i64)))), (.v (.a (.one (.int .i64))))], [.keep, .keep]⟩ .leaf))) .leaf))), []⟩
noncomputable def slices_EqualFunc_float32_float32_float32_float32__SameNumber.i : FnI := slices_EqualFunc_float32_float32_float32_float32__SameNumber.ib impl_SameNumber.wp
noncomputable def slices_EqualFunc_float32_float32_float32_float32__SameNumber.bd (w_impl_SameNumber : Nat → Nat → (Bool → Prop) → Prop) : List Nat → List Nat → (Bool → Prop) → Prop := (slices_EqualFunc_float32_float32_float32_float32__SameNumber.ib w_impl_SameNumber).W slices_EqualFunc_float32_float32_float32_float32__SameNumber.g
noncomputable def slices_EqualFunc_float32_float32_float32_float32__SameNumber.wp : List Nat → List Nat → (Bool → Prop) → Prop := slices_EqualFunc_float32_float32_float32_float32__SameNumber.bd impl_SameNumber.wp
noncomputable def slices_EqualFunc_float32_float32_float32_float32__SameNumber.c : Ctr := slices_EqualFunc_float32_float32_float32_float32__SameNumber.g.ctr slices_EqualFunc_float32_float32_float32_float32__SameNumber.wp

-- loop.example/g01247/impl.sameNumbers
noncomputable def impl_sameNumbers.g : Sig := ⟨51, [(.v (.a (.one (.sl 0)))), (.v (.a (.one (.sl 1))))], [(.rd (.F .f32)), (.rd (.F .f32))], [.lf, .lf], [(.v (.a (.one .bool)))], [.keep, .keep], [.bool]⟩
noncomputable def impl_sameNumbers.ib (w_slices_EqualFunc_float32_float32_float32_float32__SameNumber : List Nat → List Nat → (Bool → Prop) → Prop) : FnI := ⟨Try.prog, [], [slices_EqualFunc_float32_float32_float32_float32__SameNumber.g.ctr w_slices_EqualFunc_float32_float32_float32_float32__SameNumber], 8, [.tmp 4], bodyOf Try.f51, .leaf, []⟩
noncomputable def impl_sameNumbers.i : FnI := impl_sameNumbers.ib slices_EqualFunc_float32_float32_float32_float32__SameNumber.wp
noncomputable def impl_sameNumbers.bd (w_slices_EqualFunc_float32_float32_float32_float32__SameNumber : List Nat → List Nat → (Bool → Prop) → Prop) : List Nat → List Nat → (Bool → Prop) → Prop := (impl_sameNumbers.ib w_slices_EqualFunc_float32_float32_float32_float32__SameNumber).W impl_sameNumbers.g
noncomputable def impl_sameNumbers.wp : List Nat → List Nat → (Bool → Prop) → Prop := impl_sameNumbers.bd slices_EqualFunc_float32_float32_float32_float32__SameNumber.wp
noncomputable def impl_sameNumbers.c : Ctr := impl_sameNumbers.g.ctr impl_sameNumbers.wp

-- loop.example/g01247/impl.SameFlake
noncomputable def impl_SameFlake.g : Sig := ⟨20, [(.v (.a (.agg [(.int .i64), (.sl 0)]))), (.v (.a (.agg [(.int .i64), (.sl 1)])))], [(.rd (.F .f32)), (.rd (.F .f32))], [.lf, .lf, .int, .int], [(.v (.a (.one .bool)))], [.keep, .keep], [.bool]⟩
noncomputable def impl_SameFlake.ib (w_impl_sameNumbers : List Nat → List Nat → (Bool → Prop) → Prop) : FnI := ⟨Try.prog, [], [impl_sameNumbers.g.ctr w_impl_sameNumbers], 17, [.tmp 4], bodyOf Try.f20, .leaf, []⟩
noncomputable def impl_SameFlake.i : FnI := impl_SameFlake.ib impl_sameNumbers.wp
noncomputable def impl_SameFlake.bd (w_impl_sameNumbers : List Nat → List Nat → (Bool → Prop) → Prop) : List Nat → List Nat → Int → Int → (Bool → Prop) → Prop := (impl_SameFlake.ib w_impl_sameNumbers).W impl_SameFlake.g
noncomputable def impl_SameFlake.wp : List Nat → List Nat → Int → Int → (Bool → Prop) → Prop := impl_SameFlake.bd impl_sameNumbers.wp
noncomputable def impl_SameFlake.c : Ctr := impl_SameFlake.g.ctr impl_SameFlake.wp

-- loop.example/g01247/laws.eqFloat32S
noncomputable def laws_eqFloat32S.g : Sig := ⟨52, [(.v (.a (.one (.sl 0)))), (.v (.a (.one (.sl 1))))], [(.rd (.F .f32)), (.rd (.F .f32))], [.lf, .lf], [(.v (.a (.one .bool)))], [.keep, .keep], [.bool]⟩
noncomputable def laws_eqFloat32S.ib (w_laws_sameFloat : Nat → Nat → (Bool → Prop) → Prop) : FnI := ⟨Try.prog, [], [laws_sameFloat.g.ctr w_laws_sameFloat], 29, [.tmp 4], bodyOf Try.f52, (.seq .leaf (.seq .leaf (.seq (.seq .leaf (.block (.loop ⟨[5], [.int], [(.v (.a (.one (.int .i64))))], [.keep, .keep]⟩ .leaf))) .leaf))), []⟩
noncomputable def laws_eqFloat32S.i : FnI := laws_eqFloat32S.ib laws_sameFloat.wp
noncomputable def laws_eqFloat32S.bd (w_laws_sameFloat : Nat → Nat → (Bool → Prop) → Prop) : List Nat → List Nat → (Bool → Prop) → Prop := (laws_eqFloat32S.ib w_laws_sameFloat).W laws_eqFloat32S.g
noncomputable def laws_eqFloat32S.wp : List Nat → List Nat → (Bool → Prop) → Prop := laws_eqFloat32S.bd laws_sameFloat.wp
noncomputable def laws_eqFloat32S.c : Ctr := laws_eqFloat32S.g.ctr laws_eqFloat32S.wp

-- loop.example/g01247/laws.eqFlake
noncomputable def laws_eqFlake.g : Sig := ⟨21, [(.v (.a (.agg [(.int .i64), (.sl 0)]))), (.v (.a (.agg [(.int .i64), (.sl 1)])))], [(.rd (.F .f32)), (.rd (.F .f32))], [.lf, .lf, .int, .int], [(.v (.a (.one .bool)))], [.keep, .keep], [.bool]⟩
noncomputable def laws_eqFlake.ib (w_laws_eqFloat32S : List Nat → List Nat → (Bool → Prop) → Prop) : FnI := ⟨Try.prog, [], [laws_eqFloat32S.g.ctr w_laws_eqFloat32S], 16, [.tmp 4], bodyOf Try.f21, .leaf, []⟩
noncomputable def laws_eqFlake.i : FnI := laws_eqFlake.ib laws_eqFloat32S.wp
noncomputable def laws_eqFlake.bd (w_laws_eqFloat32S : List Nat → List Nat → (Bool → Prop) → Prop) : List Nat → List Nat → Int → Int → (Bool → Prop) → Prop := (laws_eqFlake.ib w_laws_eqFloat32S).W laws_eqFlake.g
noncomputable def laws_eqFlake.wp : List Nat → List Nat → Int → Int → (Bool → Prop) → Prop := laws_eqFlake.bd laws_eqFloat32S.wp
noncomputable def laws_eqFlake.c : Ctr := laws_eqFlake.g.ctr laws_eqFlake.wp

-- loop.example/g01247/laws.FnExactSameFlake
noncomputable def laws_FnExactSameFlake.g : Sig := ⟨4, [(.v (.a (.agg [(.int .i64), (.sl 0)]))), (.v (.a (.agg [(.int .i64), (.sl 1)])))], [(.rd (.F .f32)), (.rd (.F .f32))], [.lf, .lf, .int, .int], [(.v (.a (.one .bool)))], [.keep, .keep], [.bool]⟩
noncomputable def laws_FnExactSameFlake.ib (w_laws_szFlake : List Nat → Int → Int → (Int → Prop) → Prop) (w_laws_toFlake : List Nat → Int → (List Nat → Int → Prop) → Prop) (w_spec_SameFlake : List Nat → List Nat → Int → Int → (Bool → Prop) → Prop) (w_impl_SameFlake : List Nat → List Nat → Int → Int → (Bool → Prop) → Prop) (w_laws_eqFlake : List Nat → List Nat → Int → Int → (Bool → Prop) → Prop) : FnI := ⟨Try.prog, [], [laws_szFlake.g.ctr w_laws_szFlake, laws_toFlake.g.ctr w_laws_toFlake, spec_SameFlake.g.ctr w_spec_SameFlake, impl_SameFlake.g.ctr w_impl_SameFlake, laws_eqFlake.g.ctr w_laws_eqFlake], 45, [.tmp 4], bodyOf Try.f4, .leaf, []⟩
noncomputable def laws_FnExactSameFlake.i : FnI := laws_FnExactSameFlake.ib laws_szFlake.wp laws_toFlake.wp spec_SameFlake.wp impl_SameFlake.wp laws_eqFlake.wp
noncomputable def laws_FnExactSameFlake.bd (w_laws_szFlake : List Nat → Int → Int → (Int → Prop) → Prop) (w_laws_toFlake : List Nat → Int → (List Nat → Int → Prop) → Prop) (w_spec_SameFlake : List Nat → List Nat → Int → Int → (Bool → Prop) → Prop) (w_impl_SameFlake : List Nat → List Nat → Int → Int → (Bool → Prop) → Prop) (w_laws_eqFlake : List Nat → List Nat → Int → Int → (Bool → Prop) → Prop) : List Nat → List Nat → Int → Int → (Bool → Prop) → Prop := (laws_FnExactSameFlake.ib w_laws_szFlake w_laws_toFlake w_spec_SameFlake w_impl_SameFlake w_laws_eqFlake).W laws_FnExactSameFlake.g
noncomputable def laws_FnExactSameFlake.wp : List Nat → List Nat → Int → Int → (Bool → Prop) → Prop := laws_FnExactSameFlake.bd laws_szFlake.wp laws_toFlake.wp spec_SameFlake.wp impl_SameFlake.wp laws_eqFlake.wp
noncomputable def laws_FnExactSameFlake.c : Ctr := laws_FnExactSameFlake.g.ctr laws_FnExactSameFlake.wp

-- loop.example/g01247/spec.l00In
noncomputable def spec_l00In.g : Sig := ⟨56, [(.v (.a (.one (.int .i64)))), (.v (.a (.one (.int .i64)))), (.v (.a (.one (.int .i64))))], [], [.int, .int, .int], [(.v (.a (.one .bool)))], [], [.bool]⟩
noncomputable def spec_l00In.ib  : FnI := ⟨Try.prog, [], [], 15, [.tmp 6], bodyOf Try.f56, .leaf, []⟩
noncomputable def spec_l00In.i : FnI := spec_l00In.ib 
noncomputable def spec_l00In.bd  : Int → Int → Int → (Bool → Prop) → Prop := (spec_l00In.ib ).W spec_l00In.g
noncomputable def spec_l00In.wp : Int → Int → Int → (Bool → Prop) → Prop := spec_l00In.bd 
noncomputable def spec_l00In.c : Ctr := spec_l00In.g.ctr spec_l00In.wp

-- loop.example/g01247/spec.l06Is
noncomputable def spec_l06Is.g : Sig := ⟨53, [(.v (.a (.one (.pt 0 0))))], [(.rdb [(.int .i64), (.sl 1)]), (.rd (.F .f32))], [.int, .lf], [(.v (.a (.one .bool)))], [.keep, .keep], [.bool]⟩
noncomputable def spec_l06Is.ib (w_spec_l00In : Int → Int → Int → (Bool → Prop) → Prop) (w_spec_l01Finite : Nat → (Bool → Prop) → Prop) : FnI := ⟨Try.prog, [], [spec_l00In.g.ctr w_spec_l00In, spec_l01Finite.g.ctr w_spec_l01Finite], 45, [.tmp 2], bodyOf Try.f53, (.seq .leaf (.seq .leaf (.seq (.seq .leaf (.block (.loop ⟨[3], [.int], [(.v (.a (.one (.int .i64))))], [.keep, .keep]⟩ .leaf))) .leaf))), []⟩
noncomputable def spec_l06Is.i : FnI := spec_l06Is.ib spec_l00In.wp spec_l01Finite.wp
noncomputable def spec_l06Is.bd (w_spec_l00In : Int → Int → Int → (Bool → Prop) → Prop) (w_spec_l01Finite : Nat → (Bool → Prop) → Prop) : Int → List Nat → (Bool → Prop) → Prop := (spec_l06Is.ib w_spec_l00In w_spec_l01Finite).W spec_l06Is.g
noncomputable def spec_l06Is.wp : Int → List Nat → (Bool → Prop) → Prop := spec_l06Is.bd spec_l00In.wp spec_l01Finite.wp
noncomputable def spec_l06Is.c : Ctr := spec_l06Is.g.ctr spec_l06Is.wp

-- loop.example/g01247/spec.ValidFlake
noncomputable def spec_ValidFlake.g : Sig := ⟨22, [(.v (.a (.agg [(.int .i64), (.sl 0)])))], [(.rd (.F .f32))], [.lf, .int], [(.v (.a (.one .bool)))], [.keep], [.bool]⟩
noncomputable def spec_ValidFlake.ib (w_spec_l06Is : Int → List Nat → (Bool → Prop) → Prop) : FnI := ⟨Try.prog, [], [spec_l06Is.g.ctr w_spec_l06Is], 4, [.tmp 2], bodyOf Try.f22, .leaf, []⟩
noncomputable def spec_ValidFlake.i : FnI := spec_ValidFlake.ib spec_l06Is.wp
noncomputable def spec_ValidFlake.bd (w_spec_l06Is : Int → List Nat → (Bool → Prop) → Prop) : List Nat → Int → (Bool → Prop) → Prop := (spec_ValidFlake.ib w_spec_l06Is).W spec_ValidFlake.g
noncomputable def spec_ValidFlake.wp : List Nat → Int → (Bool → Prop) → Prop := spec_ValidFlake.bd spec_l06Is.wp
noncomputable def spec_ValidFlake.c : Ctr := spec_ValidFlake.g.ctr spec_ValidFlake.wp

-- loop.example/g01247/impl.within
noncomputable def impl_within.g : Sig := ⟨54, [(.v (.a (.one (.int .i64)))), (.v (.a (.one (.int .i64)))), (.v (.a (.one (.int .i64))))], [], [.int, .int, .int], [(.v (.a (.one .bool)))], [], [.bool]⟩
noncomputable def impl_within.ib  : FnI := ⟨Try.prog, [], [], 15, [.tmp 6], bodyOf Try.f54, .leaf, []⟩
noncomputable def impl_within.i : FnI := impl_within.ib 
noncomputable def impl_within.bd  : Int → Int → Int → (Bool → Prop) → Prop := (impl_within.ib ).W impl_within.g
noncomputable def impl_within.wp : Int → Int → Int → (Bool → Prop) → Prop := impl_within.bd 
noncomputable def impl_within.c : Ctr := impl_within.g.ctr impl_within.wp

-- loop.example/g01247/impl.areFinite$1
noncomputable def impl_areFinite_1.g : Sig := ⟨80, [(.v (.a (.one (.flt .f32))))], [], [.flt], [(.v (.a (.one .bool)))], [], [.bool]⟩
noncomputable def impl_areFinite_1.ib (w_impl_IsFinite : Nat → (Bool → Prop) → Prop) : FnI := ⟨Try.prog, [], [impl_IsFinite.g.ctr w_impl_IsFinite], 6, [.tmp 2], bodyOf Try.f80, .leaf, []⟩
noncomputable def impl_areFinite_1.i : FnI := impl_areFinite_1.ib impl_IsFinite.wp
noncomputable def impl_areFinite_1.bd (w_impl_IsFinite : Nat → (Bool → Prop) → Prop) : Nat → (Bool → Prop) → Prop := (impl_areFinite_1.ib w_impl_IsFinite).W impl_areFinite_1.g
noncomputable def impl_areFinite_1.wp : Nat → (Bool → Prop) → Prop := impl_areFinite_1.bd impl_IsFinite.wp
noncomputable def impl_areFinite_1.c : Ctr := impl_areFinite_1.g.ctr impl_areFinite_1.wp

-- slices.IndexFunc[[]float32,float32]
noncomputable def slices_IndexFunc_float32_float32__areFinite_1.g : Sig := ⟨88, [(.v (.a (.one (.sl 0)))), (.v (.fn 80 [] []))], [(.rd (.F .f32))], [.lf], [(.v (.a (.one (.int .i64))))], [.keep], [.int]⟩
noncomputable def slices_IndexFunc_float32_float32__areFinite_1.ib (w_impl_areFinite_1 : Nat → (Bool → Prop) → Prop) : FnI := ⟨Try.prog, [], [impl_areFinite_1.g.ctr w_impl_areFinite_1], 19, [.tmp 4], bodyOf Try.f88, (.seq .leaf (.seq (.seq .leaf (.block (.loop ⟨[7, 8], [.int, .int], [(.v (.a (.one (.int .i64)))), (.v (.a (.one (.int .i64))))], [.keep]⟩ .leaf))) .leaf)), []⟩
noncomputable def slices_IndexFunc_float32_float32__areFinite_1.i : FnI := slices_IndexFunc_float32_float32__areFinite_1.ib impl_areFinite_1.wp
noncomputable def slices_IndexFunc_float32_float32__areFinite_1.bd (w_impl_areFinite_1 : Nat → (Bool → Prop) → Prop) : List Nat → (Int → Prop) → Prop := (slices_IndexFunc_float32_float32__areFinite_1.ib w_impl_areFinite_1).W slices_IndexFunc_float32_float32__areFinite_1.g
noncomputable def slices_IndexFunc_float32_float32__areFinite_1.wp : List Nat → (Int → Prop) → Prop := slices_IndexFunc_float32_float32__areFinite_1.bd impl_areFinite_1.wp
noncomputable def slices_IndexFunc_float32_float32__areFinite_1.c : Ctr := slices_IndexFunc_float32_float32__areFinite_1.g.ctr slices_IndexFunc_float32_float32__areFinite_1.wp

-- slices.ContainsFunc[[]float32,float32]
noncomputable def slices_ContainsFunc_float32_float32__areFinite_1.g : Sig := ⟨79, [(.v (.a (.one (.sl 0)))), (.v (.fn 80 [] []))], [(.rd (.F .f32))], [.lf], [(.v (.a (.one .bool)))], [.keep], [.bool]⟩
noncomputable def slices_ContainsFunc_float32_float32__areFinite_1.ib (w_slices_IndexFunc_float32_float32__areFinite_1 : List Nat → (Int → Prop) → Prop) : FnI := ⟨Try.prog, [], [slices_IndexFunc_float32_float32__areFinite_1.g.ctr w_slices_IndexFunc_float32_float32__areFinite_1], 9, [.tmp 4], bodyOf Try.f79, .leaf, []⟩
noncomputable def slices_ContainsFunc_float32_float32__areFinite_1.i : FnI := slices_ContainsFunc_float32_float32__areFinite_1.ib slices_IndexFunc_float32_float32__areFinite_1.wp
noncomputable def slices_ContainsFunc_float32_float32__areFinite_1.bd (w_slices_IndexFunc_float32_float32__areFinite_1 : List Nat → (Int → Prop) → Prop) : List Nat → (Bool → Prop) → Prop := (slices_ContainsFunc_float32_float32__areFinite_1.ib w_slices_IndexFunc_float32_float32__areFinite_1).W slices_ContainsFunc_float32_float32__areFinite_1.g
noncomputable def slices_ContainsFunc_float32_float32__areFinite_1.wp : List Nat → (Bool → Prop) → Prop := slices_ContainsFunc_float32_float32__areFinite_1.bd slices_IndexFunc_float32_float32__areFinite_1.wp
noncomputable def slices_ContainsFunc_float32_float32__areFinite_1.c : Ctr := slices_ContainsFunc_float32_float32__areFinite_1.g.ctr slices_ContainsFunc_float32_float32__areFinite_1.wp

-- loop.example/g01247/impl.areFinite
noncomputable def impl_areFinite.g : Sig := ⟨55, [(.v (.a (.one (.sl 0))))], [(.rd (.F .f32))], [.lf], [(.v (.a (.one .bool)))], [.keep], [.bool]⟩
noncomputable def impl_areFinite.ib (w_slices_ContainsFunc_float32_float32__areFinite_1 : List Nat → (Bool → Prop) → Prop) : FnI := ⟨Try.prog, [], [slices_ContainsFunc_float32_float32__areFinite_1.g.ctr w_slices_ContainsFunc_float32_float32__areFinite_1], 6, [.tmp 2], bodyOf Try.f55, .leaf, []⟩
noncomputable def impl_areFinite.i : FnI := impl_areFinite.ib slices_ContainsFunc_float32_float32__areFinite_1.wp
noncomputable def impl_areFinite.bd (w_slices_ContainsFunc_float32_float32__areFinite_1 : List Nat → (Bool → Prop) → Prop) : List Nat → (Bool → Prop) → Prop := (impl_areFinite.ib w_slices_ContainsFunc_float32_float32__areFinite_1).W impl_areFinite.g
noncomputable def impl_areFinite.wp : List Nat → (Bool → Prop) → Prop := impl_areFinite.bd slices_ContainsFunc_float32_float32__areFinite_1.wp
noncomputable def impl_areFinite.c : Ctr := impl_areFinite.g.ctr impl_areFinite.wp

-- loop.example/g01247/impl.ValidFlake
noncomputable def impl_ValidFlake.g : Sig := ⟨23, [(.v (.a (.agg [(.int .i64), (.sl 0)])))], [(.rd (.F .f32))], [.lf, .int], [(.v (.a (.one .bool)))], [.keep], [.bool]⟩
noncomputable def impl_ValidFlake.ib (w_impl_within : Int → Int → Int → (Bool → Prop) → Prop) (w_impl_areFinite : List Nat → (Bool → Prop) → Prop) : FnI := ⟨Try.prog, [], [impl_within.g.ctr w_impl_within, impl_areFinite.g.ctr w_impl_areFinite], 22, [.tmp 2], bodyOf Try.f23, .leaf, []⟩
noncomputable def impl_ValidFlake.i : FnI := impl_ValidFlake.ib impl_within.wp impl_areFinite.wp
noncomputable def impl_ValidFlake.bd (w_impl_within : Int → Int → Int → (Bool → Prop) → Prop) (w_impl_areFinite : List Nat → (Bool → Prop) → Prop) : List Nat → Int → (Bool → Prop) → Prop := (impl_ValidFlake.ib w_impl_within w_impl_areFinite).W impl_ValidFlake.g
noncomputable def impl_ValidFlake.wp : List Nat → Int → (Bool → Prop) → Prop := impl_ValidFlake.bd impl_within.wp impl_areFinite.wp
noncomputable def impl_ValidFlake.c : Ctr := impl_ValidFlake.g.ctr impl_ValidFlake.wp

-- loop.example/g01247/laws.FnExactValidFlake
noncomputable def laws_FnExactValidFlake.g : Sig := ⟨5, [(.v (.a (.agg [(.int .i64), (.sl 0)])))], [(.rd (.F .f32))], [.lf, .int], [(.v (.a (.one .bool)))], [.keep], [.bool]⟩
noncomputable def laws_FnExactValidFlake.ib (w_laws_szFlake : List Nat → Int → Int → (Int → Prop) → Prop) (w_laws_toFlake : List Nat → Int → (List Nat → Int → Prop) → Prop) (w_spec_ValidFlake : List Nat → Int → (Bool → Prop) → Prop) (w_impl_ValidFlake : List Nat → Int → (Bool → Prop) → Prop) (w_laws_eqFlake : List Nat → List Nat → Int → Int → (Bool → Prop) → Prop) : FnI := ⟨Try.prog, [], [laws_szFlake.g.ctr w_laws_szFlake, laws_toFlake.g.ctr w_laws_toFlake, spec_ValidFlake.g.ctr w_spec_ValidFlake, impl_ValidFlake.g.ctr w_impl_ValidFlake, laws_eqFlake.g.ctr w_laws_eqFlake], 27, [.tmp 2], bodyOf Try.f5, .leaf, []⟩
noncomputable def laws_FnExactValidFlake.i : FnI := laws_FnExactValidFlake.ib laws_szFlake.wp laws_toFlake.wp spec_ValidFlake.wp impl_ValidFlake.wp laws_eqFlake.wp
noncomputable def laws_FnExactValidFlake.bd (w_laws_szFlake : List Nat → Int → Int → (Int → Prop) → Prop) (w_laws_toFlake : List Nat → Int → (List Nat → Int → Prop) → Prop) (w_spec_ValidFlake : List Nat → Int → (Bool → Prop) → Prop) (w_impl_ValidFlake : List Nat → Int → (Bool → Prop) → Prop) (w_laws_eqFlake : List Nat → List Nat → Int → Int → (Bool → Prop) → Prop) : List Nat → Int → (Bool → Prop) → Prop := (laws_FnExactValidFlake.ib w_laws_szFlake w_laws_toFlake w_spec_ValidFlake w_impl_ValidFlake w_laws_eqFlake).W laws_FnExactValidFlake.g
noncomputable def laws_FnExactValidFlake.wp : List Nat → Int → (Bool → Prop) → Prop := laws_FnExactValidFlake.bd laws_szFlake.wp laws_toFlake.wp spec_ValidFlake.wp impl_ValidFlake.wp laws_eqFlake.wp
noncomputable def laws_FnExactValidFlake.c : Ctr := laws_FnExactValidFlake.g.ctr laws_FnExactValidFlake.wp

-- loop.example/g01247/spec.l06Middle
noncomputable def spec_l06Middle.g : Sig := ⟨81, [(.v (.a (.one (.int .i64))))], [], [.int], [(.v (.a (.one (.int .i64))))], [], [.int]⟩
noncomputable def spec_l06Middle.ib  : FnI := ⟨Try.prog, [], [], 10, [.tmp 2], bodyOf Try.f81, .leaf, []⟩
noncomputable def spec_l06Middle.i : FnI := spec_l06Middle.ib 
noncomputable def spec_l06Middle.bd  : Int → (Int → Prop) → Prop := (spec_l06Middle.ib ).W spec_l06Middle.g
noncomputable def spec_l06Middle.wp : Int → (Int → Prop) → Prop := spec_l06Middle.bd 
noncomputable def spec_l06Middle.c : Ctr := spec_l06Middle.g.ctr spec_l06Middle.wp

-- loop.example/g01247/spec.l06New
noncomputable def spec_l06New.g : Sig := ⟨58, [(.v (.a (.one (.int .i64)))), (.v (.a (.one (.flt .f32))))], [], [.int, .flt], [(.v (.a (.agg [(.int .i64), (.sl 0)])))], [(.row 22 (.F .f32))], [.lf, .int]⟩
noncomputable def spec_l06New.ib (w_spec_l06Middle : Int → (Int → Prop) → Prop) : FnI := ⟨Try.prog, [], [spec_l06Middle.g.ctr w_spec_l06Middle], 29, [.cell 4 34], bodyOf Try.f58, (.seq .leaf (.seq .leaf (.seq (.seq .leaf (.block (.loop ⟨[4, 5, 6], [.int, .int, .lf, .lf, .int], [(.v (.a (.one (.pt 0 0)))), (.v (.a (.one (.pt 1 0)))), (.v (.a (.one (.int .i64))))], [(.box 34 [(.int .i64), (.sl 2)]), (.box 34 [(.int .i64), (.sl 3)]), (.row 22 (.F .f32)), (.row 22 (.F .f32))]⟩ .leaf))) .leaf))), []⟩
noncomputable def spec_l06New.i : FnI := spec_l06New.ib spec_l06Middle.wp
noncomputable def spec_l06New.bd (w_spec_l06Middle : Int → (Int → Prop) → Prop) : Int → Nat → (List Nat → Int → Prop) → Prop := (spec_l06New.ib w_spec_l06Middle).W spec_l06New.g
noncomputable def spec_l06New.wp : Int → Nat → (List Nat → Int → Prop) → Prop := spec_l06New.bd spec_l06Middle.wp
noncomputable def spec_l06New.c : Ctr := spec_l06New.g.ctr spec_l06New.wp

-- loop.example/g01247/spec.NewFlake
noncomputable def spec_NewFlake.g : Sig := ⟨24, [(.v (.a (.one (.int .i64)))), (.v (.a (.one (.flt .f32))))], [], [.int, .flt], [(.tup [(.a (.agg [(.int .i64), (.sl 0)])), (.a (.one .bool))])], [(.row 22 (.F .f32))], [.lf, .int, .bool]⟩
noncomputable def spec_NewFlake.ib (w_spec_l00In : Int → Int → Int → (Bool → Prop) → Prop) (w_spec_l01Finite : Nat → (Bool → Prop) → Prop) (w_spec_l06New : Int → Nat → (List Nat → Int → Prop) → Prop) : FnI := ⟨Try.prog, [], [spec_l00In.g.ctr w_spec_l00In, spec_l01Finite.g.ctr w_spec_l01Finite, spec_l06New.g.ctr w_spec_l06New], 18, [.cell 4 34, .tmp 5], bodyOf Try.f24, .leaf, []⟩
noncomputable def spec_NewFlake.i : FnI := spec_NewFlake.ib spec_l00In.wp spec_l01Finite.wp spec_l06New.wp
noncomputable def spec_NewFlake.bd (w_spec_l00In : Int → Int → Int → (Bool → Prop) → Prop) (w_spec_l01Finite : Nat → (Bool → Prop) → Prop) (w_spec_l06New : Int → Nat → (List Nat → Int → Prop) → Prop) : Int → Nat → (List Nat → Int → Bool → Prop) → Prop := (spec_NewFlake.ib w_spec_l00In w_spec_l01Finite w_spec_l06New).W spec_NewFlake.g
noncomputable def spec_NewFlake.wp : Int → Nat → (List Nat → Int → Bool → Prop) → Prop := spec_NewFlake.bd spec_l00In.wp spec_l01Finite.wp spec_l06New.wp
noncomputable def spec_NewFlake.c : Ctr := spec_NewFlake.g.ctr spec_NewFlake.wp

-- loop.example/g01247/impl.NewFlake$1
noncomputable def impl_NewFlake_1.g : Sig := ⟨61, [(.v (.a (.one (.int .i64)))), (.v (.a (.one (.int .i64)))), (.v (.a (.one (.pt 0 0)))), (.v (.a (.one (.pt 1 0))))], [(.rdb [(.int .i64)]), (.rdb [(.flt .f32)])], [.int, .flt, .int, .int], [(.v (.a (.one (.flt .f32))))], [.keep, .keep], [.flt]⟩
noncomputable def impl_NewFlake_1.ib  : FnI := ⟨Try.prog, [], [], 18, [.tmp 6], bodyOf Try.f61, .leaf, []⟩
noncomputable def impl_NewFlake_1.i : FnI := impl_NewFlake_1.ib 
noncomputable def impl_NewFlake_1.bd  : Int → Nat → Int → Int → (Nat → Prop) → Prop := (impl_NewFlake_1.ib ).W impl_NewFlake_1.g
noncomputable def impl_NewFlake_1.wp : Int → Nat → Int → Int → (Nat → Prop) → Prop := impl_NewFlake_1.bd 
noncomputable def impl_NewFlake_1.c : Ctr := impl_NewFlake_1.g.ctr impl_NewFlake_1.wp

-- loop.example/g01247/impl.frozen
noncomputable def impl_frozen__NewFlake_1.g : Sig := ⟨60, [(.v (.a (.one (.int .i64)))), (.v (.fn 61 [] [(.one (.pt 0 0)), (.one (.pt 1 0))]))], [(.rdb [(.int .i64)]), (.rdb [(.flt .f32)])], [.int, .flt, .int], [(.tup [(.a (.agg [(.int .i64), (.sl 2)])), (.a (.one .bool))])], [.keep, .keep, (.row 22 (.F .f32))], [.lf, .int, .bool]⟩
noncomputable def impl_frozen__NewFlake_1.ib (w_impl_NewFlake_1 : Int → Nat → Int → Int → (Nat → Prop) → Prop) (w_impl_ValidFlake : List Nat → Int → (Bool → Prop) → Prop) : FnI := ⟨Try.prog, [], [impl_NewFlake_1.g.ctr w_impl_NewFlake_1, impl_ValidFlake.g.ctr w_impl_ValidFlake], 35, [.cell 4 34, .tmp 5], bodyOf Try.f60, (.seq .leaf (.seq .leaf (.seq (.seq .leaf (.block (.loop ⟨[4, 6, 11, 12], [.int, .int, .lf, .lf, .int, .int], [(.v (.a (.one (.pt 2 0)))), (.v (.a (.one (.pt 3 0)))), (.v (.a (.one (.int .i64)))), (.v (.a (.one (.int .i64))))], [.keep, .keep, (.box 34 [(.int .i64), (.sl 4)]), (.box 34 [(.int .i64), (.sl 5)]), (.row 22 (.F .f32)), (.row 22 (.F .f32))]⟩ (.seq .leaf (.seq .leaf (.seq (.block (.seq .leaf (.seq .leaf (.block (.loop ⟨[4, 6, 7, 11, 12, 15, 16], [.int, .int, .lf, .lf, .int, .int, .int, .int, .int], [(.v (.a (.one (.pt 2 0)))), (.v (.a (.one (.pt 3 0)))), (.v (.a (.one (.int .i64)))), (.v (.a (.one (.int .i64)))), (.v (.a (.one (.int .i64)))), (.v (.a (.one (.int .i64)))), (.v (.a (.one (.int .i64))))], [.keep, .keep, (.box 34 [(.int .i64), (.sl 4)]), (.box 34 [(.int .i64), (.sl 5)]), (.row 22 (.F .f32)), (.row 22 (.F .f32))]⟩ .leaf))))) .leaf)))))) .leaf))), []⟩
noncomputable def impl_frozen__NewFlake_1.i : FnI := impl_frozen__NewFlake_1.ib impl_NewFlake_1.wp impl_ValidFlake.wp
noncomputable def impl_frozen__NewFlake_1.bd (w_impl_NewFlake_1 : Int → Nat → Int → Int → (Nat → Prop) → Prop) (w_impl_ValidFlake : List Nat → Int → (Bool → Prop) → Prop) : Int → Nat → Int → (List Nat → Int → Bool → Prop) → Prop := (impl_frozen__NewFlake_1.ib w_impl_NewFlake_1 w_impl_ValidFlake).W impl_frozen__NewFlake_1.g
noncomputable def impl_frozen__NewFlake_1.wp : Int → Nat → Int → (List Nat → Int → Bool → Prop) → Prop := impl_frozen__NewFlake_1.bd impl_NewFlake_1.wp impl_ValidFlake.wp
noncomputable def impl_frozen__NewFlake_1.c : Ctr := impl_frozen__NewFlake_1.g.ctr impl_frozen__NewFlake_1.wp

-- loop.example/g01247/impl.NewFlake
noncomputable def impl_NewFlake.g : Sig := ⟨25, [(.v (.a (.one (.int .i64)))), (.v (.a (.one (.flt .f32))))], [], [.int, .flt], [(.tup [(.a (.agg [(.int .i64), (.sl 0)])), (.a (.one .bool))])], [(.row 22 (.F .f32))], [.lf, .int, .bool]⟩
noncomputable def impl_NewFlake.ib (w_impl_within : Int → Int → Int → (Bool → Prop) → Prop) (w_impl_IsFinite : Nat → (Bool → Prop) → Prop) (w_impl_frozen__NewFlake_1 : Int → Nat → Int → (List Nat → Int → Bool → Prop) → Prop) : FnI := ⟨Try.prog, [], [impl_within.g.ctr w_impl_within, impl_IsFinite.g.ctr w_impl_IsFinite, impl_frozen__NewFlake_1.g.ctr w_impl_frozen__NewFlake_1], 20, [.cell 4 34, .tmp 5], bodyOf Try.f25, .leaf, []⟩
noncomputable def impl_NewFlake.i : FnI := impl_NewFlake.ib impl_within.wp impl_IsFinite.wp impl_frozen__NewFlake_1.wp
noncomputable def impl_NewFlake.bd (w_impl_within : Int → Int → Int → (Bool → Prop) → Prop) (w_impl_IsFinite : Nat → (Bool → Prop) → Prop) (w_impl_frozen__NewFlake_1 : Int → Nat → Int → (List Nat → Int → Bool → Prop) → Prop) : Int → Nat → (List Nat → Int → Bool → Prop) → Prop := (impl_NewFlake.ib w_impl_within w_impl_IsFinite w_impl_frozen__NewFlake_1).W impl_NewFlake.g
noncomputable def impl_NewFlake.wp : Int → Nat → (List Nat → Int → Bool → Prop) → Prop := impl_NewFlake.bd impl_within.wp impl_IsFinite.wp impl_frozen__NewFlake_1.wp
noncomputable def impl_NewFlake.c : Ctr := impl_NewFlake.g.ctr impl_NewFlake.wp

-- loop.example/g01247/laws.markFloat32S
noncomputable def laws_markFloat32S.g : Sig := ⟨62, [(.v (.a (.one (.sl 0)))), (.v (.a (.one (.int .i64))))], [(.row 22 (.F .f32))], [.lf, .int], [(.v (.a (.one (.int .i64))))], [(.row 22 (.F .f32))], [.lf, .int]⟩
noncomputable def laws_markFloat32S.ib  : FnI := ⟨Try.prog, [], [], 20, [.tmp 4], bodyOf Try.f62, (.seq .leaf (.seq (.seq .leaf (.block (.loop ⟨[1, 5], [.lf, .int, .int], [(.v (.a (.one (.int .i64)))), (.v (.a (.one (.int .i64))))], [(.row 22 (.F .f32))]⟩ .leaf))) .leaf)), [1]⟩
noncomputable def laws_markFloat32S.i : FnI := laws_markFloat32S.ib 
noncomputable def laws_markFloat32S.bd  : List Nat → Int → (List Nat → Int → Prop) → Prop := (laws_markFloat32S.ib ).W laws_markFloat32S.g
noncomputable def laws_markFloat32S.wp : List Nat → Int → (List Nat → Int → Prop) → Prop := laws_markFloat32S.bd 
noncomputable def laws_markFloat32S.c : Ctr := laws_markFloat32S.g.ctr laws_markFloat32S.wp

-- loop.example/g01247/laws.markFlake
noncomputable def laws_markFlake.g : Sig := ⟨26, [(.v (.a (.agg [(.int .i64), (.sl 0)]))), (.v (.a (.one (.int .i64))))], [(.row 22 (.F .f32))], [.lf, .int, .int], [(.v (.a (.one (.int .i64))))], [(.row 22 (.F .f32))], [.lf, .int]⟩
noncomputable def laws_markFlake.ib (w_laws_markFloat32S : List Nat → Int → (List Nat → Int → Prop) → Prop) : FnI := ⟨Try.prog, [], [laws_markFloat32S.g.ctr w_laws_markFloat32S], 10, [.tmp 4], bodyOf Try.f26, .leaf, [1]⟩
noncomputable def laws_markFlake.i : FnI := laws_markFlake.ib laws_markFloat32S.wp
noncomputable def laws_markFlake.bd (w_laws_markFloat32S : List Nat → Int → (List Nat → Int → Prop) → Prop) : List Nat → Int → Int → (List Nat → Int → Prop) → Prop := (laws_markFlake.ib w_laws_markFloat32S).W laws_markFlake.g
noncomputable def laws_markFlake.wp : List Nat → Int → Int → (List Nat → Int → Prop) → Prop := laws_markFlake.bd laws_markFloat32S.wp
noncomputable def laws_markFlake.c : Ctr := laws_markFlake.g.ctr laws_markFlake.wp

-- loop.example/g01247/laws.heldFloat32S
noncomputable def laws_heldFloat32S.g : Sig := ⟨63, [(.v (.a (.one (.sl 0)))), (.v (.a (.one (.int .i64))))], [(.rd (.F .f32))], [.lf, .int], [(.v (.a (.one (.int .i64))))], [.keep], [.int]⟩
noncomputable def laws_heldFloat32S.ib  : FnI := ⟨Try.prog, [], [], 22, [.tmp 4], bodyOf Try.f63, (.seq .leaf (.seq (.seq .leaf (.block (.loop ⟨[1, 5], [.int, .int], [(.v (.a (.one (.int .i64)))), (.v (.a (.one (.int .i64))))], [.keep]⟩ .leaf))) .leaf)), [1]⟩
noncomputable def laws_heldFloat32S.i : FnI := laws_heldFloat32S.ib 
noncomputable def laws_heldFloat32S.bd  : List Nat → Int → (Int → Prop) → Prop := (laws_heldFloat32S.ib ).W laws_heldFloat32S.g
noncomputable def laws_heldFloat32S.wp : List Nat → Int → (Int → Prop) → Prop := laws_heldFloat32S.bd 
noncomputable def laws_heldFloat32S.c : Ctr := laws_heldFloat32S.g.ctr laws_heldFloat32S.wp

-- loop.example/g01247/laws.heldFlake
noncomputable def laws_heldFlake.g : Sig := ⟨27, [(.v (.a (.agg [(.int .i64), (.sl 0)]))), (.v (.a (.one (.int .i64))))], [(.rd (.F .f32))], [.lf, .int, .int], [(.v (.a (.one (.int .i64))))], [.keep], [.int]⟩
noncomputable def laws_heldFlake.ib (w_laws_heldFloat32S : List Nat → Int → (Int → Prop) → Prop) : FnI := ⟨Try.prog, [], [laws_heldFloat32S.g.ctr w_laws_heldFloat32S], 12, [.tmp 4], bodyOf Try.f27, .leaf, [1]⟩
noncomputable def laws_heldFlake.i : FnI := laws_heldFlake.ib laws_heldFloat32S.wp
noncomputable def laws_heldFlake.bd (w_laws_heldFloat32S : List Nat → Int → (Int → Prop) → Prop) : List Nat → Int → Int → (Int → Prop) → Prop := (laws_heldFlake.ib w_laws_heldFloat32S).W laws_heldFlake.g
noncomputable def laws_heldFlake.wp : List Nat → Int → Int → (Int → Prop) → Prop := laws_heldFlake.bd laws_heldFloat32S.wp
noncomputable def laws_heldFlake.c : Ctr := laws_heldFlake.g.ctr laws_heldFlake.wp

-- loop.example/g01247/laws.FnExactNewFlake
noncomputable def laws_FnExactNewFlake.g : Sig := ⟨6, [(.v (.a (.one (.int .i64)))), (.v (.a (.one (.flt .f32))))], [], [.int, .flt], [(.v (.a (.one .bool)))], [], [.bool]⟩
noncomputable def laws_FnExactNewFlake.ib (w_spec_NewFlake : Int → Nat → (List Nat → Int → Bool → Prop) → Prop) (w_impl_NewFlake : Int → Nat → (List Nat → Int → Bool → Prop) → Prop) (w_laws_eqFlake : List Nat → List Nat → Int → Int → (Bool → Prop) → Prop) (w_laws_markFlake : List Nat → Int → Int → (List Nat → Int → Prop) → Prop) (w_laws_heldFlake : List Nat → Int → Int → (Int → Prop) → Prop) : FnI := ⟨Try.prog, [], [spec_NewFlake.g.ctr w_spec_NewFlake, impl_NewFlake.g.ctr w_impl_NewFlake, laws_eqFlake.g.ctr w_laws_eqFlake, laws_markFlake.g.ctr w_laws_markFlake, laws_heldFlake.g.ctr w_laws_heldFlake], 68, [.tmp 4], bodyOf Try.f6, .leaf, []⟩
noncomputable def laws_FnExactNewFlake.i : FnI := laws_FnExactNewFlake.ib spec_NewFlake.wp impl_NewFlake.wp laws_eqFlake.wp laws_markFlake.wp laws_heldFlake.wp
noncomputable def laws_FnExactNewFlake.bd (w_spec_NewFlake : Int → Nat → (List Nat → Int → Bool → Prop) → Prop) (w_impl_NewFlake : Int → Nat → (List Nat → Int → Bool → Prop) → Prop) (w_laws_eqFlake : List Nat → List Nat → Int → Int → (Bool → Prop) → Prop) (w_laws_markFlake : List Nat → Int → Int → (List Nat → Int → Prop) → Prop) (w_laws_heldFlake : List Nat → Int → Int → (Int → Prop) → Prop) : Int → Nat → (Bool → Prop) → Prop := (laws_FnExactNewFlake.ib w_spec_NewFlake w_impl_NewFlake w_laws_eqFlake w_laws_markFlake w_laws_heldFlake).W laws_FnExactNewFlake.g
noncomputable def laws_FnExactNewFlake.wp : Int → Nat → (Bool → Prop) → Prop := laws_FnExactNewFlake.bd spec_NewFlake.wp impl_NewFlake.wp laws_eqFlake.wp laws_markFlake.wp laws_heldFlake.wp
noncomputable def laws_FnExactNewFlake.c : Ctr := laws_FnExactNewFlake.g.ctr laws_FnExactNewFlake.wp

-- loop.example/g01247/spec.l06Ice
noncomputable def spec_l06Ice.g : Sig := ⟨64, [(.v (.a (.one (.pt 0 0))))], [(.rdb [(.int .i64), (.sl 1)]), (.rd (.F .f32))], [.int, .lf], [(.v (.a (.one (.sl 2))))], [.keep, .keep, (.row 2 (.I .i64))], [.li]⟩
noncomputable def spec_l06Ice.ib  : FnI := ⟨Try.prog, [], [], 28, [.tmp 2], bodyOf Try.f64, (.seq .leaf (.seq .leaf (.seq (.seq .leaf (.block (.loop ⟨[3, 4], [.li, .int], [(.v (.a (.one (.sl 2)))), (.v (.a (.one (.int .i64))))], [.keep, .keep, (.row 2 (.I .i64))]⟩ .leaf))) .leaf))), []⟩
noncomputable def spec_l06Ice.i : FnI := spec_l06Ice.ib 
noncomputable def spec_l06Ice.bd  : Int → List Nat → (List Int → Prop) → Prop := (spec_l06Ice.ib ).W spec_l06Ice.g
noncomputable def spec_l06Ice.wp : Int → List Nat → (List Int → Prop) → Prop := spec_l06Ice.bd 
noncomputable def spec_l06Ice.c : Ctr := spec_l06Ice.g.ctr spec_l06Ice.wp

-- loop.example/g01247/spec.l00Max
noncomputable def spec_l00Max.g : Sig := ⟨65, [(.v (.a (.one (.int .i64)))), (.v (.a (.one (.int .i64))))], [], [.int, .int], [(.v (.a (.one (.int .i64))))], [], [.int]⟩
noncomputable def spec_l00Max.ib  : FnI := ⟨Try.prog, [], [], 10, [.tmp 4], bodyOf Try.f65, .leaf, []⟩
noncomputable def spec_l00Max.i : FnI := spec_l00Max.ib 
noncomputable def spec_l00Max.bd  : Int → Int → (Int → Prop) → Prop := (spec_l00Max.ib ).W spec_l00Max.g
noncomputable def spec_l00Max.wp : Int → Int → (Int → Prop) → Prop := spec_l00Max.bd 
noncomputable def spec_l00Max.c : Ctr := spec_l00Max.g.ctr spec_l00Max.wp

-- loop.example/g01247/spec.ReachOfFlake
noncomputable def spec_ReachOfFlake.g : Sig := ⟨28, [(.v (.a (.agg [(.int .i64), (.sl 0)])))], [(.rd (.F .f32))], [.lf, .int], [(.tup [(.a (.one (.int .i64))), (.a (.one .bool))])], [.keep], [.int, .bool]⟩
noncomputable def spec_ReachOfFlake.ib (w_spec_l06Is : Int → List Nat → (Bool → Prop) → Prop) (w_spec_l06Ice : Int → List Nat → (List Int → Prop) → Prop) (w_spec_l00Max : Int → Int → (Int → Prop) → Prop) : FnI := ⟨Try.prog, [], [spec_l06Is.g.ctr w_spec_l06Is, spec_l06Ice.g.ctr w_spec_l06Ice, spec_l00Max.g.ctr w_spec_l00Max], 65, [.tmp 2, .tmp 3], bodyOf Try.f28, (.seq .leaf (.seq .leaf (.seq .leaf (.seq .leaf (.seq (.seq .leaf (.block (.loop ⟨[1, 4, 5, 6], [.int, .li, .int, .int], [(.v (.a (.one (.pt 1 0)))), (.v (.a (.one (.sl 2)))), (.v (.a (.one (.int .i64)))), (.v (.a (.one (.int .i64))))], [.keep, (.box 34 [(.int .i64), (.sl 0)]), (.row 2 (.I .i64))]⟩ .leaf))) .leaf))))), []⟩
noncomputable def spec_ReachOfFlake.i : FnI := spec_ReachOfFlake.ib spec_l06Is.wp spec_l06Ice.wp spec_l00Max.wp
noncomputable def spec_ReachOfFlake.bd (w_spec_l06Is : Int → List Nat → (Bool → Prop) → Prop) (w_spec_l06Ice : Int → List Nat → (List Int → Prop) → Prop) (w_spec_l00Max : Int → Int → (Int → Prop) → Prop) : List Nat → Int → (Int → Bool → Prop) → Prop := (spec_ReachOfFlake.ib w_spec_l06Is w_spec_l06Ice w_spec_l00Max).W spec_ReachOfFlake.g
noncomputable def spec_ReachOfFlake.wp : List Nat → Int → (Int → Bool → Prop) → Prop := spec_ReachOfFlake.bd spec_l06Is.wp spec_l06Ice.wp spec_l00Max.wp
noncomputable def spec_ReachOfFlake.c : Ctr := spec_ReachOfFlake.g.ctr spec_ReachOfFlake.wp

-- (loop.example/g01247/impl.Flake).ice
noncomputable def impl_Flake_ice.g : Sig := ⟨66, [(.v (.a (.agg [(.int .i64), (.sl 0)])))], [(.rd (.F .f32))], [.lf, .int], [(.v (.a (.one (.sl 1))))], [.keep, (.row 2 (.I .i64))], [.li]⟩
noncomputable def impl_Flake_ice.ib  : FnI := ⟨Try.prog, [], [], 23, [.tmp 2], bodyOf Try.f66, (.seq .leaf (.seq .leaf (.seq (.seq .leaf (.block (.loop ⟨[3, 8, 9, 10], [.li, .int, .int], [(.v (.a (.one (.sl 1)))), (.v (.a (.one (.sl 0)))), (.v (.a (.one (.int .i64)))), (.v (.a (.one (.int .i64))))], [.keep, (.row 2 (.I .i64))]⟩ .leaf))) .leaf))), []⟩
noncomputable def impl_Flake_ice.i : FnI := impl_Flake_ice.ib 
noncomputable def impl_Flake_ice.bd  : List Nat → Int → (List Int → Prop) → Prop := (impl_Flake_ice.ib ).W impl_Flake_ice.g
noncomputable def impl_Flake_ice.wp : List Nat → Int → (List Int → Prop) → Prop := impl_Flake_ice.bd 
noncomputable def impl_Flake_ice.c : Ctr := impl_Flake_ice.g.ctr impl_Flake_ice.wp

-- loop.example/g01247/impl.ReachOfFlake
noncomputable def impl_ReachOfFlake.g : Sig := ⟨29, [(.v (.a (.agg [(.int .i64), (.sl 0)])))], [(.rd (.F .f32))], [.lf, .int], [(.tup [(.a (.one (.int .i64))), (.a (.one .bool))])], [.keep], [.int, .bool]⟩
noncomputable def impl_ReachOfFlake.ib (w_impl_ValidFlake : List Nat → Int → (Bool → Prop) → Prop) (w_impl_Flake_ice : List Nat → Int → (List Int → Prop) → Prop) : FnI := ⟨Try.prog, [], [impl_ValidFlake.g.ctr w_impl_ValidFlake, impl_Flake_ice.g.ctr w_impl_Flake_ice], 58, [.tmp 2, .tmp 3], bodyOf Try.f29, (.seq .leaf (.seq .leaf (.seq .leaf (.seq (.seq .leaf (.block (.loop ⟨[1, 4, 19, 20, 21], [.int, .li, .int, .int, .int], [(.v (.a (.one (.pt 1 0)))), (.v (.a (.one (.int .i64)))), (.v (.a (.one (.sl 2)))), (.v (.a (.one (.int .i64)))), (.v (.a (.one (.int .i64))))], [.keep, (.box 34 [(.int .i64), (.sl 0)]), (.row 2 (.I .i64))]⟩ .leaf))) .leaf)))), []⟩
noncomputable def impl_ReachOfFlake.i : FnI := impl_ReachOfFlake.ib impl_ValidFlake.wp impl_Flake_ice.wp
noncomputable def impl_ReachOfFlake.bd (w_impl_ValidFlake : List Nat → Int → (Bool → Prop) → Prop) (w_impl_Flake_ice : List Nat → Int → (List Int → Prop) → Prop) : List Nat → Int → (Int → Bool → Prop) → Prop := (impl_ReachOfFlake.ib w_impl_ValidFlake w_impl_Flake_ice).W impl_ReachOfFlake.g
noncomputable def impl_ReachOfFlake.wp : List Nat → Int → (Int → Bool → Prop) → Prop := impl_ReachOfFlake.bd impl_ValidFlake.wp impl_Flake_ice.wp
noncomputable def impl_ReachOfFlake.c : Ctr := impl_ReachOfFlake.g.ctr impl_ReachOfFlake.wp

-- loop.example/g01247/laws.FnExactReachOfFlake
noncomputable def laws_FnExactReachOfFlake.g : Sig := ⟨7, [(.v (.a (.agg [(.int .i64), (.sl 0)])))], [(.rd (.F .f32))], [.lf, .int], [(.v (.a (.one .bool)))], [.keep], [.bool]⟩
noncomputable def laws_FnExactReachOfFlake.ib (w_laws_szFlake : List Nat → Int → Int → (Int → Prop) → Prop) (w_laws_toFlake : List Nat → Int → (List Nat → Int → Prop) → Prop) (w_spec_ReachOfFlake : List Nat → Int → (Int → Bool → Prop) → Prop) (w_impl_ReachOfFlake : List Nat → Int → (Int → Bool → Prop) → Prop) (w_laws_eqFlake : List Nat → List Nat → Int → Int → (Bool → Prop) → Prop) : FnI := ⟨Try.prog, [], [laws_szFlake.g.ctr w_laws_szFlake, laws_toFlake.g.ctr w_laws_toFlake, spec_ReachOfFlake.g.ctr w_spec_ReachOfFlake, impl_ReachOfFlake.g.ctr w_impl_ReachOfFlake, laws_eqFlake.g.ctr w_laws_eqFlake], 40, [.tmp 2], bodyOf Try.f7, .leaf, []⟩
noncomputable def laws_FnExactReachOfFlake.i : FnI := laws_FnExactReachOfFlake.ib laws_szFlake.wp laws_toFlake.wp spec_ReachOfFlake.wp impl_ReachOfFlake.wp laws_eqFlake.wp
noncomputable def laws_FnExactReachOfFlake.bd (w_laws_szFlake : List Nat → Int → Int → (Int → Prop) → Prop) (w_laws_toFlake : List Nat → Int → (List Nat → Int → Prop) → Prop) (w_spec_ReachOfFlake : List Nat → Int → (Int → Bool → Prop) → Prop) (w_impl_ReachOfFlake : List Nat → Int → (Int → Bool → Prop) → Prop) (w_laws_eqFlake : List Nat → List Nat → Int → Int → (Bool → Prop) → Prop) : List Nat → Int → (Bool → Prop) → Prop := (laws_FnExactReachOfFlake.ib w_laws_szFlake w_laws_toFlake w_spec_ReachOfFlake w_impl_ReachOfFlake w_laws_eqFlake).W laws_FnExactReachOfFlake.g
noncomputable def laws_FnExactReachOfFlake.wp : List Nat → Int → (Bool → Prop) → Prop := laws_FnExactReachOfFlake.bd laws_szFlake.wp laws_toFlake.wp spec_ReachOfFlake.wp impl_ReachOfFlake.wp laws_eqFlake.wp
noncomputable def laws_FnExactReachOfFlake.c : Ctr := laws_FnExactReachOfFlake.g.ctr laws_FnExactReachOfFlake.wp

-- loop.example/g01247/spec.BackFlake
noncomputable def spec_BackFlake.g : Sig := ⟨30, [(.v (.a (.agg [(.int .i64), (.sl 0)])))], [(.rd (.F .f32))], [.lf, .int], [(.tup [(.a (.agg [(.int .i64), (.sl 1)])), (.a (.one .bool))])], [.keep, (.row 22 (.F .f32))], [.lf, .int, .bool]⟩
noncomputable def spec_BackFlake.ib (w_spec_l06Is : Int → List Nat → (Bool → Prop) → Prop) : FnI := ⟨Try.prog, [], [spec_l06Is.g.ctr w_spec_l06Is], 34, [.cell 2 34, .tmp 3], bodyOf Try.f30, (.seq .leaf (.seq .leaf (.seq .leaf (.seq (.seq .leaf (.block (.loop ⟨[1, 2, 4, 5], [.int, .int, .int, .lf, .lf, .int], [(.v (.a (.one (.pt 1 0)))), (.v (.a (.one (.pt 2 0)))), (.v (.a (.one (.pt 3 0)))), (.v (.a (.one (.int .i64))))], [.keep, (.box 34 [(.int .i64), (.sl 0)]), (.box 34 [(.int .i64), (.sl 4)]), (.box 34 [(.int .i64), (.sl 5)]), (.row 22 (.F .f32)), (.row 22 (.F .f32))]⟩ .leaf))) .leaf)))), []⟩
noncomputable def spec_BackFlake.i : FnI := spec_BackFlake.ib spec_l06Is.wp
noncomputable def spec_BackFlake.bd (w_spec_l06Is : Int → List Nat → (Bool → Prop) → Prop) : List Nat → Int → (List Nat → Int → Bool → Prop) → Prop := (spec_BackFlake.ib w_spec_l06Is).W spec_BackFlake.g
noncomputable def spec_BackFlake.wp : List Nat → Int → (List Nat → Int → Bool → Prop) → Prop := spec_BackFlake.bd spec_l06Is.wp
noncomputable def spec_BackFlake.c : Ctr := spec_BackFlake.g.ctr spec_BackFlake.wp

-- loop.example/g01247/impl.BackFlake$1
noncomputable def impl_BackFlake_1.g : Sig := ⟨67, [(.v (.a (.one (.int .i64)))), (.v (.a (.one (.int .i64)))), (.v (.a (.one (.pt 0 0))))], [(.rdb [(.int .i64), (.sl 1)]), (.rd (.F .f32))], [.int, .lf, .int, .int], [(.v (.a (.one (.flt .f32))))], [.keep, .keep], [.flt]⟩
noncomputable def impl_BackFlake_1.ib  : FnI := ⟨Try.prog, [], [], 24, [.tmp 5], bodyOf Try.f67, .leaf, []⟩
noncomputable def impl_BackFlake_1.i : FnI := impl_BackFlake_1.ib 
noncomputable def impl_BackFlake_1.bd  : Int → List Nat → Int → Int → (Nat → Prop) → Prop := (impl_BackFlake_1.ib ).W impl_BackFlake_1.g
noncomputable def impl_BackFlake_1.wp : Int → List Nat → Int → Int → (Nat → Prop) → Prop := impl_BackFlake_1.bd 
noncomputable def impl_BackFlake_1.c : Ctr := impl_BackFlake_1.g.ctr impl_BackFlake_1.wp

-- loop.example/g01247/impl.frozen
noncomputable def impl_frozen__BackFlake_1.g : Sig := ⟨60, [(.v (.a (.one (.int .i64)))), (.v (.fn 67 [] [(.one (.pt 0 0))]))], [(.rdb [(.int .i64), (.sl 1)]), (.rd (.F .f32))], [.int, .lf, .int], [(.tup [(.a (.agg [(.int .i64), (.sl 2)])), (.a (.one .bool))])], [.keep, .keep, (.row 22 (.F .f32))], [.lf, .int, .bool]⟩
noncomputable def impl_frozen__BackFlake_1.ib (w_impl_BackFlake_1 : Int → List Nat → Int → Int → (Nat → Prop) → Prop) (w_impl_ValidFlake : List Nat → Int → (Bool → Prop) → Prop) : FnI := ⟨Try.prog, [], [impl_BackFlake_1.g.ctr w_impl_BackFlake_1, impl_ValidFlake.g.ctr w_impl_ValidFlake], 35, [.cell 4 34, .tmp 5], bodyOf Try.f60, (.seq .leaf (.seq .leaf (.seq (.seq .leaf (.block (.loop ⟨[4, 6, 11, 12], [.int, .int, .lf, .lf, .int, .int], [(.v (.a (.one (.pt 2 0)))), (.v (.a (.one (.pt 3 0)))), (.v (.a (.one (.int .i64)))), (.v (.a (.one (.int .i64))))], [.keep, .keep, (.box 34 [(.int .i64), (.sl 4)]), (.box 34 [(.int .i64), (.sl 5)]), (.row 22 (.F .f32)), (.row 22 (.F .f32))]⟩ (.seq .leaf (.seq .leaf (.seq (.block (.seq .leaf (.seq .leaf (.block (.loop ⟨[4, 6, 7, 11, 12, 15, 16], [.int, .int, .lf, .lf, .int, .int, .int, .int, .int], [(.v (.a (.one (.pt 2 0)))), (.v (.a (.one (.pt 3 0)))), (.v (.a (.one (.int .i64)))), (.v (.a (.one (.int .i64)))), (.v (.a (.one (.int .i64)))), (.v (.a (.one (.int .i64)))), (.v (.a (.one (.int .i64))))], [.keep, .keep, (.box 34 [(.int .i64), (.sl 4)]), (.box 34 [(.int .i64), (.sl 5)]), (.row 22 (.F .f32)), (.row 22 (.F .f32))]⟩ .leaf))))) .leaf)))))) .leaf))), []⟩
noncomputable def impl_frozen__BackFlake_1.i : FnI := impl_frozen__BackFlake_1.ib impl_BackFlake_1.wp impl_ValidFlake.wp
noncomputable def impl_frozen__BackFlake_1.bd (w_impl_BackFlake_1 : Int → List Nat → Int → Int → (Nat → Prop) → Prop) (w_impl_ValidFlake : List Nat → Int → (Bool → Prop) → Prop) : Int → List Nat → Int → (List Nat → Int → Bool → Prop) → Prop := (impl_frozen__BackFlake_1.ib w_impl_BackFlake_1 w_impl_ValidFlake).W impl_frozen__BackFlake_1.g
noncomputable def impl_frozen__BackFlake_1.wp : Int → List Nat → Int → (List Nat → Int → Bool → Prop) → Prop := impl_frozen__BackFlake_1.bd impl_BackFlake_1.wp impl_ValidFlake.wp
noncomputable def impl_frozen__BackFlake_1.c : Ctr := impl_frozen__BackFlake_1.g.ctr impl_frozen__BackFlake_1.wp

-- loop.example/g01247/impl.BackFlake
noncomputable def impl_BackFlake.g : Sig := ⟨31, [(.v (.a (.agg [(.int .i64), (.sl 0)])))], [(.rd (.F .f32))], [.lf, .int], [(.tup [(.a (.agg [(.int .i64), (.sl 1)])), (.a (.one .bool))])], [.keep, (.row 22 (.F .f32))], [.lf, .int, .bool]⟩
noncomputable def impl_BackFlake.ib (w_impl_ValidFlake : List Nat → Int → (Bool → Prop) → Prop) (w_impl_frozen__BackFlake_1 : Int → List Nat → Int → (List Nat → Int → Bool → Prop) → Prop) : FnI := ⟨Try.prog, [], [impl_ValidFlake.g.ctr w_impl_ValidFlake, impl_frozen__BackFlake_1.g.ctr w_impl_frozen__BackFlake_1], 14, [.cell 2 34, .tmp 3], bodyOf Try.f31, .leaf, []⟩
noncomputable def impl_BackFlake.i : FnI := impl_BackFlake.ib impl_ValidFlake.wp impl_frozen__BackFlake_1.wp
noncomputable def impl_BackFlake.bd (w_impl_ValidFlake : List Nat → Int → (Bool → Prop) → Prop) (w_impl_frozen__BackFlake_1 : Int → List Nat → Int → (List Nat → Int → Bool → Prop) → Prop) : List Nat → Int → (List Nat → Int → Bool → Prop) → Prop := (impl_BackFlake.ib w_impl_ValidFlake w_impl_frozen__BackFlake_1).W impl_BackFlake.g
noncomputable def impl_BackFlake.wp : List Nat → Int → (List Nat → Int → Bool → Prop) → Prop := impl_BackFlake.bd impl_ValidFlake.wp impl_frozen__BackFlake_1.wp
noncomputable def impl_BackFlake.c : Ctr := impl_BackFlake.g.ctr impl_BackFlake.wp

-- loop.example/g01247/laws.FnExactBackFlake
noncomputable def laws_FnExactBackFlake.g : Sig := ⟨8, [(.v (.a (.agg [(.int .i64), (.sl 0)])))], [(.rd (.F .f32))], [.lf, .int], [(.v (.a (.one .bool)))], [.keep], [.bool]⟩
noncomputable def laws_FnExactBackFlake.ib (w_laws_szFlake : List Nat → Int → Int → (Int → Prop) → Prop) (w_laws_toFlake : List Nat → Int → (List Nat → Int → Prop) → Prop) (w_spec_BackFlake : List Nat → Int → (List Nat → Int → Bool → Prop) → Prop) (w_impl_BackFlake : List Nat → Int → (List Nat → Int → Bool → Prop) → Prop) (w_laws_eqFlake : List Nat → List Nat → Int → Int → (Bool → Prop) → Prop) (w_laws_markFlake : List Nat → Int → Int → (List Nat → Int → Prop) → Prop) (w_laws_heldFlake : List Nat → Int → Int → (Int → Prop) → Prop) : FnI := ⟨Try.prog, [], [laws_szFlake.g.ctr w_laws_szFlake, laws_toFlake.g.ctr w_laws_toFlake, spec_BackFlake.g.ctr w_spec_BackFlake, impl_BackFlake.g.ctr w_impl_BackFlake, laws_eqFlake.g.ctr w_laws_eqFlake, laws_markFlake.g.ctr w_laws_markFlake, laws_heldFlake.g.ctr w_laws_heldFlake], 96, [.tmp 2], bodyOf Try.f8, .leaf, []⟩
noncomputable def laws_FnExactBackFlake.i : FnI := laws_FnExactBackFlake.ib laws_szFlake.wp laws_toFlake.wp spec_BackFlake.wp impl_BackFlake.wp laws_eqFlake.wp laws_markFlake.wp laws_heldFlake.wp
noncomputable def laws_FnExactBackFlake.bd (w_laws_szFlake : List Nat → Int → Int → (Int → Prop) → Prop) (w_laws_toFlake : List Nat → Int → (List Nat → Int → Prop) → Prop) (w_spec_BackFlake : List Nat → Int → (List Nat → Int → Bool → Prop) → Prop) (w_impl_BackFlake : List Nat → Int → (List Nat → Int → Bool → Prop) → Prop) (w_laws_eqFlake : List Nat → List Nat → Int → Int → (Bool → Prop) → Prop) (w_laws_markFlake : List Nat → Int → Int → (List Nat → Int → Prop) → Prop) (w_laws_heldFlake : List Nat → Int → Int → (Int → Prop) → Prop) : List Nat → Int → (Bool → Prop) → Prop := (laws_FnExactBackFlake.ib w_laws_szFlake w_laws_toFlake w_spec_BackFlake w_impl_BackFlake w_laws_eqFlake w_laws_markFlake w_laws_heldFlake).W laws_FnExactBackFlake.g
noncomputable def laws_FnExactBackFlake.wp : List Nat → Int → (Bool → Prop) → Prop := laws_FnExactBackFlake.bd laws_szFlake.wp laws_toFlake.wp spec_BackFlake.wp impl_BackFlake.wp laws_eqFlake.wp laws_markFlake.wp laws_heldFlake.wp
noncomputable def laws_FnExactBackFlake.c : Ctr := laws_FnExactBackFlake.g.ctr laws_FnExactBackFlake.wp

-- loop.example/g01247/spec.SwapFlake
noncomputable def spec_SwapFlake.g : Sig := ⟨32, [(.v (.a (.agg [(.int .i64), (.sl 0)])))], [(.rd (.F .f32))], [.lf, .int], [(.tup [(.a (.agg [(.int .i64), (.sl 1)])), (.a (.one .bool))])], [.keep, (.row 22 (.F .f32))], [.lf, .int, .bool]⟩
noncomputable def spec_SwapFlake.ib (w_spec_l06Is : Int → List Nat → (Bool → Prop) → Prop) : FnI := ⟨Try.prog, [], [spec_l06Is.g.ctr w_spec_l06Is], 44, [.cell 2 34, .tmp 3], bodyOf Try.f32, (.seq .leaf (.seq .leaf (.seq .leaf (.seq (.seq .leaf (.block (.loop ⟨[1, 2, 4, 5], [.int, .int, .int, .lf, .lf, .int], [(.v (.a (.one (.pt 1 0)))), (.v (.a (.one (.pt 2 0)))), (.v (.a (.one (.pt 3 0)))), (.v (.a (.one (.int .i64))))], [.keep, (.box 34 [(.int .i64), (.sl 0)]), (.box 34 [(.int .i64), (.sl 4)]), (.box 34 [(.int .i64), (.sl 5)]), (.row 22 (.F .f32)), (.row 22 (.F .f32))]⟩ .leaf))) .leaf)))), []⟩
noncomputable def spec_SwapFlake.i : FnI := spec_SwapFlake.ib spec_l06Is.wp
noncomputable def spec_SwapFlake.bd (w_spec_l06Is : Int → List Nat → (Bool → Prop) → Prop) : List Nat → Int → (List Nat → Int → Bool → Prop) → Prop := (spec_SwapFlake.ib w_spec_l06Is).W spec_SwapFlake.g
noncomputable def spec_SwapFlake.wp : List Nat → Int → (List Nat → Int → Bool → Prop) → Prop := spec_SwapFlake.bd spec_l06Is.wp
noncomputable def spec_SwapFlake.c : Ctr := spec_SwapFlake.g.ctr spec_SwapFlake.wp

-- loop.example/g01247/impl.SwapFlake$1
noncomputable def impl_SwapFlake_1.g : Sig := ⟨68, [(.v (.a (.one (.int .i64)))), (.v (.a (.one (.int .i64)))), (.v (.a (.one (.pt 0 0))))], [(.rdb [(.int .i64), (.sl 1)]), (.rd (.F .f32))], [.int, .lf, .int, .int], [(.v (.a (.one (.flt .f32))))], [.keep, .keep], [.flt]⟩
noncomputable def impl_SwapFlake_1.ib  : FnI := ⟨Try.prog, [], [], 16, [.tmp 5], bodyOf Try.f68, .leaf, []⟩
noncomputable def impl_SwapFlake_1.i : FnI := impl_SwapFlake_1.ib 
noncomputable def impl_SwapFlake_1.bd  : Int → List Nat → Int → Int → (Nat → Prop) → Prop := (impl_SwapFlake_1.ib ).W impl_SwapFlake_1.g
noncomputable def impl_SwapFlake_1.wp : Int → List Nat → Int → Int → (Nat → Prop) → Prop := impl_SwapFlake_1.bd 
noncomputable def impl_SwapFlake_1.c : Ctr := impl_SwapFlake_1.g.ctr impl_SwapFlake_1.wp

-- loop.example/g01247/impl.frozen
noncomputable def impl_frozen__SwapFlake_1.g : Sig := ⟨60, [(.v (.a (.one (.int .i64)))), (.v (.fn 68 [] [(.one (.pt 0 0))]))], [(.rdb [(.int .i64), (.sl 1)]), (.rd (.F .f32))], [.int, .lf, .int], [(.tup [(.a (.agg [(.int .i64), (.sl 2)])), (.a (.one .bool))])], [.keep, .keep, (.row 22 (.F .f32))], [.lf, .int, .bool]⟩
noncomputable def impl_frozen__SwapFlake_1.ib (w_impl_SwapFlake_1 : Int → List Nat → Int → Int → (Nat → Prop) → Prop) (w_impl_ValidFlake : List Nat → Int → (Bool → Prop) → Prop) : FnI := ⟨Try.prog, [], [impl_SwapFlake_1.g.ctr w_impl_SwapFlake_1, impl_ValidFlake.g.ctr w_impl_ValidFlake], 35, [.cell 4 34, .tmp 5], bodyOf Try.f60, (.seq .leaf (.seq .leaf (.seq (.seq .leaf (.block (.loop ⟨[4, 6, 11, 12], [.int, .int, .lf, .lf, .int, .int], [(.v (.a (.one (.pt 2 0)))), (.v (.a (.one (.pt 3 0)))), (.v (.a (.one (.int .i64)))), (.v (.a (.one (.int .i64))))], [.keep, .keep, (.box 34 [(.int .i64), (.sl 4)]), (.box 34 [(.int .i64), (.sl 5)]), (.row 22 (.F .f32)), (.row 22 (.F .f32))]⟩ (.seq .leaf (.seq .leaf (.seq (.block (.seq .leaf (.seq .leaf (.block (.loop ⟨[4, 6, 7, 11, 12, 15, 16], [.int, .int, .lf, .lf, .int, .int, .int, .int, .int], [(.v (.a (.one (.pt 2 0)))), (.v (.a (.one (.pt 3 0)))), (.v (.a (.one (.int .i64)))), (.v (.a (.one (.int .i64)))), (.v (.a (.one (.int .i64)))), (.v (.a (.one (.int .i64)))), (.v (.a (.one (.int .i64))))], [.keep, .keep, (.box 34 [(.int .i64), (.sl 4)]), (.box 34 [(.int .i64), (.sl 5)]), (.row 22 (.F .f32)), (.row 22 (.F .f32))]⟩ .leaf))))) .leaf)))))) .leaf))), []⟩
noncomputable def impl_frozen__SwapFlake_1.i : FnI := impl_frozen__SwapFlake_1.ib impl_SwapFlake_1.wp impl_ValidFlake.wp
noncomputable def impl_frozen__SwapFlake_1.bd (w_impl_SwapFlake_1 : Int → List Nat → Int → Int → (Nat → Prop) → Prop) (w_impl_ValidFlake : List Nat → Int → (Bool → Prop) → Prop) : Int → List Nat → Int → (List Nat → Int → Bool → Prop) → Prop := (impl_frozen__SwapFlake_1.ib w_impl_SwapFlake_1 w_impl_ValidFlake).W impl_frozen__SwapFlake_1.g
noncomputable def impl_frozen__SwapFlake_1.wp : Int → List Nat → Int → (List Nat → Int → Bool → Prop) → Prop := impl_frozen__SwapFlake_1.bd impl_SwapFlake_1.wp impl_ValidFlake.wp
noncomputable def impl_frozen__SwapFlake_1.c : Ctr := impl_frozen__SwapFlake_1.g.ctr impl_frozen__SwapFlake_1.wp

-- loop.example/g01247/impl.SwapFlake
noncomputable def impl_SwapFlake.g : Sig := ⟨33, [(.v (.a (.agg [(.int .i64), (.sl 0)])))], [(.rd (.F .f32))], [.lf, .int], [(.tup [(.a (.agg [(.int .i64), (.sl 1)])), (.a (.one .bool))])], [.keep, (.row 22 (.F .f32))], [.lf, .int, .bool]⟩
noncomputable def impl_SwapFlake.ib (w_impl_ValidFlake : List Nat → Int → (Bool → Prop) → Prop) (w_impl_frozen__SwapFlake_1 : Int → List Nat → Int → (List Nat → Int → Bool → Prop) → Prop) : FnI := ⟨Try.prog, [], [impl_ValidFlake.g.ctr w_impl_ValidFlake, impl_frozen__SwapFlake_1.g.ctr w_impl_frozen__SwapFlake_1], 14, [.cell 2 34, .tmp 3], bodyOf Try.f33, .leaf, []⟩
noncomputable def impl_SwapFlake.i : FnI := impl_SwapFlake.ib impl_ValidFlake.wp impl_frozen__SwapFlake_1.wp
noncomputable def impl_SwapFlake.bd (w_impl_ValidFlake : List Nat → Int → (Bool → Prop) → Prop) (w_impl_frozen__SwapFlake_1 : Int → List Nat → Int → (List Nat → Int → Bool → Prop) → Prop) : List Nat → Int → (List Nat → Int → Bool → Prop) → Prop := (impl_SwapFlake.ib w_impl_ValidFlake w_impl_frozen__SwapFlake_1).W impl_SwapFlake.g
noncomputable def impl_SwapFlake.wp : List Nat → Int → (List Nat → Int → Bool → Prop) → Prop := impl_SwapFlake.bd impl_ValidFlake.wp impl_frozen__SwapFlake_1.wp
noncomputable def impl_SwapFlake.c : Ctr := impl_SwapFlake.g.ctr impl_SwapFlake.wp

-- loop.example/g01247/laws.FnExactSwapFlake
noncomputable def laws_FnExactSwapFlake.g : Sig := ⟨9, [(.v (.a (.agg [(.int .i64), (.sl 0)])))], [(.rd (.F .f32))], [.lf, .int], [(.v (.a (.one .bool)))], [.keep], [.bool]⟩
noncomputable def laws_FnExactSwapFlake.ib (w_laws_szFlake : List Nat → Int → Int → (Int → Prop) → Prop) (w_laws_toFlake : List Nat → Int → (List Nat → Int → Prop) → Prop) (w_spec_SwapFlake : List Nat → Int → (List Nat → Int → Bool → Prop) → Prop) (w_impl_SwapFlake : List Nat → Int → (List Nat → Int → Bool → Prop) → Prop) (w_laws_eqFlake : List Nat → List Nat → Int → Int → (Bool → Prop) → Prop) (w_laws_markFlake : List Nat → Int → Int → (List Nat → Int → Prop) → Prop) (w_laws_heldFlake : List Nat → Int → Int → (Int → Prop) → Prop) : FnI := ⟨Try.prog, [], [laws_szFlake.g.ctr w_laws_szFlake, laws_toFlake.g.ctr w_laws_toFlake, spec_SwapFlake.g.ctr w_spec_SwapFlake, impl_SwapFlake.g.ctr w_impl_SwapFlake, laws_eqFlake.g.ctr w_laws_eqFlake, laws_markFlake.g.ctr w_laws_markFlake, laws_heldFlake.g.ctr w_laws_heldFlake], 96, [.tmp 2], bodyOf Try.f9, .leaf, []⟩
noncomputable def laws_FnExactSwapFlake.i : FnI := laws_FnExactSwapFlake.ib laws_szFlake.wp laws_toFlake.wp spec_SwapFlake.wp impl_SwapFlake.wp laws_eqFlake.wp laws_markFlake.wp laws_heldFlake.wp
noncomputable def laws_FnExactSwapFlake.bd (w_laws_szFlake : List Nat → Int → Int → (Int → Prop) → Prop) (w_laws_toFlake : List Nat → Int → (List Nat → Int → Prop) → Prop) (w_spec_SwapFlake : List Nat → Int → (List Nat → Int → Bool → Prop) → Prop) (w_impl_SwapFlake : List Nat → Int → (List Nat → Int → Bool → Prop) → Prop) (w_laws_eqFlake : List Nat → List Nat → Int → Int → (Bool → Prop) → Prop) (w_laws_markFlake : List Nat → Int → Int → (List Nat → Int → Prop) → Prop) (w_laws_heldFlake : List Nat → Int → Int → (Int → Prop) → Prop) : List Nat → Int → (Bool → Prop) → Prop := (laws_FnExactSwapFlake.ib w_laws_szFlake w_laws_toFlake w_spec_SwapFlake w_impl_SwapFlake w_laws_eqFlake w_laws_markFlake w_laws_heldFlake).W laws_FnExactSwapFlake.g
noncomputable def laws_FnExactSwapFlake.wp : List Nat → Int → (Bool → Prop) → Prop := laws_FnExactSwapFlake.bd laws_szFlake.wp laws_toFlake.wp spec_SwapFlake.wp impl_SwapFlake.wp laws_eqFlake.wp laws_markFlake.wp laws_heldFlake.wp
noncomputable def laws_FnExactSwapFlake.c : Ctr := laws_FnExactSwapFlake.g.ctr laws_FnExactSwapFlake.wp

-- loop.example/g01247/spec.IceOf
noncomputable def spec_IceOf.g : Sig := ⟨34, [(.v (.a (.agg [(.int .i64), (.sl 0)])))], [(.rd (.F .f32))], [.lf, .int], [(.tup [(.a (.one (.sl 1))), (.a (.one .bool))])], [.keep, (.row 2 (.I .i64))], [.li, .bool]⟩
noncomputable def spec_IceOf.ib (w_spec_l06Is : Int → List Nat → (Bool → Prop) → Prop) (w_spec_l06Ice : Int → List Nat → (List Int → Prop) → Prop) : FnI := ⟨Try.prog, [], [spec_l06Is.g.ctr w_spec_l06Is, spec_l06Ice.g.ctr w_spec_l06Ice], 7, [.tmp 2, .tmp 3], bodyOf Try.f34, .leaf, []⟩
noncomputable def spec_IceOf.i : FnI := spec_IceOf.ib spec_l06Is.wp spec_l06Ice.wp
noncomputable def spec_IceOf.bd (w_spec_l06Is : Int → List Nat → (Bool → Prop) → Prop) (w_spec_l06Ice : Int → List Nat → (List Int → Prop) → Prop) : List Nat → Int → (List Int → Bool → Prop) → Prop := (spec_IceOf.ib w_spec_l06Is w_spec_l06Ice).W spec_IceOf.g
noncomputable def spec_IceOf.wp : List Nat → Int → (List Int → Bool → Prop) → Prop := spec_IceOf.bd spec_l06Is.wp spec_l06Ice.wp
noncomputable def spec_IceOf.c : Ctr := spec_IceOf.g.ctr spec_IceOf.wp

-- loop.example/g01247/impl.IceOf
noncomputable def impl_IceOf.g : Sig := ⟨35, [(.v (.a (.agg [(.int .i64), (.sl 0)])))], [(.rd (.F .f32))], [.lf, .int], [(.tup [(.a (.one (.sl 1))), (.a (.one .bool))])], [.keep, (.row 2 (.I .i64))], [.li, .bool]⟩
noncomputable def impl_IceOf.ib (w_impl_ValidFlake : List Nat → Int → (Bool → Prop) → Prop) (w_impl_Flake_ice : List Nat → Int → (List Int → Prop) → Prop) : FnI := ⟨Try.prog, [], [impl_ValidFlake.g.ctr w_impl_ValidFlake, impl_Flake_ice.g.ctr w_impl_Flake_ice], 9, [.tmp 2, .tmp 3], bodyOf Try.f35, .leaf, []⟩
noncomputable def impl_IceOf.i : FnI := impl_IceOf.ib impl_ValidFlake.wp impl_Flake_ice.wp
noncomputable def impl_IceOf.bd (w_impl_ValidFlake : List Nat → Int → (Bool → Prop) → Prop) (w_impl_Flake_ice : List Nat → Int → (List Int → Prop) → Prop) : List Nat → Int → (List Int → Bool → Prop) → Prop := (impl_IceOf.ib w_impl_ValidFlake w_impl_Flake_ice).W impl_IceOf.g
noncomputable def impl_IceOf.wp : List Nat → Int → (List Int → Bool → Prop) → Prop := impl_IceOf.bd impl_ValidFlake.wp impl_Flake_ice.wp
noncomputable def impl_IceOf.c : Ctr := impl_IceOf.g.ctr impl_IceOf.wp

-- loop.example/g01247/laws.eqInt64S
noncomputable def laws_eqInt64S.g : Sig := ⟨36, [(.v (.a (.one (.sl 0)))), (.v (.a (.one (.sl 1))))], [(.rd (.I .i64)), (.rd (.I .i64))], [.li, .li], [(.v (.a (.one .bool)))], [.keep, .keep], [.bool]⟩
noncomputable def laws_eqInt64S.ib  : FnI := ⟨Try.prog, [], [], 26, [.tmp 4], bodyOf Try.f36, (.seq .leaf (.seq .leaf (.seq (.seq .leaf (.block (.loop ⟨[5], [.int], [(.v (.a (.one (.int .i64))))], [.keep, .keep]⟩ .leaf))) .leaf))), []⟩
noncomputable def laws_eqInt64S.i : FnI := laws_eqInt64S.ib 
noncomputable def laws_eqInt64S.bd  : List Int → List Int → (Bool → Prop) → Prop := (laws_eqInt64S.ib ).W laws_eqInt64S.g
noncomputable def laws_eqInt64S.wp : List Int → List Int → (Bool → Prop) → Prop := laws_eqInt64S.bd 
noncomputable def laws_eqInt64S.c : Ctr := laws_eqInt64S.g.ctr laws_eqInt64S.wp

-- loop.example/g01247/laws.markInt64S
noncomputable def laws_markInt64S.g : Sig := ⟨37, [(.v (.a (.one (.sl 0)))), (.v (.a (.one (.int .i64))))], [(.row 2 (.I .i64))], [.li, .int], [(.v (.a (.one (.int .i64))))], [(.row 2 (.I .i64))], [.li, .int]⟩
noncomputable def laws_markInt64S.ib  : FnI := ⟨Try.prog, [], [], 19, [.tmp 4], bodyOf Try.f37, (.seq .leaf (.seq (.seq .leaf (.block (.loop ⟨[1, 5], [.li, .int, .int], [(.v (.a (.one (.int .i64)))), (.v (.a (.one (.int .i64))))], [(.row 2 (.I .i64))]⟩ .leaf))) .leaf)), [1]⟩
noncomputable def laws_markInt64S.i : FnI := laws_markInt64S.ib 
noncomputable def laws_markInt64S.bd  : List Int → Int → (List Int → Int → Prop) → Prop := (laws_markInt64S.ib ).W laws_markInt64S.g
noncomputable def laws_markInt64S.wp : List Int → Int → (List Int → Int → Prop) → Prop := laws_markInt64S.bd 
noncomputable def laws_markInt64S.c : Ctr := laws_markInt64S.g.ctr laws_markInt64S.wp

-- loop.example/g01247/laws.heldInt64S
noncomputable def laws_heldInt64S.g : Sig := ⟨38, [(.v (.a (.one (.sl 0)))), (.v (.a (.one (.int .i64))))], [(.rd (.I .i64))], [.li, .int], [(.v (.a (.one (.int .i64))))], [.keep], [.int]⟩
noncomputable def laws_heldInt64S.ib  : FnI := ⟨Try.prog, [], [], 21, [.tmp 4], bodyOf Try.f38, (.seq .leaf (.seq (.seq .leaf (.block (.loop ⟨[1, 5], [.int, .int], [(.v (.a (.one (.int .i64)))), (.v (.a (.one (.int .i64))))], [.keep]⟩ .leaf))) .leaf)), [1]⟩
noncomputable def laws_heldInt64S.i : FnI := laws_heldInt64S.ib 
noncomputable def laws_heldInt64S.bd  : List Int → Int → (Int → Prop) → Prop := (laws_heldInt64S.ib ).W laws_heldInt64S.g
noncomputable def laws_heldInt64S.wp : List Int → Int → (Int → Prop) → Prop := laws_heldInt64S.bd 
noncomputable def laws_heldInt64S.c : Ctr := laws_heldInt64S.g.ctr laws_heldInt64S.wp

-- loop.example/g01247/laws.FnExactIceOf
noncomputable def laws_FnExactIceOf.g : Sig := ⟨10, [(.v (.a (.agg [(.int .i64), (.sl 0)])))], [(.rd (.F .f32))], [.lf, .int], [(.v (.a (.one .bool)))], [.keep], [.bool]⟩
noncomputable def laws_FnExactIceOf.ib (w_laws_szFlake : List Nat → Int → Int → (Int → Prop) → Prop) (w_laws_toFlake : List Nat → Int → (List Nat → Int → Prop) → Prop) (w_spec_IceOf : List Nat → Int → (List Int → Bool → Prop) → Prop) (w_impl_IceOf : List Nat → Int → (List Int → Bool → Prop) → Prop) (w_laws_eqInt64S : List Int → List Int → (Bool → Prop) → Prop) (w_laws_eqFlake : List Nat → List Nat → Int → Int → (Bool → Prop) → Prop) (w_laws_markFlake : List Nat → Int → Int → (List Nat → Int → Prop) → Prop) (w_laws_markInt64S : List Int → Int → (List Int → Int → Prop) → Prop) (w_laws_heldInt64S : List Int → Int → (Int → Prop) → Prop) : FnI := ⟨Try.prog, [], [laws_szFlake.g.ctr w_laws_szFlake, laws_toFlake.g.ctr w_laws_toFlake, spec_IceOf.g.ctr w_spec_IceOf, impl_IceOf.g.ctr w_impl_IceOf, laws_eqInt64S.g.ctr w_laws_eqInt64S, laws_eqFlake.g.ctr w_laws_eqFlake, laws_markFlake.g.ctr w_laws_markFlake, laws_markInt64S.g.ctr w_laws_markInt64S, laws_heldInt64S.g.ctr w_laws_heldInt64S], 96, [.tmp 2], bodyOf Try.f10, .leaf, []⟩
noncomputable def laws_FnExactIceOf.i : FnI := laws_FnExactIceOf.ib laws_szFlake.wp laws_toFlake.wp spec_IceOf.wp impl_IceOf.wp laws_eqInt64S.wp laws_eqFlake.wp laws_markFlake.wp laws_markInt64S.wp laws_heldInt64S.wp
noncomputable def laws_FnExactIceOf.bd (w_laws_szFlake : List Nat → Int → Int → (Int → Prop) → Prop) (w_laws_toFlake : List Nat → Int → (List Nat → Int → Prop) → Prop) (w_spec_IceOf : List Nat → Int → (List Int → Bool → Prop) → Prop) (w_impl_IceOf : List Nat → Int → (List Int → Bool → Prop) → Prop) (w_laws_eqInt64S : List Int → List Int → (Bool → Prop) → Prop) (w_laws_eqFlake : List Nat → List Nat → Int → Int → (Bool → Prop) → Prop) (w_laws_markFlake : List Nat → Int → Int → (List Nat → Int → Prop) → Prop) (w_laws_markInt64S : List Int → Int → (List Int → Int → Prop) → Prop) (w_laws_heldInt64S : List Int → Int → (Int → Prop) → Prop) : List Nat → Int → (Bool → Prop) → Prop := (laws_FnExactIceOf.ib w_laws_szFlake w_laws_toFlake w_spec_IceOf w_impl_IceOf w_laws_eqInt64S w_laws_eqFlake w_laws_markFlake w_laws_markInt64S w_laws_heldInt64S).W laws_FnExactIceOf.g
noncomputable def laws_FnExactIceOf.wp : List Nat → Int → (Bool → Prop) → Prop := laws_FnExactIceOf.bd laws_szFlake.wp laws_toFlake.wp spec_IceOf.wp impl_IceOf.wp laws_eqInt64S.wp laws_eqFlake.wp laws_markFlake.wp laws_markInt64S.wp laws_heldInt64S.wp
noncomputable def laws_FnExactIceOf.c : Ctr := laws_FnExactIceOf.g.ctr laws_FnExactIceOf.wp

-- loop.example/g01247/laws.r8Long
noncomputable def laws_r8Long.g : Sig := ⟨39, [(.v (.a (.one (.sl 0)))), (.v (.a (.one (.sl 1))))], [(.rd (.I .u8)), (.rd (.I .u8))], [.li, .li], [(.v (.a (.one .bool)))], [.keep, .keep], [.bool]⟩
noncomputable def laws_r8Long.ib  : FnI := ⟨Try.prog, [], [], 13, [.tmp 4], bodyOf Try.f39, .leaf, []⟩
noncomputable def laws_r8Long.i : FnI := laws_r8Long.ib 
noncomputable def laws_r8Long.bd  : List Int → List Int → (Bool → Prop) → Prop := (laws_r8Long.ib ).W laws_r8Long.g
noncomputable def laws_r8Long.wp : List Int → List Int → (Bool → Prop) → Prop := laws_r8Long.bd 
noncomputable def laws_r8Long.c : Ctr := laws_r8Long.g.ctr laws_r8Long.wp

-- loop.example/g01247/spec.l00From
noncomputable def spec_l00From.g : Sig := ⟨69, [(.v (.a (.one (.sl 0))))], [(.rd (.I .u8))], [.li], [(.v (.a (.one (.pt 1 0))))], [.keep, (.box 90 [(.sl 0), (.int .i64), (.int .u64)])], [.int, .int]⟩
noncomputable def spec_l00From.ib  : FnI := ⟨Try.prog, [], [], 6, [.tmp 2], bodyOf Try.f69, .leaf, []⟩
noncomputable def spec_l00From.i : FnI := spec_l00From.ib 
noncomputable def spec_l00From.bd  : List Int → (Int → Int → Prop) → Prop := (spec_l00From.ib ).W spec_l00From.g
noncomputable def spec_l00From.wp : List Int → (Int → Int → Prop) → Prop := spec_l00From.bd 
noncomputable def spec_l00From.c : Ctr := spec_l00From.g.ctr spec_l00From.wp

-- (*loop.example/g01247/spec.l00Src).next
noncomputable def spec_l00Src_next.g : Sig := ⟨91, [(.v (.a (.one (.pt 0 0))))], [(.box 90 [(.sl 1), (.int .i64), (.int .u64)]), (.rd (.I .u8))], [.int, .int, .li], [(.v (.a (.one (.int .i64))))], [(.box 90 [(.sl 1), (.int .i64), (.int .u64)]), .keep], [.int, .int, .int]⟩
noncomputable def spec_l00Src_next.ib  : FnI := ⟨Try.prog, [], [], 62, [.tmp 2], bodyOf Try.f91, (.seq .leaf (.seq .leaf (.seq (.seq .leaf (.condJ ⟨[3], [.int, .int, .int], [(.v (.a (.one (.int .i64))))], [(.box 90 [(.sl 1), (.int .i64), (.int .u64)]), .keep]⟩ .leaf .leaf)) .leaf))), []⟩
noncomputable def spec_l00Src_next.i : FnI := spec_l00Src_next.ib 
noncomputable def spec_l00Src_next.bd  : Int → Int → List Int → (Int → Int → Int → Prop) → Prop := (spec_l00Src_next.ib ).W spec_l00Src_next.g
noncomputable def spec_l00Src_next.wp : Int → Int → List Int → (Int → Int → Int → Prop) → Prop := spec_l00Src_next.bd 
noncomputable def spec_l00Src_next.c : Ctr := spec_l00Src_next.g.ctr spec_l00Src_next.wp

-- (*loop.example/g01247/spec.l00Src).pick
noncomputable def spec_l00Src_pick.g : Sig := ⟨83, [(.v (.a (.one (.pt 0 0)))), (.v (.a (.one (.int .i64))))], [(.box 90 [(.sl 1), (.int .i64), (.int .u64)]), (.rd (.I .u8))], [.int, .int, .li, .int], [(.v (.a (.one (.int .i64))))], [(.box 90 [(.sl 1), (.int .i64), (.int .u64)]), .keep], [.int, .int, .int]⟩
noncomputable def spec_l00Src_pick.ib (w_spec_l00Src_next : Int → Int → List Int → (Int → Int → Int → Prop) → Prop) : FnI := ⟨Try.prog, [], [spec_l00Src_next.g.ctr w_spec_l00Src_next], 20, [.tmp 4], bodyOf Try.f83, .leaf, []⟩
noncomputable def spec_l00Src_pick.i : FnI := spec_l00Src_pick.ib spec_l00Src_next.wp
noncomputable def spec_l00Src_pick.bd (w_spec_l00Src_next : Int → Int → List Int → (Int → Int → Int → Prop) → Prop) : Int → Int → List Int → Int → (Int → Int → Int → Prop) → Prop := (spec_l00Src_pick.ib w_spec_l00Src_next).W spec_l00Src_pick.g
noncomputable def spec_l00Src_pick.wp : Int → Int → List Int → Int → (Int → Int → Int → Prop) → Prop := spec_l00Src_pick.bd spec_l00Src_next.wp
noncomputable def spec_l00Src_pick.c : Ctr := spec_l00Src_pick.g.ctr spec_l00Src_pick.wp

-- loop.example/g01247/spec.l06DrawOk
noncomputable def spec_l06DrawOk.g : Sig := ⟨70, [(.v (.a (.one (.pt 0 0))))], [(.box 90 [(.sl 1), (.int .i64), (.int .u64)]), (.rd (.I .u8))], [.int, .int, .li], [(.v (.a (.agg [(.int .i64), (.sl 2)])))], [(.box 90 [(.sl 1), (.int .i64), (.int .u64)]), .keep, (.row 22 (.F .f32))], [.int, .int, .lf, .int]⟩
noncomputable def spec_l06DrawOk.ib (w_spec_l00Src_pick : Int → Int → List Int → Int → (Int → Int → Int → Prop) → Prop) (w_spec_l06New : Int → Nat → (List Nat → Int → Prop) → Prop) : FnI := ⟨Try.prog, [], [spec_l00Src_pick.g.ctr w_spec_l00Src_pick, spec_l06New.g.ctr w_spec_l06New], 36, [.cell 2 34], bodyOf Try.f70, (.seq .leaf (.seq .leaf (.seq .leaf (.seq (.seq .leaf (.block (.loop ⟨[2, 3, 4, 5], [.int, .int, .int, .int, .lf, .lf, .int, .int], [(.v (.a (.one (.pt 2 0)))), (.v (.a (.one (.int .i64)))), (.v (.a (.one (.pt 3 0)))), (.v (.a (.one (.int .i64))))], [(.box 90 [(.sl 1), (.int .i64), (.int .u64)]), .keep, (.box 34 [(.int .i64), (.sl 4)]), (.box 34 [(.int .i64), (.sl 5)]), (.row 22 (.F .f32)), (.row 22 (.F .f32))]⟩ .leaf))) .leaf)))), []⟩
noncomputable def spec_l06DrawOk.i : FnI := spec_l06DrawOk.ib spec_l00Src_pick.wp spec_l06New.wp
noncomputable def spec_l06DrawOk.bd (w_spec_l00Src_pick : Int → Int → List Int → Int → (Int → Int → Int → Prop) → Prop) (w_spec_l06New : Int → Nat → (List Nat → Int → Prop) → Prop) : Int → Int → List Int → (Int → Int → List Nat → Int → Prop) → Prop := (spec_l06DrawOk.ib w_spec_l00Src_pick w_spec_l06New).W spec_l06DrawOk.g
noncomputable def spec_l06DrawOk.wp : Int → Int → List Int → (Int → Int → List Nat → Int → Prop) → Prop := spec_l06DrawOk.bd spec_l00Src_pick.wp spec_l06New.wp
noncomputable def spec_l06DrawOk.c : Ctr := spec_l06DrawOk.g.ctr spec_l06DrawOk.wp

-- loop.example/g01247/spec.R8Flake
noncomputable def spec_R8Flake.g : Sig := ⟨40, [(.v (.a (.one (.sl 0))))], [(.rd (.I .u8))], [.li], [(.v (.a (.agg [(.int .i64), (.sl 1)])))], [.keep, (.row 22 (.F .f32))], [.lf, .int]⟩
noncomputable def spec_R8Flake.ib (w_spec_l00From : List Int → (Int → Int → Prop) → Prop) (w_spec_l06DrawOk : Int → Int → List Int → (Int → Int → List Nat → Int → Prop) → Prop) : FnI := ⟨Try.prog, [], [spec_l00From.g.ctr w_spec_l00From, spec_l06DrawOk.g.ctr w_spec_l06DrawOk], 8, [.cell 2 34], bodyOf Try.f40, .leaf, []⟩
noncomputable def spec_R8Flake.i : FnI := spec_R8Flake.ib spec_l00From.wp spec_l06DrawOk.wp
noncomputable def spec_R8Flake.bd (w_spec_l00From : List Int → (Int → Int → Prop) → Prop) (w_spec_l06DrawOk : Int → Int → List Int → (Int → Int → List Nat → Int → Prop) → Prop) : List Int → (List Nat → Int → Prop) → Prop := (spec_R8Flake.ib w_spec_l00From w_spec_l06DrawOk).W spec_R8Flake.g
noncomputable def spec_R8Flake.wp : List Int → (List Nat → Int → Prop) → Prop := spec_R8Flake.bd spec_l00From.wp spec_l06DrawOk.wp
noncomputable def spec_R8Flake.c : Ctr := spec_R8Flake.g.ctr spec_R8Flake.wp

-- loop.example/g01247/laws.r8At
noncomputable def laws_r8At.g : Sig := ⟨41, [(.v (.a (.one (.sl 0)))), (.v (.a (.one (.int .i64)))), (.v (.a (.one (.int .i64))))], [(.rd (.I .u8))], [.li, .int, .int], [(.v (.a (.one (.int .i64))))], [.keep], [.int]⟩
noncomputable def laws_r8At.ib  : FnI := ⟨Try.prog, [], [], 22, [.tmp 6], bodyOf Try.f41, .leaf, []⟩
noncomputable def laws_r8At.i : FnI := laws_r8At.ib 
noncomputable def laws_r8At.bd  : List Int → Int → Int → (Int → Prop) → Prop := (laws_r8At.ib ).W laws_r8At.g
noncomputable def laws_r8At.wp : List Int → Int → Int → (Int → Prop) → Prop := laws_r8At.bd 
noncomputable def laws_r8At.c : Ctr := laws_r8At.g.ctr laws_r8At.wp

-- slices.Clone[[]float32,float32]
noncomputable def slices_Clone_float32_float32.g : Sig := ⟨71, [(.v (.a (.one (.sl 0))))], [(.rd (.F .f32))], [.lf], [(.v (.a (.one (.sl 1))))], [.keep, (.row 22 (.F .f32))], [.lf]⟩
noncomputable def slices_Clone_float32_float32.ib  : FnI := ⟨Try.prog, [], [], 8, [.tmp 2], bodyOf Try.f71, .leaf, []⟩
noncomputable def slices_Clone_float32_float32.i : FnI := slices_Clone_float32_float32.ib 
noncomputable def slices_Clone_float32_float32.bd  : List Nat → (List Nat → Prop) → Prop := (slices_Clone_float32_float32.ib ).W slices_Clone_float32_float32.g
noncomputable def slices_Clone_float32_float32.wp : List Nat → (List Nat → Prop) → Prop := slices_Clone_float32_float32.bd 
noncomputable def slices_Clone_float32_float32.c : Ctr := slices_Clone_float32_float32.g.ctr slices_Clone_float32_float32.wp

-- (loop.example/g01247/impl.Flake).beside
noncomputable def impl_Flake_beside.g : Sig := ⟨74, [(.v (.a (.agg [(.int .i64), (.sl 0)]))), (.v (.a (.one (.int .i64)))), (.v (.a (.one (.int .i64))))], [(.rd (.F .f32))], [.lf, .int, .int, .int], [(.v (.a (.one (.sl 1))))], [.keep, (.row 2 (.I .i64))], [.li]⟩
noncomputable def impl_Flake_beside.ib (w_impl_within : Int → Int → Int → (Bool → Prop) → Prop) : FnI := ⟨Try.prog, [], [impl_within.g.ctr w_impl_within], 56, [.tmp 6], bodyOf Try.f74, (.seq .leaf (.seq .leaf (.seq (.seq .leaf (.block (.loop ⟨[3, 7, 17, 18], [.int, .li, .int, .int, .int, .int, .int, .int, .int, .int, .int, .int, .int, .int, .int], [(.v (.a (.one (.pt 1 0)))), (.v (.a (.one (.sl 2)))), (.v (.a (.agg [(.int .i64), (.int .i64), (.int .i64), (.int .i64), (.int .i64), (.int .i64), (.int .i64), (.int .i64), (.int .i64), (.int .i64), (.int .i64), (.int .i64)]))), (.v (.a (.one (.int .i64))))], [.keep, (.box 34 [(.int .i64), (.sl 0)]), (.row 2 (.I .i64))]⟩ .leaf))) .leaf))), []⟩
noncomputable def impl_Flake_beside.i : FnI := impl_Flake_beside.ib impl_within.wp
noncomputable def impl_Flake_beside.bd (w_impl_within : Int → Int → Int → (Bool → Prop) → Prop) : List Nat → Int → Int → Int → (List Int → Prop) → Prop := (impl_Flake_beside.ib w_impl_within).W impl_Flake_beside.g
noncomputable def impl_Flake_beside.wp : List Nat → Int → Int → Int → (List Int → Prop) → Prop := impl_Flake_beside.bd impl_within.wp
noncomputable def impl_Flake_beside.c : Ctr := impl_Flake_beside.g.ctr impl_Flake_beside.wp

-- (loop.example/g01247/impl.Flake).isReady$1
noncomputable def impl_Flake_isReady_1.g : Sig := ⟨85, [(.v (.a (.one (.int .i64)))), (.v (.a (.one (.pt 0 0))))], [(.rdb [(.int .i64), (.sl 1)]), (.rd (.F .f32))], [.int, .lf, .int], [(.v (.a (.one .bool)))], [.keep, .keep], [.bool]⟩
noncomputable def impl_Flake_isReady_1.ib  : FnI := ⟨Try.prog, [], [], 10, [.tmp 3], bodyOf Try.f85, .leaf, []⟩
noncomputable def impl_Flake_isReady_1.i : FnI := impl_Flake_isReady_1.ib 
noncomputable def impl_Flake_isReady_1.bd  : Int → List Nat → Int → (Bool → Prop) → Prop := (impl_Flake_isReady_1.ib ).W impl_Flake_isReady_1.g
noncomputable def impl_Flake_isReady_1.wp : Int → List Nat → Int → (Bool → Prop) → Prop := impl_Flake_isReady_1.bd 
noncomputable def impl_Flake_isReady_1.c : Ctr := impl_Flake_isReady_1.g.ctr impl_Flake_isReady_1.wp

-- slices.IndexFunc[[]int64,int64]
noncomputable def slices_IndexFunc_int64_int64__Flake_isReady_1.g : Sig := ⟨92, [(.v (.a (.one (.sl 0)))), (.v (.fn 85 [] [(.one (.pt 1 0))]))], [(.rd (.I .i64)), (.rdb [(.int .i64), (.sl 2)]), (.rd (.F .f32))], [.li, .int, .lf], [(.v (.a (.one (.int .i64))))], [.keep, .keep, .keep], [.int]⟩
noncomputable def slices_IndexFunc_int64_int64__Flake_isReady_1.ib (w_impl_Flake_isReady_1 : Int → List Nat → Int → (Bool → Prop) → Prop) : FnI := ⟨Try.prog, [], [impl_Flake_isReady_1.g.ctr w_impl_Flake_isReady_1], 19, [.tmp 4], bodyOf Try.f92, (.seq .leaf (.seq (.seq .leaf (.block (.loop ⟨[7, 8], [.int, .int], [(.v (.a (.one (.int .i64)))), (.v (.a (.one (.int .i64))))], [.keep, .keep, .keep]⟩ .leaf))) .leaf)), []⟩
noncomputable def slices_IndexFunc_int64_int64__Flake_isReady_1.i : FnI := slices_IndexFunc_int64_int64__Flake_isReady_1.ib impl_Flake_isReady_1.wp
noncomputable def slices_IndexFunc_int64_int64__Flake_isReady_1.bd (w_impl_Flake_isReady_1 : Int → List Nat → Int → (Bool → Prop) → Prop) : List Int → Int → List Nat → (Int → Prop) → Prop := (slices_IndexFunc_int64_int64__Flake_isReady_1.ib w_impl_Flake_isReady_1).W slices_IndexFunc_int64_int64__Flake_isReady_1.g
noncomputable def slices_IndexFunc_int64_int64__Flake_isReady_1.wp : List Int → Int → List Nat → (Int → Prop) → Prop := slices_IndexFunc_int64_int64__Flake_isReady_1.bd impl_Flake_isReady_1.wp
noncomputable def slices_IndexFunc_int64_int64__Flake_isReady_1.c : Ctr := slices_IndexFunc_int64_int64__Flake_isReady_1.g.ctr slices_IndexFunc_int64_int64__Flake_isReady_1.wp

-- slices.ContainsFunc[[]int64,int64]
noncomputable def slices_ContainsFunc_int64_int64__Flake_isReady_1.g : Sig := ⟨84, [(.v (.a (.one (.sl 0)))), (.v (.fn 85 [] [(.one (.pt 1 0))]))], [(.rd (.I .i64)), (.rdb [(.int .i64), (.sl 2)]), (.rd (.F .f32))], [.li, .int, .lf], [(.v (.a (.one .bool)))], [.keep, .keep, .keep], [.bool]⟩
noncomputable def slices_ContainsFunc_int64_int64__Flake_isReady_1.ib (w_slices_IndexFunc_int64_int64__Flake_isReady_1 : List Int → Int → List Nat → (Int → Prop) → Prop) : FnI := ⟨Try.prog, [], [slices_IndexFunc_int64_int64__Flake_isReady_1.g.ctr w_slices_IndexFunc_int64_int64__Flake_isReady_1], 9, [.tmp 4], bodyOf Try.f84, .leaf, []⟩
noncomputable def slices_ContainsFunc_int64_int64__Flake_isReady_1.i : FnI := slices_ContainsFunc_int64_int64__Flake_isReady_1.ib slices_IndexFunc_int64_int64__Flake_isReady_1.wp
noncomputable def slices_ContainsFunc_int64_int64__Flake_isReady_1.bd (w_slices_IndexFunc_int64_int64__Flake_isReady_1 : List Int → Int → List Nat → (Int → Prop) → Prop) : List Int → Int → List Nat → (Bool → Prop) → Prop := (slices_ContainsFunc_int64_int64__Flake_isReady_1.ib w_slices_IndexFunc_int64_int64__Flake_isReady_1).W slices_ContainsFunc_int64_int64__Flake_isReady_1.g
noncomputable def slices_ContainsFunc_int64_int64__Flake_isReady_1.wp : List Int → Int → List Nat → (Bool → Prop) → Prop := slices_ContainsFunc_int64_int64__Flake_isReady_1.bd slices_IndexFunc_int64_int64__Flake_isReady_1.wp
noncomputable def slices_ContainsFunc_int64_int64__Flake_isReady_1.c : Ctr := slices_ContainsFunc_int64_int64__Flake_isReady_1.g.ctr slices_ContainsFunc_int64_int64__Flake_isReady_1.wp

-- (loop.example/g01247/impl.Flake).isReady
noncomputable def impl_Flake_isReady.g : Sig := ⟨72, [(.v (.a (.agg [(.int .i64), (.sl 0)]))), (.v (.a (.one (.int .i64))))], [(.rd (.F .f32))], [.lf, .int, .int], [(.v (.a (.one .bool)))], [.keep], [.bool]⟩
noncomputable def impl_Flake_isReady.ib (w_impl_Flake_beside : List Nat → Int → Int → Int → (List Int → Prop) → Prop) (w_slices_ContainsFunc_int64_int64__Flake_isReady_1 : List Int → Int → List Nat → (Bool → Prop) → Prop) : FnI := ⟨Try.prog, [], [impl_Flake_beside.g.ctr w_impl_Flake_beside, slices_ContainsFunc_int64_int64__Flake_isReady_1.g.ctr w_slices_ContainsFunc_int64_int64__Flake_isReady_1], 25, [.tmp 4], bodyOf Try.f72, .leaf, []⟩
noncomputable def impl_Flake_isReady.i : FnI := impl_Flake_isReady.ib impl_Flake_beside.wp slices_ContainsFunc_int64_int64__Flake_isReady_1.wp
noncomputable def impl_Flake_isReady.bd (w_impl_Flake_beside : List Nat → Int → Int → Int → (List Int → Prop) → Prop) (w_slices_ContainsFunc_int64_int64__Flake_isReady_1 : List Int → Int → List Nat → (Bool → Prop) → Prop) : List Nat → Int → Int → (Bool → Prop) → Prop := (impl_Flake_isReady.ib w_impl_Flake_beside w_slices_ContainsFunc_int64_int64__Flake_isReady_1).W impl_Flake_isReady.g
noncomputable def impl_Flake_isReady.wp : List Nat → Int → Int → (Bool → Prop) → Prop := impl_Flake_isReady.bd impl_Flake_beside.wp slices_ContainsFunc_int64_int64__Flake_isReady_1.wp
noncomputable def impl_Flake_isReady.c : Ctr := impl_Flake_isReady.g.ctr impl_Flake_isReady.wp

-- loop.example/g01247/impl.StepFlake$1
noncomputable def impl_StepFlake_1.g : Sig := ⟨73, [(.v (.a (.one (.int .i64)))), (.v (.a (.one (.int .i64)))), (.v (.a (.one (.pt 0 0)))), (.v (.a (.one (.pt 2 0)))), (.v (.a (.one (.pt 4 0)))), (.v (.a (.one (.pt 5 0)))), (.v (.a (.one (.pt 7 0))))], [(.rdb [(.int .i64), (.sl 1)]), (.rd (.F .f32)), (.rdb [(.sl 3)]), (.rd (.F .f32)), (.rdb [(.flt .f32)]), (.rdb [(.sl 6)]), (.rd .B), (.rdb [(.flt .f32)])], [.int, .lf, .lf, .flt, .lb, .flt, .int, .int], [(.v (.a (.one (.flt .f32))))], [.keep, .keep, .keep, .keep, .keep, .keep, .keep, .keep], [.flt]⟩
noncomputable def impl_StepFlake_1.ib (w_impl_Flake_beside : List Nat → Int → Int → Int → (List Int → Prop) → Prop) : FnI := ⟨Try.prog, [], [impl_Flake_beside.g.ctr w_impl_Flake_beside], 76, [.tmp 9], bodyOf Try.f73, (.seq .leaf (.seq .leaf (.seq .leaf (.seq (.seq .leaf (.block (.loop ⟨[10, 11, 12, 13, 31, 32, 33], [.li, .int, .flt, .flt, .int, .int], [(.v (.a (.one (.int .i64)))), (.v (.a (.one (.sl 8)))), (.v (.a (.one (.flt .f32)))), (.v (.a (.one (.flt .f32)))), (.v (.a (.one (.sl 8)))), (.v (.a (.one (.int .i64)))), (.v (.a (.one (.int .i64))))], [.keep, .keep, .keep, .keep, .keep, .keep, .keep, .keep, (.row 2 (.I .i64))]⟩ .leaf))) (.seq (.seq .leaf (.block (.loop ⟨[10, 12, 13, 46, 47], [.int, .flt, .flt, .int, .int], [(.v (.a (.one (.int .i64)))), (.v (.a (.one (.flt .f32)))), (.v (.a (.one (.flt .f32)))), (.v (.a (.one (.int .i64)))), (.v (.a (.one (.int .i64))))], [.keep, .keep, .keep, .keep, .keep, .keep, .keep, .keep]⟩ .leaf))) .leaf))))), []⟩
noncomputable def impl_StepFlake_1.i : FnI := impl_StepFlake_1.ib impl_Flake_beside.wp
noncomputable def impl_StepFlake_1.bd (w_impl_Flake_beside : List Nat → Int → Int → Int → (List Int → Prop) → Prop) : Int → List Nat → List Nat → Nat → List Bool → Nat → Int → Int → (Nat → Prop) → Prop := (impl_StepFlake_1.ib w_impl_Flake_beside).W impl_StepFlake_1.g
noncomputable def impl_StepFlake_1.wp : Int → List Nat → List Nat → Nat → List Bool → Nat → Int → Int → (Nat → Prop) → Prop := impl_StepFlake_1.bd impl_Flake_beside.wp
noncomputable def impl_StepFlake_1.c : Ctr := impl_StepFlake_1.g.ctr impl_StepFlake_1.wp

-- loop.example/g01247/impl.frozen
noncomputable def impl_frozen__StepFlake_1.g : Sig := ⟨60, [(.v (.a (.one (.int .i64)))), (.v (.fn 73 [] [(.one (.pt 0 0)), (.one (.pt 2 0)), (.one (.pt 4 0)), (.one (.pt 5 0)), (.one (.pt 7 0))]))], [(.rdb [(.int .i64), (.sl 1)]), (.rd (.F .f32)), (.rdb [(.sl 3)]), (.rd (.F .f32)), (.rdb [(.flt .f32)]), (.rdb [(.sl 6)]), (.rd .B), (.rdb [(.flt .f32)])], [.int, .lf, .lf, .flt, .lb, .flt, .int], [(.tup [(.a (.agg [(.int .i64), (.sl 8)])), (.a (.one .bool))])], [.keep, .keep, .keep, .keep, .keep, .keep, .keep, .keep, (.row 22 (.F .f32))], [.lf, .int, .bool]⟩
noncomputable def impl_frozen__StepFlake_1.ib (w_impl_StepFlake_1 : Int → List Nat → List Nat → Nat → List Bool → Nat → Int → Int → (Nat → Prop) → Prop) (w_impl_ValidFlake : List Nat → Int → (Bool → Prop) → Prop) : FnI := ⟨Try.prog, [], [impl_StepFlake_1.g.ctr w_impl_StepFlake_1, impl_ValidFlake.g.ctr w_impl_ValidFlake], 35, [.cell 4 34, .tmp 5], bodyOf Try.f60, (.seq .leaf (.seq .leaf (.seq (.seq .leaf (.block (.loop ⟨[4, 6, 11, 12], [.int, .int, .lf, .lf, .int, .int], [(.v (.a (.one (.pt 8 0)))), (.v (.a (.one (.pt 9 0)))), (.v (.a (.one (.int .i64)))), (.v (.a (.one (.int .i64))))], [.keep, .keep, .keep, .keep, .keep, .keep, .keep, .keep, (.box 34 [(.int .i64), (.sl 10)]), (.box 34 [(.int .i64), (.sl 11)]), (.row 22 (.F .f32)), (.row 22 (.F .f32))]⟩ (.seq .leaf (.seq .leaf (.seq (.block (.seq .leaf (.seq .leaf (.block (.loop ⟨[4, 6, 7, 11, 12, 15, 16], [.int, .int, .lf, .lf, .int, .int, .int, .int, .int], [(.v (.a (.one (.pt 8 0)))), (.v (.a (.one (.pt 9 0)))), (.v (.a (.one (.int .i64)))), (.v (.a (.one (.int .i64)))), (.v (.a (.one (.int .i64)))), (.v (.a (.one (.int .i64)))), (.v (.a (.one (.int .i64))))], [.keep, .keep, .keep, .keep, .keep, .keep, .keep, .keep, (.box 34 [(.int .i64), (.sl 10)]), (.box 34 [(.int .i64), (.sl 11)]), (.row 22 (.F .f32)), (.row 22 (.F .f32))]⟩ .leaf))))) .leaf)))))) .leaf))), []⟩
noncomputable def impl_frozen__StepFlake_1.i : FnI := impl_frozen__StepFlake_1.ib impl_StepFlake_1.wp impl_ValidFlake.wp
noncomputable def impl_frozen__StepFlake_1.bd (w_impl_StepFlake_1 : Int → List Nat → List Nat → Nat → List Bool → Nat → Int → Int → (Nat → Prop) → Prop) (w_impl_ValidFlake : List Nat → Int → (Bool → Prop) → Prop) : Int → List Nat → List Nat → Nat → List Bool → Nat → Int → (List Nat → Int → Bool → Prop) → Prop := (impl_frozen__StepFlake_1.ib w_impl_StepFlake_1 w_impl_ValidFlake).W impl_frozen__StepFlake_1.g
noncomputable def impl_frozen__StepFlake_1.wp : Int → List Nat → List Nat → Nat → List Bool → Nat → Int → (List Nat → Int → Bool → Prop) → Prop := impl_frozen__StepFlake_1.bd impl_StepFlake_1.wp impl_ValidFlake.wp
noncomputable def impl_frozen__StepFlake_1.c : Ctr := impl_frozen__StepFlake_1.g.ctr impl_frozen__StepFlake_1.wp

-- loop.example/g01247/impl.StepFlake
noncomputable def impl_StepFlake.g : Sig := ⟨43, [(.v (.a (.agg [(.int .i64), (.sl 0)]))), (.v (.a (.one (.flt .f32)))), (.v (.a (.one (.flt .f32))))], [(.rd (.F .f32))], [.lf, .int, .flt, .flt], [(.tup [(.a (.agg [(.int .i64), (.sl 1)])), (.a (.one .bool))])], [.keep, (.row 22 (.F .f32))], [.lf, .int, .bool]⟩
noncomputable def impl_StepFlake.ib (w_impl_ValidFlake : List Nat → Int → (Bool → Prop) → Prop) (w_impl_areFinite : List Nat → (Bool → Prop) → Prop) (w_impl_Flake_isReady : List Nat → Int → Int → (Bool → Prop) → Prop) (w_impl_frozen__StepFlake_1 : Int → List Nat → List Nat → Nat → List Bool → Nat → Int → (List Nat → Int → Bool → Prop) → Prop) : FnI := ⟨Try.prog, [], [impl_ValidFlake.g.ctr w_impl_ValidFlake, impl_areFinite.g.ctr w_impl_areFinite, impl_Flake_isReady.g.ctr w_impl_Flake_isReady, impl_frozen__StepFlake_1.g.ctr w_impl_frozen__StepFlake_1], 53, [.cell 6 34, .tmp 7], bodyOf Try.f43, (.seq .leaf (.seq .leaf (.seq .leaf (.seq (.seq .leaf (.block (.loop ⟨[3, 4, 5, 6, 8, 9, 27, 28, 29], [.int, .flt, .flt, .int, .lf, .lf, .lb, .int, .int], [(.v (.a (.one (.pt 1 0)))), (.v (.a (.one (.pt 2 0)))), (.v (.a (.one (.pt 3 0)))), (.v (.a (.one (.pt 4 0)))), (.v (.a (.one (.pt 5 0)))), (.v (.a (.one (.pt 6 0)))), (.v (.a (.one (.sl 0)))), (.v (.a (.one (.int .i64)))), (.v (.a (.one (.int .i64))))], [.keep, (.box 34 [(.int .i64), (.sl 0)]), (.box 22 [(.flt .f32)]), (.box 22 [(.flt .f32)]), (.box 34 [(.int .i64), (.sl 7)]), (.box 29 [(.sl 8)]), (.box 79 [(.sl 9)]), (.row 22 (.F .f32)), (.row 22 (.F .f32)), (.row 4 .B)]⟩ (.seq .leaf (.seq .leaf (.seq (.block (.seq .leaf (.seq .leaf (.seq (.seq .leaf (.condJ ⟨[3, 4, 5, 6, 8, 9, 11, 12, 27, 28, 29], [.int, .flt, .flt, .int, .lf, .lf, .lb, .flt, .bool, .int, .int], [(.v (.a (.one (.pt 1 0)))), (.v (.a (.one (.pt 2 0)))), (.v (.a (.one (.pt 3 0)))), (.v (.a (.one (.pt 4 0)))), (.v (.a (.one (.pt 5 0)))), (.v (.a (.one (.pt 6 0)))), (.v (.a (.one (.flt .f32)))), (.v (.a (.one .bool))), (.v (.a (.one (.sl 0)))), (.v (.a (.one (.int .i64)))), (.v (.a (.one (.int .i64))))], [.keep, (.box 34 [(.int .i64), (.sl 0)]), (.box 22 [(.flt .f32)]), (.box 22 [(.flt .f32)]), (.box 34 [(.int .i64), (.sl 7)]), (.box 29 [(.sl 8)]), (.box 79 [(.sl 9)]), (.row 22 (.F .f32)), (.row 22 (.F .f32)), (.row 4 .B)]⟩ .leaf .leaf)) .leaf)))) .leaf)))))) .leaf)))), []⟩
noncomputable def impl_StepFlake.i : FnI := impl_StepFlake.ib impl_ValidFlake.wp impl_areFinite.wp impl_Flake_isReady.wp impl_frozen__StepFlake_1.wp
noncomputable def impl_StepFlake.bd (w_impl_ValidFlake : List Nat → Int → (Bool → Prop) → Prop) (w_impl_areFinite : List Nat → (Bool → Prop) → Prop) (w_impl_Flake_isReady : List Nat → Int → Int → (Bool → Prop) → Prop) (w_impl_frozen__StepFlake_1 : Int → List Nat → List Nat → Nat → List Bool → Nat → Int → (List Nat → Int → Bool → Prop) → Prop) : List Nat → Int → Nat → Nat → (List Nat → Int → Bool → Prop) → Prop := (impl_StepFlake.ib w_impl_ValidFlake w_impl_areFinite w_impl_Flake_isReady w_impl_frozen__StepFlake_1).W impl_StepFlake.g
noncomputable def impl_StepFlake.wp : List Nat → Int → Nat → Nat → (List Nat → Int → Bool → Prop) → Prop := impl_StepFlake.bd impl_ValidFlake.wp impl_areFinite.wp impl_Flake_isReady.wp impl_frozen__StepFlake_1.wp
noncomputable def impl_StepFlake.c : Ctr := impl_StepFlake.g.ctr impl_StepFlake.wp

-- loop.example/g01247/impl.RunFlake
noncomputable def impl_RunFlake.g : Sig := ⟨42, [(.v (.a (.agg [(.int .i64), (.sl 0)]))), (.v (.a (.one (.flt .f32)))), (.v (.a (.one (.flt .f32)))), (.v (.a (.one (.int .i64))))], [(.rd (.F .f32))], [.lf, .int, .flt, .flt, .int], [(.tup [(.a (.agg [(.int .i64), (.sl 1)])), (.a (.one (.sl 2))), (.a (.one .bool))])], [.keep, (.row 22 (.F .f32)), (.row 2 (.I .i64))], [.lf, .li, .int, .bool]⟩
noncomputable def impl_RunFlake.ib (w_impl_ValidFlake : List Nat → Int → (Bool → Prop) → Prop) (w_impl_areFinite : List Nat → (Bool → Prop) → Prop) (w_impl_within : Int → Int → Int → (Bool → Prop) → Prop) (w_slices_Clone_float32_float32 : List Nat → (List Nat → Prop) → Prop) (w_impl_StepFlake : List Nat → Int → Nat → Nat → (List Nat → Int → Bool → Prop) → Prop) (w_impl_Flake_ice : List Nat → Int → (List Int → Prop) → Prop) : FnI := ⟨Try.prog, [], [impl_ValidFlake.g.ctr w_impl_ValidFlake, impl_areFinite.g.ctr w_impl_areFinite, impl_within.g.ctr w_impl_within, slices_Clone_float32_float32.g.ctr w_slices_Clone_float32_float32, impl_StepFlake.g.ctr w_impl_StepFlake, impl_Flake_ice.g.ctr w_impl_Flake_ice], 58, [.cell 8 34, .tmp 9, .tmp 10], bodyOf Try.f42, (.seq .leaf (.seq .leaf (.seq .leaf (.seq .leaf (.seq (.seq .leaf (.block (.loop ⟨[4, 8, 11, 35, 36], [.int, .int, .li, .lf, .lf, .int, .int], [(.v (.a (.one (.pt 1 0)))), (.v (.a (.one (.pt 2 0)))), (.v (.a (.one (.sl 3)))), (.v (.a (.one (.int .i64)))), (.v (.a (.one (.int .i64))))], [.keep, (.box 34 [(.int .i64), (.sl 4)]), (.box 34 [(.int .i64), (.sl 5)]), (.row 2 (.I .i64)), (.row 22 (.F .f32)), (.row 22 (.F .f32))]⟩ .leaf))) .leaf))))), []⟩
noncomputable def impl_RunFlake.i : FnI := impl_RunFlake.ib impl_ValidFlake.wp impl_areFinite.wp impl_within.wp slices_Clone_float32_float32.wp impl_StepFlake.wp impl_Flake_ice.wp
noncomputable def impl_RunFlake.bd (w_impl_ValidFlake : List Nat → Int → (Bool → Prop) → Prop) (w_impl_areFinite : List Nat → (Bool → Prop) → Prop) (w_impl_within : Int → Int → Int → (Bool → Prop) → Prop) (w_slices_Clone_float32_float32 : List Nat → (List Nat → Prop) → Prop) (w_impl_StepFlake : List Nat → Int → Nat → Nat → (List Nat → Int → Bool → Prop) → Prop) (w_impl_Flake_ice : List Nat → Int → (List Int → Prop) → Prop) : List Nat → Int → Nat → Nat → Int → (List Nat → List Int → Int → Bool → Prop) → Prop := (impl_RunFlake.ib w_impl_ValidFlake w_impl_areFinite w_impl_within w_slices_Clone_float32_float32 w_impl_StepFlake w_impl_Flake_ice).W impl_RunFlake.g
noncomputable def impl_RunFlake.wp : List Nat → Int → Nat → Nat → Int → (List Nat → List Int → Int → Bool → Prop) → Prop := impl_RunFlake.bd impl_ValidFlake.wp impl_areFinite.wp impl_within.wp slices_Clone_float32_float32.wp impl_StepFlake.wp impl_Flake_ice.wp
noncomputable def impl_RunFlake.c : Ctr := impl_RunFlake.g.ctr impl_RunFlake.wp

-- loop.example/g01247/laws.FnFlakes
noncomputable def laws_FnFlakes.g : Sig := ⟨11, [(.v (.a (.one (.sl 0)))), (.v (.a (.one (.sl 1))))], [(.rd (.I .u8)), (.rd (.I .u8))], [.li, .li], [(.v (.a (.one .bool)))], [.keep, .keep], [.bool]⟩
noncomputable def laws_FnFlakes.ib (w_laws_r8Long : List Int → List Int → (Bool → Prop) → Prop) (w_spec_R8Flake : List Int → (List Nat → Int → Prop) → Prop) (w_laws_r8At : List Int → Int → Int → (Int → Prop) → Prop) (w_impl_RunFlake : List Nat → Int → Nat → Nat → Int → (List Nat → List Int → Int → Bool → Prop) → Prop) (w_impl_IceOf : List Nat → Int → (List Int → Bool → Prop) → Prop) (w_impl_SameFlake : List Nat → List Nat → Int → Int → (Bool → Prop) → Prop) (w_impl_ValidFlake : List Nat → Int → (Bool → Prop) → Prop) (w_impl_SwapFlake : List Nat → Int → (List Nat → Int → Bool → Prop) → Prop) (w_impl_BackFlake : List Nat → Int → (List Nat → Int → Bool → Prop) → Prop) (w_impl_NewFlake : Int → Nat → (List Nat → Int → Bool → Prop) → Prop) (w_impl_ReachOfFlake : List Nat → Int → (Int → Bool → Prop) → Prop) (w_impl_StepFlake : List Nat → Int → Nat → Nat → (List Nat → Int → Bool → Prop) → Prop) : FnI := ⟨Try.prog, [], [laws_r8Long.g.ctr w_laws_r8Long, spec_R8Flake.g.ctr w_spec_R8Flake, laws_r8At.g.ctr w_laws_r8At, impl_RunFlake.g.ctr w_impl_RunFlake, impl_IceOf.g.ctr w_impl_IceOf, impl_SameFlake.g.ctr w_impl_SameFlake, impl_ValidFlake.g.ctr w_impl_ValidFlake, impl_SwapFlake.g.ctr w_impl_SwapFlake, impl_BackFlake.g.ctr w_impl_BackFlake, impl_NewFlake.g.ctr w_impl_NewFlake, impl_ReachOfFlake.g.ctr w_impl_ReachOfFlake, impl_StepFlake.g.ctr w_impl_StepFlake], 281, [.tmp 4], bodyOf Try.f11, (.seq .leaf (.seq .leaf (.seq .leaf (.seq .leaf (.seq .leaf (.seq .leaf (.seq .leaf (.seq .leaf (.seq .leaf (.seq .leaf (.seq .leaf (.seq .leaf (.seq .leaf (.seq (.seq .leaf (.block (.loop ⟨[5, 6, 7, 8, 17, 21, 22], [.int, .li, .lf, .flt, .flt, .int, .int, .int], [(.v (.a (.one (.pt 2 0)))), (.v (.a (.one (.flt .f32)))), (.v (.a (.one (.flt .f32)))), (.v (.a (.one (.int .i64)))), (.v (.a (.one (.sl 3)))), (.v (.a (.one (.int .i64)))), (.v (.a (.one (.int .i64))))], [.keep, .keep, (.box 34 [(.int .i64), (.sl 4)]), (.row 2 (.I .i64)), (.row 22 (.F .f32))]⟩ .leaf))) .leaf)))))))))))))), []⟩
noncomputable def laws_FnFlakes.i : FnI := laws_FnFlakes.ib laws_r8Long.wp spec_R8Flake.wp laws_r8At.wp impl_RunFlake.wp impl_IceOf.wp impl_SameFlake.wp impl_ValidFlake.wp impl_SwapFlake.wp impl_BackFlake.wp impl_NewFlake.wp impl_ReachOfFlake.wp impl_StepFlake.wp
noncomputable def laws_FnFlakes.bd (w_laws_r8Long : List Int → List Int → (Bool → Prop) → Prop) (w_spec_R8Flake : List Int → (List Nat → Int → Prop) → Prop) (w_laws_r8At : List Int → Int → Int → (Int → Prop) → Prop) (w_impl_RunFlake : List Nat → Int → Nat → Nat → Int → (List Nat → List Int → Int → Bool → Prop) → Prop) (w_impl_IceOf : List Nat → Int → (List Int → Bool → Prop) → Prop) (w_impl_SameFlake : List Nat → List Nat → Int → Int → (Bool → Prop) → Prop) (w_impl_ValidFlake : List Nat → Int → (Bool → Prop) → Prop) (w_impl_SwapFlake : List Nat → Int → (List Nat → Int → Bool → Prop) → Prop) (w_impl_BackFlake : List Nat → Int → (List Nat → Int → Bool → Prop) → Prop) (w_impl_NewFlake : Int → Nat → (List Nat → Int → Bool → Prop) → Prop) (w_impl_ReachOfFlake : List Nat → Int → (Int → Bool → Prop) → Prop) (w_impl_StepFlake : List Nat → Int → Nat → Nat → (List Nat → Int → Bool → Prop) → Prop) : List Int → List Int → (Bool → Prop) → Prop := (laws_FnFlakes.ib w_laws_r8Long w_spec_R8Flake w_laws_r8At w_impl_RunFlake w_impl_IceOf w_impl_SameFlake w_impl_ValidFlake w_impl_SwapFlake w_impl_BackFlake w_impl_NewFlake w_impl_ReachOfFlake w_impl_StepFlake).W laws_FnFlakes.g
noncomputable def laws_FnFlakes.wp : List Int → List Int → (Bool → Prop) → Prop := laws_FnFlakes.bd laws_r8Long.wp spec_R8Flake.wp laws_r8At.wp impl_RunFlake.wp impl_IceOf.wp impl_SameFlake.wp impl_ValidFlake.wp impl_SwapFlake.wp impl_BackFlake.wp impl_NewFlake.wp impl_ReachOfFlake.wp impl_StepFlake.wp
noncomputable def laws_FnFlakes.c : Ctr := laws_FnFlakes.g.ctr laws_FnFlakes.wp
end Go.K.flakes
