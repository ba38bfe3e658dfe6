import Derived.Test.YtplijfhgleofmaaK20
import Derived.Test.YtplijfhgleofmaaProg
set_option maxRecDepth 100000
namespace Go.K.melts
open Go.Proofs

noncomputable def bodyOf (f : Func) : Code := match f.body with
  | some c => c
  | none => .skip
-- loop.example/g01247/laws.szFloat32S
noncomputable def laws_szFloat32S.g : Sig := ⟨35, [(.v (.a (.one (.sl 0)))), (.v (.a (.one (.int .i64))))], [(.rd (.F .f32))], [.lf, .int], [(.v (.a (.one (.int .i64))))], [.keep], [.int]⟩
noncomputable def laws_szFloat32S.ib  : FnI := ⟨Try.prog, [], [], 12, [.tmp 4], bodyOf Try.f35, .leaf, [1]⟩
noncomputable def laws_szFloat32S.i : FnI := laws_szFloat32S.ib 
noncomputable def laws_szFloat32S.bd  : List Nat → Int → (Int → Prop) → Prop := (laws_szFloat32S.ib ).W laws_szFloat32S.g
noncomputable def laws_szFloat32S.wp : List Nat → Int → (Int → Prop) → Prop := laws_szFloat32S.bd 
noncomputable def laws_szFloat32S.c : Ctr := laws_szFloat32S.g.ctr laws_szFloat32S.wp

-- loop.example/g01247/laws.szField
noncomputable def laws_szField.g : Sig := ⟨10, [(.v (.a (.agg [(.int .i64), (.int .i64), .bool, (.sl 0)]))), (.v (.a (.one (.int .i64))))], [(.rd (.F .f32))], [.lf, .int, .int, .bool, .int], [(.v (.a (.one (.int .i64))))], [.keep], [.int]⟩
noncomputable def laws_szField.ib (w_laws_szFloat32S : List Nat → Int → (Int → Prop) → Prop) : FnI := ⟨Try.prog, [], [laws_szFloat32S.g.ctr w_laws_szFloat32S], 12, [.tmp 4], bodyOf Try.f10, .leaf, [1]⟩
noncomputable def laws_szField.i : FnI := laws_szField.ib laws_szFloat32S.wp
noncomputable def laws_szField.bd (w_laws_szFloat32S : List Nat → Int → (Int → Prop) → Prop) : List Nat → Int → Int → Bool → Int → (Int → Prop) → Prop := (laws_szField.ib w_laws_szFloat32S).W laws_szField.g
noncomputable def laws_szField.wp : List Nat → Int → Int → Bool → Int → (Int → Prop) → Prop := laws_szField.bd laws_szFloat32S.wp
noncomputable def laws_szField.c : Ctr := laws_szField.g.ctr laws_szField.wp

-- loop.example/g01247/laws.toFloat32S
noncomputable def laws_toFloat32S.g : Sig := ⟨39, [(.v (.a (.one (.sl 0))))], [(.rd (.F .f32))], [.lf], [(.v (.a (.one (.sl 1))))], [.keep, (.row 33 (.F .f32))], [.lf]⟩
noncomputable def laws_toFloat32S.ib  : FnI := ⟨Try.prog, [], [], 22, [.tmp 2], bodyOf Try.f39, (.seq .leaf (.seq .leaf (.seq (.seq .leaf (.block (.loop ⟨[3, 4], [.lf, .int], [(.v (.a (.one (.sl 1)))), (.v (.a (.one (.int .i64))))], [.keep, (.row 33 (.F .f32))]⟩ .leaf))) .leaf))), []⟩
noncomputable def laws_toFloat32S.i : FnI := laws_toFloat32S.ib 
noncomputable def laws_toFloat32S.bd  : List Nat → (List Nat → Prop) → Prop := (laws_toFloat32S.ib ).W laws_toFloat32S.g
noncomputable def laws_toFloat32S.wp : List Nat → (List Nat → Prop) → Prop := laws_toFloat32S.bd 
noncomputable def laws_toFloat32S.c : Ctr := laws_toFloat32S.g.ctr laws_toFloat32S.wp

-- loop.example/g01247/laws.toField
noncomputable def laws_toField.g : Sig := ⟨12, [(.v (.a (.agg [(.int .i64), (.int .i64), .bool, (.sl 0)])))], [(.rd (.F .f32))], [.lf, .int, .int, .bool], [(.v (.a (.agg [(.int .i64), (.int .i64), .bool, (.sl 1)])))], [.keep, (.row 33 (.F .f32))], [.lf, .int, .int, .bool]⟩
noncomputable def laws_toField.ib (w_laws_toFloat32S : List Nat → (List Nat → Prop) → Prop) : FnI := ⟨Try.prog, [], [laws_toFloat32S.g.ctr w_laws_toFloat32S], 18, [.cell 2 26], bodyOf Try.f12, .leaf, []⟩
noncomputable def laws_toField.i : FnI := laws_toField.ib laws_toFloat32S.wp
noncomputable def laws_toField.bd (w_laws_toFloat32S : List Nat → (List Nat → Prop) → Prop) : List Nat → Int → Int → Bool → (List Nat → Int → Int → Bool → Prop) → Prop := (laws_toField.ib w_laws_toFloat32S).W laws_toField.g
noncomputable def laws_toField.wp : List Nat → Int → Int → Bool → (List Nat → Int → Int → Bool → Prop) → Prop := laws_toField.bd laws_toFloat32S.wp
noncomputable def laws_toField.c : Ctr := laws_toField.g.ctr laws_toField.wp

-- loop.example/g01247/spec.l00In
noncomputable def spec_l00In.g : Sig := ⟨74, [(.v (.a (.one (.int .i64)))), (.v (.a (.one (.int .i64)))), (.v (.a (.one (.int .i64))))], [], [.int, .int, .int], [(.v (.a (.one .bool)))], [], [.bool]⟩
noncomputable def spec_l00In.ib  : FnI := ⟨Try.prog, [], [], 15, [.tmp 6], bodyOf Try.f74, .leaf, []⟩
noncomputable def spec_l00In.i : FnI := spec_l00In.ib 
noncomputable def spec_l00In.bd  : Int → Int → Int → (Bool → Prop) → Prop := (spec_l00In.ib ).W spec_l00In.g
noncomputable def spec_l00In.wp : Int → Int → Int → (Bool → Prop) → Prop := spec_l00In.bd 
noncomputable def spec_l00In.c : Ctr := spec_l00In.g.ctr spec_l00In.wp

-- loop.example/g01247/spec.l02Size
noncomputable def spec_l02Size.g : Sig := ⟨66, [(.v (.a (.one (.int .i64)))), (.v (.a (.one (.int .i64))))], [], [.int, .int], [(.v (.a (.one .bool)))], [], [.bool]⟩
noncomputable def spec_l02Size.ib (w_spec_l00In : Int → Int → Int → (Bool → Prop) → Prop) : FnI := ⟨Try.prog, [], [spec_l00In.g.ctr w_spec_l00In], 11, [.tmp 4], bodyOf Try.f66, .leaf, []⟩
noncomputable def spec_l02Size.i : FnI := spec_l02Size.ib spec_l00In.wp
noncomputable def spec_l02Size.bd (w_spec_l00In : Int → Int → Int → (Bool → Prop) → Prop) : Int → Int → (Bool → Prop) → Prop := (spec_l02Size.ib w_spec_l00In).W spec_l02Size.g
noncomputable def spec_l02Size.wp : Int → Int → (Bool → Prop) → Prop := spec_l02Size.bd spec_l00In.wp
noncomputable def spec_l02Size.c : Ctr := spec_l02Size.g.ctr spec_l02Size.wp

-- loop.example/g01247/spec.l02Is
noncomputable def spec_l02Is.g : Sig := ⟨36, [(.v (.a (.one (.pt 0 0))))], [(.rdb [(.int .i64), (.int .i64), .bool, (.sl 1)]), (.rd (.F .f32))], [.int, .int, .bool, .lf], [(.v (.a (.one .bool)))], [.keep, .keep], [.bool]⟩
noncomputable def spec_l02Is.ib (w_spec_l02Size : Int → Int → (Bool → Prop) → Prop) : FnI := ⟨Try.prog, [], [spec_l02Size.g.ctr w_spec_l02Size], 29, [.tmp 2], bodyOf Try.f36, .leaf, []⟩
noncomputable def spec_l02Is.i : FnI := spec_l02Is.ib spec_l02Size.wp
noncomputable def spec_l02Is.bd (w_spec_l02Size : Int → Int → (Bool → Prop) → Prop) : Int → Int → Bool → List Nat → (Bool → Prop) → Prop := (spec_l02Is.ib w_spec_l02Size).W spec_l02Is.g
noncomputable def spec_l02Is.wp : Int → Int → Bool → List Nat → (Bool → Prop) → Prop := spec_l02Is.bd spec_l02Size.wp
noncomputable def spec_l02Is.c : Ctr := spec_l02Is.g.ctr spec_l02Is.wp

-- loop.example/g01247/spec.l02New
noncomputable def spec_l02New.g : Sig := ⟨37, [(.v (.a (.one (.int .i64)))), (.v (.a (.one (.int .i64)))), (.v (.a (.one .bool)))], [], [.int, .int, .bool], [(.v (.a (.agg [(.int .i64), (.int .i64), .bool, (.sl 0)])))], [(.row 33 (.F .f32))], [.lf, .int, .int, .bool]⟩
noncomputable def spec_l02New.ib  : FnI := ⟨Try.prog, [], [], 12, [.cell 6 26], bodyOf Try.f37, .leaf, []⟩
noncomputable def spec_l02New.i : FnI := spec_l02New.ib 
noncomputable def spec_l02New.bd  : Int → Int → Bool → (List Nat → Int → Int → Bool → Prop) → Prop := (spec_l02New.ib ).W spec_l02New.g
noncomputable def spec_l02New.wp : Int → Int → Bool → (List Nat → Int → Int → Bool → Prop) → Prop := spec_l02New.bd 
noncomputable def spec_l02New.c : Ctr := spec_l02New.g.ctr spec_l02New.wp

-- loop.example/g01247/spec.l00Min
noncomputable def spec_l00Min.g : Sig := ⟨114, [(.v (.a (.one (.int .i64)))), (.v (.a (.one (.int .i64))))], [], [.int, .int], [(.v (.a (.one (.int .i64))))], [], [.int]⟩
noncomputable def spec_l00Min.ib  : FnI := ⟨Try.prog, [], [], 10, [.tmp 4], bodyOf Try.f114, .leaf, []⟩
noncomputable def spec_l00Min.i : FnI := spec_l00Min.ib 
noncomputable def spec_l00Min.bd  : Int → Int → (Int → Prop) → Prop := (spec_l00Min.ib ).W spec_l00Min.g
noncomputable def spec_l00Min.wp : Int → Int → (Int → Prop) → Prop := spec_l00Min.bd 
noncomputable def spec_l00Min.c : Ctr := spec_l00Min.g.ctr spec_l00Min.wp

-- loop.example/g01247/spec.l00Max
noncomputable def spec_l00Max.g : Sig := ⟨113, [(.v (.a (.one (.int .i64)))), (.v (.a (.one (.int .i64))))], [], [.int, .int], [(.v (.a (.one (.int .i64))))], [], [.int]⟩
noncomputable def spec_l00Max.ib  : FnI := ⟨Try.prog, [], [], 10, [.tmp 4], bodyOf Try.f113, .leaf, []⟩
noncomputable def spec_l00Max.i : FnI := spec_l00Max.ib 
noncomputable def spec_l00Max.bd  : Int → Int → (Int → Prop) → Prop := (spec_l00Max.ib ).W spec_l00Max.g
noncomputable def spec_l00Max.wp : Int → Int → (Int → Prop) → Prop := spec_l00Max.bd 
noncomputable def spec_l00Max.c : Ctr := spec_l00Max.g.ctr spec_l00Max.wp

-- loop.example/g01247/spec.l02Place
noncomputable def spec_l02Place.g : Sig := ⟨100, [(.v (.a (.one (.int .i64)))), (.v (.a (.one (.int .i64)))), (.v (.a (.one .bool)))], [], [.int, .int, .bool], [(.v (.a (.one (.int .i64))))], [], [.int]⟩
noncomputable def spec_l02Place.ib (w_spec_l00Min : Int → Int → (Int → Prop) → Prop) (w_spec_l00Max : Int → Int → (Int → Prop) → Prop) : FnI := ⟨Try.prog, [], [spec_l00Min.g.ctr w_spec_l00Min, spec_l00Max.g.ctr w_spec_l00Max], 20, [.tmp 6], bodyOf Try.f100, .leaf, []⟩
noncomputable def spec_l02Place.i : FnI := spec_l02Place.ib spec_l00Min.wp spec_l00Max.wp
noncomputable def spec_l02Place.bd (w_spec_l00Min : Int → Int → (Int → Prop) → Prop) (w_spec_l00Max : Int → Int → (Int → Prop) → Prop) : Int → Int → Bool → (Int → Prop) → Prop := (spec_l02Place.ib w_spec_l00Min w_spec_l00Max).W spec_l02Place.g
noncomputable def spec_l02Place.wp : Int → Int → Bool → (Int → Prop) → Prop := spec_l02Place.bd spec_l00Min.wp spec_l00Max.wp
noncomputable def spec_l02Place.c : Ctr := spec_l02Place.g.ctr spec_l02Place.wp

-- loop.example/g01247/spec.l02Index
noncomputable def spec_l02Index.g : Sig := ⟨79, [(.v (.a (.one (.pt 0 0)))), (.v (.a (.one (.int .i64)))), (.v (.a (.one (.int .i64))))], [(.rdb [(.int .i64), (.int .i64), .bool, (.sl 1)]), (.rd (.F .f32))], [.int, .int, .bool, .lf, .int, .int], [(.v (.a (.one (.int .i64))))], [.keep, .keep], [.int]⟩
noncomputable def spec_l02Index.ib (w_spec_l02Place : Int → Int → Bool → (Int → Prop) → Prop) : FnI := ⟨Try.prog, [], [spec_l02Place.g.ctr w_spec_l02Place], 33, [.tmp 6], bodyOf Try.f79, .leaf, []⟩
noncomputable def spec_l02Index.i : FnI := spec_l02Index.ib spec_l02Place.wp
noncomputable def spec_l02Index.bd (w_spec_l02Place : Int → Int → Bool → (Int → Prop) → Prop) : Int → Int → Bool → List Nat → Int → Int → (Int → Prop) → Prop := (spec_l02Index.ib w_spec_l02Place).W spec_l02Index.g
noncomputable def spec_l02Index.wp : Int → Int → Bool → List Nat → Int → Int → (Int → Prop) → Prop := spec_l02Index.bd spec_l02Place.wp
noncomputable def spec_l02Index.c : Ctr := spec_l02Index.g.ctr spec_l02Index.wp

-- loop.example/g01247/spec.l02At
noncomputable def spec_l02At.g : Sig := ⟨54, [(.v (.a (.one (.pt 0 0)))), (.v (.a (.one (.int .i64)))), (.v (.a (.one (.int .i64))))], [(.rdb [(.int .i64), (.int .i64), .bool, (.sl 1)]), (.rd (.F .f32))], [.int, .int, .bool, .lf, .int, .int], [(.v (.a (.one (.flt .f32))))], [.keep, .keep], [.flt]⟩
noncomputable def spec_l02At.ib (w_spec_l02Index : Int → Int → Bool → List Nat → Int → Int → (Int → Prop) → Prop) : FnI := ⟨Try.prog, [], [spec_l02Index.g.ctr w_spec_l02Index], 17, [.tmp 6], bodyOf Try.f54, .leaf, []⟩
noncomputable def spec_l02At.i : FnI := spec_l02At.ib spec_l02Index.wp
noncomputable def spec_l02At.bd (w_spec_l02Index : Int → Int → Bool → List Nat → Int → Int → (Int → Prop) → Prop) : Int → Int → Bool → List Nat → Int → Int → (Nat → Prop) → Prop := (spec_l02At.ib w_spec_l02Index).W spec_l02At.g
noncomputable def spec_l02At.wp : Int → Int → Bool → List Nat → Int → Int → (Nat → Prop) → Prop := spec_l02At.bd spec_l02Index.wp
noncomputable def spec_l02At.c : Ctr := spec_l02At.g.ctr spec_l02At.wp

-- loop.example/g01247/spec.l02SlopeX
noncomputable def spec_l02SlopeX.g : Sig := ⟨67, [(.v (.a (.one (.pt 0 0)))), (.v (.a (.one (.int .i64)))), (.v (.a (.one (.int .i64))))], [(.rdb [(.int .i64), (.int .i64), .bool, (.sl 1)]), (.rd (.F .f32))], [.int, .int, .bool, .lf, .int, .int], [(.v (.a (.one (.flt .f32))))], [.keep, .keep], [.flt]⟩
noncomputable def spec_l02SlopeX.ib (w_spec_l02At : Int → Int → Bool → List Nat → Int → Int → (Nat → Prop) → Prop) : FnI := ⟨Try.prog, [], [spec_l02At.g.ctr w_spec_l02At], 19, [.tmp 6], bodyOf Try.f67, .leaf, []⟩
noncomputable def spec_l02SlopeX.i : FnI := spec_l02SlopeX.ib spec_l02At.wp
noncomputable def spec_l02SlopeX.bd (w_spec_l02At : Int → Int → Bool → List Nat → Int → Int → (Nat → Prop) → Prop) : Int → Int → Bool → List Nat → Int → Int → (Nat → Prop) → Prop := (spec_l02SlopeX.ib w_spec_l02At).W spec_l02SlopeX.g
noncomputable def spec_l02SlopeX.wp : Int → Int → Bool → List Nat → Int → Int → (Nat → Prop) → Prop := spec_l02SlopeX.bd spec_l02At.wp
noncomputable def spec_l02SlopeX.c : Ctr := spec_l02SlopeX.g.ctr spec_l02SlopeX.wp

-- loop.example/g01247/spec.l02SlopeY
noncomputable def spec_l02SlopeY.g : Sig := ⟨68, [(.v (.a (.one (.pt 0 0)))), (.v (.a (.one (.int .i64)))), (.v (.a (.one (.int .i64))))], [(.rdb [(.int .i64), (.int .i64), .bool, (.sl 1)]), (.rd (.F .f32))], [.int, .int, .bool, .lf, .int, .int], [(.v (.a (.one (.flt .f32))))], [.keep, .keep], [.flt]⟩
noncomputable def spec_l02SlopeY.ib (w_spec_l02At : Int → Int → Bool → List Nat → Int → Int → (Nat → Prop) → Prop) : FnI := ⟨Try.prog, [], [spec_l02At.g.ctr w_spec_l02At], 19, [.tmp 6], bodyOf Try.f68, .leaf, []⟩
noncomputable def spec_l02SlopeY.i : FnI := spec_l02SlopeY.ib spec_l02At.wp
noncomputable def spec_l02SlopeY.bd (w_spec_l02At : Int → Int → Bool → List Nat → Int → Int → (Nat → Prop) → Prop) : Int → Int → Bool → List Nat → Int → Int → (Nat → Prop) → Prop := (spec_l02SlopeY.ib w_spec_l02At).W spec_l02SlopeY.g
noncomputable def spec_l02SlopeY.wp : Int → Int → Bool → List Nat → Int → Int → (Nat → Prop) → Prop := spec_l02SlopeY.bd spec_l02At.wp
noncomputable def spec_l02SlopeY.c : Ctr := spec_l02SlopeY.g.ctr spec_l02SlopeY.wp

-- math.Sqrt
noncomputable def math_Sqrt.g : Sig := ⟨96, [(.v (.a (.one (.flt .f64))))], [], [.flt], [(.v (.a (.one (.flt .f64))))], [], [.flt]⟩
noncomputable def math_Sqrt.ib  : FnI := ⟨Try.prog, [(111, .sqrt)], [], 5, [.tmp 2], bodyOf Try.f96, .leaf, []⟩
noncomputable def math_Sqrt.i : FnI := math_Sqrt.ib 
noncomputable def math_Sqrt.bd  : Nat → (Nat → Prop) → Prop := (math_Sqrt.ib ).W math_Sqrt.g
noncomputable def math_Sqrt.wp : Nat → (Nat → Prop) → Prop := math_Sqrt.bd 
noncomputable def math_Sqrt.c : Ctr := math_Sqrt.g.ctr math_Sqrt.wp

-- loop.example/g01247/spec.l01Narrow
noncomputable def spec_l01Narrow.g : Sig := ⟨95, [(.v (.a (.one (.flt .f64))))], [], [.flt], [(.v (.a (.one (.flt .f32))))], [], [.flt]⟩
noncomputable def spec_l01Narrow.ib  : FnI := ⟨Try.prog, [], [], 5, [.tmp 2], bodyOf Try.f95, .leaf, []⟩
noncomputable def spec_l01Narrow.i : FnI := spec_l01Narrow.ib 
noncomputable def spec_l01Narrow.bd  : Nat → (Nat → Prop) → Prop := (spec_l01Narrow.ib ).W spec_l01Narrow.g
noncomputable def spec_l01Narrow.wp : Nat → (Nat → Prop) → Prop := spec_l01Narrow.bd 
noncomputable def spec_l01Narrow.c : Ctr := spec_l01Narrow.g.ctr spec_l01Narrow.wp

-- loop.example/g01247/spec.l01Sqrt
noncomputable def spec_l01Sqrt.g : Sig := ⟨69, [(.v (.a (.one (.flt .f32))))], [], [.flt], [(.v (.a (.one (.flt .f32))))], [], [.flt]⟩
noncomputable def spec_l01Sqrt.ib (w_math_Sqrt : Nat → (Nat → Prop) → Prop) (w_spec_l01Narrow : Nat → (Nat → Prop) → Prop) : FnI := ⟨Try.prog, [], [math_Sqrt.g.ctr w_math_Sqrt, spec_l01Narrow.g.ctr w_spec_l01Narrow], 7, [.tmp 2], bodyOf Try.f69, .leaf, []⟩
noncomputable def spec_l01Sqrt.i : FnI := spec_l01Sqrt.ib math_Sqrt.wp spec_l01Narrow.wp
noncomputable def spec_l01Sqrt.bd (w_math_Sqrt : Nat → (Nat → Prop) → Prop) (w_spec_l01Narrow : Nat → (Nat → Prop) → Prop) : Nat → (Nat → Prop) → Prop := (spec_l01Sqrt.ib w_math_Sqrt w_spec_l01Narrow).W spec_l01Sqrt.g
noncomputable def spec_l01Sqrt.wp : Nat → (Nat → Prop) → Prop := spec_l01Sqrt.bd math_Sqrt.wp spec_l01Narrow.wp
noncomputable def spec_l01Sqrt.c : Ctr := spec_l01Sqrt.g.ctr spec_l01Sqrt.wp

-- loop.example/g01247/spec.l02Steep
noncomputable def spec_l02Steep.g : Sig := ⟨38, [(.v (.a (.one (.pt 0 0)))), (.v (.a (.one (.int .i64)))), (.v (.a (.one (.int .i64))))], [(.rdb [(.int .i64), (.int .i64), .bool, (.sl 1)]), (.rd (.F .f32))], [.int, .int, .bool, .lf, .int, .int], [(.v (.a (.one (.flt .f32))))], [.keep, .keep], [.flt]⟩
noncomputable def spec_l02Steep.ib (w_spec_l02SlopeX : Int → Int → Bool → List Nat → Int → Int → (Nat → Prop) → Prop) (w_spec_l02SlopeY : Int → Int → Bool → List Nat → Int → Int → (Nat → Prop) → Prop) (w_spec_l01Sqrt : Nat → (Nat → Prop) → Prop) : FnI := ⟨Try.prog, [], [spec_l02SlopeX.g.ctr w_spec_l02SlopeX, spec_l02SlopeY.g.ctr w_spec_l02SlopeY, spec_l01Sqrt.g.ctr w_spec_l01Sqrt], 25, [.tmp 6], bodyOf Try.f38, .leaf, []⟩
noncomputable def spec_l02Steep.i : FnI := spec_l02Steep.ib spec_l02SlopeX.wp spec_l02SlopeY.wp spec_l01Sqrt.wp
noncomputable def spec_l02Steep.bd (w_spec_l02SlopeX : Int → Int → Bool → List Nat → Int → Int → (Nat → Prop) → Prop) (w_spec_l02SlopeY : Int → Int → Bool → List Nat → Int → Int → (Nat → Prop) → Prop) (w_spec_l01Sqrt : Nat → (Nat → Prop) → Prop) : Int → Int → Bool → List Nat → Int → Int → (Nat → Prop) → Prop := (spec_l02Steep.ib w_spec_l02SlopeX w_spec_l02SlopeY w_spec_l01Sqrt).W spec_l02Steep.g
noncomputable def spec_l02Steep.wp : Int → Int → Bool → List Nat → Int → Int → (Nat → Prop) → Prop := spec_l02Steep.bd spec_l02SlopeX.wp spec_l02SlopeY.wp spec_l01Sqrt.wp
noncomputable def spec_l02Steep.c : Ctr := spec_l02Steep.g.ctr spec_l02Steep.wp

-- loop.example/g01247/spec.SteepField
noncomputable def spec_SteepField.g : Sig := ⟨11, [(.v (.a (.agg [(.int .i64), (.int .i64), .bool, (.sl 0)])))], [(.rd (.F .f32))], [.lf, .int, .int, .bool], [(.tup [(.a (.agg [(.int .i64), (.int .i64), .bool, (.sl 1)])), (.a (.one .bool))])], [.keep, (.row 33 (.F .f32))], [.lf, .int, .int, .bool, .bool]⟩
noncomputable def spec_SteepField.ib (w_spec_l02Is : Int → Int → Bool → List Nat → (Bool → Prop) → Prop) (w_spec_l02New : Int → Int → Bool → (List Nat → Int → Int → Bool → Prop) → Prop) (w_spec_l02Steep : Int → Int → Bool → List Nat → Int → Int → (Nat → Prop) → Prop) : FnI := ⟨Try.prog, [], [spec_l02Is.g.ctr w_spec_l02Is, spec_l02New.g.ctr w_spec_l02New, spec_l02Steep.g.ctr w_spec_l02Steep], 40, [.cell 2 26, .tmp 3], bodyOf Try.f11, (.seq .leaf (.seq .leaf (.seq .leaf (.seq (.seq .leaf (.block (.loop ⟨[1, 2, 4, 5], [.int, .int, .bool, .int, .int, .bool, .int, .int, .bool, .lf, .lf, .int], [(.v (.a (.one (.pt 1 0)))), (.v (.a (.one (.pt 2 0)))), (.v (.a (.one (.pt 3 0)))), (.v (.a (.one (.int .i64))))], [.keep, (.box 26 [(.int .i64), (.int .i64), .bool, (.sl 0)]), (.box 26 [(.int .i64), (.int .i64), .bool, (.sl 4)]), (.box 26 [(.int .i64), (.int .i64), .bool, (.sl 5)]), (.row 33 (.F .f32)), (.row 33 (.F .f32))]⟩ .leaf))) .leaf)))), []⟩
noncomputable def spec_SteepField.i : FnI := spec_SteepField.ib spec_l02Is.wp spec_l02New.wp spec_l02Steep.wp
noncomputable def spec_SteepField.bd (w_spec_l02Is : Int → Int → Bool → List Nat → (Bool → Prop) → Prop) (w_spec_l02New : Int → Int → Bool → (List Nat → Int → Int → Bool → Prop) → Prop) (w_spec_l02Steep : Int → Int → Bool → List Nat → Int → Int → (Nat → Prop) → Prop) : List Nat → Int → Int → Bool → (List Nat → Int → Int → Bool → Bool → Prop) → Prop := (spec_SteepField.ib w_spec_l02Is w_spec_l02New w_spec_l02Steep).W spec_SteepField.g
noncomputable def spec_SteepField.wp : List Nat → Int → Int → Bool → (List Nat → Int → Int → Bool → Bool → Prop) → Prop := spec_SteepField.bd spec_l02Is.wp spec_l02New.wp spec_l02Steep.wp
noncomputable def spec_SteepField.c : Ctr := spec_SteepField.g.ctr spec_SteepField.wp

-- loop.example/g01247/impl.within
noncomputable def impl_within.g : Sig := ⟨85, [(.v (.a (.one (.int .i64)))), (.v (.a (.one (.int .i64)))), (.v (.a (.one (.int .i64))))], [], [.int, .int, .int], [(.v (.a (.one .bool)))], [], [.bool]⟩
noncomputable def impl_within.ib  : FnI := ⟨Try.prog, [], [], 15, [.tmp 6], bodyOf Try.f85, .leaf, []⟩
noncomputable def impl_within.i : FnI := impl_within.ib 
noncomputable def impl_within.bd  : Int → Int → Int → (Bool → Prop) → Prop := (impl_within.ib ).W impl_within.g
noncomputable def impl_within.wp : Int → Int → Int → (Bool → Prop) → Prop := impl_within.bd 
noncomputable def impl_within.c : Ctr := impl_within.g.ctr impl_within.wp

-- loop.example/g01247/impl.areWithin$1
noncomputable def impl_areWithin_1.g : Sig := ⟨98, [(.v (.a (.one (.int .i64)))), (.v (.a (.one (.pt 0 0)))), (.v (.a (.one (.pt 1 0))))], [(.rdb [(.int .i64)]), (.rdb [(.int .i64)])], [.int, .int, .int], [(.v (.a (.one .bool)))], [.keep, .keep], [.bool]⟩
noncomputable def impl_areWithin_1.ib (w_impl_within : Int → Int → Int → (Bool → Prop) → Prop) : FnI := ⟨Try.prog, [], [impl_within.g.ctr w_impl_within], 10, [.tmp 4], bodyOf Try.f98, .leaf, []⟩
noncomputable def impl_areWithin_1.i : FnI := impl_areWithin_1.ib impl_within.wp
noncomputable def impl_areWithin_1.bd (w_impl_within : Int → Int → Int → (Bool → Prop) → Prop) : Int → Int → Int → (Bool → Prop) → Prop := (impl_areWithin_1.ib w_impl_within).W impl_areWithin_1.g
noncomputable def impl_areWithin_1.wp : Int → Int → Int → (Bool → Prop) → Prop := impl_areWithin_1.bd impl_within.wp
noncomputable def impl_areWithin_1.c : Ctr := impl_areWithin_1.g.ctr impl_areWithin_1.wp

-- slices.IndexFunc[[]int64,int64]
noncomputable def slices_IndexFunc_int64_int64__areWithin_1.g : Sig := ⟨112, [(.v (.a (.one (.sl 0)))), (.v (.fn 98 [] [(.one (.pt 1 0)), (.one (.pt 2 0))]))], [(.rd (.I .i64)), (.rdb [(.int .i64)]), (.rdb [(.int .i64)])], [.li, .int, .int], [(.v (.a (.one (.int .i64))))], [.keep, .keep, .keep], [.int]⟩
noncomputable def slices_IndexFunc_int64_int64__areWithin_1.ib (w_impl_areWithin_1 : Int → Int → Int → (Bool → Prop) → Prop) : FnI := ⟨Try.prog, [], [impl_areWithin_1.g.ctr w_impl_areWithin_1], 19, [.tmp 4], bodyOf Try.f112, (.seq .leaf (.seq (.seq .leaf (.block (.loop ⟨[7, 8], [.int, .int], [(.v (.a (.one (.int .i64)))), (.v (.a (.one (.int .i64))))], [.keep, .keep, .keep]⟩ .leaf))) .leaf)), []⟩
noncomputable def slices_IndexFunc_int64_int64__areWithin_1.i : FnI := slices_IndexFunc_int64_int64__areWithin_1.ib impl_areWithin_1.wp
noncomputable def slices_IndexFunc_int64_int64__areWithin_1.bd (w_impl_areWithin_1 : Int → Int → Int → (Bool → Prop) → Prop) : List Int → Int → Int → (Int → Prop) → Prop := (slices_IndexFunc_int64_int64__areWithin_1.ib w_impl_areWithin_1).W slices_IndexFunc_int64_int64__areWithin_1.g
noncomputable def slices_IndexFunc_int64_int64__areWithin_1.wp : List Int → Int → Int → (Int → Prop) → Prop := slices_IndexFunc_int64_int64__areWithin_1.bd impl_areWithin_1.wp
noncomputable def slices_IndexFunc_int64_int64__areWithin_1.c : Ctr := slices_IndexFunc_int64_int64__areWithin_1.g.ctr slices_IndexFunc_int64_int64__areWithin_1.wp

-- slices.ContainsFunc[[]int64,int64]
noncomputable def slices_ContainsFunc_int64_int64__areWithin_1.g : Sig := ⟨97, [(.v (.a (.one (.sl 0)))), (.v (.fn 98 [] [(.one (.pt 1 0)), (.one (.pt 2 0))]))], [(.rd (.I .i64)), (.rdb [(.int .i64)]), (.rdb [(.int .i64)])], [.li, .int, .int], [(.v (.a (.one .bool)))], [.keep, .keep, .keep], [.bool]⟩
noncomputable def slices_ContainsFunc_int64_int64__areWithin_1.ib (w_slices_IndexFunc_int64_int64__areWithin_1 : List Int → Int → Int → (Int → Prop) → Prop) : FnI := ⟨Try.prog, [], [slices_IndexFunc_int64_int64__areWithin_1.g.ctr w_slices_IndexFunc_int64_int64__areWithin_1], 9, [.tmp 4], bodyOf Try.f97, .leaf, []⟩
noncomputable def slices_ContainsFunc_int64_int64__areWithin_1.i : FnI := slices_ContainsFunc_int64_int64__areWithin_1.ib slices_IndexFunc_int64_int64__areWithin_1.wp
noncomputable def slices_ContainsFunc_int64_int64__areWithin_1.bd (w_slices_IndexFunc_int64_int64__areWithin_1 : List Int → Int → Int → (Int → Prop) → Prop) : List Int → Int → Int → (Bool → Prop) → Prop := (slices_ContainsFunc_int64_int64__areWithin_1.ib w_slices_IndexFunc_int64_int64__areWithin_1).W slices_ContainsFunc_int64_int64__areWithin_1.g
noncomputable def slices_ContainsFunc_int64_int64__areWithin_1.wp : List Int → Int → Int → (Bool → Prop) → Prop := slices_ContainsFunc_int64_int64__areWithin_1.bd slices_IndexFunc_int64_int64__areWithin_1.wp
noncomputable def slices_ContainsFunc_int64_int64__areWithin_1.c : Ctr := slices_ContainsFunc_int64_int64__areWithin_1.g.ctr slices_ContainsFunc_int64_int64__areWithin_1.wp

-- loop.example/g01247/impl.areWithin
noncomputable def impl_areWithin.g : Sig := ⟨70, [(.v (.a (.one (.int .i64)))), (.v (.a (.one (.int .i64)))), (.v (.a (.one (.sl 0))))], [(.rd (.I .i64))], [.li, .int, .int], [(.v (.a (.one .bool)))], [.keep], [.bool]⟩
noncomputable def impl_areWithin.ib (w_slices_ContainsFunc_int64_int64__areWithin_1 : List Int → Int → Int → (Bool → Prop) → Prop) : FnI := ⟨Try.prog, [], [slices_ContainsFunc_int64_int64__areWithin_1.g.ctr w_slices_ContainsFunc_int64_int64__areWithin_1], 11, [.tmp 6], bodyOf Try.f70, .leaf, []⟩
noncomputable def impl_areWithin.i : FnI := impl_areWithin.ib slices_ContainsFunc_int64_int64__areWithin_1.wp
noncomputable def impl_areWithin.bd (w_slices_ContainsFunc_int64_int64__areWithin_1 : List Int → Int → Int → (Bool → Prop) → Prop) : List Int → Int → Int → (Bool → Prop) → Prop := (impl_areWithin.ib w_slices_ContainsFunc_int64_int64__areWithin_1).W impl_areWithin.g
noncomputable def impl_areWithin.wp : List Int → Int → Int → (Bool → Prop) → Prop := impl_areWithin.bd slices_ContainsFunc_int64_int64__areWithin_1.wp
noncomputable def impl_areWithin.c : Ctr := impl_areWithin.g.ctr impl_areWithin.wp

-- loop.example/g01247/impl.ValidField
noncomputable def impl_ValidField.g : Sig := ⟨40, [(.v (.a (.agg [(.int .i64), (.int .i64), .bool, (.sl 0)])))], [(.rd (.F .f32))], [.lf, .int, .int, .bool], [(.v (.a (.one .bool)))], [.keep], [.bool]⟩
noncomputable def impl_ValidField.ib (w_impl_areWithin : List Int → Int → Int → (Bool → Prop) → Prop) : FnI := ⟨Try.prog, [], [impl_areWithin.g.ctr w_impl_areWithin], 20, [.tmp 2], bodyOf Try.f40, .leaf, []⟩
noncomputable def impl_ValidField.i : FnI := impl_ValidField.ib impl_areWithin.wp
noncomputable def impl_ValidField.bd (w_impl_areWithin : List Int → Int → Int → (Bool → Prop) → Prop) : List Nat → Int → Int → Bool → (Bool → Prop) → Prop := (impl_ValidField.ib w_impl_areWithin).W impl_ValidField.g
noncomputable def impl_ValidField.wp : List Nat → Int → Int → Bool → (Bool → Prop) → Prop := impl_ValidField.bd impl_areWithin.wp
noncomputable def impl_ValidField.c : Ctr := impl_ValidField.g.ctr impl_ValidField.wp

-- loop.example/g01247/impl.place
noncomputable def impl_place.g : Sig := ⟨103, [(.v (.a (.one (.int .i64)))), (.v (.a (.one (.int .i64)))), (.v (.a (.one .bool)))], [], [.int, .int, .bool], [(.v (.a (.one (.int .i64))))], [], [.int]⟩
noncomputable def impl_place.ib  : FnI := ⟨Try.prog, [], [], 20, [.tmp 6], bodyOf Try.f103, .leaf, []⟩
noncomputable def impl_place.i : FnI := impl_place.ib 
noncomputable def impl_place.bd  : Int → Int → Bool → (Int → Prop) → Prop := (impl_place.ib ).W impl_place.g
noncomputable def impl_place.wp : Int → Int → Bool → (Int → Prop) → Prop := impl_place.bd 
noncomputable def impl_place.c : Ctr := impl_place.g.ctr impl_place.wp

-- (loop.example/g01247/impl.Field).cell
noncomputable def impl_Field_cell.g : Sig := ⟨86, [(.v (.a (.agg [(.int .i64), (.int .i64), .bool, (.sl 0)]))), (.v (.a (.one (.int .i64)))), (.v (.a (.one (.int .i64))))], [(.rd (.F .f32))], [.lf, .int, .int, .bool, .int, .int], [(.v (.a (.one (.int .i64))))], [.keep], [.int]⟩
noncomputable def impl_Field_cell.ib (w_impl_place : Int → Int → Bool → (Int → Prop) → Prop) : FnI := ⟨Try.prog, [], [impl_place.g.ctr w_impl_place], 23, [.tmp 6], bodyOf Try.f86, .leaf, []⟩
noncomputable def impl_Field_cell.i : FnI := impl_Field_cell.ib impl_place.wp
noncomputable def impl_Field_cell.bd (w_impl_place : Int → Int → Bool → (Int → Prop) → Prop) : List Nat → Int → Int → Bool → Int → Int → (Int → Prop) → Prop := (impl_Field_cell.ib w_impl_place).W impl_Field_cell.g
noncomputable def impl_Field_cell.wp : List Nat → Int → Int → Bool → Int → Int → (Int → Prop) → Prop := impl_Field_cell.bd impl_place.wp
noncomputable def impl_Field_cell.c : Ctr := impl_Field_cell.g.ctr impl_Field_cell.wp

-- (loop.example/g01247/impl.Field).about
noncomputable def impl_Field_about.g : Sig := ⟨56, [(.v (.a (.agg [(.int .i64), (.int .i64), .bool, (.sl 0)]))), (.v (.a (.one (.int .i64)))), (.v (.a (.one (.int .i64))))], [(.rd (.F .f32))], [.lf, .int, .int, .bool, .int, .int], [(.v (.a (.one (.flt .f32))))], [.keep], [.flt]⟩
noncomputable def impl_Field_about.ib (w_impl_Field_cell : List Nat → Int → Int → Bool → Int → Int → (Int → Prop) → Prop) : FnI := ⟨Try.prog, [], [impl_Field_cell.g.ctr w_impl_Field_cell], 15, [.tmp 6], bodyOf Try.f56, .leaf, []⟩
noncomputable def impl_Field_about.i : FnI := impl_Field_about.ib impl_Field_cell.wp
noncomputable def impl_Field_about.bd (w_impl_Field_cell : List Nat → Int → Int → Bool → Int → Int → (Int → Prop) → Prop) : List Nat → Int → Int → Bool → Int → Int → (Nat → Prop) → Prop := (impl_Field_about.ib w_impl_Field_cell).W impl_Field_about.g
noncomputable def impl_Field_about.wp : List Nat → Int → Int → Bool → Int → Int → (Nat → Prop) → Prop := impl_Field_about.bd impl_Field_cell.wp
noncomputable def impl_Field_about.c : Ctr := impl_Field_about.g.ctr impl_Field_about.wp

-- (loop.example/g01247/impl.Field).slopes
noncomputable def impl_Field_slopes.g : Sig := ⟨72, [(.v (.a (.agg [(.int .i64), (.int .i64), .bool, (.sl 0)]))), (.v (.a (.one (.int .i64)))), (.v (.a (.one (.int .i64))))], [(.rd (.F .f32))], [.lf, .int, .int, .bool, .int, .int], [(.tup [(.a (.one (.flt .f32))), (.a (.one (.flt .f32)))])], [.keep], [.flt, .flt]⟩
noncomputable def impl_Field_slopes.ib (w_impl_Field_about : List Nat → Int → Int → Bool → Int → Int → (Nat → Prop) → Prop) : FnI := ⟨Try.prog, [], [impl_Field_about.g.ctr w_impl_Field_about], 32, [.tmp 6, .tmp 7], bodyOf Try.f72, .leaf, []⟩
noncomputable def impl_Field_slopes.i : FnI := impl_Field_slopes.ib impl_Field_about.wp
noncomputable def impl_Field_slopes.bd (w_impl_Field_about : List Nat → Int → Int → Bool → Int → Int → (Nat → Prop) → Prop) : List Nat → Int → Int → Bool → Int → Int → (Nat → Nat → Prop) → Prop := (impl_Field_slopes.ib w_impl_Field_about).W impl_Field_slopes.g
noncomputable def impl_Field_slopes.wp : List Nat → Int → Int → Bool → Int → Int → (Nat → Nat → Prop) → Prop := impl_Field_slopes.bd impl_Field_about.wp
noncomputable def impl_Field_slopes.c : Ctr := impl_Field_slopes.g.ctr impl_Field_slopes.wp

-- loop.example/g01247/impl.RootNumber
noncomputable def impl_RootNumber.g : Sig := ⟨73, [(.v (.a (.one (.flt .f32))))], [], [.flt], [(.v (.a (.one (.flt .f32))))], [], [.flt]⟩
noncomputable def impl_RootNumber.ib (w_math_Sqrt : Nat → (Nat → Prop) → Prop) : FnI := ⟨Try.prog, [], [math_Sqrt.g.ctr w_math_Sqrt], 7, [.tmp 2], bodyOf Try.f73, .leaf, []⟩
noncomputable def impl_RootNumber.i : FnI := impl_RootNumber.ib math_Sqrt.wp
noncomputable def impl_RootNumber.bd (w_math_Sqrt : Nat → (Nat → Prop) → Prop) : Nat → (Nat → Prop) → Prop := (impl_RootNumber.ib w_math_Sqrt).W impl_RootNumber.g
noncomputable def impl_RootNumber.wp : Nat → (Nat → Prop) → Prop := impl_RootNumber.bd math_Sqrt.wp
noncomputable def impl_RootNumber.c : Ctr := impl_RootNumber.g.ctr impl_RootNumber.wp

-- (loop.example/g01247/impl.Field).steep
noncomputable def impl_Field_steep.g : Sig := ⟨42, [(.v (.a (.agg [(.int .i64), (.int .i64), .bool, (.sl 0)]))), (.v (.a (.one (.int .i64)))), (.v (.a (.one (.int .i64))))], [(.rd (.F .f32))], [.lf, .int, .int, .bool, .int, .int], [(.v (.a (.one (.flt .f32))))], [.keep], [.flt]⟩
noncomputable def impl_Field_steep.ib (w_impl_Field_slopes : List Nat → Int → Int → Bool → Int → Int → (Nat → Nat → Prop) → Prop) (w_impl_RootNumber : Nat → (Nat → Prop) → Prop) : FnI := ⟨Try.prog, [], [impl_Field_slopes.g.ctr w_impl_Field_slopes, impl_RootNumber.g.ctr w_impl_RootNumber], 24, [.tmp 6], bodyOf Try.f42, .leaf, []⟩
noncomputable def impl_Field_steep.i : FnI := impl_Field_steep.ib impl_Field_slopes.wp impl_RootNumber.wp
noncomputable def impl_Field_steep.bd (w_impl_Field_slopes : List Nat → Int → Int → Bool → Int → Int → (Nat → Nat → Prop) → Prop) (w_impl_RootNumber : Nat → (Nat → Prop) → Prop) : List Nat → Int → Int → Bool → Int → Int → (Nat → Prop) → Prop := (impl_Field_steep.ib w_impl_Field_slopes w_impl_RootNumber).W impl_Field_steep.g
noncomputable def impl_Field_steep.wp : List Nat → Int → Int → Bool → Int → Int → (Nat → Prop) → Prop := impl_Field_steep.bd impl_Field_slopes.wp impl_RootNumber.wp
noncomputable def impl_Field_steep.c : Ctr := impl_Field_steep.g.ctr impl_Field_steep.wp

-- loop.example/g01247/impl.made
noncomputable def impl_made__Field_steep.g : Sig := ⟨71, [(.v (.a (.one (.int .i64)))), (.v (.a (.one (.int .i64)))), (.v (.a (.one .bool))), (.v (.fn 42 [(.agg [(.int .i64), (.int .i64), .bool, (.sl 0)])] []))], [(.rd (.F .f32))], [.lf, .int, .int, .bool, .int, .int, .bool], [(.v (.a (.agg [(.int .i64), (.int .i64), .bool, (.sl 1)])))], [.keep, (.row 33 (.F .f32))], [.lf, .int, .int, .bool]⟩
noncomputable def impl_made__Field_steep.ib (w_impl_Field_steep : List Nat → Int → Int → Bool → Int → Int → (Nat → Prop) → Prop) : FnI := ⟨Try.prog, [], [impl_Field_steep.g.ctr w_impl_Field_steep], 37, [.cell 8 26], bodyOf Try.f71, (.seq .leaf (.seq .leaf (.seq (.seq .leaf (.block (.loop ⟨[8, 9, 17, 18], [.int, .int, .bool, .int, .int, .bool, .lf, .lf, .int, .int], [(.v (.a (.one (.pt 1 0)))), (.v (.a (.one (.pt 2 0)))), (.v (.a (.one (.int .i64)))), (.v (.a (.one (.int .i64))))], [.keep, (.box 26 [(.int .i64), (.int .i64), .bool, (.sl 3)]), (.box 26 [(.int .i64), (.int .i64), .bool, (.sl 4)]), (.row 33 (.F .f32)), (.row 33 (.F .f32))]⟩ (.seq .leaf (.seq .leaf (.seq (.block (.seq .leaf (.seq .leaf (.block (.loop ⟨[8, 9, 10, 17, 18, 21, 22], [.int, .int, .bool, .int, .int, .bool, .lf, .lf, .int, .int, .int, .int, .int], [(.v (.a (.one (.pt 1 0)))), (.v (.a (.one (.pt 2 0)))), (.v (.a (.one (.int .i64)))), (.v (.a (.one (.int .i64)))), (.v (.a (.one (.int .i64)))), (.v (.a (.one (.int .i64)))), (.v (.a (.one (.int .i64))))], [.keep, (.box 26 [(.int .i64), (.int .i64), .bool, (.sl 3)]), (.box 26 [(.int .i64), (.int .i64), .bool, (.sl 4)]), (.row 33 (.F .f32)), (.row 33 (.F .f32))]⟩ .leaf))))) .leaf)))))) .leaf))), []⟩
noncomputable def impl_made__Field_steep.i : FnI := impl_made__Field_steep.ib impl_Field_steep.wp
noncomputable def impl_made__Field_steep.bd (w_impl_Field_steep : List Nat → Int → Int → Bool → Int → Int → (Nat → Prop) → Prop) : List Nat → Int → Int → Bool → Int → Int → Bool → (List Nat → Int → Int → Bool → Prop) → Prop := (impl_made__Field_steep.ib w_impl_Field_steep).W impl_made__Field_steep.g
noncomputable def impl_made__Field_steep.wp : List Nat → Int → Int → Bool → Int → Int → Bool → (List Nat → Int → Int → Bool → Prop) → Prop := impl_made__Field_steep.bd impl_Field_steep.wp
noncomputable def impl_made__Field_steep.c : Ctr := impl_made__Field_steep.g.ctr impl_made__Field_steep.wp

-- (loop.example/g01247/impl.Field).each
noncomputable def impl_Field_each__Field_steep.g : Sig := ⟨41, [(.v (.a (.agg [(.int .i64), (.int .i64), .bool, (.sl 0)]))), (.v (.fn 42 [(.agg [(.int .i64), (.int .i64), .bool, (.sl 1)])] []))], [(.rd (.F .f32)), (.rd (.F .f32))], [.lf, .lf, .int, .int, .bool, .int, .int, .bool], [(.v (.a (.agg [(.int .i64), (.int .i64), .bool, (.sl 2)])))], [.keep, .keep, (.row 33 (.F .f32))], [.lf, .int, .int, .bool]⟩
noncomputable def impl_Field_each__Field_steep.ib (w_impl_made__Field_steep : List Nat → Int → Int → Bool → Int → Int → Bool → (List Nat → Int → Int → Bool → Prop) → Prop) : FnI := ⟨Try.prog, [], [impl_made__Field_steep.g.ctr w_impl_made__Field_steep], 13, [.cell 4 26], bodyOf Try.f41, .leaf, []⟩
noncomputable def impl_Field_each__Field_steep.i : FnI := impl_Field_each__Field_steep.ib impl_made__Field_steep.wp
noncomputable def impl_Field_each__Field_steep.bd (w_impl_made__Field_steep : List Nat → Int → Int → Bool → Int → Int → Bool → (List Nat → Int → Int → Bool → Prop) → Prop) : List Nat → List Nat → Int → Int → Bool → Int → Int → Bool → (List Nat → Int → Int → Bool → Prop) → Prop := (impl_Field_each__Field_steep.ib w_impl_made__Field_steep).W impl_Field_each__Field_steep.g
noncomputable def impl_Field_each__Field_steep.wp : List Nat → List Nat → Int → Int → Bool → Int → Int → Bool → (List Nat → Int → Int → Bool → Prop) → Prop := impl_Field_each__Field_steep.bd impl_made__Field_steep.wp
noncomputable def impl_Field_each__Field_steep.c : Ctr := impl_Field_each__Field_steep.g.ctr impl_Field_each__Field_steep.wp

-- loop.example/g01247/impl.SteepField
noncomputable def impl_SteepField.g : Sig := ⟨13, [(.v (.a (.agg [(.int .i64), (.int .i64), .bool, (.sl 0)])))], [(.rd (.F .f32))], [.lf, .int, .int, .bool], [(.tup [(.a (.agg [(.int .i64), (.int .i64), .bool, (.sl 1)])), (.a (.one .bool))])], [.keep, (.row 33 (.F .f32))], [.lf, .int, .int, .bool, .bool]⟩
noncomputable def impl_SteepField.ib (w_impl_ValidField : List Nat → Int → Int → Bool → (Bool → Prop) → Prop) (w_impl_Field_each__Field_steep : List Nat → List Nat → Int → Int → Bool → Int → Int → Bool → (List Nat → Int → Int → Bool → Prop) → Prop) : FnI := ⟨Try.prog, [], [impl_ValidField.g.ctr w_impl_ValidField, impl_Field_each__Field_steep.g.ctr w_impl_Field_each__Field_steep], 12, [.cell 2 26, .tmp 3], bodyOf Try.f13, .leaf, []⟩
noncomputable def impl_SteepField.i : FnI := impl_SteepField.ib impl_ValidField.wp impl_Field_each__Field_steep.wp
noncomputable def impl_SteepField.bd (w_impl_ValidField : List Nat → Int → Int → Bool → (Bool → Prop) → Prop) (w_impl_Field_each__Field_steep : List Nat → List Nat → Int → Int → Bool → Int → Int → Bool → (List Nat → Int → Int → Bool → Prop) → Prop) : List Nat → Int → Int → Bool → (List Nat → Int → Int → Bool → Bool → Prop) → Prop := (impl_SteepField.ib w_impl_ValidField w_impl_Field_each__Field_steep).W impl_SteepField.g
noncomputable def impl_SteepField.wp : List Nat → Int → Int → Bool → (List Nat → Int → Int → Bool → Bool → Prop) → Prop := impl_SteepField.bd impl_ValidField.wp impl_Field_each__Field_steep.wp
noncomputable def impl_SteepField.c : Ctr := impl_SteepField.g.ctr impl_SteepField.wp

-- loop.example/g01247/laws.sameFloat
noncomputable def laws_sameFloat.g : Sig := ⟨21, [(.v (.a (.one (.flt .f64)))), (.v (.a (.one (.flt .f64))))], [], [.flt, .flt], [(.v (.a (.one .bool)))], [], [.bool]⟩
noncomputable def laws_sameFloat.ib  : FnI := ⟨Try.prog, [], [], 37, [.tmp 4], bodyOf Try.f21, .leaf, []⟩
noncomputable def laws_sameFloat.i : FnI := laws_sameFloat.ib 
noncomputable def laws_sameFloat.bd  : Nat → Nat → (Bool → Prop) → Prop := (laws_sameFloat.ib ).W laws_sameFloat.g
noncomputable def laws_sameFloat.wp : Nat → Nat → (Bool → Prop) → Prop := laws_sameFloat.bd 
noncomputable def laws_sameFloat.c : Ctr := laws_sameFloat.g.ctr laws_sameFloat.wp

-- loop.example/g01247/laws.eqFloat32S
noncomputable def laws_eqFloat32S.g : Sig := ⟨43, [(.v (.a (.one (.sl 0)))), (.v (.a (.one (.sl 1))))], [(.rd (.F .f32)), (.rd (.F .f32))], [.lf, .lf], [(.v (.a (.one .bool)))], [.keep, .keep], [.bool]⟩
noncomputable def laws_eqFloat32S.ib (w_laws_sameFloat : Nat → Nat → (Bool → Prop) → Prop) : FnI := ⟨Try.prog, [], [laws_sameFloat.g.ctr w_laws_sameFloat], 29, [.tmp 4], bodyOf Try.f43, (.seq .leaf (.seq .leaf (.seq (.seq .leaf (.block (.loop ⟨[5], [.int], [(.v (.a (.one (.int .i64))))], [.keep, .keep]⟩ .leaf))) .leaf))), []⟩
noncomputable def laws_eqFloat32S.i : FnI := laws_eqFloat32S.ib laws_sameFloat.wp
noncomputable def laws_eqFloat32S.bd (w_laws_sameFloat : Nat → Nat → (Bool → Prop) → Prop) : List Nat → List Nat → (Bool → Prop) → Prop := (laws_eqFloat32S.ib w_laws_sameFloat).W laws_eqFloat32S.g
noncomputable def laws_eqFloat32S.wp : List Nat → List Nat → (Bool → Prop) → Prop := laws_eqFloat32S.bd laws_sameFloat.wp
noncomputable def laws_eqFloat32S.c : Ctr := laws_eqFloat32S.g.ctr laws_eqFloat32S.wp

-- loop.example/g01247/laws.eqField
noncomputable def laws_eqField.g : Sig := ⟨14, [(.v (.a (.agg [(.int .i64), (.int .i64), .bool, (.sl 0)]))), (.v (.a (.agg [(.int .i64), (.int .i64), .bool, (.sl 1)])))], [(.rd (.F .f32)), (.rd (.F .f32))], [.lf, .lf, .int, .int, .bool, .int, .int, .bool], [(.v (.a (.one .bool)))], [.keep, .keep], [.bool]⟩
noncomputable def laws_eqField.ib (w_laws_eqFloat32S : List Nat → List Nat → (Bool → Prop) → Prop) : FnI := ⟨Try.prog, [], [laws_eqFloat32S.g.ctr w_laws_eqFloat32S], 26, [.tmp 4], bodyOf Try.f14, .leaf, []⟩
noncomputable def laws_eqField.i : FnI := laws_eqField.ib laws_eqFloat32S.wp
noncomputable def laws_eqField.bd (w_laws_eqFloat32S : List Nat → List Nat → (Bool → Prop) → Prop) : List Nat → List Nat → Int → Int → Bool → Int → Int → Bool → (Bool → Prop) → Prop := (laws_eqField.ib w_laws_eqFloat32S).W laws_eqField.g
noncomputable def laws_eqField.wp : List Nat → List Nat → Int → Int → Bool → Int → Int → Bool → (Bool → Prop) → Prop := laws_eqField.bd laws_eqFloat32S.wp
noncomputable def laws_eqField.c : Ctr := laws_eqField.g.ctr laws_eqField.wp

-- loop.example/g01247/laws.markFloat32S
noncomputable def laws_markFloat32S.g : Sig := ⟨44, [(.v (.a (.one (.sl 0)))), (.v (.a (.one (.int .i64))))], [(.row 33 (.F .f32))], [.lf, .int], [(.v (.a (.one (.int .i64))))], [(.row 33 (.F .f32))], [.lf, .int]⟩
noncomputable def laws_markFloat32S.ib  : FnI := ⟨Try.prog, [], [], 20, [.tmp 4], bodyOf Try.f44, (.seq .leaf (.seq (.seq .leaf (.block (.loop ⟨[1, 5], [.lf, .int, .int], [(.v (.a (.one (.int .i64)))), (.v (.a (.one (.int .i64))))], [(.row 33 (.F .f32))]⟩ .leaf))) .leaf)), [1]⟩
noncomputable def laws_markFloat32S.i : FnI := laws_markFloat32S.ib 
noncomputable def laws_markFloat32S.bd  : List Nat → Int → (List Nat → Int → Prop) → Prop := (laws_markFloat32S.ib ).W laws_markFloat32S.g
noncomputable def laws_markFloat32S.wp : List Nat → Int → (List Nat → Int → Prop) → Prop := laws_markFloat32S.bd 
noncomputable def laws_markFloat32S.c : Ctr := laws_markFloat32S.g.ctr laws_markFloat32S.wp

-- loop.example/g01247/laws.markField
noncomputable def laws_markField.g : Sig := ⟨15, [(.v (.a (.agg [(.int .i64), (.int .i64), .bool, (.sl 0)]))), (.v (.a (.one (.int .i64))))], [(.row 33 (.F .f32))], [.lf, .int, .int, .bool, .int], [(.v (.a (.one (.int .i64))))], [(.row 33 (.F .f32))], [.lf, .int]⟩
noncomputable def laws_markField.ib (w_laws_markFloat32S : List Nat → Int → (List Nat → Int → Prop) → Prop) : FnI := ⟨Try.prog, [], [laws_markFloat32S.g.ctr w_laws_markFloat32S], 10, [.tmp 4], bodyOf Try.f15, .leaf, [1]⟩
noncomputable def laws_markField.i : FnI := laws_markField.ib laws_markFloat32S.wp
noncomputable def laws_markField.bd (w_laws_markFloat32S : List Nat → Int → (List Nat → Int → Prop) → Prop) : List Nat → Int → Int → Bool → Int → (List Nat → Int → Prop) → Prop := (laws_markField.ib w_laws_markFloat32S).W laws_markField.g
noncomputable def laws_markField.wp : List Nat → Int → Int → Bool → Int → (List Nat → Int → Prop) → Prop := laws_markField.bd laws_markFloat32S.wp
noncomputable def laws_markField.c : Ctr := laws_markField.g.ctr laws_markField.wp

-- loop.example/g01247/laws.heldFloat32S
noncomputable def laws_heldFloat32S.g : Sig := ⟨45, [(.v (.a (.one (.sl 0)))), (.v (.a (.one (.int .i64))))], [(.rd (.F .f32))], [.lf, .int], [(.v (.a (.one (.int .i64))))], [.keep], [.int]⟩
noncomputable def laws_heldFloat32S.ib  : FnI := ⟨Try.prog, [], [], 22, [.tmp 4], bodyOf Try.f45, (.seq .leaf (.seq (.seq .leaf (.block (.loop ⟨[1, 5], [.int, .int], [(.v (.a (.one (.int .i64)))), (.v (.a (.one (.int .i64))))], [.keep]⟩ .leaf))) .leaf)), [1]⟩
noncomputable def laws_heldFloat32S.i : FnI := laws_heldFloat32S.ib 
noncomputable def laws_heldFloat32S.bd  : List Nat → Int → (Int → Prop) → Prop := (laws_heldFloat32S.ib ).W laws_heldFloat32S.g
noncomputable def laws_heldFloat32S.wp : List Nat → Int → (Int → Prop) → Prop := laws_heldFloat32S.bd 
noncomputable def laws_heldFloat32S.c : Ctr := laws_heldFloat32S.g.ctr laws_heldFloat32S.wp

-- loop.example/g01247/laws.heldField
noncomputable def laws_heldField.g : Sig := ⟨16, [(.v (.a (.agg [(.int .i64), (.int .i64), .bool, (.sl 0)]))), (.v (.a (.one (.int .i64))))], [(.rd (.F .f32))], [.lf, .int, .int, .bool, .int], [(.v (.a (.one (.int .i64))))], [.keep], [.int]⟩
noncomputable def laws_heldField.ib (w_laws_heldFloat32S : List Nat → Int → (Int → Prop) → Prop) : FnI := ⟨Try.prog, [], [laws_heldFloat32S.g.ctr w_laws_heldFloat32S], 12, [.tmp 4], bodyOf Try.f16, .leaf, [1]⟩
noncomputable def laws_heldField.i : FnI := laws_heldField.ib laws_heldFloat32S.wp
noncomputable def laws_heldField.bd (w_laws_heldFloat32S : List Nat → Int → (Int → Prop) → Prop) : List Nat → Int → Int → Bool → Int → (Int → Prop) → Prop := (laws_heldField.ib w_laws_heldFloat32S).W laws_heldField.g
noncomputable def laws_heldField.wp : List Nat → Int → Int → Bool → Int → (Int → Prop) → Prop := laws_heldField.bd laws_heldFloat32S.wp
noncomputable def laws_heldField.c : Ctr := laws_heldField.g.ctr laws_heldField.wp

-- loop.example/g01247/laws.FnExactSteepField
noncomputable def laws_FnExactSteepField.g : Sig := ⟨3, [(.v (.a (.agg [(.int .i64), (.int .i64), .bool, (.sl 0)])))], [(.rd (.F .f32))], [.lf, .int, .int, .bool], [(.v (.a (.one .bool)))], [.keep], [.bool]⟩
noncomputable def laws_FnExactSteepField.ib (w_laws_szField : List Nat → Int → Int → Bool → Int → (Int → Prop) → Prop) (w_laws_toField : List Nat → Int → Int → Bool → (List Nat → Int → Int → Bool → Prop) → Prop) (w_spec_SteepField : List Nat → Int → Int → Bool → (List Nat → Int → Int → Bool → Bool → Prop) → Prop) (w_impl_SteepField : List Nat → Int → Int → Bool → (List Nat → Int → Int → Bool → Bool → Prop) → Prop) (w_laws_eqField : List Nat → List Nat → Int → Int → Bool → Int → Int → Bool → (Bool → Prop) → Prop) (w_laws_markField : List Nat → Int → Int → Bool → Int → (List Nat → Int → Prop) → Prop) (w_laws_heldField : List Nat → Int → Int → Bool → Int → (Int → Prop) → Prop) : FnI := ⟨Try.prog, [], [laws_szField.g.ctr w_laws_szField, laws_toField.g.ctr w_laws_toField, spec_SteepField.g.ctr w_spec_SteepField, impl_SteepField.g.ctr w_impl_SteepField, laws_eqField.g.ctr w_laws_eqField, laws_markField.g.ctr w_laws_markField, laws_heldField.g.ctr w_laws_heldField], 96, [.tmp 2], bodyOf Try.f3, .leaf, []⟩
noncomputable def laws_FnExactSteepField.i : FnI := laws_FnExactSteepField.ib laws_szField.wp laws_toField.wp spec_SteepField.wp impl_SteepField.wp laws_eqField.wp laws_markField.wp laws_heldField.wp
noncomputable def laws_FnExactSteepField.bd (w_laws_szField : List Nat → Int → Int → Bool → Int → (Int → Prop) → Prop) (w_laws_toField : List Nat → Int → Int → Bool → (List Nat → Int → Int → Bool → Prop) → Prop) (w_spec_SteepField : List Nat → Int → Int → Bool → (List Nat → Int → Int → Bool → Bool → Prop) → Prop) (w_impl_SteepField : List Nat → Int → Int → Bool → (List Nat → Int → Int → Bool → Bool → Prop) → Prop) (w_laws_eqField : List Nat → List Nat → Int → Int → Bool → Int → Int → Bool → (Bool → Prop) → Prop) (w_laws_markField : List Nat → Int → Int → Bool → Int → (List Nat → Int → Prop) → Prop) (w_laws_heldField : List Nat → Int → Int → Bool → Int → (Int → Prop) → Prop) : List Nat → Int → Int → Bool → (Bool → Prop) → Prop := (laws_FnExactSteepField.ib w_laws_szField w_laws_toField w_spec_SteepField w_impl_SteepField w_laws_eqField w_laws_markField w_laws_heldField).W laws_FnExactSteepField.g
noncomputable def laws_FnExactSteepField.wp : List Nat → Int → Int → Bool → (Bool → Prop) → Prop := laws_FnExactSteepField.bd laws_szField.wp laws_toField.wp spec_SteepField.wp impl_SteepField.wp laws_eqField.wp laws_markField.wp laws_heldField.wp
noncomputable def laws_FnExactSteepField.c : Ctr := laws_FnExactSteepField.g.ctr laws_FnExactSteepField.wp

-- loop.example/g01247/laws.szMelt
noncomputable def laws_szMelt.g : Sig := ⟨17, [(.v (.a (.agg [(.int .i64), (.int .i64), .bool, (.sl 0), (.int .i64), (.int .i64), .bool, (.sl 1), (.flt .f32), (.flt .f32), (.flt .f32), (.flt .f32), (.flt .f32), (.int .i64)]))), (.v (.a (.one (.int .i64))))], [(.rd (.F .f32)), (.rd (.F .f32))], [.lf, .lf, .int, .int, .bool, .int, .int, .bool, .flt, .flt, .flt, .flt, .flt, .int, .int], [(.v (.a (.one (.int .i64))))], [.keep, .keep], [.int]⟩
noncomputable def laws_szMelt.ib (w_laws_szField : List Nat → Int → Int → Bool → Int → (Int → Prop) → Prop) : FnI := ⟨Try.prog, [], [laws_szField.g.ctr w_laws_szField], 18, [.tmp 4], bodyOf Try.f17, .leaf, [1]⟩
noncomputable def laws_szMelt.i : FnI := laws_szMelt.ib laws_szField.wp
noncomputable def laws_szMelt.bd (w_laws_szField : List Nat → Int → Int → Bool → Int → (Int → Prop) → Prop) : List Nat → List Nat → Int → Int → Bool → Int → Int → Bool → Nat → Nat → Nat → Nat → Nat → Int → Int → (Int → Prop) → Prop := (laws_szMelt.ib w_laws_szField).W laws_szMelt.g
noncomputable def laws_szMelt.wp : List Nat → List Nat → Int → Int → Bool → Int → Int → Bool → Nat → Nat → Nat → Nat → Nat → Int → Int → (Int → Prop) → Prop := laws_szMelt.bd laws_szField.wp
noncomputable def laws_szMelt.c : Ctr := laws_szMelt.g.ctr laws_szMelt.wp

-- loop.example/g01247/laws.toMelt
noncomputable def laws_toMelt.g : Sig := ⟨19, [(.v (.a (.agg [(.int .i64), (.int .i64), .bool, (.sl 0), (.int .i64), (.int .i64), .bool, (.sl 1), (.flt .f32), (.flt .f32), (.flt .f32), (.flt .f32), (.flt .f32), (.int .i64)])))], [(.rd (.F .f32)), (.rd (.F .f32))], [.lf, .lf, .int, .int, .bool, .int, .int, .bool, .flt, .flt, .flt, .flt, .flt, .int], [(.v (.a (.agg [(.int .i64), (.int .i64), .bool, (.sl 2), (.int .i64), (.int .i64), .bool, (.sl 3), (.flt .f32), (.flt .f32), (.flt .f32), (.flt .f32), (.flt .f32), (.int .i64)])))], [.keep, .keep, (.row 33 (.F .f32)), (.row 33 (.F .f32))], [.lf, .lf, .int, .int, .bool, .int, .int, .bool, .flt, .flt, .flt, .flt, .flt, .int]⟩
noncomputable def laws_toMelt.ib (w_laws_toField : List Nat → Int → Int → Bool → (List Nat → Int → Int → Bool → Prop) → Prop) : FnI := ⟨Try.prog, [], [laws_toField.g.ctr w_laws_toField], 31, [.cell 2 40], bodyOf Try.f19, .leaf, []⟩
noncomputable def laws_toMelt.i : FnI := laws_toMelt.ib laws_toField.wp
noncomputable def laws_toMelt.bd (w_laws_toField : List Nat → Int → Int → Bool → (List Nat → Int → Int → Bool → Prop) → Prop) : List Nat → List Nat → Int → Int → Bool → Int → Int → Bool → Nat → Nat → Nat → Nat → Nat → Int → (List Nat → List Nat → Int → Int → Bool → Int → Int → Bool → Nat → Nat → Nat → Nat → Nat → Int → Prop) → Prop := (laws_toMelt.ib w_laws_toField).W laws_toMelt.g
noncomputable def laws_toMelt.wp : List Nat → List Nat → Int → Int → Bool → Int → Int → Bool → Nat → Nat → Nat → Nat → Nat → Int → (List Nat → List Nat → Int → Int → Bool → Int → Int → Bool → Nat → Nat → Nat → Nat → Nat → Int → Prop) → Prop := laws_toMelt.bd laws_toField.wp
noncomputable def laws_toMelt.c : Ctr := laws_toMelt.g.ctr laws_toMelt.wp

-- loop.example/g01247/spec.l01Finite
noncomputable def spec_l01Finite.g : Sig := ⟨47, [(.v (.a (.one (.flt .f32))))], [], [.flt], [(.v (.a (.one .bool)))], [], [.bool]⟩
noncomputable def spec_l01Finite.ib  : FnI := ⟨Try.prog, [], [], 7, [.tmp 2], bodyOf Try.f47, .leaf, []⟩
noncomputable def spec_l01Finite.i : FnI := spec_l01Finite.ib 
noncomputable def spec_l01Finite.bd  : Nat → (Bool → Prop) → Prop := (spec_l01Finite.ib ).W spec_l01Finite.g
noncomputable def spec_l01Finite.wp : Nat → (Bool → Prop) → Prop := spec_l01Finite.bd 
noncomputable def spec_l01Finite.c : Ctr := spec_l01Finite.g.ctr spec_l01Finite.wp

-- loop.example/g01247/spec.l03Least
noncomputable def spec_l03Least.g : Sig := ⟨78, [(.v (.a (.one (.flt .f32))))], [], [.flt], [(.v (.a (.one .bool)))], [], [.bool]⟩
noncomputable def spec_l03Least.ib (w_spec_l01Finite : Nat → (Bool → Prop) → Prop) : FnI := ⟨Try.prog, [], [spec_l01Finite.g.ctr w_spec_l01Finite], 9, [.tmp 2], bodyOf Try.f78, .leaf, []⟩
noncomputable def spec_l03Least.i : FnI := spec_l03Least.ib spec_l01Finite.wp
noncomputable def spec_l03Least.bd (w_spec_l01Finite : Nat → (Bool → Prop) → Prop) : Nat → (Bool → Prop) → Prop := (spec_l03Least.ib w_spec_l01Finite).W spec_l03Least.g
noncomputable def spec_l03Least.wp : Nat → (Bool → Prop) → Prop := spec_l03Least.bd spec_l01Finite.wp
noncomputable def spec_l03Least.c : Ctr := spec_l03Least.g.ctr spec_l03Least.wp

-- loop.example/g01247/spec.l03Is
noncomputable def spec_l03Is.g : Sig := ⟨53, [(.v (.a (.one (.pt 0 0))))], [(.rdb [(.int .i64), (.int .i64), .bool, (.sl 1), (.int .i64), (.int .i64), .bool, (.sl 2), (.flt .f32), (.flt .f32), (.flt .f32), (.flt .f32), (.flt .f32), (.int .i64)]), (.rd (.F .f32)), (.rd (.F .f32))], [.int, .int, .bool, .int, .int, .bool, .flt, .flt, .flt, .flt, .flt, .int, .lf, .lf], [(.v (.a (.one .bool)))], [.keep, .keep, .keep], [.bool]⟩
noncomputable def spec_l03Is.ib (w_spec_l02Is : Int → Int → Bool → List Nat → (Bool → Prop) → Prop) (w_spec_l01Finite : Nat → (Bool → Prop) → Prop) (w_spec_l03Least : Nat → (Bool → Prop) → Prop) (w_spec_l00In : Int → Int → Int → (Bool → Prop) → Prop) : FnI := ⟨Try.prog, [], [spec_l02Is.g.ctr w_spec_l02Is, spec_l01Finite.g.ctr w_spec_l01Finite, spec_l03Least.g.ctr w_spec_l03Least, spec_l00In.g.ctr w_spec_l00In], 145, [.tmp 2], bodyOf Try.f53, (.seq .leaf (.seq .leaf (.seq (.seq .leaf (.block (.loop ⟨[60, 61], [.int, .int], [(.v (.a (.one (.int .i64)))), (.v (.a (.one (.int .i64))))], [.keep, .keep, .keep]⟩ .leaf))) .leaf))), []⟩
noncomputable def spec_l03Is.i : FnI := spec_l03Is.ib spec_l02Is.wp spec_l01Finite.wp spec_l03Least.wp spec_l00In.wp
noncomputable def spec_l03Is.bd (w_spec_l02Is : Int → Int → Bool → List Nat → (Bool → Prop) → Prop) (w_spec_l01Finite : Nat → (Bool → Prop) → Prop) (w_spec_l03Least : Nat → (Bool → Prop) → Prop) (w_spec_l00In : Int → Int → Int → (Bool → Prop) → Prop) : Int → Int → Bool → Int → Int → Bool → Nat → Nat → Nat → Nat → Nat → Int → List Nat → List Nat → (Bool → Prop) → Prop := (spec_l03Is.ib w_spec_l02Is w_spec_l01Finite w_spec_l03Least w_spec_l00In).W spec_l03Is.g
noncomputable def spec_l03Is.wp : Int → Int → Bool → Int → Int → Bool → Nat → Nat → Nat → Nat → Nat → Int → List Nat → List Nat → (Bool → Prop) → Prop := spec_l03Is.bd spec_l02Is.wp spec_l01Finite.wp spec_l03Least.wp spec_l00In.wp
noncomputable def spec_l03Is.c : Ctr := spec_l03Is.g.ctr spec_l03Is.wp

-- loop.example/g01247/spec.l03Cell
noncomputable def spec_l03Cell.g : Sig := ⟨46, [(.v (.a (.one (.pt 0 0)))), (.v (.a (.one (.int .i64)))), (.v (.a (.one (.int .i64))))], [(.rdb [(.int .i64), (.int .i64), .bool, (.sl 1), (.int .i64), (.int .i64), .bool, (.sl 2), (.flt .f32), (.flt .f32), (.flt .f32), (.flt .f32), (.flt .f32), (.int .i64)]), (.rd (.F .f32)), (.rd (.F .f32))], [.int, .int, .bool, .int, .int, .bool, .flt, .flt, .flt, .flt, .flt, .int, .lf, .lf, .int, .int], [(.v (.a (.one .bool)))], [.keep, .keep, .keep], [.bool]⟩
noncomputable def spec_l03Cell.ib (w_spec_l03Is : Int → Int → Bool → Int → Int → Bool → Nat → Nat → Nat → Nat → Nat → Int → List Nat → List Nat → (Bool → Prop) → Prop) (w_spec_l00In : Int → Int → Int → (Bool → Prop) → Prop) : FnI := ⟨Try.prog, [], [spec_l03Is.g.ctr w_spec_l03Is, spec_l00In.g.ctr w_spec_l00In], 29, [.tmp 6], bodyOf Try.f46, .leaf, []⟩
noncomputable def spec_l03Cell.i : FnI := spec_l03Cell.ib spec_l03Is.wp spec_l00In.wp
noncomputable def spec_l03Cell.bd (w_spec_l03Is : Int → Int → Bool → Int → Int → Bool → Nat → Nat → Nat → Nat → Nat → Int → List Nat → List Nat → (Bool → Prop) → Prop) (w_spec_l00In : Int → Int → Int → (Bool → Prop) → Prop) : Int → Int → Bool → Int → Int → Bool → Nat → Nat → Nat → Nat → Nat → Int → List Nat → List Nat → Int → Int → (Bool → Prop) → Prop := (spec_l03Cell.ib w_spec_l03Is w_spec_l00In).W spec_l03Cell.g
noncomputable def spec_l03Cell.wp : Int → Int → Bool → Int → Int → Bool → Nat → Nat → Nat → Nat → Nat → Int → List Nat → List Nat → Int → Int → (Bool → Prop) → Prop := spec_l03Cell.bd spec_l03Is.wp spec_l00In.wp
noncomputable def spec_l03Cell.c : Ctr := spec_l03Cell.g.ctr spec_l03Cell.wp

-- loop.example/g01247/spec.l03Drive
noncomputable def spec_l03Drive.g : Sig := ⟨48, [(.v (.a (.one (.pt 0 0)))), (.v (.a (.one (.int .i64)))), (.v (.a (.one (.int .i64))))], [(.rdb [(.int .i64), (.int .i64), .bool, (.sl 1), (.int .i64), (.int .i64), .bool, (.sl 2), (.flt .f32), (.flt .f32), (.flt .f32), (.flt .f32), (.flt .f32), (.int .i64)]), (.rd (.F .f32)), (.rd (.F .f32))], [.int, .int, .bool, .int, .int, .bool, .flt, .flt, .flt, .flt, .flt, .int, .lf, .lf, .int, .int], [(.v (.a (.one (.flt .f32))))], [.keep, .keep, .keep], [.flt]⟩
noncomputable def spec_l03Drive.ib (w_spec_l02At : Int → Int → Bool → List Nat → Int → Int → (Nat → Prop) → Prop) : FnI := ⟨Try.prog, [], [spec_l02At.g.ctr w_spec_l02At], 31, [.tmp 6], bodyOf Try.f48, .leaf, []⟩
noncomputable def spec_l03Drive.i : FnI := spec_l03Drive.ib spec_l02At.wp
noncomputable def spec_l03Drive.bd (w_spec_l02At : Int → Int → Bool → List Nat → Int → Int → (Nat → Prop) → Prop) : Int → Int → Bool → Int → Int → Bool → Nat → Nat → Nat → Nat → Nat → Int → List Nat → List Nat → Int → Int → (Nat → Prop) → Prop := (spec_l03Drive.ib w_spec_l02At).W spec_l03Drive.g
noncomputable def spec_l03Drive.wp : Int → Int → Bool → Int → Int → Bool → Nat → Nat → Nat → Nat → Nat → Int → List Nat → List Nat → Int → Int → (Nat → Prop) → Prop := spec_l03Drive.bd spec_l02At.wp
noncomputable def spec_l03Drive.c : Ctr := spec_l03Drive.g.ctr spec_l03Drive.wp

-- loop.example/g01247/spec.l03Pull
noncomputable def spec_l03Pull.g : Sig := ⟨50, [(.v (.a (.one (.pt 0 0)))), (.v (.a (.one (.int .i64)))), (.v (.a (.one (.int .i64))))], [(.rdb [(.int .i64), (.int .i64), .bool, (.sl 1), (.int .i64), (.int .i64), .bool, (.sl 2), (.flt .f32), (.flt .f32), (.flt .f32), (.flt .f32), (.flt .f32), (.int .i64)]), (.rd (.F .f32)), (.rd (.F .f32))], [.int, .int, .bool, .int, .int, .bool, .flt, .flt, .flt, .flt, .flt, .int, .lf, .lf, .int, .int], [(.v (.a (.one (.flt .f32))))], [.keep, .keep, .keep], [.flt]⟩
noncomputable def spec_l03Pull.ib (w_spec_l02At : Int → Int → Bool → List Nat → Int → Int → (Nat → Prop) → Prop) (w_spec_l03Drive : Int → Int → Bool → Int → Int → Bool → Nat → Nat → Nat → Nat → Nat → Int → List Nat → List Nat → Int → Int → (Nat → Prop) → Prop) : FnI := ⟨Try.prog, [], [spec_l02At.g.ctr w_spec_l02At, spec_l03Drive.g.ctr w_spec_l03Drive], 26, [.tmp 6], bodyOf Try.f50, .leaf, []⟩
noncomputable def spec_l03Pull.i : FnI := spec_l03Pull.ib spec_l02At.wp spec_l03Drive.wp
noncomputable def spec_l03Pull.bd (w_spec_l02At : Int → Int → Bool → List Nat → Int → Int → (Nat → Prop) → Prop) (w_spec_l03Drive : Int → Int → Bool → Int → Int → Bool → Nat → Nat → Nat → Nat → Nat → Int → List Nat → List Nat → Int → Int → (Nat → Prop) → Prop) : Int → Int → Bool → Int → Int → Bool → Nat → Nat → Nat → Nat → Nat → Int → List Nat → List Nat → Int → Int → (Nat → Prop) → Prop := (spec_l03Pull.ib w_spec_l02At w_spec_l03Drive).W spec_l03Pull.g
noncomputable def spec_l03Pull.wp : Int → Int → Bool → Int → Int → Bool → Nat → Nat → Nat → Nat → Nat → Int → List Nat → List Nat → Int → Int → (Nat → Prop) → Prop := spec_l03Pull.bd spec_l02At.wp spec_l03Drive.wp
noncomputable def spec_l03Pull.c : Ctr := spec_l03Pull.g.ctr spec_l03Pull.wp

-- loop.example/g01247/spec.l03Number
noncomputable def spec_l03Number.g : Sig := ⟨49, [(.v (.a (.one (.flt .f32))))], [], [.flt], [(.tup [(.a (.one (.flt .f32))), (.a (.one .bool))])], [], [.flt, .bool]⟩
noncomputable def spec_l03Number.ib (w_spec_l01Finite : Nat → (Bool → Prop) → Prop) : FnI := ⟨Try.prog, [], [spec_l01Finite.g.ctr w_spec_l01Finite], 8, [.tmp 2, .tmp 3], bodyOf Try.f49, .leaf, []⟩
noncomputable def spec_l03Number.i : FnI := spec_l03Number.ib spec_l01Finite.wp
noncomputable def spec_l03Number.bd (w_spec_l01Finite : Nat → (Bool → Prop) → Prop) : Nat → (Nat → Bool → Prop) → Prop := (spec_l03Number.ib w_spec_l01Finite).W spec_l03Number.g
noncomputable def spec_l03Number.wp : Nat → (Nat → Bool → Prop) → Prop := spec_l03Number.bd spec_l01Finite.wp
noncomputable def spec_l03Number.c : Ctr := spec_l03Number.g.ctr spec_l03Number.wp

-- loop.example/g01247/spec.PullAt
noncomputable def spec_PullAt.g : Sig := ⟨18, [(.v (.a (.agg [(.int .i64), (.int .i64), .bool, (.sl 0), (.int .i64), (.int .i64), .bool, (.sl 1), (.flt .f32), (.flt .f32), (.flt .f32), (.flt .f32), (.flt .f32), (.int .i64)]))), (.v (.a (.one (.int .i64)))), (.v (.a (.one (.int .i64))))], [(.rd (.F .f32)), (.rd (.F .f32))], [.lf, .lf, .int, .int, .bool, .int, .int, .bool, .flt, .flt, .flt, .flt, .flt, .int, .int, .int], [(.tup [(.a (.one (.flt .f32))), (.a (.one .bool))])], [.keep, .keep], [.flt, .bool]⟩
noncomputable def spec_PullAt.ib (w_spec_l03Cell : Int → Int → Bool → Int → Int → Bool → Nat → Nat → Nat → Nat → Nat → Int → List Nat → List Nat → Int → Int → (Bool → Prop) → Prop) (w_spec_l03Drive : Int → Int → Bool → Int → Int → Bool → Nat → Nat → Nat → Nat → Nat → Int → List Nat → List Nat → Int → Int → (Nat → Prop) → Prop) (w_spec_l01Finite : Nat → (Bool → Prop) → Prop) (w_spec_l03Pull : Int → Int → Bool → Int → Int → Bool → Nat → Nat → Nat → Nat → Nat → Int → List Nat → List Nat → Int → Int → (Nat → Prop) → Prop) (w_spec_l03Number : Nat → (Nat → Bool → Prop) → Prop) : FnI := ⟨Try.prog, [], [spec_l03Cell.g.ctr w_spec_l03Cell, spec_l03Drive.g.ctr w_spec_l03Drive, spec_l01Finite.g.ctr w_spec_l01Finite, spec_l03Pull.g.ctr w_spec_l03Pull, spec_l03Number.g.ctr w_spec_l03Number], 25, [.tmp 6, .tmp 7], bodyOf Try.f18, .leaf, []⟩
noncomputable def spec_PullAt.i : FnI := spec_PullAt.ib spec_l03Cell.wp spec_l03Drive.wp spec_l01Finite.wp spec_l03Pull.wp spec_l03Number.wp
noncomputable def spec_PullAt.bd (w_spec_l03Cell : Int → Int → Bool → Int → Int → Bool → Nat → Nat → Nat → Nat → Nat → Int → List Nat → List Nat → Int → Int → (Bool → Prop) → Prop) (w_spec_l03Drive : Int → Int → Bool → Int → Int → Bool → Nat → Nat → Nat → Nat → Nat → Int → List Nat → List Nat → Int → Int → (Nat → Prop) → Prop) (w_spec_l01Finite : Nat → (Bool → Prop) → Prop) (w_spec_l03Pull : Int → Int → Bool → Int → Int → Bool → Nat → Nat → Nat → Nat → Nat → Int → List Nat → List Nat → Int → Int → (Nat → Prop) → Prop) (w_spec_l03Number : Nat → (Nat → Bool → Prop) → Prop) : List Nat → List Nat → Int → Int → Bool → Int → Int → Bool → Nat → Nat → Nat → Nat → Nat → Int → Int → Int → (Nat → Bool → Prop) → Prop := (spec_PullAt.ib w_spec_l03Cell w_spec_l03Drive w_spec_l01Finite w_spec_l03Pull w_spec_l03Number).W spec_PullAt.g
noncomputable def spec_PullAt.wp : List Nat → List Nat → Int → Int → Bool → Int → Int → Bool → Nat → Nat → Nat → Nat → Nat → Int → Int → Int → (Nat → Bool → Prop) → Prop := spec_PullAt.bd spec_l03Cell.wp spec_l03Drive.wp spec_l01Finite.wp spec_l03Pull.wp spec_l03Number.wp
noncomputable def spec_PullAt.c : Ctr := spec_PullAt.g.ctr spec_PullAt.wp

-- loop.example/g01247/impl.alike
noncomputable def impl_alike.g : Sig := ⟨80, [(.v (.a (.agg [(.int .i64), (.int .i64), .bool, (.sl 0)]))), (.v (.a (.agg [(.int .i64), (.int .i64), .bool, (.sl 1)])))], [(.rd (.F .f32)), (.rd (.F .f32))], [.lf, .lf, .int, .int, .bool, .int, .int, .bool], [(.v (.a (.one .bool)))], [.keep, .keep], [.bool]⟩
noncomputable def impl_alike.ib  : FnI := ⟨Try.prog, [], [], 24, [.tmp 4], bodyOf Try.f80, .leaf, []⟩
noncomputable def impl_alike.i : FnI := impl_alike.ib 
noncomputable def impl_alike.bd  : List Nat → List Nat → Int → Int → Bool → Int → Int → Bool → (Bool → Prop) → Prop := (impl_alike.ib ).W impl_alike.g
noncomputable def impl_alike.wp : List Nat → List Nat → Int → Int → Bool → Int → Int → Bool → (Bool → Prop) → Prop := impl_alike.bd 
noncomputable def impl_alike.c : Ctr := impl_alike.g.ctr impl_alike.wp

-- math.IsNaN
noncomputable def math_IsNaN.g : Sig := ⟨104, [(.v (.a (.one (.flt .f64))))], [], [.flt], [(.v (.a (.one .bool)))], [], [.bool]⟩
noncomputable def math_IsNaN.ib  : FnI := ⟨Try.prog, [], [], 6, [.tmp 2], bodyOf Try.f104, .leaf, []⟩
noncomputable def math_IsNaN.i : FnI := math_IsNaN.ib 
noncomputable def math_IsNaN.bd  : Nat → (Bool → Prop) → Prop := (math_IsNaN.ib ).W math_IsNaN.g
noncomputable def math_IsNaN.wp : Nat → (Bool → Prop) → Prop := math_IsNaN.bd 
noncomputable def math_IsNaN.c : Ctr := math_IsNaN.g.ctr math_IsNaN.wp

-- math.Abs
noncomputable def math_Abs.g : Sig := ⟨108, [(.v (.a (.one (.flt .f64))))], [], [.flt], [(.v (.a (.one (.flt .f64))))], [], [.flt]⟩
noncomputable def math_Abs.ib  : FnI := ⟨Try.prog, [(109, .from64), (110, .bits64)], [], 7, [.tmp 2], bodyOf Try.f108, .leaf, []⟩
noncomputable def math_Abs.i : FnI := math_Abs.ib 
noncomputable def math_Abs.bd  : Nat → (Nat → Prop) → Prop := (math_Abs.ib ).W math_Abs.g
noncomputable def math_Abs.wp : Nat → (Nat → Prop) → Prop := math_Abs.bd 
noncomputable def math_Abs.c : Ctr := math_Abs.g.ctr math_Abs.wp

-- math.IsInf
noncomputable def math_IsInf.g : Sig := ⟨105, [(.v (.a (.one (.flt .f64)))), (.v (.a (.one (.int .i64))))], [], [.flt, .int], [(.v (.a (.one .bool)))], [], [.bool]⟩
noncomputable def math_IsInf.ib (w_math_Abs : Nat → (Nat → Prop) → Prop) : FnI := ⟨Try.prog, [], [math_Abs.g.ctr w_math_Abs], 15, [.tmp 4], bodyOf Try.f105, .leaf, [0]⟩
noncomputable def math_IsInf.i : FnI := math_IsInf.ib math_Abs.wp
noncomputable def math_IsInf.bd (w_math_Abs : Nat → (Nat → Prop) → Prop) : Nat → Int → (Bool → Prop) → Prop := (math_IsInf.ib w_math_Abs).W math_IsInf.g
noncomputable def math_IsInf.wp : Nat → Int → (Bool → Prop) → Prop := math_IsInf.bd math_Abs.wp
noncomputable def math_IsInf.c : Ctr := math_IsInf.g.ctr math_IsInf.wp

-- loop.example/g01247/impl.finite
noncomputable def impl_finite.g : Sig := ⟨90, [(.v (.a (.one (.flt .f64))))], [], [.flt], [(.v (.a (.one .bool)))], [], [.bool]⟩
noncomputable def impl_finite.ib (w_math_IsNaN : Nat → (Bool → Prop) → Prop) (w_math_IsInf : Nat → Int → (Bool → Prop) → Prop) : FnI := ⟨Try.prog, [], [math_IsNaN.g.ctr w_math_IsNaN, math_IsInf.g.ctr w_math_IsInf], 11, [.tmp 2], bodyOf Try.f90, .leaf, []⟩
noncomputable def impl_finite.i : FnI := impl_finite.ib math_IsNaN.wp math_IsInf.wp
noncomputable def impl_finite.bd (w_math_IsNaN : Nat → (Bool → Prop) → Prop) (w_math_IsInf : Nat → Int → (Bool → Prop) → Prop) : Nat → (Bool → Prop) → Prop := (impl_finite.ib w_math_IsNaN w_math_IsInf).W impl_finite.g
noncomputable def impl_finite.wp : Nat → (Bool → Prop) → Prop := impl_finite.bd math_IsNaN.wp math_IsInf.wp
noncomputable def impl_finite.c : Ctr := impl_finite.g.ctr impl_finite.wp

-- loop.example/g01247/impl.IsFinite
noncomputable def impl_IsFinite.g : Sig := ⟨63, [(.v (.a (.one (.flt .f32))))], [], [.flt], [(.v (.a (.one .bool)))], [], [.bool]⟩
noncomputable def impl_IsFinite.ib (w_impl_finite : Nat → (Bool → Prop) → Prop) : FnI := ⟨Try.prog, [], [impl_finite.g.ctr w_impl_finite], 6, [.tmp 2], bodyOf Try.f63, .leaf, []⟩
noncomputable def impl_IsFinite.i : FnI := impl_IsFinite.ib impl_finite.wp
noncomputable def impl_IsFinite.bd (w_impl_finite : Nat → (Bool → Prop) → Prop) : Nat → (Bool → Prop) → Prop := (impl_IsFinite.ib w_impl_finite).W impl_IsFinite.g
noncomputable def impl_IsFinite.wp : Nat → (Bool → Prop) → Prop := impl_IsFinite.bd impl_finite.wp
noncomputable def impl_IsFinite.c : Ctr := impl_IsFinite.g.ctr impl_IsFinite.wp

-- loop.example/g01247/impl.areFinite$1
noncomputable def impl_areFinite_1.g : Sig := ⟨115, [(.v (.a (.one (.flt .f32))))], [], [.flt], [(.v (.a (.one .bool)))], [], [.bool]⟩
noncomputable def impl_areFinite_1.ib (w_impl_IsFinite : Nat → (Bool → Prop) → Prop) : FnI := ⟨Try.prog, [], [impl_IsFinite.g.ctr w_impl_IsFinite], 6, [.tmp 2], bodyOf Try.f115, .leaf, []⟩
noncomputable def impl_areFinite_1.i : FnI := impl_areFinite_1.ib impl_IsFinite.wp
noncomputable def impl_areFinite_1.bd (w_impl_IsFinite : Nat → (Bool → Prop) → Prop) : Nat → (Bool → Prop) → Prop := (impl_areFinite_1.ib w_impl_IsFinite).W impl_areFinite_1.g
noncomputable def impl_areFinite_1.wp : Nat → (Bool → Prop) → Prop := impl_areFinite_1.bd impl_IsFinite.wp
noncomputable def impl_areFinite_1.c : Ctr := impl_areFinite_1.g.ctr impl_areFinite_1.wp

-- slices.IndexFunc[[]float32,float32]
noncomputable def slices_IndexFunc_float32_float32__areFinite_1.g : Sig := ⟨102, [(.v (.a (.one (.sl 0)))), (.v (.fn 115 [] []))], [(.rd (.F .f32))], [.lf], [(.v (.a (.one (.int .i64))))], [.keep], [.int]⟩
noncomputable def slices_IndexFunc_float32_float32__areFinite_1.ib (w_impl_areFinite_1 : Nat → (Bool → Prop) → Prop) : FnI := ⟨Try.prog, [], [impl_areFinite_1.g.ctr w_impl_areFinite_1], 19, [.tmp 4], bodyOf Try.f102, (.seq .leaf (.seq (.seq .leaf (.block (.loop ⟨[7, 8], [.int, .int], [(.v (.a (.one (.int .i64)))), (.v (.a (.one (.int .i64))))], [.keep]⟩ .leaf))) .leaf)), []⟩
noncomputable def slices_IndexFunc_float32_float32__areFinite_1.i : FnI := slices_IndexFunc_float32_float32__areFinite_1.ib impl_areFinite_1.wp
noncomputable def slices_IndexFunc_float32_float32__areFinite_1.bd (w_impl_areFinite_1 : Nat → (Bool → Prop) → Prop) : List Nat → (Int → Prop) → Prop := (slices_IndexFunc_float32_float32__areFinite_1.ib w_impl_areFinite_1).W slices_IndexFunc_float32_float32__areFinite_1.g
noncomputable def slices_IndexFunc_float32_float32__areFinite_1.wp : List Nat → (Int → Prop) → Prop := slices_IndexFunc_float32_float32__areFinite_1.bd impl_areFinite_1.wp
noncomputable def slices_IndexFunc_float32_float32__areFinite_1.c : Ctr := slices_IndexFunc_float32_float32__areFinite_1.g.ctr slices_IndexFunc_float32_float32__areFinite_1.wp

-- slices.ContainsFunc[[]float32,float32]
noncomputable def slices_ContainsFunc_float32_float32__areFinite_1.g : Sig := ⟨82, [(.v (.a (.one (.sl 0)))), (.v (.fn 115 [] []))], [(.rd (.F .f32))], [.lf], [(.v (.a (.one .bool)))], [.keep], [.bool]⟩
noncomputable def slices_ContainsFunc_float32_float32__areFinite_1.ib (w_slices_IndexFunc_float32_float32__areFinite_1 : List Nat → (Int → Prop) → Prop) : FnI := ⟨Try.prog, [], [slices_IndexFunc_float32_float32__areFinite_1.g.ctr w_slices_IndexFunc_float32_float32__areFinite_1], 9, [.tmp 4], bodyOf Try.f82, .leaf, []⟩
noncomputable def slices_ContainsFunc_float32_float32__areFinite_1.i : FnI := slices_ContainsFunc_float32_float32__areFinite_1.ib slices_IndexFunc_float32_float32__areFinite_1.wp
noncomputable def slices_ContainsFunc_float32_float32__areFinite_1.bd (w_slices_IndexFunc_float32_float32__areFinite_1 : List Nat → (Int → Prop) → Prop) : List Nat → (Bool → Prop) → Prop := (slices_ContainsFunc_float32_float32__areFinite_1.ib w_slices_IndexFunc_float32_float32__areFinite_1).W slices_ContainsFunc_float32_float32__areFinite_1.g
noncomputable def slices_ContainsFunc_float32_float32__areFinite_1.wp : List Nat → (Bool → Prop) → Prop := slices_ContainsFunc_float32_float32__areFinite_1.bd slices_IndexFunc_float32_float32__areFinite_1.wp
noncomputable def slices_ContainsFunc_float32_float32__areFinite_1.c : Ctr := slices_ContainsFunc_float32_float32__areFinite_1.g.ctr slices_ContainsFunc_float32_float32__areFinite_1.wp

-- loop.example/g01247/impl.areFinite
noncomputable def impl_areFinite.g : Sig := ⟨101, [(.v (.a (.one (.sl 0))))], [(.rd (.F .f32))], [.lf], [(.v (.a (.one .bool)))], [.keep], [.bool]⟩
noncomputable def impl_areFinite.ib (w_slices_ContainsFunc_float32_float32__areFinite_1 : List Nat → (Bool → Prop) → Prop) : FnI := ⟨Try.prog, [], [slices_ContainsFunc_float32_float32__areFinite_1.g.ctr w_slices_ContainsFunc_float32_float32__areFinite_1], 6, [.tmp 2], bodyOf Try.f101, .leaf, []⟩
noncomputable def impl_areFinite.i : FnI := impl_areFinite.ib slices_ContainsFunc_float32_float32__areFinite_1.wp
noncomputable def impl_areFinite.bd (w_slices_ContainsFunc_float32_float32__areFinite_1 : List Nat → (Bool → Prop) → Prop) : List Nat → (Bool → Prop) → Prop := (impl_areFinite.ib w_slices_ContainsFunc_float32_float32__areFinite_1).W impl_areFinite.g
noncomputable def impl_areFinite.wp : List Nat → (Bool → Prop) → Prop := impl_areFinite.bd slices_ContainsFunc_float32_float32__areFinite_1.wp
noncomputable def impl_areFinite.c : Ctr := impl_areFinite.g.ctr impl_areFinite.wp

-- loop.example/g01247/impl.finiteField
noncomputable def impl_finiteField.g : Sig := ⟨81, [(.v (.a (.agg [(.int .i64), (.int .i64), .bool, (.sl 0)])))], [(.rd (.F .f32))], [.lf, .int, .int, .bool], [(.v (.a (.one .bool)))], [.keep], [.bool]⟩
noncomputable def impl_finiteField.ib (w_impl_areFinite : List Nat → (Bool → Prop) → Prop) : FnI := ⟨Try.prog, [], [impl_areFinite.g.ctr w_impl_areFinite], 6, [.tmp 2], bodyOf Try.f81, .leaf, []⟩
noncomputable def impl_finiteField.i : FnI := impl_finiteField.ib impl_areFinite.wp
noncomputable def impl_finiteField.bd (w_impl_areFinite : List Nat → (Bool → Prop) → Prop) : List Nat → Int → Int → Bool → (Bool → Prop) → Prop := (impl_finiteField.ib w_impl_areFinite).W impl_finiteField.g
noncomputable def impl_finiteField.wp : List Nat → Int → Int → Bool → (Bool → Prop) → Prop := impl_finiteField.bd impl_areFinite.wp
noncomputable def impl_finiteField.c : Ctr := impl_finiteField.g.ctr impl_finiteField.wp

-- loop.example/g01247/impl.ValidMelt$1
noncomputable def impl_ValidMelt_1.g : Sig := ⟨83, [(.v (.a (.one (.flt .f32))))], [], [.flt], [(.v (.a (.one .bool)))], [], [.bool]⟩
noncomputable def impl_ValidMelt_1.ib  : FnI := ⟨Try.prog, [], [], 10, [.tmp 2], bodyOf Try.f83, .leaf, []⟩
noncomputable def impl_ValidMelt_1.i : FnI := impl_ValidMelt_1.ib 
noncomputable def impl_ValidMelt_1.bd  : Nat → (Bool → Prop) → Prop := (impl_ValidMelt_1.ib ).W impl_ValidMelt_1.g
noncomputable def impl_ValidMelt_1.wp : Nat → (Bool → Prop) → Prop := impl_ValidMelt_1.bd 
noncomputable def impl_ValidMelt_1.c : Ctr := impl_ValidMelt_1.g.ctr impl_ValidMelt_1.wp

-- slices.IndexFunc[[]float32,float32]
noncomputable def slices_IndexFunc_float32_float32__ValidMelt_1.g : Sig := ⟨102, [(.v (.a (.one (.sl 0)))), (.v (.fn 83 [] []))], [(.rd (.F .f32))], [.lf], [(.v (.a (.one (.int .i64))))], [.keep], [.int]⟩
noncomputable def slices_IndexFunc_float32_float32__ValidMelt_1.ib (w_impl_ValidMelt_1 : Nat → (Bool → Prop) → Prop) : FnI := ⟨Try.prog, [], [impl_ValidMelt_1.g.ctr w_impl_ValidMelt_1], 19, [.tmp 4], bodyOf Try.f102, (.seq .leaf (.seq (.seq .leaf (.block (.loop ⟨[7, 8], [.int, .int], [(.v (.a (.one (.int .i64)))), (.v (.a (.one (.int .i64))))], [.keep]⟩ .leaf))) .leaf)), []⟩
noncomputable def slices_IndexFunc_float32_float32__ValidMelt_1.i : FnI := slices_IndexFunc_float32_float32__ValidMelt_1.ib impl_ValidMelt_1.wp
noncomputable def slices_IndexFunc_float32_float32__ValidMelt_1.bd (w_impl_ValidMelt_1 : Nat → (Bool → Prop) → Prop) : List Nat → (Int → Prop) → Prop := (slices_IndexFunc_float32_float32__ValidMelt_1.ib w_impl_ValidMelt_1).W slices_IndexFunc_float32_float32__ValidMelt_1.g
noncomputable def slices_IndexFunc_float32_float32__ValidMelt_1.wp : List Nat → (Int → Prop) → Prop := slices_IndexFunc_float32_float32__ValidMelt_1.bd impl_ValidMelt_1.wp
noncomputable def slices_IndexFunc_float32_float32__ValidMelt_1.c : Ctr := slices_IndexFunc_float32_float32__ValidMelt_1.g.ctr slices_IndexFunc_float32_float32__ValidMelt_1.wp

-- slices.ContainsFunc[[]float32,float32]
noncomputable def slices_ContainsFunc_float32_float32__ValidMelt_1.g : Sig := ⟨82, [(.v (.a (.one (.sl 0)))), (.v (.fn 83 [] []))], [(.rd (.F .f32))], [.lf], [(.v (.a (.one .bool)))], [.keep], [.bool]⟩
noncomputable def slices_ContainsFunc_float32_float32__ValidMelt_1.ib (w_slices_IndexFunc_float32_float32__ValidMelt_1 : List Nat → (Int → Prop) → Prop) : FnI := ⟨Try.prog, [], [slices_IndexFunc_float32_float32__ValidMelt_1.g.ctr w_slices_IndexFunc_float32_float32__ValidMelt_1], 9, [.tmp 4], bodyOf Try.f82, .leaf, []⟩
noncomputable def slices_ContainsFunc_float32_float32__ValidMelt_1.i : FnI := slices_ContainsFunc_float32_float32__ValidMelt_1.ib slices_IndexFunc_float32_float32__ValidMelt_1.wp
noncomputable def slices_ContainsFunc_float32_float32__ValidMelt_1.bd (w_slices_IndexFunc_float32_float32__ValidMelt_1 : List Nat → (Int → Prop) → Prop) : List Nat → (Bool → Prop) → Prop := (slices_ContainsFunc_float32_float32__ValidMelt_1.ib w_slices_IndexFunc_float32_float32__ValidMelt_1).W slices_ContainsFunc_float32_float32__ValidMelt_1.g
noncomputable def slices_ContainsFunc_float32_float32__ValidMelt_1.wp : List Nat → (Bool → Prop) → Prop := slices_ContainsFunc_float32_float32__ValidMelt_1.bd slices_IndexFunc_float32_float32__ValidMelt_1.wp
noncomputable def slices_ContainsFunc_float32_float32__ValidMelt_1.c : Ctr := slices_ContainsFunc_float32_float32__ValidMelt_1.g.ctr slices_ContainsFunc_float32_float32__ValidMelt_1.wp

-- loop.example/g01247/impl.aMass
noncomputable def impl_aMass.g : Sig := ⟨84, [(.v (.a (.one (.flt .f32))))], [], [.flt], [(.v (.a (.one .bool)))], [], [.bool]⟩
noncomputable def impl_aMass.ib (w_impl_IsFinite : Nat → (Bool → Prop) → Prop) : FnI := ⟨Try.prog, [], [impl_IsFinite.g.ctr w_impl_IsFinite], 9, [.tmp 2], bodyOf Try.f84, .leaf, []⟩
noncomputable def impl_aMass.i : FnI := impl_aMass.ib impl_IsFinite.wp
noncomputable def impl_aMass.bd (w_impl_IsFinite : Nat → (Bool → Prop) → Prop) : Nat → (Bool → Prop) → Prop := (impl_aMass.ib w_impl_IsFinite).W impl_aMass.g
noncomputable def impl_aMass.wp : Nat → (Bool → Prop) → Prop := impl_aMass.bd impl_IsFinite.wp
noncomputable def impl_aMass.c : Ctr := impl_aMass.g.ctr impl_aMass.wp

-- loop.example/g01247/impl.ValidMelt
noncomputable def impl_ValidMelt.g : Sig := ⟨55, [(.v (.a (.agg [(.int .i64), (.int .i64), .bool, (.sl 0), (.int .i64), (.int .i64), .bool, (.sl 1), (.flt .f32), (.flt .f32), (.flt .f32), (.flt .f32), (.flt .f32), (.int .i64)])))], [(.rd (.F .f32)), (.rd (.F .f32))], [.lf, .lf, .int, .int, .bool, .int, .int, .bool, .flt, .flt, .flt, .flt, .flt, .int], [(.v (.a (.one .bool)))], [.keep, .keep], [.bool]⟩
noncomputable def impl_ValidMelt.ib (w_impl_ValidField : List Nat → Int → Int → Bool → (Bool → Prop) → Prop) (w_impl_alike : List Nat → List Nat → Int → Int → Bool → Int → Int → Bool → (Bool → Prop) → Prop) (w_impl_finiteField : List Nat → Int → Int → Bool → (Bool → Prop) → Prop) (w_slices_ContainsFunc_float32_float32__ValidMelt_1 : List Nat → (Bool → Prop) → Prop) (w_impl_aMass : Nat → (Bool → Prop) → Prop) (w_impl_within : Int → Int → Int → (Bool → Prop) → Prop) : FnI := ⟨Try.prog, [], [impl_ValidField.g.ctr w_impl_ValidField, impl_alike.g.ctr w_impl_alike, impl_finiteField.g.ctr w_impl_finiteField, slices_ContainsFunc_float32_float32__ValidMelt_1.g.ctr w_slices_ContainsFunc_float32_float32__ValidMelt_1, impl_aMass.g.ctr w_impl_aMass, impl_within.g.ctr w_impl_within], 64, [.tmp 2], bodyOf Try.f55, (.seq .leaf (.seq .leaf (.seq .leaf (.seq (.seq .leaf (.block (.loop ⟨[1, 41, 42, 43], [.int, .int, .bool, .int, .int, .bool, .flt, .flt, .flt, .flt, .flt, .int, .lf, .int, .int], [(.v (.a (.one (.pt 2 0)))), (.v (.a (.one (.sl 3)))), (.v (.a (.one (.int .i64)))), (.v (.a (.one (.int .i64))))], [.keep, .keep, (.box 40 [(.int .i64), (.int .i64), .bool, (.sl 0), (.int .i64), (.int .i64), .bool, (.sl 1), (.flt .f32), (.flt .f32), (.flt .f32), (.flt .f32), (.flt .f32), (.int .i64)]), (.row 33 (.F .f32))]⟩ .leaf))) .leaf)))), []⟩
noncomputable def impl_ValidMelt.i : FnI := impl_ValidMelt.ib impl_ValidField.wp impl_alike.wp impl_finiteField.wp slices_ContainsFunc_float32_float32__ValidMelt_1.wp impl_aMass.wp impl_within.wp
noncomputable def impl_ValidMelt.bd (w_impl_ValidField : List Nat → Int → Int → Bool → (Bool → Prop) → Prop) (w_impl_alike : List Nat → List Nat → Int → Int → Bool → Int → Int → Bool → (Bool → Prop) → Prop) (w_impl_finiteField : List Nat → Int → Int → Bool → (Bool → Prop) → Prop) (w_slices_ContainsFunc_float32_float32__ValidMelt_1 : List Nat → (Bool → Prop) → Prop) (w_impl_aMass : Nat → (Bool → Prop) → Prop) (w_impl_within : Int → Int → Int → (Bool → Prop) → Prop) : List Nat → List Nat → Int → Int → Bool → Int → Int → Bool → Nat → Nat → Nat → Nat → Nat → Int → (Bool → Prop) → Prop := (impl_ValidMelt.ib w_impl_ValidField w_impl_alike w_impl_finiteField w_slices_ContainsFunc_float32_float32__ValidMelt_1 w_impl_aMass w_impl_within).W impl_ValidMelt.g
noncomputable def impl_ValidMelt.wp : List Nat → List Nat → Int → Int → Bool → Int → Int → Bool → Nat → Nat → Nat → Nat → Nat → Int → (Bool → Prop) → Prop := impl_ValidMelt.bd impl_ValidField.wp impl_alike.wp impl_finiteField.wp slices_ContainsFunc_float32_float32__ValidMelt_1.wp impl_aMass.wp impl_within.wp
noncomputable def impl_ValidMelt.c : Ctr := impl_ValidMelt.g.ctr impl_ValidMelt.wp

-- (loop.example/g01247/impl.Melt).isCell
noncomputable def impl_Melt_isCell.g : Sig := ⟨75, [(.v (.a (.agg [(.int .i64), (.int .i64), .bool, (.sl 0), (.int .i64), (.int .i64), .bool, (.sl 1), (.flt .f32), (.flt .f32), (.flt .f32), (.flt .f32), (.flt .f32), (.int .i64)]))), (.v (.a (.one (.int .i64)))), (.v (.a (.one (.int .i64))))], [(.rd (.F .f32)), (.rd (.F .f32))], [.lf, .lf, .int, .int, .bool, .int, .int, .bool, .flt, .flt, .flt, .flt, .flt, .int, .int, .int], [(.v (.a (.one .bool)))], [.keep, .keep], [.bool]⟩
noncomputable def impl_Melt_isCell.ib (w_impl_ValidMelt : List Nat → List Nat → Int → Int → Bool → Int → Int → Bool → Nat → Nat → Nat → Nat → Nat → Int → (Bool → Prop) → Prop) (w_impl_within : Int → Int → Int → (Bool → Prop) → Prop) : FnI := ⟨Try.prog, [], [impl_ValidMelt.g.ctr w_impl_ValidMelt, impl_within.g.ctr w_impl_within], 25, [.tmp 6], bodyOf Try.f75, .leaf, []⟩
noncomputable def impl_Melt_isCell.i : FnI := impl_Melt_isCell.ib impl_ValidMelt.wp impl_within.wp
noncomputable def impl_Melt_isCell.bd (w_impl_ValidMelt : List Nat → List Nat → Int → Int → Bool → Int → Int → Bool → Nat → Nat → Nat → Nat → Nat → Int → (Bool → Prop) → Prop) (w_impl_within : Int → Int → Int → (Bool → Prop) → Prop) : List Nat → List Nat → Int → Int → Bool → Int → Int → Bool → Nat → Nat → Nat → Nat → Nat → Int → Int → Int → (Bool → Prop) → Prop := (impl_Melt_isCell.ib w_impl_ValidMelt w_impl_within).W impl_Melt_isCell.g
noncomputable def impl_Melt_isCell.wp : List Nat → List Nat → Int → Int → Bool → Int → Int → Bool → Nat → Nat → Nat → Nat → Nat → Int → Int → Int → (Bool → Prop) → Prop := impl_Melt_isCell.bd impl_ValidMelt.wp impl_within.wp
noncomputable def impl_Melt_isCell.c : Ctr := impl_Melt_isCell.g.ctr impl_Melt_isCell.wp

-- (loop.example/g01247/impl.Field).at
noncomputable def impl_Field_at.g : Sig := ⟨76, [(.v (.a (.agg [(.int .i64), (.int .i64), .bool, (.sl 0)]))), (.v (.a (.one (.int .i64)))), (.v (.a (.one (.int .i64))))], [(.rd (.F .f32))], [.lf, .int, .int, .bool, .int, .int], [(.v (.a (.one (.flt .f32))))], [.keep], [.flt]⟩
noncomputable def impl_Field_at.ib  : FnI := ⟨Try.prog, [], [], 17, [.tmp 6], bodyOf Try.f76, .leaf, []⟩
noncomputable def impl_Field_at.i : FnI := impl_Field_at.ib 
noncomputable def impl_Field_at.bd  : List Nat → Int → Int → Bool → Int → Int → (Nat → Prop) → Prop := (impl_Field_at.ib ).W impl_Field_at.g
noncomputable def impl_Field_at.wp : List Nat → Int → Int → Bool → Int → Int → (Nat → Prop) → Prop := impl_Field_at.bd 
noncomputable def impl_Field_at.c : Ctr := impl_Field_at.g.ctr impl_Field_at.wp

-- loop.example/g01247/impl.absolute
noncomputable def impl_absolute.g : Sig := ⟨99, [(.v (.a (.one (.flt .f32))))], [], [.flt], [(.v (.a (.one (.flt .f32))))], [], [.flt]⟩
noncomputable def impl_absolute.ib (w_math_Abs : Nat → (Nat → Prop) → Prop) : FnI := ⟨Try.prog, [], [math_Abs.g.ctr w_math_Abs], 7, [.tmp 2], bodyOf Try.f99, .leaf, []⟩
noncomputable def impl_absolute.i : FnI := impl_absolute.ib math_Abs.wp
noncomputable def impl_absolute.bd (w_math_Abs : Nat → (Nat → Prop) → Prop) : Nat → (Nat → Prop) → Prop := (impl_absolute.ib w_math_Abs).W impl_absolute.g
noncomputable def impl_absolute.wp : Nat → (Nat → Prop) → Prop := impl_absolute.bd math_Abs.wp
noncomputable def impl_absolute.c : Ctr := impl_absolute.g.ctr impl_absolute.wp

-- (loop.example/g01247/impl.Melt).drive
noncomputable def impl_Melt_drive.g : Sig := ⟨77, [(.v (.a (.agg [(.int .i64), (.int .i64), .bool, (.sl 0), (.int .i64), (.int .i64), .bool, (.sl 1), (.flt .f32), (.flt .f32), (.flt .f32), (.flt .f32), (.flt .f32), (.int .i64)]))), (.v (.a (.one (.int .i64)))), (.v (.a (.one (.int .i64))))], [(.rd (.F .f32)), (.rd (.F .f32))], [.lf, .lf, .int, .int, .bool, .int, .int, .bool, .flt, .flt, .flt, .flt, .flt, .int, .int, .int], [(.v (.a (.one (.flt .f32))))], [.keep, .keep], [.flt]⟩
noncomputable def impl_Melt_drive.ib (w_impl_Field_at : List Nat → Int → Int → Bool → Int → Int → (Nat → Prop) → Prop) (w_impl_absolute : Nat → (Nat → Prop) → Prop) : FnI := ⟨Try.prog, [], [impl_Field_at.g.ctr w_impl_Field_at, impl_absolute.g.ctr w_impl_absolute], 23, [.tmp 6], bodyOf Try.f77, .leaf, []⟩
noncomputable def impl_Melt_drive.i : FnI := impl_Melt_drive.ib impl_Field_at.wp impl_absolute.wp
noncomputable def impl_Melt_drive.bd (w_impl_Field_at : List Nat → Int → Int → Bool → Int → Int → (Nat → Prop) → Prop) (w_impl_absolute : Nat → (Nat → Prop) → Prop) : List Nat → List Nat → Int → Int → Bool → Int → Int → Bool → Nat → Nat → Nat → Nat → Nat → Int → Int → Int → (Nat → Prop) → Prop := (impl_Melt_drive.ib w_impl_Field_at w_impl_absolute).W impl_Melt_drive.g
noncomputable def impl_Melt_drive.wp : List Nat → List Nat → Int → Int → Bool → Int → Int → Bool → Nat → Nat → Nat → Nat → Nat → Int → Int → Int → (Nat → Prop) → Prop := impl_Melt_drive.bd impl_Field_at.wp impl_absolute.wp
noncomputable def impl_Melt_drive.c : Ctr := impl_Melt_drive.g.ctr impl_Melt_drive.wp

-- (loop.example/g01247/impl.Melt).pull
noncomputable def impl_Melt_pull.g : Sig := ⟨52, [(.v (.a (.agg [(.int .i64), (.int .i64), .bool, (.sl 0), (.int .i64), (.int .i64), .bool, (.sl 1), (.flt .f32), (.flt .f32), (.flt .f32), (.flt .f32), (.flt .f32), (.int .i64)]))), (.v (.a (.one (.int .i64)))), (.v (.a (.one (.int .i64))))], [(.rd (.F .f32)), (.rd (.F .f32))], [.lf, .lf, .int, .int, .bool, .int, .int, .bool, .flt, .flt, .flt, .flt, .flt, .int, .int, .int], [(.v (.a (.one (.flt .f32))))], [.keep, .keep], [.flt]⟩
noncomputable def impl_Melt_pull.ib (w_impl_Field_at : List Nat → Int → Int → Bool → Int → Int → (Nat → Prop) → Prop) (w_impl_Melt_drive : List Nat → List Nat → Int → Int → Bool → Int → Int → Bool → Nat → Nat → Nat → Nat → Nat → Int → Int → Int → (Nat → Prop) → Prop) : FnI := ⟨Try.prog, [], [impl_Field_at.g.ctr w_impl_Field_at, impl_Melt_drive.g.ctr w_impl_Melt_drive], 25, [.tmp 6], bodyOf Try.f52, .leaf, []⟩
noncomputable def impl_Melt_pull.i : FnI := impl_Melt_pull.ib impl_Field_at.wp impl_Melt_drive.wp
noncomputable def impl_Melt_pull.bd (w_impl_Field_at : List Nat → Int → Int → Bool → Int → Int → (Nat → Prop) → Prop) (w_impl_Melt_drive : List Nat → List Nat → Int → Int → Bool → Int → Int → Bool → Nat → Nat → Nat → Nat → Nat → Int → Int → Int → (Nat → Prop) → Prop) : List Nat → List Nat → Int → Int → Bool → Int → Int → Bool → Nat → Nat → Nat → Nat → Nat → Int → Int → Int → (Nat → Prop) → Prop := (impl_Melt_pull.ib w_impl_Field_at w_impl_Melt_drive).W impl_Melt_pull.g
noncomputable def impl_Melt_pull.wp : List Nat → List Nat → Int → Int → Bool → Int → Int → Bool → Nat → Nat → Nat → Nat → Nat → Int → Int → Int → (Nat → Prop) → Prop := impl_Melt_pull.bd impl_Field_at.wp impl_Melt_drive.wp
noncomputable def impl_Melt_pull.c : Ctr := impl_Melt_pull.g.ctr impl_Melt_pull.wp

-- loop.example/g01247/impl.told
noncomputable def impl_told.g : Sig := ⟨57, [(.v (.a (.one (.flt .f32))))], [], [.flt], [(.tup [(.a (.one (.flt .f32))), (.a (.one .bool))])], [], [.flt, .bool]⟩
noncomputable def impl_told.ib (w_impl_IsFinite : Nat → (Bool → Prop) → Prop) : FnI := ⟨Try.prog, [], [impl_IsFinite.g.ctr w_impl_IsFinite], 8, [.tmp 2, .tmp 3], bodyOf Try.f57, .leaf, []⟩
noncomputable def impl_told.i : FnI := impl_told.ib impl_IsFinite.wp
noncomputable def impl_told.bd (w_impl_IsFinite : Nat → (Bool → Prop) → Prop) : Nat → (Nat → Bool → Prop) → Prop := (impl_told.ib w_impl_IsFinite).W impl_told.g
noncomputable def impl_told.wp : Nat → (Nat → Bool → Prop) → Prop := impl_told.bd impl_IsFinite.wp
noncomputable def impl_told.c : Ctr := impl_told.g.ctr impl_told.wp

-- (loop.example/g01247/impl.Melt).toldAt
noncomputable def impl_Melt_toldAt__Melt_pull.g : Sig := ⟨51, [(.v (.a (.agg [(.int .i64), (.int .i64), .bool, (.sl 0), (.int .i64), (.int .i64), .bool, (.sl 1), (.flt .f32), (.flt .f32), (.flt .f32), (.flt .f32), (.flt .f32), (.int .i64)]))), (.v (.a (.one (.int .i64)))), (.v (.a (.one (.int .i64)))), (.v (.fn 52 [(.agg [(.int .i64), (.int .i64), .bool, (.sl 2), (.int .i64), (.int .i64), .bool, (.sl 3), (.flt .f32), (.flt .f32), (.flt .f32), (.flt .f32), (.flt .f32), (.int .i64)])] []))], [(.rd (.F .f32)), (.rd (.F .f32)), (.rd (.F .f32)), (.rd (.F .f32))], [.lf, .lf, .lf, .lf, .int, .int, .bool, .int, .int, .bool, .flt, .flt, .flt, .flt, .flt, .int, .int, .int, .int, .int, .bool, .int, .int, .bool, .flt, .flt, .flt, .flt, .flt, .int], [(.tup [(.a (.one (.flt .f32))), (.a (.one .bool))])], [.keep, .keep, .keep, .keep], [.flt, .bool]⟩
noncomputable def impl_Melt_toldAt__Melt_pull.ib (w_impl_Melt_isCell : List Nat → List Nat → Int → Int → Bool → Int → Int → Bool → Nat → Nat → Nat → Nat → Nat → Int → Int → Int → (Bool → Prop) → Prop) (w_impl_Melt_pull : List Nat → List Nat → Int → Int → Bool → Int → Int → Bool → Nat → Nat → Nat → Nat → Nat → Int → Int → Int → (Nat → Prop) → Prop) (w_impl_told : Nat → (Nat → Bool → Prop) → Prop) : FnI := ⟨Try.prog, [], [impl_Melt_isCell.g.ctr w_impl_Melt_isCell, impl_Melt_pull.g.ctr w_impl_Melt_pull, impl_told.g.ctr w_impl_told], 22, [.tmp 8, .tmp 9], bodyOf Try.f51, .leaf, []⟩
noncomputable def impl_Melt_toldAt__Melt_pull.i : FnI := impl_Melt_toldAt__Melt_pull.ib impl_Melt_isCell.wp impl_Melt_pull.wp impl_told.wp
noncomputable def impl_Melt_toldAt__Melt_pull.bd (w_impl_Melt_isCell : List Nat → List Nat → Int → Int → Bool → Int → Int → Bool → Nat → Nat → Nat → Nat → Nat → Int → Int → Int → (Bool → Prop) → Prop) (w_impl_Melt_pull : List Nat → List Nat → Int → Int → Bool → Int → Int → Bool → Nat → Nat → Nat → Nat → Nat → Int → Int → Int → (Nat → Prop) → Prop) (w_impl_told : Nat → (Nat → Bool → Prop) → Prop) : List Nat → List Nat → List Nat → List Nat → Int → Int → Bool → Int → Int → Bool → Nat → Nat → Nat → Nat → Nat → Int → Int → Int → Int → Int → Bool → Int → Int → Bool → Nat → Nat → Nat → Nat → Nat → Int → (Nat → Bool → Prop) → Prop := (impl_Melt_toldAt__Melt_pull.ib w_impl_Melt_isCell w_impl_Melt_pull w_impl_told).W impl_Melt_toldAt__Melt_pull.g
noncomputable def impl_Melt_toldAt__Melt_pull.wp : List Nat → List Nat → List Nat → List Nat → Int → Int → Bool → Int → Int → Bool → Nat → Nat → Nat → Nat → Nat → Int → Int → Int → Int → Int → Bool → Int → Int → Bool → Nat → Nat → Nat → Nat → Nat → Int → (Nat → Bool → Prop) → Prop := impl_Melt_toldAt__Melt_pull.bd impl_Melt_isCell.wp impl_Melt_pull.wp impl_told.wp
noncomputable def impl_Melt_toldAt__Melt_pull.c : Ctr := impl_Melt_toldAt__Melt_pull.g.ctr impl_Melt_toldAt__Melt_pull.wp

-- loop.example/g01247/impl.PullAt
noncomputable def impl_PullAt.g : Sig := ⟨20, [(.v (.a (.agg [(.int .i64), (.int .i64), .bool, (.sl 0), (.int .i64), (.int .i64), .bool, (.sl 1), (.flt .f32), (.flt .f32), (.flt .f32), (.flt .f32), (.flt .f32), (.int .i64)]))), (.v (.a (.one (.int .i64)))), (.v (.a (.one (.int .i64))))], [(.rd (.F .f32)), (.rd (.F .f32))], [.lf, .lf, .int, .int, .bool, .int, .int, .bool, .flt, .flt, .flt, .flt, .flt, .int, .int, .int], [(.tup [(.a (.one (.flt .f32))), (.a (.one .bool))])], [.keep, .keep], [.flt, .bool]⟩
noncomputable def impl_PullAt.ib (w_impl_Melt_toldAt__Melt_pull : List Nat → List Nat → List Nat → List Nat → Int → Int → Bool → Int → Int → Bool → Nat → Nat → Nat → Nat → Nat → Int → Int → Int → Int → Int → Bool → Int → Int → Bool → Nat → Nat → Nat → Nat → Nat → Int → (Nat → Bool → Prop) → Prop) : FnI := ⟨Try.prog, [], [impl_Melt_toldAt__Melt_pull.g.ctr w_impl_Melt_toldAt__Melt_pull], 16, [.tmp 6, .tmp 7], bodyOf Try.f20, .leaf, []⟩
noncomputable def impl_PullAt.i : FnI := impl_PullAt.ib impl_Melt_toldAt__Melt_pull.wp
noncomputable def impl_PullAt.bd (w_impl_Melt_toldAt__Melt_pull : List Nat → List Nat → List Nat → List Nat → Int → Int → Bool → Int → Int → Bool → Nat → Nat → Nat → Nat → Nat → Int → Int → Int → Int → Int → Bool → Int → Int → Bool → Nat → Nat → Nat → Nat → Nat → Int → (Nat → Bool → Prop) → Prop) : List Nat → List Nat → Int → Int → Bool → Int → Int → Bool → Nat → Nat → Nat → Nat → Nat → Int → Int → Int → (Nat → Bool → Prop) → Prop := (impl_PullAt.ib w_impl_Melt_toldAt__Melt_pull).W impl_PullAt.g
noncomputable def impl_PullAt.wp : List Nat → List Nat → Int → Int → Bool → Int → Int → Bool → Nat → Nat → Nat → Nat → Nat → Int → Int → Int → (Nat → Bool → Prop) → Prop := impl_PullAt.bd impl_Melt_toldAt__Melt_pull.wp
noncomputable def impl_PullAt.c : Ctr := impl_PullAt.g.ctr impl_PullAt.wp

-- loop.example/g01247/laws.eqMelt
noncomputable def laws_eqMelt.g : Sig := ⟨22, [(.v (.a (.agg [(.int .i64), (.int .i64), .bool, (.sl 0), (.int .i64), (.int .i64), .bool, (.sl 1), (.flt .f32), (.flt .f32), (.flt .f32), (.flt .f32), (.flt .f32), (.int .i64)]))), (.v (.a (.agg [(.int .i64), (.int .i64), .bool, (.sl 2), (.int .i64), (.int .i64), .bool, (.sl 3), (.flt .f32), (.flt .f32), (.flt .f32), (.flt .f32), (.flt .f32), (.int .i64)])))], [(.rd (.F .f32)), (.rd (.F .f32)), (.rd (.F .f32)), (.rd (.F .f32))], [.lf, .lf, .lf, .lf, .int, .int, .bool, .int, .int, .bool, .flt, .flt, .flt, .flt, .flt, .int, .int, .int, .bool, .int, .int, .bool, .flt, .flt, .flt, .flt, .flt, .int], [(.v (.a (.one .bool)))], [.keep, .keep, .keep, .keep], [.bool]⟩
noncomputable def laws_eqMelt.ib (w_laws_eqField : List Nat → List Nat → Int → Int → Bool → Int → Int → Bool → (Bool → Prop) → Prop) (w_laws_sameFloat : Nat → Nat → (Bool → Prop) → Prop) : FnI := ⟨Try.prog, [], [laws_eqField.g.ctr w_laws_eqField, laws_sameFloat.g.ctr w_laws_sameFloat], 62, [.tmp 4], bodyOf Try.f22, .leaf, []⟩
noncomputable def laws_eqMelt.i : FnI := laws_eqMelt.ib laws_eqField.wp laws_sameFloat.wp
noncomputable def laws_eqMelt.bd (w_laws_eqField : List Nat → List Nat → Int → Int → Bool → Int → Int → Bool → (Bool → Prop) → Prop) (w_laws_sameFloat : Nat → Nat → (Bool → Prop) → Prop) : List Nat → List Nat → List Nat → List Nat → Int → Int → Bool → Int → Int → Bool → Nat → Nat → Nat → Nat → Nat → Int → Int → Int → Bool → Int → Int → Bool → Nat → Nat → Nat → Nat → Nat → Int → (Bool → Prop) → Prop := (laws_eqMelt.ib w_laws_eqField w_laws_sameFloat).W laws_eqMelt.g
noncomputable def laws_eqMelt.wp : List Nat → List Nat → List Nat → List Nat → Int → Int → Bool → Int → Int → Bool → Nat → Nat → Nat → Nat → Nat → Int → Int → Int → Bool → Int → Int → Bool → Nat → Nat → Nat → Nat → Nat → Int → (Bool → Prop) → Prop := laws_eqMelt.bd laws_eqField.wp laws_sameFloat.wp
noncomputable def laws_eqMelt.c : Ctr := laws_eqMelt.g.ctr laws_eqMelt.wp

-- loop.example/g01247/laws.FnExactPullAt
noncomputable def laws_FnExactPullAt.g : Sig := ⟨4, [(.v (.a (.agg [(.int .i64), (.int .i64), .bool, (.sl 0), (.int .i64), (.int .i64), .bool, (.sl 1), (.flt .f32), (.flt .f32), (.flt .f32), (.flt .f32), (.flt .f32), (.int .i64)]))), (.v (.a (.one (.int .i64)))), (.v (.a (.one (.int .i64))))], [(.rd (.F .f32)), (.rd (.F .f32))], [.lf, .lf, .int, .int, .bool, .int, .int, .bool, .flt, .flt, .flt, .flt, .flt, .int, .int, .int], [(.v (.a (.one .bool)))], [.keep, .keep], [.bool]⟩
noncomputable def laws_FnExactPullAt.ib (w_laws_szMelt : List Nat → List Nat → Int → Int → Bool → Int → Int → Bool → Nat → Nat → Nat → Nat → Nat → Int → Int → (Int → Prop) → Prop) (w_laws_toMelt : List Nat → List Nat → Int → Int → Bool → Int → Int → Bool → Nat → Nat → Nat → Nat → Nat → Int → (List Nat → List Nat → Int → Int → Bool → Int → Int → Bool → Nat → Nat → Nat → Nat → Nat → Int → Prop) → Prop) (w_spec_PullAt : List Nat → List Nat → Int → Int → Bool → Int → Int → Bool → Nat → Nat → Nat → Nat → Nat → Int → Int → Int → (Nat → Bool → Prop) → Prop) (w_impl_PullAt : List Nat → List Nat → Int → Int → Bool → Int → Int → Bool → Nat → Nat → Nat → Nat → Nat → Int → Int → Int → (Nat → Bool → Prop) → Prop) (w_laws_sameFloat : Nat → Nat → (Bool → Prop) → Prop) (w_laws_eqMelt : List Nat → List Nat → List Nat → List Nat → Int → Int → Bool → Int → Int → Bool → Nat → Nat → Nat → Nat → Nat → Int → Int → Int → Bool → Int → Int → Bool → Nat → Nat → Nat → Nat → Nat → Int → (Bool → Prop) → Prop) : FnI := ⟨Try.prog, [], [laws_szMelt.g.ctr w_laws_szMelt, laws_toMelt.g.ctr w_laws_toMelt, spec_PullAt.g.ctr w_spec_PullAt, impl_PullAt.g.ctr w_impl_PullAt, laws_sameFloat.g.ctr w_laws_sameFloat, laws_eqMelt.g.ctr w_laws_eqMelt], 51, [.tmp 6], bodyOf Try.f4, .leaf, []⟩
noncomputable def laws_FnExactPullAt.i : FnI := laws_FnExactPullAt.ib laws_szMelt.wp laws_toMelt.wp spec_PullAt.wp impl_PullAt.wp laws_sameFloat.wp laws_eqMelt.wp
noncomputable def laws_FnExactPullAt.bd (w_laws_szMelt : List Nat → List Nat → Int → Int → Bool → Int → Int → Bool → Nat → Nat → Nat → Nat → Nat → Int → Int → (Int → Prop) → Prop) (w_laws_toMelt : List Nat → List Nat → Int → Int → Bool → Int → Int → Bool → Nat → Nat → Nat → Nat → Nat → Int → (List Nat → List Nat → Int → Int → Bool → Int → Int → Bool → Nat → Nat → Nat → Nat → Nat → Int → Prop) → Prop) (w_spec_PullAt : List Nat → List Nat → Int → Int → Bool → Int → Int → Bool → Nat → Nat → Nat → Nat → Nat → Int → Int → Int → (Nat → Bool → Prop) → Prop) (w_impl_PullAt : List Nat → List Nat → Int → Int → Bool → Int → Int → Bool → Nat → Nat → Nat → Nat → Nat → Int → Int → Int → (Nat → Bool → Prop) → Prop) (w_laws_sameFloat : Nat → Nat → (Bool → Prop) → Prop) (w_laws_eqMelt : List Nat → List Nat → List Nat → List Nat → Int → Int → Bool → Int → Int → Bool → Nat → Nat → Nat → Nat → Nat → Int → Int → Int → Bool → Int → Int → Bool → Nat → Nat → Nat → Nat → Nat → Int → (Bool → Prop) → Prop) : List Nat → List Nat → Int → Int → Bool → Int → Int → Bool → Nat → Nat → Nat → Nat → Nat → Int → Int → Int → (Bool → Prop) → Prop := (laws_FnExactPullAt.ib w_laws_szMelt w_laws_toMelt w_spec_PullAt w_impl_PullAt w_laws_sameFloat w_laws_eqMelt).W laws_FnExactPullAt.g
noncomputable def laws_FnExactPullAt.wp : List Nat → List Nat → Int → Int → Bool → Int → Int → Bool → Nat → Nat → Nat → Nat → Nat → Int → Int → Int → (Bool → Prop) → Prop := laws_FnExactPullAt.bd laws_szMelt.wp laws_toMelt.wp spec_PullAt.wp impl_PullAt.wp laws_sameFloat.wp laws_eqMelt.wp
noncomputable def laws_FnExactPullAt.c : Ctr := laws_FnExactPullAt.g.ctr laws_FnExactPullAt.wp

-- loop.example/g01247/spec.EnergyOfMelt
noncomputable def spec_EnergyOfMelt.g : Sig := ⟨23, [(.v (.a (.agg [(.int .i64), (.int .i64), .bool, (.sl 0), (.int .i64), (.int .i64), .bool, (.sl 1), (.flt .f32), (.flt .f32), (.flt .f32), (.flt .f32), (.flt .f32), (.int .i64)])))], [(.rd (.F .f32)), (.rd (.F .f32))], [.lf, .lf, .int, .int, .bool, .int, .int, .bool, .flt, .flt, .flt, .flt, .flt, .int], [(.tup [(.a (.one (.flt .f32))), (.a (.one .bool))])], [.keep, .keep], [.flt, .bool]⟩
noncomputable def spec_EnergyOfMelt.ib (w_spec_l03Is : Int → Int → Bool → Int → Int → Bool → Nat → Nat → Nat → Nat → Nat → Int → List Nat → List Nat → (Bool → Prop) → Prop) (w_spec_l02At : Int → Int → Bool → List Nat → Int → Int → (Nat → Prop) → Prop) (w_spec_l03Number : Nat → (Nat → Bool → Prop) → Prop) : FnI := ⟨Try.prog, [], [spec_l03Is.g.ctr w_spec_l03Is, spec_l02At.g.ctr w_spec_l02At, spec_l03Number.g.ctr w_spec_l03Number], 89, [.tmp 2, .tmp 3], bodyOf Try.f23, (.seq .leaf (.seq .leaf (.seq .leaf (.seq (.seq .leaf (.block (.loop ⟨[1, 4, 17, 18], [.int, .int, .bool, .int, .int, .bool, .flt, .flt, .flt, .flt, .flt, .int, .flt, .int, .int], [(.v (.a (.one (.pt 2 0)))), (.v (.a (.one (.flt .f32)))), (.v (.a (.one (.int .i64)))), (.v (.a (.one (.int .i64))))], [.keep, .keep, (.box 40 [(.int .i64), (.int .i64), .bool, (.sl 0), (.int .i64), (.int .i64), .bool, (.sl 1), (.flt .f32), (.flt .f32), (.flt .f32), (.flt .f32), (.flt .f32), (.int .i64)])]⟩ .leaf))) (.seq (.seq .leaf (.block (.loop ⟨[1, 4, 7], [.int, .int, .bool, .int, .int, .bool, .flt, .flt, .flt, .flt, .flt, .int, .flt, .int], [(.v (.a (.one (.pt 2 0)))), (.v (.a (.one (.flt .f32)))), (.v (.a (.one (.int .i64))))], [.keep, .keep, (.box 40 [(.int .i64), (.int .i64), .bool, (.sl 0), (.int .i64), (.int .i64), .bool, (.sl 1), (.flt .f32), (.flt .f32), (.flt .f32), (.flt .f32), (.flt .f32), (.int .i64)])]⟩ (.seq .leaf (.seq (.block (.seq .leaf (.block (.loop ⟨[1, 4, 7, 8], [.int, .int, .bool, .int, .int, .bool, .flt, .flt, .flt, .flt, .flt, .int, .flt, .int, .int], [(.v (.a (.one (.pt 2 0)))), (.v (.a (.one (.flt .f32)))), (.v (.a (.one (.int .i64)))), (.v (.a (.one (.int .i64))))], [.keep, .keep, (.box 40 [(.int .i64), (.int .i64), .bool, (.sl 0), (.int .i64), (.int .i64), .bool, (.sl 1), (.flt .f32), (.flt .f32), (.flt .f32), (.flt .f32), (.flt .f32), (.int .i64)])]⟩ .leaf)))) .leaf))))) .leaf))))), []⟩
noncomputable def spec_EnergyOfMelt.i : FnI := spec_EnergyOfMelt.ib spec_l03Is.wp spec_l02At.wp spec_l03Number.wp
noncomputable def spec_EnergyOfMelt.bd (w_spec_l03Is : Int → Int → Bool → Int → Int → Bool → Nat → Nat → Nat → Nat → Nat → Int → List Nat → List Nat → (Bool → Prop) → Prop) (w_spec_l02At : Int → Int → Bool → List Nat → Int → Int → (Nat → Prop) → Prop) (w_spec_l03Number : Nat → (Nat → Bool → Prop) → Prop) : List Nat → List Nat → Int → Int → Bool → Int → Int → Bool → Nat → Nat → Nat → Nat → Nat → Int → (Nat → Bool → Prop) → Prop := (spec_EnergyOfMelt.ib w_spec_l03Is w_spec_l02At w_spec_l03Number).W spec_EnergyOfMelt.g
noncomputable def spec_EnergyOfMelt.wp : List Nat → List Nat → Int → Int → Bool → Int → Int → Bool → Nat → Nat → Nat → Nat → Nat → Int → (Nat → Bool → Prop) → Prop := spec_EnergyOfMelt.bd spec_l03Is.wp spec_l02At.wp spec_l03Number.wp
noncomputable def spec_EnergyOfMelt.c : Ctr := spec_EnergyOfMelt.g.ctr spec_EnergyOfMelt.wp

-- loop.example/g01247/impl.EnergyOfMelt
noncomputable def impl_EnergyOfMelt.g : Sig := ⟨24, [(.v (.a (.agg [(.int .i64), (.int .i64), .bool, (.sl 0), (.int .i64), (.int .i64), .bool, (.sl 1), (.flt .f32), (.flt .f32), (.flt .f32), (.flt .f32), (.flt .f32), (.int .i64)])))], [(.rd (.F .f32)), (.rd (.F .f32))], [.lf, .lf, .int, .int, .bool, .int, .int, .bool, .flt, .flt, .flt, .flt, .flt, .int], [(.tup [(.a (.one (.flt .f32))), (.a (.one .bool))])], [.keep, .keep], [.flt, .bool]⟩
noncomputable def impl_EnergyOfMelt.ib (w_impl_ValidMelt : List Nat → List Nat → Int → Int → Bool → Int → Int → Bool → Nat → Nat → Nat → Nat → Nat → Int → (Bool → Prop) → Prop) (w_impl_Field_about : List Nat → Int → Int → Bool → Int → Int → (Nat → Prop) → Prop) (w_impl_told : Nat → (Nat → Bool → Prop) → Prop) : FnI := ⟨Try.prog, [], [impl_ValidMelt.g.ctr w_impl_ValidMelt, impl_Field_about.g.ctr w_impl_Field_about, impl_told.g.ctr w_impl_told], 90, [.tmp 2, .tmp 3], bodyOf Try.f24, (.seq .leaf (.seq .leaf (.seq .leaf (.seq (.seq .leaf (.block (.loop ⟨[1, 4, 18, 19, 20], [.int, .int, .bool, .int, .int, .bool, .flt, .flt, .flt, .flt, .flt, .int, .flt, .int, .int], [(.v (.a (.one (.pt 2 0)))), (.v (.a (.one (.flt .f32)))), (.v (.a (.one (.sl 0)))), (.v (.a (.one (.int .i64)))), (.v (.a (.one (.int .i64))))], [.keep, .keep, (.box 40 [(.int .i64), (.int .i64), .bool, (.sl 0), (.int .i64), (.int .i64), .bool, (.sl 1), (.flt .f32), (.flt .f32), (.flt .f32), (.flt .f32), (.flt .f32), (.int .i64)])]⟩ .leaf))) (.seq (.seq .leaf (.block (.loop ⟨[1, 4, 39, 40, 41], [.int, .int, .bool, .int, .int, .bool, .flt, .flt, .flt, .flt, .flt, .int, .flt, .int, .int], [(.v (.a (.one (.pt 2 0)))), (.v (.a (.one (.flt .f32)))), (.v (.a (.one (.sl 0)))), (.v (.a (.one (.int .i64)))), (.v (.a (.one (.int .i64))))], [.keep, .keep, (.box 40 [(.int .i64), (.int .i64), .bool, (.sl 0), (.int .i64), (.int .i64), .bool, (.sl 1), (.flt .f32), (.flt .f32), (.flt .f32), (.flt .f32), (.flt .f32), (.int .i64)])]⟩ .leaf))) .leaf))))), []⟩
noncomputable def impl_EnergyOfMelt.i : FnI := impl_EnergyOfMelt.ib impl_ValidMelt.wp impl_Field_about.wp impl_told.wp
noncomputable def impl_EnergyOfMelt.bd (w_impl_ValidMelt : List Nat → List Nat → Int → Int → Bool → Int → Int → Bool → Nat → Nat → Nat → Nat → Nat → Int → (Bool → Prop) → Prop) (w_impl_Field_about : List Nat → Int → Int → Bool → Int → Int → (Nat → Prop) → Prop) (w_impl_told : Nat → (Nat → Bool → Prop) → Prop) : List Nat → List Nat → Int → Int → Bool → Int → Int → Bool → Nat → Nat → Nat → Nat → Nat → Int → (Nat → Bool → Prop) → Prop := (impl_EnergyOfMelt.ib w_impl_ValidMelt w_impl_Field_about w_impl_told).W impl_EnergyOfMelt.g
noncomputable def impl_EnergyOfMelt.wp : List Nat → List Nat → Int → Int → Bool → Int → Int → Bool → Nat → Nat → Nat → Nat → Nat → Int → (Nat → Bool → Prop) → Prop := impl_EnergyOfMelt.bd impl_ValidMelt.wp impl_Field_about.wp impl_told.wp
noncomputable def impl_EnergyOfMelt.c : Ctr := impl_EnergyOfMelt.g.ctr impl_EnergyOfMelt.wp

-- loop.example/g01247/laws.FnExactEnergyOfMelt
noncomputable def laws_FnExactEnergyOfMelt.g : Sig := ⟨5, [(.v (.a (.agg [(.int .i64), (.int .i64), .bool, (.sl 0), (.int .i64), (.int .i64), .bool, (.sl 1), (.flt .f32), (.flt .f32), (.flt .f32), (.flt .f32), (.flt .f32), (.int .i64)])))], [(.rd (.F .f32)), (.rd (.F .f32))], [.lf, .lf, .int, .int, .bool, .int, .int, .bool, .flt, .flt, .flt, .flt, .flt, .int], [(.v (.a (.one .bool)))], [.keep, .keep], [.bool]⟩
noncomputable def laws_FnExactEnergyOfMelt.ib (w_laws_szMelt : List Nat → List Nat → Int → Int → Bool → Int → Int → Bool → Nat → Nat → Nat → Nat → Nat → Int → Int → (Int → Prop) → Prop) (w_laws_toMelt : List Nat → List Nat → Int → Int → Bool → Int → Int → Bool → Nat → Nat → Nat → Nat → Nat → Int → (List Nat → List Nat → Int → Int → Bool → Int → Int → Bool → Nat → Nat → Nat → Nat → Nat → Int → Prop) → Prop) (w_spec_EnergyOfMelt : List Nat → List Nat → Int → Int → Bool → Int → Int → Bool → Nat → Nat → Nat → Nat → Nat → Int → (Nat → Bool → Prop) → Prop) (w_impl_EnergyOfMelt : List Nat → List Nat → Int → Int → Bool → Int → Int → Bool → Nat → Nat → Nat → Nat → Nat → Int → (Nat → Bool → Prop) → Prop) (w_laws_sameFloat : Nat → Nat → (Bool → Prop) → Prop) (w_laws_eqMelt : List Nat → List Nat → List Nat → List Nat → Int → Int → Bool → Int → Int → Bool → Nat → Nat → Nat → Nat → Nat → Int → Int → Int → Bool → Int → Int → Bool → Nat → Nat → Nat → Nat → Nat → Int → (Bool → Prop) → Prop) : FnI := ⟨Try.prog, [], [laws_szMelt.g.ctr w_laws_szMelt, laws_toMelt.g.ctr w_laws_toMelt, spec_EnergyOfMelt.g.ctr w_spec_EnergyOfMelt, impl_EnergyOfMelt.g.ctr w_impl_EnergyOfMelt, laws_sameFloat.g.ctr w_laws_sameFloat, laws_eqMelt.g.ctr w_laws_eqMelt], 43, [.tmp 2], bodyOf Try.f5, .leaf, []⟩
noncomputable def laws_FnExactEnergyOfMelt.i : FnI := laws_FnExactEnergyOfMelt.ib laws_szMelt.wp laws_toMelt.wp spec_EnergyOfMelt.wp impl_EnergyOfMelt.wp laws_sameFloat.wp laws_eqMelt.wp
noncomputable def laws_FnExactEnergyOfMelt.bd (w_laws_szMelt : List Nat → List Nat → Int → Int → Bool → Int → Int → Bool → Nat → Nat → Nat → Nat → Nat → Int → Int → (Int → Prop) → Prop) (w_laws_toMelt : List Nat → List Nat → Int → Int → Bool → Int → Int → Bool → Nat → Nat → Nat → Nat → Nat → Int → (List Nat → List Nat → Int → Int → Bool → Int → Int → Bool → Nat → Nat → Nat → Nat → Nat → Int → Prop) → Prop) (w_spec_EnergyOfMelt : List Nat → List Nat → Int → Int → Bool → Int → Int → Bool → Nat → Nat → Nat → Nat → Nat → Int → (Nat → Bool → Prop) → Prop) (w_impl_EnergyOfMelt : List Nat → List Nat → Int → Int → Bool → Int → Int → Bool → Nat → Nat → Nat → Nat → Nat → Int → (Nat → Bool → Prop) → Prop) (w_laws_sameFloat : Nat → Nat → (Bool → Prop) → Prop) (w_laws_eqMelt : List Nat → List Nat → List Nat → List Nat → Int → Int → Bool → Int → Int → Bool → Nat → Nat → Nat → Nat → Nat → Int → Int → Int → Bool → Int → Int → Bool → Nat → Nat → Nat → Nat → Nat → Int → (Bool → Prop) → Prop) : List Nat → List Nat → Int → Int → Bool → Int → Int → Bool → Nat → Nat → Nat → Nat → Nat → Int → (Bool → Prop) → Prop := (laws_FnExactEnergyOfMelt.ib w_laws_szMelt w_laws_toMelt w_spec_EnergyOfMelt w_impl_EnergyOfMelt w_laws_sameFloat w_laws_eqMelt).W laws_FnExactEnergyOfMelt.g
noncomputable def laws_FnExactEnergyOfMelt.wp : List Nat → List Nat → Int → Int → Bool → Int → Int → Bool → Nat → Nat → Nat → Nat → Nat → Int → (Bool → Prop) → Prop := laws_FnExactEnergyOfMelt.bd laws_szMelt.wp laws_toMelt.wp spec_EnergyOfMelt.wp impl_EnergyOfMelt.wp laws_sameFloat.wp laws_eqMelt.wp
noncomputable def laws_FnExactEnergyOfMelt.c : Ctr := laws_FnExactEnergyOfMelt.g.ctr laws_FnExactEnergyOfMelt.wp

-- loop.example/g01247/spec.MirrorField
noncomputable def spec_MirrorField.g : Sig := ⟨58, [(.v (.a (.agg [(.int .i64), (.int .i64), .bool, (.sl 0)])))], [(.rd (.F .f32))], [.lf, .int, .int, .bool], [(.tup [(.a (.agg [(.int .i64), (.int .i64), .bool, (.sl 1)])), (.a (.one .bool))])], [.keep, (.row 33 (.F .f32))], [.lf, .int, .int, .bool, .bool]⟩
noncomputable def spec_MirrorField.ib (w_spec_l02Is : Int → Int → Bool → List Nat → (Bool → Prop) → Prop) (w_spec_l02New : Int → Int → Bool → (List Nat → Int → Int → Bool → Prop) → Prop) : FnI := ⟨Try.prog, [], [spec_l02Is.g.ctr w_spec_l02Is, spec_l02New.g.ctr w_spec_l02New], 51, [.cell 2 26, .tmp 3], bodyOf Try.f58, (.seq .leaf (.seq .leaf (.seq .leaf (.seq (.seq .leaf (.block (.loop ⟨[1, 2, 4, 5], [.int, .int, .bool, .int, .int, .bool, .int, .int, .bool, .lf, .lf, .int], [(.v (.a (.one (.pt 1 0)))), (.v (.a (.one (.pt 2 0)))), (.v (.a (.one (.pt 3 0)))), (.v (.a (.one (.int .i64))))], [.keep, (.box 26 [(.int .i64), (.int .i64), .bool, (.sl 0)]), (.box 26 [(.int .i64), (.int .i64), .bool, (.sl 4)]), (.box 26 [(.int .i64), (.int .i64), .bool, (.sl 5)]), (.row 33 (.F .f32)), (.row 33 (.F .f32))]⟩ .leaf))) .leaf)))), []⟩
noncomputable def spec_MirrorField.i : FnI := spec_MirrorField.ib spec_l02Is.wp spec_l02New.wp
noncomputable def spec_MirrorField.bd (w_spec_l02Is : Int → Int → Bool → List Nat → (Bool → Prop) → Prop) (w_spec_l02New : Int → Int → Bool → (List Nat → Int → Int → Bool → Prop) → Prop) : List Nat → Int → Int → Bool → (List Nat → Int → Int → Bool → Bool → Prop) → Prop := (spec_MirrorField.ib w_spec_l02Is w_spec_l02New).W spec_MirrorField.g
noncomputable def spec_MirrorField.wp : List Nat → Int → Int → Bool → (List Nat → Int → Int → Bool → Bool → Prop) → Prop := spec_MirrorField.bd spec_l02Is.wp spec_l02New.wp
noncomputable def spec_MirrorField.c : Ctr := spec_MirrorField.g.ctr spec_MirrorField.wp

-- loop.example/g01247/spec.MirrorMelt
noncomputable def spec_MirrorMelt.g : Sig := ⟨25, [(.v (.a (.agg [(.int .i64), (.int .i64), .bool, (.sl 0), (.int .i64), (.int .i64), .bool, (.sl 1), (.flt .f32), (.flt .f32), (.flt .f32), (.flt .f32), (.flt .f32), (.int .i64)])))], [(.rd (.F .f32)), (.rd (.F .f32))], [.lf, .lf, .int, .int, .bool, .int, .int, .bool, .flt, .flt, .flt, .flt, .flt, .int], [(.tup [(.a (.agg [(.int .i64), (.int .i64), .bool, (.sl 2), (.int .i64), (.int .i64), .bool, (.sl 3), (.flt .f32), (.flt .f32), (.flt .f32), (.flt .f32), (.flt .f32), (.int .i64)])), (.a (.one .bool))])], [.keep, .keep, (.row 33 (.F .f32)), (.row 33 (.F .f32))], [.lf, .lf, .int, .int, .bool, .int, .int, .bool, .flt, .flt, .flt, .flt, .flt, .int, .bool]⟩
noncomputable def spec_MirrorMelt.ib (w_spec_l03Is : Int → Int → Bool → Int → Int → Bool → Nat → Nat → Nat → Nat → Nat → Int → List Nat → List Nat → (Bool → Prop) → Prop) (w_spec_MirrorField : List Nat → Int → Int → Bool → (List Nat → Int → Int → Bool → Bool → Prop) → Prop) : FnI := ⟨Try.prog, [], [spec_l03Is.g.ctr w_spec_l03Is, spec_MirrorField.g.ctr w_spec_MirrorField], 37, [.cell 2 40, .tmp 3], bodyOf Try.f25, .leaf, []⟩
noncomputable def spec_MirrorMelt.i : FnI := spec_MirrorMelt.ib spec_l03Is.wp spec_MirrorField.wp
noncomputable def spec_MirrorMelt.bd (w_spec_l03Is : Int → Int → Bool → Int → Int → Bool → Nat → Nat → Nat → Nat → Nat → Int → List Nat → List Nat → (Bool → Prop) → Prop) (w_spec_MirrorField : List Nat → Int → Int → Bool → (List Nat → Int → Int → Bool → Bool → Prop) → Prop) : List Nat → List Nat → Int → Int → Bool → Int → Int → Bool → Nat → Nat → Nat → Nat → Nat → Int → (List Nat → List Nat → Int → Int → Bool → Int → Int → Bool → Nat → Nat → Nat → Nat → Nat → Int → Bool → Prop) → Prop := (spec_MirrorMelt.ib w_spec_l03Is w_spec_MirrorField).W spec_MirrorMelt.g
noncomputable def spec_MirrorMelt.wp : List Nat → List Nat → Int → Int → Bool → Int → Int → Bool → Nat → Nat → Nat → Nat → Nat → Int → (List Nat → List Nat → Int → Int → Bool → Int → Int → Bool → Nat → Nat → Nat → Nat → Nat → Int → Bool → Prop) → Prop := spec_MirrorMelt.bd spec_l03Is.wp spec_MirrorField.wp
noncomputable def spec_MirrorMelt.c : Ctr := spec_MirrorMelt.g.ctr spec_MirrorMelt.wp

-- loop.example/g01247/impl.MirrorField$1
noncomputable def impl_MirrorField_1.g : Sig := ⟨87, [(.v (.a (.one (.int .i64)))), (.v (.a (.one (.int .i64)))), (.v (.a (.one (.pt 0 0))))], [(.rdb [(.int .i64), (.int .i64), .bool, (.sl 1)]), (.rd (.F .f32))], [.int, .int, .bool, .lf, .int, .int], [(.v (.a (.one (.flt .f32))))], [.keep, .keep], [.flt]⟩
noncomputable def impl_MirrorField_1.ib (w_impl_Field_at : List Nat → Int → Int → Bool → Int → Int → (Nat → Prop) → Prop) : FnI := ⟨Try.prog, [], [impl_Field_at.g.ctr w_impl_Field_at], 14, [.tmp 5], bodyOf Try.f87, .leaf, []⟩
noncomputable def impl_MirrorField_1.i : FnI := impl_MirrorField_1.ib impl_Field_at.wp
noncomputable def impl_MirrorField_1.bd (w_impl_Field_at : List Nat → Int → Int → Bool → Int → Int → (Nat → Prop) → Prop) : Int → Int → Bool → List Nat → Int → Int → (Nat → Prop) → Prop := (impl_MirrorField_1.ib w_impl_Field_at).W impl_MirrorField_1.g
noncomputable def impl_MirrorField_1.wp : Int → Int → Bool → List Nat → Int → Int → (Nat → Prop) → Prop := impl_MirrorField_1.bd impl_Field_at.wp
noncomputable def impl_MirrorField_1.c : Ctr := impl_MirrorField_1.g.ctr impl_MirrorField_1.wp

-- loop.example/g01247/impl.made
noncomputable def impl_made__MirrorField_1.g : Sig := ⟨71, [(.v (.a (.one (.int .i64)))), (.v (.a (.one (.int .i64)))), (.v (.a (.one .bool))), (.v (.fn 87 [] [(.one (.pt 0 0))]))], [(.rdb [(.int .i64), (.int .i64), .bool, (.sl 1)]), (.rd (.F .f32))], [.int, .int, .bool, .lf, .int, .int, .bool], [(.v (.a (.agg [(.int .i64), (.int .i64), .bool, (.sl 2)])))], [.keep, .keep, (.row 33 (.F .f32))], [.lf, .int, .int, .bool]⟩
noncomputable def impl_made__MirrorField_1.ib (w_impl_MirrorField_1 : Int → Int → Bool → List Nat → Int → Int → (Nat → Prop) → Prop) : FnI := ⟨Try.prog, [], [impl_MirrorField_1.g.ctr w_impl_MirrorField_1], 37, [.cell 8 26], bodyOf Try.f71, (.seq .leaf (.seq .leaf (.seq (.seq .leaf (.block (.loop ⟨[8, 9, 17, 18], [.int, .int, .bool, .int, .int, .bool, .lf, .lf, .int, .int], [(.v (.a (.one (.pt 2 0)))), (.v (.a (.one (.pt 3 0)))), (.v (.a (.one (.int .i64)))), (.v (.a (.one (.int .i64))))], [.keep, .keep, (.box 26 [(.int .i64), (.int .i64), .bool, (.sl 4)]), (.box 26 [(.int .i64), (.int .i64), .bool, (.sl 5)]), (.row 33 (.F .f32)), (.row 33 (.F .f32))]⟩ (.seq .leaf (.seq .leaf (.seq (.block (.seq .leaf (.seq .leaf (.block (.loop ⟨[8, 9, 10, 17, 18, 21, 22], [.int, .int, .bool, .int, .int, .bool, .lf, .lf, .int, .int, .int, .int, .int], [(.v (.a (.one (.pt 2 0)))), (.v (.a (.one (.pt 3 0)))), (.v (.a (.one (.int .i64)))), (.v (.a (.one (.int .i64)))), (.v (.a (.one (.int .i64)))), (.v (.a (.one (.int .i64)))), (.v (.a (.one (.int .i64))))], [.keep, .keep, (.box 26 [(.int .i64), (.int .i64), .bool, (.sl 4)]), (.box 26 [(.int .i64), (.int .i64), .bool, (.sl 5)]), (.row 33 (.F .f32)), (.row 33 (.F .f32))]⟩ .leaf))))) .leaf)))))) .leaf))), []⟩
noncomputable def impl_made__MirrorField_1.i : FnI := impl_made__MirrorField_1.ib impl_MirrorField_1.wp
noncomputable def impl_made__MirrorField_1.bd (w_impl_MirrorField_1 : Int → Int → Bool → List Nat → Int → Int → (Nat → Prop) → Prop) : Int → Int → Bool → List Nat → Int → Int → Bool → (List Nat → Int → Int → Bool → Prop) → Prop := (impl_made__MirrorField_1.ib w_impl_MirrorField_1).W impl_made__MirrorField_1.g
noncomputable def impl_made__MirrorField_1.wp : Int → Int → Bool → List Nat → Int → Int → Bool → (List Nat → Int → Int → Bool → Prop) → Prop := impl_made__MirrorField_1.bd impl_MirrorField_1.wp
noncomputable def impl_made__MirrorField_1.c : Ctr := impl_made__MirrorField_1.g.ctr impl_made__MirrorField_1.wp

-- (loop.example/g01247/impl.Field).each
noncomputable def impl_Field_each__MirrorField_1.g : Sig := ⟨41, [(.v (.a (.agg [(.int .i64), (.int .i64), .bool, (.sl 0)]))), (.v (.fn 87 [] [(.one (.pt 1 0))]))], [(.rd (.F .f32)), (.rdb [(.int .i64), (.int .i64), .bool, (.sl 2)]), (.rd (.F .f32))], [.lf, .int, .int, .bool, .lf, .int, .int, .bool], [(.v (.a (.agg [(.int .i64), (.int .i64), .bool, (.sl 3)])))], [.keep, .keep, .keep, (.row 33 (.F .f32))], [.lf, .int, .int, .bool]⟩
noncomputable def impl_Field_each__MirrorField_1.ib (w_impl_made__MirrorField_1 : Int → Int → Bool → List Nat → Int → Int → Bool → (List Nat → Int → Int → Bool → Prop) → Prop) : FnI := ⟨Try.prog, [], [impl_made__MirrorField_1.g.ctr w_impl_made__MirrorField_1], 13, [.cell 4 26], bodyOf Try.f41, .leaf, []⟩
noncomputable def impl_Field_each__MirrorField_1.i : FnI := impl_Field_each__MirrorField_1.ib impl_made__MirrorField_1.wp
noncomputable def impl_Field_each__MirrorField_1.bd (w_impl_made__MirrorField_1 : Int → Int → Bool → List Nat → Int → Int → Bool → (List Nat → Int → Int → Bool → Prop) → Prop) : List Nat → Int → Int → Bool → List Nat → Int → Int → Bool → (List Nat → Int → Int → Bool → Prop) → Prop := (impl_Field_each__MirrorField_1.ib w_impl_made__MirrorField_1).W impl_Field_each__MirrorField_1.g
noncomputable def impl_Field_each__MirrorField_1.wp : List Nat → Int → Int → Bool → List Nat → Int → Int → Bool → (List Nat → Int → Int → Bool → Prop) → Prop := impl_Field_each__MirrorField_1.bd impl_made__MirrorField_1.wp
noncomputable def impl_Field_each__MirrorField_1.c : Ctr := impl_Field_each__MirrorField_1.g.ctr impl_Field_each__MirrorField_1.wp

-- loop.example/g01247/impl.MirrorField
noncomputable def impl_MirrorField.g : Sig := ⟨59, [(.v (.a (.agg [(.int .i64), (.int .i64), .bool, (.sl 0)])))], [(.rd (.F .f32))], [.lf, .int, .int, .bool], [(.tup [(.a (.agg [(.int .i64), (.int .i64), .bool, (.sl 1)])), (.a (.one .bool))])], [.keep, (.row 33 (.F .f32))], [.lf, .int, .int, .bool, .bool]⟩
noncomputable def impl_MirrorField.ib (w_impl_ValidField : List Nat → Int → Int → Bool → (Bool → Prop) → Prop) (w_impl_Field_each__MirrorField_1 : List Nat → Int → Int → Bool → List Nat → Int → Int → Bool → (List Nat → Int → Int → Bool → Prop) → Prop) : FnI := ⟨Try.prog, [], [impl_ValidField.g.ctr w_impl_ValidField, impl_Field_each__MirrorField_1.g.ctr w_impl_Field_each__MirrorField_1], 11, [.cell 2 26, .tmp 3], bodyOf Try.f59, .leaf, []⟩
noncomputable def impl_MirrorField.i : FnI := impl_MirrorField.ib impl_ValidField.wp impl_Field_each__MirrorField_1.wp
noncomputable def impl_MirrorField.bd (w_impl_ValidField : List Nat → Int → Int → Bool → (Bool → Prop) → Prop) (w_impl_Field_each__MirrorField_1 : List Nat → Int → Int → Bool → List Nat → Int → Int → Bool → (List Nat → Int → Int → Bool → Prop) → Prop) : List Nat → Int → Int → Bool → (List Nat → Int → Int → Bool → Bool → Prop) → Prop := (impl_MirrorField.ib w_impl_ValidField w_impl_Field_each__MirrorField_1).W impl_MirrorField.g
noncomputable def impl_MirrorField.wp : List Nat → Int → Int → Bool → (List Nat → Int → Int → Bool → Bool → Prop) → Prop := impl_MirrorField.bd impl_ValidField.wp impl_Field_each__MirrorField_1.wp
noncomputable def impl_MirrorField.c : Ctr := impl_MirrorField.g.ctr impl_MirrorField.wp

-- loop.example/g01247/impl.MirrorMelt
noncomputable def impl_MirrorMelt.g : Sig := ⟨26, [(.v (.a (.agg [(.int .i64), (.int .i64), .bool, (.sl 0), (.int .i64), (.int .i64), .bool, (.sl 1), (.flt .f32), (.flt .f32), (.flt .f32), (.flt .f32), (.flt .f32), (.int .i64)])))], [(.rd (.F .f32)), (.rd (.F .f32))], [.lf, .lf, .int, .int, .bool, .int, .int, .bool, .flt, .flt, .flt, .flt, .flt, .int], [(.tup [(.a (.agg [(.int .i64), (.int .i64), .bool, (.sl 2), (.int .i64), (.int .i64), .bool, (.sl 3), (.flt .f32), (.flt .f32), (.flt .f32), (.flt .f32), (.flt .f32), (.int .i64)])), (.a (.one .bool))])], [.keep, .keep, (.row 33 (.F .f32)), (.row 33 (.F .f32))], [.lf, .lf, .int, .int, .bool, .int, .int, .bool, .flt, .flt, .flt, .flt, .flt, .int, .bool]⟩
noncomputable def impl_MirrorMelt.ib (w_impl_ValidMelt : List Nat → List Nat → Int → Int → Bool → Int → Int → Bool → Nat → Nat → Nat → Nat → Nat → Int → (Bool → Prop) → Prop) (w_impl_MirrorField : List Nat → Int → Int → Bool → (List Nat → Int → Int → Bool → Bool → Prop) → Prop) : FnI := ⟨Try.prog, [], [impl_ValidMelt.g.ctr w_impl_ValidMelt, impl_MirrorField.g.ctr w_impl_MirrorField], 23, [.cell 2 40, .tmp 3], bodyOf Try.f26, .leaf, []⟩
noncomputable def impl_MirrorMelt.i : FnI := impl_MirrorMelt.ib impl_ValidMelt.wp impl_MirrorField.wp
noncomputable def impl_MirrorMelt.bd (w_impl_ValidMelt : List Nat → List Nat → Int → Int → Bool → Int → Int → Bool → Nat → Nat → Nat → Nat → Nat → Int → (Bool → Prop) → Prop) (w_impl_MirrorField : List Nat → Int → Int → Bool → (List Nat → Int → Int → Bool → Bool → Prop) → Prop) : List Nat → List Nat → Int → Int → Bool → Int → Int → Bool → Nat → Nat → Nat → Nat → Nat → Int → (List Nat → List Nat → Int → Int → Bool → Int → Int → Bool → Nat → Nat → Nat → Nat → Nat → Int → Bool → Prop) → Prop := (impl_MirrorMelt.ib w_impl_ValidMelt w_impl_MirrorField).W impl_MirrorMelt.g
noncomputable def impl_MirrorMelt.wp : List Nat → List Nat → Int → Int → Bool → Int → Int → Bool → Nat → Nat → Nat → Nat → Nat → Int → (List Nat → List Nat → Int → Int → Bool → Int → Int → Bool → Nat → Nat → Nat → Nat → Nat → Int → Bool → Prop) → Prop := impl_MirrorMelt.bd impl_ValidMelt.wp impl_MirrorField.wp
noncomputable def impl_MirrorMelt.c : Ctr := impl_MirrorMelt.g.ctr impl_MirrorMelt.wp

-- loop.example/g01247/laws.markMelt
noncomputable def laws_markMelt.g : Sig := ⟨27, [(.v (.a (.agg [(.int .i64), (.int .i64), .bool, (.sl 0), (.int .i64), (.int .i64), .bool, (.sl 1), (.flt .f32), (.flt .f32), (.flt .f32), (.flt .f32), (.flt .f32), (.int .i64)]))), (.v (.a (.one (.int .i64))))], [(.row 33 (.F .f32)), (.row 33 (.F .f32))], [.lf, .lf, .int, .int, .bool, .int, .int, .bool, .flt, .flt, .flt, .flt, .flt, .int, .int], [(.v (.a (.one (.int .i64))))], [(.row 33 (.F .f32)), (.row 33 (.F .f32))], [.lf, .lf, .int]⟩
noncomputable def laws_markMelt.ib (w_laws_markField : List Nat → Int → Int → Bool → Int → (List Nat → Int → Prop) → Prop) : FnI := ⟨Try.prog, [], [laws_markField.g.ctr w_laws_markField], 14, [.tmp 4], bodyOf Try.f27, .leaf, [1]⟩
noncomputable def laws_markMelt.i : FnI := laws_markMelt.ib laws_markField.wp
noncomputable def laws_markMelt.bd (w_laws_markField : List Nat → Int → Int → Bool → Int → (List Nat → Int → Prop) → Prop) : List Nat → List Nat → Int → Int → Bool → Int → Int → Bool → Nat → Nat → Nat → Nat → Nat → Int → Int → (List Nat → List Nat → Int → Prop) → Prop := (laws_markMelt.ib w_laws_markField).W laws_markMelt.g
noncomputable def laws_markMelt.wp : List Nat → List Nat → Int → Int → Bool → Int → Int → Bool → Nat → Nat → Nat → Nat → Nat → Int → Int → (List Nat → List Nat → Int → Prop) → Prop := laws_markMelt.bd laws_markField.wp
noncomputable def laws_markMelt.c : Ctr := laws_markMelt.g.ctr laws_markMelt.wp

-- loop.example/g01247/laws.heldMelt
noncomputable def laws_heldMelt.g : Sig := ⟨28, [(.v (.a (.agg [(.int .i64), (.int .i64), .bool, (.sl 0), (.int .i64), (.int .i64), .bool, (.sl 1), (.flt .f32), (.flt .f32), (.flt .f32), (.flt .f32), (.flt .f32), (.int .i64)]))), (.v (.a (.one (.int .i64))))], [(.rd (.F .f32)), (.rd (.F .f32))], [.lf, .lf, .int, .int, .bool, .int, .int, .bool, .flt, .flt, .flt, .flt, .flt, .int, .int], [(.v (.a (.one (.int .i64))))], [.keep, .keep], [.int]⟩
noncomputable def laws_heldMelt.ib (w_laws_heldField : List Nat → Int → Int → Bool → Int → (Int → Prop) → Prop) : FnI := ⟨Try.prog, [], [laws_heldField.g.ctr w_laws_heldField], 18, [.tmp 4], bodyOf Try.f28, .leaf, [1]⟩
noncomputable def laws_heldMelt.i : FnI := laws_heldMelt.ib laws_heldField.wp
noncomputable def laws_heldMelt.bd (w_laws_heldField : List Nat → Int → Int → Bool → Int → (Int → Prop) → Prop) : List Nat → List Nat → Int → Int → Bool → Int → Int → Bool → Nat → Nat → Nat → Nat → Nat → Int → Int → (Int → Prop) → Prop := (laws_heldMelt.ib w_laws_heldField).W laws_heldMelt.g
noncomputable def laws_heldMelt.wp : List Nat → List Nat → Int → Int → Bool → Int → Int → Bool → Nat → Nat → Nat → Nat → Nat → Int → Int → (Int → Prop) → Prop := laws_heldMelt.bd laws_heldField.wp
noncomputable def laws_heldMelt.c : Ctr := laws_heldMelt.g.ctr laws_heldMelt.wp

-- loop.example/g01247/laws.FnExactMirrorMelt
noncomputable def laws_FnExactMirrorMelt.g : Sig := ⟨6, [(.v (.a (.agg [(.int .i64), (.int .i64), .bool, (.sl 0), (.int .i64), (.int .i64), .bool, (.sl 1), (.flt .f32), (.flt .f32), (.flt .f32), (.flt .f32), (.flt .f32), (.int .i64)])))], [(.rd (.F .f32)), (.rd (.F .f32))], [.lf, .lf, .int, .int, .bool, .int, .int, .bool, .flt, .flt, .flt, .flt, .flt, .int], [(.v (.a (.one .bool)))], [.keep, .keep], [.bool]⟩
noncomputable def laws_FnExactMirrorMelt.ib (w_laws_szMelt : List Nat → List Nat → Int → Int → Bool → Int → Int → Bool → Nat → Nat → Nat → Nat → Nat → Int → Int → (Int → Prop) → Prop) (w_laws_toMelt : List Nat → List Nat → Int → Int → Bool → Int → Int → Bool → Nat → Nat → Nat → Nat → Nat → Int → (List Nat → List Nat → Int → Int → Bool → Int → Int → Bool → Nat → Nat → Nat → Nat → Nat → Int → Prop) → Prop) (w_spec_MirrorMelt : List Nat → List Nat → Int → Int → Bool → Int → Int → Bool → Nat → Nat → Nat → Nat → Nat → Int → (List Nat → List Nat → Int → Int → Bool → Int → Int → Bool → Nat → Nat → Nat → Nat → Nat → Int → Bool → Prop) → Prop) (w_impl_MirrorMelt : List Nat → List Nat → Int → Int → Bool → Int → Int → Bool → Nat → Nat → Nat → Nat → Nat → Int → (List Nat → List Nat → Int → Int → Bool → Int → Int → Bool → Nat → Nat → Nat → Nat → Nat → Int → Bool → Prop) → Prop) (w_laws_eqMelt : List Nat → List Nat → List Nat → List Nat → Int → Int → Bool → Int → Int → Bool → Nat → Nat → Nat → Nat → Nat → Int → Int → Int → Bool → Int → Int → Bool → Nat → Nat → Nat → Nat → Nat → Int → (Bool → Prop) → Prop) (w_laws_markMelt : List Nat → List Nat → Int → Int → Bool → Int → Int → Bool → Nat → Nat → Nat → Nat → Nat → Int → Int → (List Nat → List Nat → Int → Prop) → Prop) (w_laws_heldMelt : List Nat → List Nat → Int → Int → Bool → Int → Int → Bool → Nat → Nat → Nat → Nat → Nat → Int → Int → (Int → Prop) → Prop) : FnI := ⟨Try.prog, [], [laws_szMelt.g.ctr w_laws_szMelt, laws_toMelt.g.ctr w_laws_toMelt, spec_MirrorMelt.g.ctr w_spec_MirrorMelt, impl_MirrorMelt.g.ctr w_impl_MirrorMelt, laws_eqMelt.g.ctr w_laws_eqMelt, laws_markMelt.g.ctr w_laws_markMelt, laws_heldMelt.g.ctr w_laws_heldMelt], 96, [.tmp 2], bodyOf Try.f6, .leaf, []⟩
noncomputable def laws_FnExactMirrorMelt.i : FnI := laws_FnExactMirrorMelt.ib laws_szMelt.wp laws_toMelt.wp spec_MirrorMelt.wp impl_MirrorMelt.wp laws_eqMelt.wp laws_markMelt.wp laws_heldMelt.wp
noncomputable def laws_FnExactMirrorMelt.bd (w_laws_szMelt : List Nat → List Nat → Int → Int → Bool → Int → Int → Bool → Nat → Nat → Nat → Nat → Nat → Int → Int → (Int → Prop) → Prop) (w_laws_toMelt : List Nat → List Nat → Int → Int → Bool → Int → Int → Bool → Nat → Nat → Nat → Nat → Nat → Int → (List Nat → List Nat → Int → Int → Bool → Int → Int → Bool → Nat → Nat → Nat → Nat → Nat → Int → Prop) → Prop) (w_spec_MirrorMelt : List Nat → List Nat → Int → Int → Bool → Int → Int → Bool → Nat → Nat → Nat → Nat → Nat → Int → (List Nat → List Nat → Int → Int → Bool → Int → Int → Bool → Nat → Nat → Nat → Nat → Nat → Int → Bool → Prop) → Prop) (w_impl_MirrorMelt : List Nat → List Nat → Int → Int → Bool → Int → Int → Bool → Nat → Nat → Nat → Nat → Nat → Int → (List Nat → List Nat → Int → Int → Bool → Int → Int → Bool → Nat → Nat → Nat → Nat → Nat → Int → Bool → Prop) → Prop) (w_laws_eqMelt : List Nat → List Nat → List Nat → List Nat → Int → Int → Bool → Int → Int → Bool → Nat → Nat → Nat → Nat → Nat → Int → Int → Int → Bool → Int → Int → Bool → Nat → Nat → Nat → Nat → Nat → Int → (Bool → Prop) → Prop) (w_laws_markMelt : List Nat → List Nat → Int → Int → Bool → Int → Int → Bool → Nat → Nat → Nat → Nat → Nat → Int → Int → (List Nat → List Nat → Int → Prop) → Prop) (w_laws_heldMelt : List Nat → List Nat → Int → Int → Bool → Int → Int → Bool → Nat → Nat → Nat → Nat → Nat → Int → Int → (Int → Prop) → Prop) : List Nat → List Nat → Int → Int → Bool → Int → Int → Bool → Nat → Nat → Nat → Nat → Nat → Int → (Bool → Prop) → Prop := (laws_FnExactMirrorMelt.ib w_laws_szMelt w_laws_toMelt w_spec_MirrorMelt w_impl_MirrorMelt w_laws_eqMelt w_laws_markMelt w_laws_heldMelt).W laws_FnExactMirrorMelt.g
noncomputable def laws_FnExactMirrorMelt.wp : List Nat → List Nat → Int → Int → Bool → Int → Int → Bool → Nat → Nat → Nat → Nat → Nat → Int → (Bool → Prop) → Prop := laws_FnExactMirrorMelt.bd laws_szMelt.wp laws_toMelt.wp spec_MirrorMelt.wp impl_MirrorMelt.wp laws_eqMelt.wp laws_markMelt.wp laws_heldMelt.wp
noncomputable def laws_FnExactMirrorMelt.c : Ctr := laws_FnExactMirrorMelt.g.ctr laws_FnExactMirrorMelt.wp

-- loop.example/g01247/spec.l02Own
noncomputable def spec_l02Own.g : Sig := ⟨88, [(.v (.a (.one (.pt 0 0))))], [(.rdb [(.int .i64), (.int .i64), .bool, (.sl 1)]), (.rd (.F .f32))], [.int, .int, .bool, .lf], [(.v (.a (.agg [(.int .i64), (.int .i64), .bool, (.sl 2)])))], [.keep, .keep, (.row 33 (.F .f32))], [.lf, .int, .int, .bool]⟩
noncomputable def spec_l02Own.ib (w_spec_l02New : Int → Int → Bool → (List Nat → Int → Int → Bool → Prop) → Prop) : FnI := ⟨Try.prog, [], [spec_l02New.g.ctr w_spec_l02New], 26, [.cell 2 26], bodyOf Try.f88, .leaf, []⟩
noncomputable def spec_l02Own.i : FnI := spec_l02Own.ib spec_l02New.wp
noncomputable def spec_l02Own.bd (w_spec_l02New : Int → Int → Bool → (List Nat → Int → Int → Bool → Prop) → Prop) : Int → Int → Bool → List Nat → (List Nat → Int → Int → Bool → Prop) → Prop := (spec_l02Own.ib w_spec_l02New).W spec_l02Own.g
noncomputable def spec_l02Own.wp : Int → Int → Bool → List Nat → (List Nat → Int → Int → Bool → Prop) → Prop := spec_l02Own.bd spec_l02New.wp
noncomputable def spec_l02Own.c : Ctr := spec_l02Own.g.ctr spec_l02Own.wp

-- loop.example/g01247/spec.l03Own
noncomputable def spec_l03Own.g : Sig := ⟨60, [(.v (.a (.one (.pt 0 0))))], [(.rdb [(.int .i64), (.int .i64), .bool, (.sl 1), (.int .i64), (.int .i64), .bool, (.sl 2), (.flt .f32), (.flt .f32), (.flt .f32), (.flt .f32), (.flt .f32), (.int .i64)]), (.rd (.F .f32)), (.rd (.F .f32))], [.int, .int, .bool, .int, .int, .bool, .flt, .flt, .flt, .flt, .flt, .int, .lf, .lf], [(.v (.a (.agg [(.int .i64), (.int .i64), .bool, (.sl 3), (.int .i64), (.int .i64), .bool, (.sl 4), (.flt .f32), (.flt .f32), (.flt .f32), (.flt .f32), (.flt .f32), (.int .i64)])))], [.keep, .keep, .keep, (.row 33 (.F .f32)), (.row 33 (.F .f32))], [.lf, .lf, .int, .int, .bool, .int, .int, .bool, .flt, .flt, .flt, .flt, .flt, .int]⟩
noncomputable def spec_l03Own.ib (w_spec_l02Own : Int → Int → Bool → List Nat → (List Nat → Int → Int → Bool → Prop) → Prop) : FnI := ⟨Try.prog, [], [spec_l02Own.g.ctr w_spec_l02Own], 18, [.cell 2 40], bodyOf Try.f60, .leaf, []⟩
noncomputable def spec_l03Own.i : FnI := spec_l03Own.ib spec_l02Own.wp
noncomputable def spec_l03Own.bd (w_spec_l02Own : Int → Int → Bool → List Nat → (List Nat → Int → Int → Bool → Prop) → Prop) : Int → Int → Bool → Int → Int → Bool → Nat → Nat → Nat → Nat → Nat → Int → List Nat → List Nat → (List Nat → List Nat → Int → Int → Bool → Int → Int → Bool → Nat → Nat → Nat → Nat → Nat → Int → Prop) → Prop := (spec_l03Own.ib w_spec_l02Own).W spec_l03Own.g
noncomputable def spec_l03Own.wp : Int → Int → Bool → Int → Int → Bool → Nat → Nat → Nat → Nat → Nat → Int → List Nat → List Nat → (List Nat → List Nat → Int → Int → Bool → Int → Int → Bool → Nat → Nat → Nat → Nat → Nat → Int → Prop) → Prop := spec_l03Own.bd spec_l02Own.wp
noncomputable def spec_l03Own.c : Ctr := spec_l03Own.g.ctr spec_l03Own.wp

-- loop.example/g01247/spec.l03Give
noncomputable def spec_l03Give.g : Sig := ⟨61, [(.v (.a (.agg [(.int .i64), (.int .i64), .bool, (.sl 0), (.int .i64), (.int .i64), .bool, (.sl 1), (.flt .f32), (.flt .f32), (.flt .f32), (.flt .f32), (.flt .f32), (.int .i64)])))], [(.row 33 (.F .f32)), (.row 33 (.F .f32))], [.lf, .lf, .int, .int, .bool, .int, .int, .bool, .flt, .flt, .flt, .flt, .flt, .int], [(.tup [(.a (.agg [(.int .i64), (.int .i64), .bool, (.sl 2), (.int .i64), (.int .i64), .bool, (.sl 3), (.flt .f32), (.flt .f32), (.flt .f32), (.flt .f32), (.flt .f32), (.int .i64)])), (.a (.one .bool))])], [.dead, .dead, (.row 33 (.F .f32)), (.row 33 (.F .f32))], [.lf, .lf, .int, .int, .bool, .int, .int, .bool, .flt, .flt, .flt, .flt, .flt, .int, .bool]⟩
noncomputable def spec_l03Give.ib (w_spec_l03Is : Int → Int → Bool → Int → Int → Bool → Nat → Nat → Nat → Nat → Nat → Int → List Nat → List Nat → (Bool → Prop) → Prop) : FnI := ⟨Try.prog, [], [spec_l03Is.g.ctr w_spec_l03Is], 8, [.cell 2 40, .tmp 3], bodyOf Try.f61, .leaf, []⟩
noncomputable def spec_l03Give.i : FnI := spec_l03Give.ib spec_l03Is.wp
noncomputable def spec_l03Give.bd (w_spec_l03Is : Int → Int → Bool → Int → Int → Bool → Nat → Nat → Nat → Nat → Nat → Int → List Nat → List Nat → (Bool → Prop) → Prop) : List Nat → List Nat → Int → Int → Bool → Int → Int → Bool → Nat → Nat → Nat → Nat → Nat → Int → (List Nat → List Nat → Int → Int → Bool → Int → Int → Bool → Nat → Nat → Nat → Nat → Nat → Int → Bool → Prop) → Prop := (spec_l03Give.ib w_spec_l03Is).W spec_l03Give.g
noncomputable def spec_l03Give.wp : List Nat → List Nat → Int → Int → Bool → Int → Int → Bool → Nat → Nat → Nat → Nat → Nat → Int → (List Nat → List Nat → Int → Int → Bool → Int → Int → Bool → Nat → Nat → Nat → Nat → Nat → Int → Bool → Prop) → Prop := spec_l03Give.bd spec_l03Is.wp
noncomputable def spec_l03Give.c : Ctr := spec_l03Give.g.ctr spec_l03Give.wp

-- loop.example/g01247/spec.SetMelt
noncomputable def spec_SetMelt.g : Sig := ⟨29, [(.v (.a (.agg [(.int .i64), (.int .i64), .bool, (.sl 0), (.int .i64), (.int .i64), .bool, (.sl 1), (.flt .f32), (.flt .f32), (.flt .f32), (.flt .f32), (.flt .f32), (.int .i64)]))), (.v (.a (.one (.flt .f32)))), (.v (.a (.one (.flt .f32)))), (.v (.a (.one (.flt .f32)))), (.v (.a (.one (.flt .f32)))), (.v (.a (.one (.flt .f32)))), (.v (.a (.one (.int .i64))))], [(.rd (.F .f32)), (.rd (.F .f32))], [.lf, .lf, .int, .int, .bool, .int, .int, .bool, .flt, .flt, .flt, .flt, .flt, .int, .flt, .flt, .flt, .flt, .flt, .int], [(.tup [(.a (.agg [(.int .i64), (.int .i64), .bool, (.sl 2), (.int .i64), (.int .i64), .bool, (.sl 3), (.flt .f32), (.flt .f32), (.flt .f32), (.flt .f32), (.flt .f32), (.int .i64)])), (.a (.one .bool))])], [.keep, .keep, (.row 33 (.F .f32)), (.row 33 (.F .f32))], [.lf, .lf, .int, .int, .bool, .int, .int, .bool, .flt, .flt, .flt, .flt, .flt, .int, .bool]⟩
noncomputable def spec_SetMelt.ib (w_spec_l03Is : Int → Int → Bool → Int → Int → Bool → Nat → Nat → Nat → Nat → Nat → Int → List Nat → List Nat → (Bool → Prop) → Prop) (w_spec_l03Own : Int → Int → Bool → Int → Int → Bool → Nat → Nat → Nat → Nat → Nat → Int → List Nat → List Nat → (List Nat → List Nat → Int → Int → Bool → Int → Int → Bool → Nat → Nat → Nat → Nat → Nat → Int → Prop) → Prop) (w_spec_l03Give : List Nat → List Nat → Int → Int → Bool → Int → Int → Bool → Nat → Nat → Nat → Nat → Nat → Int → (List Nat → List Nat → Int → Int → Bool → Int → Int → Bool → Nat → Nat → Nat → Nat → Nat → Int → Bool → Prop) → Prop) : FnI := ⟨Try.prog, [], [spec_l03Is.g.ctr w_spec_l03Is, spec_l03Own.g.ctr w_spec_l03Own, spec_l03Give.g.ctr w_spec_l03Give], 37, [.cell 14 40, .tmp 15], bodyOf Try.f29, .leaf, []⟩
noncomputable def spec_SetMelt.i : FnI := spec_SetMelt.ib spec_l03Is.wp spec_l03Own.wp spec_l03Give.wp
noncomputable def spec_SetMelt.bd (w_spec_l03Is : Int → Int → Bool → Int → Int → Bool → Nat → Nat → Nat → Nat → Nat → Int → List Nat → List Nat → (Bool → Prop) → Prop) (w_spec_l03Own : Int → Int → Bool → Int → Int → Bool → Nat → Nat → Nat → Nat → Nat → Int → List Nat → List Nat → (List Nat → List Nat → Int → Int → Bool → Int → Int → Bool → Nat → Nat → Nat → Nat → Nat → Int → Prop) → Prop) (w_spec_l03Give : List Nat → List Nat → Int → Int → Bool → Int → Int → Bool → Nat → Nat → Nat → Nat → Nat → Int → (List Nat → List Nat → Int → Int → Bool → Int → Int → Bool → Nat → Nat → Nat → Nat → Nat → Int → Bool → Prop) → Prop) : List Nat → List Nat → Int → Int → Bool → Int → Int → Bool → Nat → Nat → Nat → Nat → Nat → Int → Nat → Nat → Nat → Nat → Nat → Int → (List Nat → List Nat → Int → Int → Bool → Int → Int → Bool → Nat → Nat → Nat → Nat → Nat → Int → Bool → Prop) → Prop := (spec_SetMelt.ib w_spec_l03Is w_spec_l03Own w_spec_l03Give).W spec_SetMelt.g
noncomputable def spec_SetMelt.wp : List Nat → List Nat → Int → Int → Bool → Int → Int → Bool → Nat → Nat → Nat → Nat → Nat → Int → Nat → Nat → Nat → Nat → Nat → Int → (List Nat → List Nat → Int → Int → Bool → Int → Int → Bool → Nat → Nat → Nat → Nat → Nat → Int → Bool → Prop) → Prop := spec_SetMelt.bd spec_l03Is.wp spec_l03Own.wp spec_l03Give.wp
noncomputable def spec_SetMelt.c : Ctr := spec_SetMelt.g.ctr spec_SetMelt.wp

-- slices.Clone[[]float32,float32]
noncomputable def slices_Clone_float32_float32.g : Sig := ⟨89, [(.v (.a (.one (.sl 0))))], [(.rd (.F .f32))], [.lf], [(.v (.a (.one (.sl 1))))], [.keep, (.row 33 (.F .f32))], [.lf]⟩
noncomputable def slices_Clone_float32_float32.ib  : FnI := ⟨Try.prog, [], [], 8, [.tmp 2], bodyOf Try.f89, .leaf, []⟩
noncomputable def slices_Clone_float32_float32.i : FnI := slices_Clone_float32_float32.ib 
noncomputable def slices_Clone_float32_float32.bd  : List Nat → (List Nat → Prop) → Prop := (slices_Clone_float32_float32.ib ).W slices_Clone_float32_float32.g
noncomputable def slices_Clone_float32_float32.wp : List Nat → (List Nat → Prop) → Prop := slices_Clone_float32_float32.bd 
noncomputable def slices_Clone_float32_float32.c : Ctr := slices_Clone_float32_float32.g.ctr slices_Clone_float32_float32.wp

-- (loop.example/g01247/impl.Melt).cloned
noncomputable def impl_Melt_cloned.g : Sig := ⟨62, [(.v (.a (.agg [(.int .i64), (.int .i64), .bool, (.sl 0), (.int .i64), (.int .i64), .bool, (.sl 1), (.flt .f32), (.flt .f32), (.flt .f32), (.flt .f32), (.flt .f32), (.int .i64)])))], [(.rd (.F .f32)), (.rd (.F .f32))], [.lf, .lf, .int, .int, .bool, .int, .int, .bool, .flt, .flt, .flt, .flt, .flt, .int], [(.tup [(.a (.agg [(.int .i64), (.int .i64), .bool, (.sl 2), (.int .i64), (.int .i64), .bool, (.sl 3), (.flt .f32), (.flt .f32), (.flt .f32), (.flt .f32), (.flt .f32), (.int .i64)])), (.a (.one .bool))])], [.keep, .keep, (.row 33 (.F .f32)), (.row 33 (.F .f32))], [.lf, .lf, .int, .int, .bool, .int, .int, .bool, .flt, .flt, .flt, .flt, .flt, .int, .bool]⟩
noncomputable def impl_Melt_cloned.ib (w_impl_ValidMelt : List Nat → List Nat → Int → Int → Bool → Int → Int → Bool → Nat → Nat → Nat → Nat → Nat → Int → (Bool → Prop) → Prop) (w_slices_Clone_float32_float32 : List Nat → (List Nat → Prop) → Prop) : FnI := ⟨Try.prog, [], [impl_ValidMelt.g.ctr w_impl_ValidMelt, slices_Clone_float32_float32.g.ctr w_slices_Clone_float32_float32], 21, [.cell 2 40, .tmp 3], bodyOf Try.f62, .leaf, []⟩
noncomputable def impl_Melt_cloned.i : FnI := impl_Melt_cloned.ib impl_ValidMelt.wp slices_Clone_float32_float32.wp
noncomputable def impl_Melt_cloned.bd (w_impl_ValidMelt : List Nat → List Nat → Int → Int → Bool → Int → Int → Bool → Nat → Nat → Nat → Nat → Nat → Int → (Bool → Prop) → Prop) (w_slices_Clone_float32_float32 : List Nat → (List Nat → Prop) → Prop) : List Nat → List Nat → Int → Int → Bool → Int → Int → Bool → Nat → Nat → Nat → Nat → Nat → Int → (List Nat → List Nat → Int → Int → Bool → Int → Int → Bool → Nat → Nat → Nat → Nat → Nat → Int → Bool → Prop) → Prop := (impl_Melt_cloned.ib w_impl_ValidMelt w_slices_Clone_float32_float32).W impl_Melt_cloned.g
noncomputable def impl_Melt_cloned.wp : List Nat → List Nat → Int → Int → Bool → Int → Int → Bool → Nat → Nat → Nat → Nat → Nat → Int → (List Nat → List Nat → Int → Int → Bool → Int → Int → Bool → Nat → Nat → Nat → Nat → Nat → Int → Bool → Prop) → Prop := impl_Melt_cloned.bd impl_ValidMelt.wp slices_Clone_float32_float32.wp
noncomputable def impl_Melt_cloned.c : Ctr := impl_Melt_cloned.g.ctr impl_Melt_cloned.wp

-- loop.example/g01247/impl.SetMelt
noncomputable def impl_SetMelt.g : Sig := ⟨30, [(.v (.a (.agg [(.int .i64), (.int .i64), .bool, (.sl 0), (.int .i64), (.int .i64), .bool, (.sl 1), (.flt .f32), (.flt .f32), (.flt .f32), (.flt .f32), (.flt .f32), (.int .i64)]))), (.v (.a (.one (.flt .f32)))), (.v (.a (.one (.flt .f32)))), (.v (.a (.one (.flt .f32)))), (.v (.a (.one (.flt .f32)))), (.v (.a (.one (.flt .f32)))), (.v (.a (.one (.int .i64))))], [(.rd (.F .f32)), (.rd (.F .f32))], [.lf, .lf, .int, .int, .bool, .int, .int, .bool, .flt, .flt, .flt, .flt, .flt, .int, .flt, .flt, .flt, .flt, .flt, .int], [(.tup [(.a (.agg [(.int .i64), (.int .i64), .bool, (.sl 2), (.int .i64), (.int .i64), .bool, (.sl 3), (.flt .f32), (.flt .f32), (.flt .f32), (.flt .f32), (.flt .f32), (.int .i64)])), (.a (.one .bool))])], [.keep, .keep, (.row 33 (.F .f32)), (.row 33 (.F .f32))], [.lf, .lf, .int, .int, .bool, .int, .int, .bool, .flt, .flt, .flt, .flt, .flt, .int, .bool]⟩
noncomputable def impl_SetMelt.ib (w_impl_ValidMelt : List Nat → List Nat → Int → Int → Bool → Int → Int → Bool → Nat → Nat → Nat → Nat → Nat → Int → (Bool → Prop) → Prop) (w_impl_Melt_cloned : List Nat → List Nat → Int → Int → Bool → Int → Int → Bool → Nat → Nat → Nat → Nat → Nat → Int → (List Nat → List Nat → Int → Int → Bool → Int → Int → Bool → Nat → Nat → Nat → Nat → Nat → Int → Bool → Prop) → Prop) : FnI := ⟨Try.prog, [], [impl_ValidMelt.g.ctr w_impl_ValidMelt, impl_Melt_cloned.g.ctr w_impl_Melt_cloned], 34, [.cell 14 40, .tmp 15], bodyOf Try.f30, .leaf, []⟩
noncomputable def impl_SetMelt.i : FnI := impl_SetMelt.ib impl_ValidMelt.wp impl_Melt_cloned.wp
noncomputable def impl_SetMelt.bd (w_impl_ValidMelt : List Nat → List Nat → Int → Int → Bool → Int → Int → Bool → Nat → Nat → Nat → Nat → Nat → Int → (Bool → Prop) → Prop) (w_impl_Melt_cloned : List Nat → List Nat → Int → Int → Bool → Int → Int → Bool → Nat → Nat → Nat → Nat → Nat → Int → (List Nat → List Nat → Int → Int → Bool → Int → Int → Bool → Nat → Nat → Nat → Nat → Nat → Int → Bool → Prop) → Prop) : List Nat → List Nat → Int → Int → Bool → Int → Int → Bool → Nat → Nat → Nat → Nat → Nat → Int → Nat → Nat → Nat → Nat → Nat → Int → (List Nat → List Nat → Int → Int → Bool → Int → Int → Bool → Nat → Nat → Nat → Nat → Nat → Int → Bool → Prop) → Prop := (impl_SetMelt.ib w_impl_ValidMelt w_impl_Melt_cloned).W impl_SetMelt.g
noncomputable def impl_SetMelt.wp : List Nat → List Nat → Int → Int → Bool → Int → Int → Bool → Nat → Nat → Nat → Nat → Nat → Int → Nat → Nat → Nat → Nat → Nat → Int → (List Nat → List Nat → Int → Int → Bool → Int → Int → Bool → Nat → Nat → Nat → Nat → Nat → Int → Bool → Prop) → Prop := impl_SetMelt.bd impl_ValidMelt.wp impl_Melt_cloned.wp
noncomputable def impl_SetMelt.c : Ctr := impl_SetMelt.g.ctr impl_SetMelt.wp

-- loop.example/g01247/laws.FnExactSetMelt
noncomputable def laws_FnExactSetMelt.g : Sig := ⟨7, [(.v (.a (.agg [(.int .i64), (.int .i64), .bool, (.sl 0), (.int .i64), (.int .i64), .bool, (.sl 1), (.flt .f32), (.flt .f32), (.flt .f32), (.flt .f32), (.flt .f32), (.int .i64)]))), (.v (.a (.one (.flt .f32)))), (.v (.a (.one (.flt .f32)))), (.v (.a (.one (.flt .f32)))), (.v (.a (.one (.flt .f32)))), (.v (.a (.one (.flt .f32)))), (.v (.a (.one (.int .i64))))], [(.rd (.F .f32)), (.rd (.F .f32))], [.lf, .lf, .int, .int, .bool, .int, .int, .bool, .flt, .flt, .flt, .flt, .flt, .int, .flt, .flt, .flt, .flt, .flt, .int], [(.v (.a (.one .bool)))], [.keep, .keep], [.bool]⟩
noncomputable def laws_FnExactSetMelt.ib (w_laws_szMelt : List Nat → List Nat → Int → Int → Bool → Int → Int → Bool → Nat → Nat → Nat → Nat → Nat → Int → Int → (Int → Prop) → Prop) (w_laws_toMelt : List Nat → List Nat → Int → Int → Bool → Int → Int → Bool → Nat → Nat → Nat → Nat → Nat → Int → (List Nat → List Nat → Int → Int → Bool → Int → Int → Bool → Nat → Nat → Nat → Nat → Nat → Int → Prop) → Prop) (w_spec_SetMelt : List Nat → List Nat → Int → Int → Bool → Int → Int → Bool → Nat → Nat → Nat → Nat → Nat → Int → Nat → Nat → Nat → Nat → Nat → Int → (List Nat → List Nat → Int → Int → Bool → Int → Int → Bool → Nat → Nat → Nat → Nat → Nat → Int → Bool → Prop) → Prop) (w_impl_SetMelt : List Nat → List Nat → Int → Int → Bool → Int → Int → Bool → Nat → Nat → Nat → Nat → Nat → Int → Nat → Nat → Nat → Nat → Nat → Int → (List Nat → List Nat → Int → Int → Bool → Int → Int → Bool → Nat → Nat → Nat → Nat → Nat → Int → Bool → Prop) → Prop) (w_laws_eqMelt : List Nat → List Nat → List Nat → List Nat → Int → Int → Bool → Int → Int → Bool → Nat → Nat → Nat → Nat → Nat → Int → Int → Int → Bool → Int → Int → Bool → Nat → Nat → Nat → Nat → Nat → Int → (Bool → Prop) → Prop) (w_laws_markMelt : List Nat → List Nat → Int → Int → Bool → Int → Int → Bool → Nat → Nat → Nat → Nat → Nat → Int → Int → (List Nat → List Nat → Int → Prop) → Prop) (w_laws_heldMelt : List Nat → List Nat → Int → Int → Bool → Int → Int → Bool → Nat → Nat → Nat → Nat → Nat → Int → Int → (Int → Prop) → Prop) : FnI := ⟨Try.prog, [], [laws_szMelt.g.ctr w_laws_szMelt, laws_toMelt.g.ctr w_laws_toMelt, spec_SetMelt.g.ctr w_spec_SetMelt, impl_SetMelt.g.ctr w_impl_SetMelt, laws_eqMelt.g.ctr w_laws_eqMelt, laws_markMelt.g.ctr w_laws_markMelt, laws_heldMelt.g.ctr w_laws_heldMelt], 126, [.tmp 14], bodyOf Try.f7, .leaf, []⟩
noncomputable def laws_FnExactSetMelt.i : FnI := laws_FnExactSetMelt.ib laws_szMelt.wp laws_toMelt.wp spec_SetMelt.wp impl_SetMelt.wp laws_eqMelt.wp laws_markMelt.wp laws_heldMelt.wp
noncomputable def laws_FnExactSetMelt.bd (w_laws_szMelt : List Nat → List Nat → Int → Int → Bool → Int → Int → Bool → Nat → Nat → Nat → Nat → Nat → Int → Int → (Int → Prop) → Prop) (w_laws_toMelt : List Nat → List Nat → Int → Int → Bool → Int → Int → Bool → Nat → Nat → Nat → Nat → Nat → Int → (List Nat → List Nat → Int → Int → Bool → Int → Int → Bool → Nat → Nat → Nat → Nat → Nat → Int → Prop) → Prop) (w_spec_SetMelt : List Nat → List Nat → Int → Int → Bool → Int → Int → Bool → Nat → Nat → Nat → Nat → Nat → Int → Nat → Nat → Nat → Nat → Nat → Int → (List Nat → List Nat → Int → Int → Bool → Int → Int → Bool → Nat → Nat → Nat → Nat → Nat → Int → Bool → Prop) → Prop) (w_impl_SetMelt : List Nat → List Nat → Int → Int → Bool → Int → Int → Bool → Nat → Nat → Nat → Nat → Nat → Int → Nat → Nat → Nat → Nat → Nat → Int → (List Nat → List Nat → Int → Int → Bool → Int → Int → Bool → Nat → Nat → Nat → Nat → Nat → Int → Bool → Prop) → Prop) (w_laws_eqMelt : List Nat → List Nat → List Nat → List Nat → Int → Int → Bool → Int → Int → Bool → Nat → Nat → Nat → Nat → Nat → Int → Int → Int → Bool → Int → Int → Bool → Nat → Nat → Nat → Nat → Nat → Int → (Bool → Prop) → Prop) (w_laws_markMelt : List Nat → List Nat → Int → Int → Bool → Int → Int → Bool → Nat → Nat → Nat → Nat → Nat → Int → Int → (List Nat → List Nat → Int → Prop) → Prop) (w_laws_heldMelt : List Nat → List Nat → Int → Int → Bool → Int → Int → Bool → Nat → Nat → Nat → Nat → Nat → Int → Int → (Int → Prop) → Prop) : List Nat → List Nat → Int → Int → Bool → Int → Int → Bool → Nat → Nat → Nat → Nat → Nat → Int → Nat → Nat → Nat → Nat → Nat → Int → (Bool → Prop) → Prop := (laws_FnExactSetMelt.ib w_laws_szMelt w_laws_toMelt w_spec_SetMelt w_impl_SetMelt w_laws_eqMelt w_laws_markMelt w_laws_heldMelt).W laws_FnExactSetMelt.g
noncomputable def laws_FnExactSetMelt.wp : List Nat → List Nat → Int → Int → Bool → Int → Int → Bool → Nat → Nat → Nat → Nat → Nat → Int → Nat → Nat → Nat → Nat → Nat → Int → (Bool → Prop) → Prop := laws_FnExactSetMelt.bd laws_szMelt.wp laws_toMelt.wp spec_SetMelt.wp impl_SetMelt.wp laws_eqMelt.wp laws_markMelt.wp laws_heldMelt.wp
noncomputable def laws_FnExactSetMelt.c : Ctr := laws_FnExactSetMelt.g.ctr laws_FnExactSetMelt.wp

-- loop.example/g01247/spec.CoolMelt
noncomputable def spec_CoolMelt.g : Sig := ⟨31, [(.v (.a (.agg [(.int .i64), (.int .i64), .bool, (.sl 0), (.int .i64), (.int .i64), .bool, (.sl 1), (.flt .f32), (.flt .f32), (.flt .f32), (.flt .f32), (.flt .f32), (.int .i64)]))), (.v (.a (.one (.flt .f32))))], [(.rd (.F .f32)), (.rd (.F .f32))], [.lf, .lf, .int, .int, .bool, .int, .int, .bool, .flt, .flt, .flt, .flt, .flt, .int, .flt], [(.tup [(.a (.agg [(.int .i64), (.int .i64), .bool, (.sl 2), (.int .i64), (.int .i64), .bool, (.sl 3), (.flt .f32), (.flt .f32), (.flt .f32), (.flt .f32), (.flt .f32), (.int .i64)])), (.a (.one .bool))])], [.keep, .keep, (.row 33 (.F .f32)), (.row 33 (.F .f32))], [.lf, .lf, .int, .int, .bool, .int, .int, .bool, .flt, .flt, .flt, .flt, .flt, .int, .bool]⟩
noncomputable def spec_CoolMelt.ib (w_spec_l03Is : Int → Int → Bool → Int → Int → Bool → Nat → Nat → Nat → Nat → Nat → Int → List Nat → List Nat → (Bool → Prop) → Prop) (w_spec_l03Own : Int → Int → Bool → Int → Int → Bool → Nat → Nat → Nat → Nat → Nat → Int → List Nat → List Nat → (List Nat → List Nat → Int → Int → Bool → Int → Int → Bool → Nat → Nat → Nat → Nat → Nat → Int → Prop) → Prop) (w_spec_l03Give : List Nat → List Nat → Int → Int → Bool → Int → Int → Bool → Nat → Nat → Nat → Nat → Nat → Int → (List Nat → List Nat → Int → Int → Bool → Int → Int → Bool → Nat → Nat → Nat → Nat → Nat → Int → Bool → Prop) → Prop) : FnI := ⟨Try.prog, [], [spec_l03Is.g.ctr w_spec_l03Is, spec_l03Own.g.ctr w_spec_l03Own, spec_l03Give.g.ctr w_spec_l03Give], 33, [.cell 4 40, .tmp 5], bodyOf Try.f31, (.seq .leaf (.seq .leaf (.seq .leaf (.seq (.seq .leaf (.block (.loop ⟨[4, 6, 15, 16], [.int, .int, .bool, .int, .int, .bool, .flt, .flt, .flt, .flt, .flt, .int, .int, .int, .bool, .int, .int, .bool, .flt, .flt, .flt, .flt, .flt, .int, .lf, .lf, .lf, .lf, .int, .int], [(.v (.a (.one (.pt 2 0)))), (.v (.a (.one (.pt 3 0)))), (.v (.a (.one (.int .i64)))), (.v (.a (.one (.int .i64))))], [.keep, .keep, (.box 40 [(.int .i64), (.int .i64), .bool, (.sl 4), (.int .i64), (.int .i64), .bool, (.sl 5), (.flt .f32), (.flt .f32), (.flt .f32), (.flt .f32), (.flt .f32), (.int .i64)]), (.box 40 [(.int .i64), (.int .i64), .bool, (.sl 6), (.int .i64), (.int .i64), .bool, (.sl 7), (.flt .f32), (.flt .f32), (.flt .f32), (.flt .f32), (.flt .f32), (.int .i64)]), (.row 33 (.F .f32)), (.row 33 (.F .f32)), (.row 33 (.F .f32)), (.row 33 (.F .f32))]⟩ .leaf))) .leaf)))), []⟩
noncomputable def spec_CoolMelt.i : FnI := spec_CoolMelt.ib spec_l03Is.wp spec_l03Own.wp spec_l03Give.wp
noncomputable def spec_CoolMelt.bd (w_spec_l03Is : Int → Int → Bool → Int → Int → Bool → Nat → Nat → Nat → Nat → Nat → Int → List Nat → List Nat → (Bool → Prop) → Prop) (w_spec_l03Own : Int → Int → Bool → Int → Int → Bool → Nat → Nat → Nat → Nat → Nat → Int → List Nat → List Nat → (List Nat → List Nat → Int → Int → Bool → Int → Int → Bool → Nat → Nat → Nat → Nat → Nat → Int → Prop) → Prop) (w_spec_l03Give : List Nat → List Nat → Int → Int → Bool → Int → Int → Bool → Nat → Nat → Nat → Nat → Nat → Int → (List Nat → List Nat → Int → Int → Bool → Int → Int → Bool → Nat → Nat → Nat → Nat → Nat → Int → Bool → Prop) → Prop) : List Nat → List Nat → Int → Int → Bool → Int → Int → Bool → Nat → Nat → Nat → Nat → Nat → Int → Nat → (List Nat → List Nat → Int → Int → Bool → Int → Int → Bool → Nat → Nat → Nat → Nat → Nat → Int → Bool → Prop) → Prop := (spec_CoolMelt.ib w_spec_l03Is w_spec_l03Own w_spec_l03Give).W spec_CoolMelt.g
noncomputable def spec_CoolMelt.wp : List Nat → List Nat → Int → Int → Bool → Int → Int → Bool → Nat → Nat → Nat → Nat → Nat → Int → Nat → (List Nat → List Nat → Int → Int → Bool → Int → Int → Bool → Nat → Nat → Nat → Nat → Nat → Int → Bool → Prop) → Prop := spec_CoolMelt.bd spec_l03Is.wp spec_l03Own.wp spec_l03Give.wp
noncomputable def spec_CoolMelt.c : Ctr := spec_CoolMelt.g.ctr spec_CoolMelt.wp

-- loop.example/g01247/impl.CoolMelt
noncomputable def impl_CoolMelt.g : Sig := ⟨32, [(.v (.a (.agg [(.int .i64), (.int .i64), .bool, (.sl 0), (.int .i64), (.int .i64), .bool, (.sl 1), (.flt .f32), (.flt .f32), (.flt .f32), (.flt .f32), (.flt .f32), (.int .i64)]))), (.v (.a (.one (.flt .f32))))], [(.rd (.F .f32)), (.rd (.F .f32))], [.lf, .lf, .int, .int, .bool, .int, .int, .bool, .flt, .flt, .flt, .flt, .flt, .int, .flt], [(.tup [(.a (.agg [(.int .i64), (.int .i64), .bool, (.sl 2), (.int .i64), (.int .i64), .bool, (.sl 3), (.flt .f32), (.flt .f32), (.flt .f32), (.flt .f32), (.flt .f32), (.int .i64)])), (.a (.one .bool))])], [.keep, .keep, (.row 33 (.F .f32)), (.row 33 (.F .f32))], [.lf, .lf, .int, .int, .bool, .int, .int, .bool, .flt, .flt, .flt, .flt, .flt, .int, .bool]⟩
noncomputable def impl_CoolMelt.ib (w_impl_Melt_cloned : List Nat → List Nat → Int → Int → Bool → Int → Int → Bool → Nat → Nat → Nat → Nat → Nat → Int → (List Nat → List Nat → Int → Int → Bool → Int → Int → Bool → Nat → Nat → Nat → Nat → Nat → Int → Bool → Prop) → Prop) (w_impl_IsFinite : Nat → (Bool → Prop) → Prop) : FnI := ⟨Try.prog, [], [impl_Melt_cloned.g.ctr w_impl_Melt_cloned, impl_IsFinite.g.ctr w_impl_IsFinite], 43, [.cell 4 40, .tmp 5], bodyOf Try.f32, (.seq .leaf (.seq .leaf (.seq .leaf (.seq (.seq .leaf (.block (.loop ⟨[4, 6, 25, 26], [.int, .int, .bool, .int, .int, .bool, .flt, .flt, .flt, .flt, .flt, .int, .int, .int, .bool, .int, .int, .bool, .flt, .flt, .flt, .flt, .flt, .int, .lf, .lf, .lf, .lf, .int, .int], [(.v (.a (.one (.pt 2 0)))), (.v (.a (.one (.pt 3 0)))), (.v (.a (.one (.int .i64)))), (.v (.a (.one (.int .i64))))], [.keep, .keep, (.box 40 [(.int .i64), (.int .i64), .bool, (.sl 4), (.int .i64), (.int .i64), .bool, (.sl 5), (.flt .f32), (.flt .f32), (.flt .f32), (.flt .f32), (.flt .f32), (.int .i64)]), (.box 40 [(.int .i64), (.int .i64), .bool, (.sl 6), (.int .i64), (.int .i64), .bool, (.sl 7), (.flt .f32), (.flt .f32), (.flt .f32), (.flt .f32), (.flt .f32), (.int .i64)]), (.row 33 (.F .f32)), (.row 33 (.F .f32)), (.row 33 (.F .f32)), (.row 33 (.F .f32))]⟩ .leaf))) .leaf)))), []⟩
noncomputable def impl_CoolMelt.i : FnI := impl_CoolMelt.ib impl_Melt_cloned.wp impl_IsFinite.wp
noncomputable def impl_CoolMelt.bd (w_impl_Melt_cloned : List Nat → List Nat → Int → Int → Bool → Int → Int → Bool → Nat → Nat → Nat → Nat → Nat → Int → (List Nat → List Nat → Int → Int → Bool → Int → Int → Bool → Nat → Nat → Nat → Nat → Nat → Int → Bool → Prop) → Prop) (w_impl_IsFinite : Nat → (Bool → Prop) → Prop) : List Nat → List Nat → Int → Int → Bool → Int → Int → Bool → Nat → Nat → Nat → Nat → Nat → Int → Nat → (List Nat → List Nat → Int → Int → Bool → Int → Int → Bool → Nat → Nat → Nat → Nat → Nat → Int → Bool → Prop) → Prop := (impl_CoolMelt.ib w_impl_Melt_cloned w_impl_IsFinite).W impl_CoolMelt.g
noncomputable def impl_CoolMelt.wp : List Nat → List Nat → Int → Int → Bool → Int → Int → Bool → Nat → Nat → Nat → Nat → Nat → Int → Nat → (List Nat → List Nat → Int → Int → Bool → Int → Int → Bool → Nat → Nat → Nat → Nat → Nat → Int → Bool → Prop) → Prop := impl_CoolMelt.bd impl_Melt_cloned.wp impl_IsFinite.wp
noncomputable def impl_CoolMelt.c : Ctr := impl_CoolMelt.g.ctr impl_CoolMelt.wp

-- loop.example/g01247/laws.FnExactCoolMelt
noncomputable def laws_FnExactCoolMelt.g : Sig := ⟨8, [(.v (.a (.agg [(.int .i64), (.int .i64), .bool, (.sl 0), (.int .i64), (.int .i64), .bool, (.sl 1), (.flt .f32), (.flt .f32), (.flt .f32), (.flt .f32), (.flt .f32), (.int .i64)]))), (.v (.a (.one (.flt .f32))))], [(.rd (.F .f32)), (.rd (.F .f32))], [.lf, .lf, .int, .int, .bool, .int, .int, .bool, .flt, .flt, .flt, .flt, .flt, .int, .flt], [(.v (.a (.one .bool)))], [.keep, .keep], [.bool]⟩
noncomputable def laws_FnExactCoolMelt.ib (w_laws_szMelt : List Nat → List Nat → Int → Int → Bool → Int → Int → Bool → Nat → Nat → Nat → Nat → Nat → Int → Int → (Int → Prop) → Prop) (w_laws_toMelt : List Nat → List Nat → Int → Int → Bool → Int → Int → Bool → Nat → Nat → Nat → Nat → Nat → Int → (List Nat → List Nat → Int → Int → Bool → Int → Int → Bool → Nat → Nat → Nat → Nat → Nat → Int → Prop) → Prop) (w_spec_CoolMelt : List Nat → List Nat → Int → Int → Bool → Int → Int → Bool → Nat → Nat → Nat → Nat → Nat → Int → Nat → (List Nat → List Nat → Int → Int → Bool → Int → Int → Bool → Nat → Nat → Nat → Nat → Nat → Int → Bool → Prop) → Prop) (w_impl_CoolMelt : List Nat → List Nat → Int → Int → Bool → Int → Int → Bool → Nat → Nat → Nat → Nat → Nat → Int → Nat → (List Nat → List Nat → Int → Int → Bool → Int → Int → Bool → Nat → Nat → Nat → Nat → Nat → Int → Bool → Prop) → Prop) (w_laws_eqMelt : List Nat → List Nat → List Nat → List Nat → Int → Int → Bool → Int → Int → Bool → Nat → Nat → Nat → Nat → Nat → Int → Int → Int → Bool → Int → Int → Bool → Nat → Nat → Nat → Nat → Nat → Int → (Bool → Prop) → Prop) (w_laws_markMelt : List Nat → List Nat → Int → Int → Bool → Int → Int → Bool → Nat → Nat → Nat → Nat → Nat → Int → Int → (List Nat → List Nat → Int → Prop) → Prop) (w_laws_heldMelt : List Nat → List Nat → Int → Int → Bool → Int → Int → Bool → Nat → Nat → Nat → Nat → Nat → Int → Int → (Int → Prop) → Prop) : FnI := ⟨Try.prog, [], [laws_szMelt.g.ctr w_laws_szMelt, laws_toMelt.g.ctr w_laws_toMelt, spec_CoolMelt.g.ctr w_spec_CoolMelt, impl_CoolMelt.g.ctr w_impl_CoolMelt, laws_eqMelt.g.ctr w_laws_eqMelt, laws_markMelt.g.ctr w_laws_markMelt, laws_heldMelt.g.ctr w_laws_heldMelt], 101, [.tmp 4], bodyOf Try.f8, .leaf, []⟩
noncomputable def laws_FnExactCoolMelt.i : FnI := laws_FnExactCoolMelt.ib laws_szMelt.wp laws_toMelt.wp spec_CoolMelt.wp impl_CoolMelt.wp laws_eqMelt.wp laws_markMelt.wp laws_heldMelt.wp
noncomputable def laws_FnExactCoolMelt.bd (w_laws_szMelt : List Nat → List Nat → Int → Int → Bool → Int → Int → Bool → Nat → Nat → Nat → Nat → Nat → Int → Int → (Int → Prop) → Prop) (w_laws_toMelt : List Nat → List Nat → Int → Int → Bool → Int → Int → Bool → Nat → Nat → Nat → Nat → Nat → Int → (List Nat → List Nat → Int → Int → Bool → Int → Int → Bool → Nat → Nat → Nat → Nat → Nat → Int → Prop) → Prop) (w_spec_CoolMelt : List Nat → List Nat → Int → Int → Bool → Int → Int → Bool → Nat → Nat → Nat → Nat → Nat → Int → Nat → (List Nat → List Nat → Int → Int → Bool → Int → Int → Bool → Nat → Nat → Nat → Nat → Nat → Int → Bool → Prop) → Prop) (w_impl_CoolMelt : List Nat → List Nat → Int → Int → Bool → Int → Int → Bool → Nat → Nat → Nat → Nat → Nat → Int → Nat → (List Nat → List Nat → Int → Int → Bool → Int → Int → Bool → Nat → Nat → Nat → Nat → Nat → Int → Bool → Prop) → Prop) (w_laws_eqMelt : List Nat → List Nat → List Nat → List Nat → Int → Int → Bool → Int → Int → Bool → Nat → Nat → Nat → Nat → Nat → Int → Int → Int → Bool → Int → Int → Bool → Nat → Nat → Nat → Nat → Nat → Int → (Bool → Prop) → Prop) (w_laws_markMelt : List Nat → List Nat → Int → Int → Bool → Int → Int → Bool → Nat → Nat → Nat → Nat → Nat → Int → Int → (List Nat → List Nat → Int → Prop) → Prop) (w_laws_heldMelt : List Nat → List Nat → Int → Int → Bool → Int → Int → Bool → Nat → Nat → Nat → Nat → Nat → Int → Int → (Int → Prop) → Prop) : List Nat → List Nat → Int → Int → Bool → Int → Int → Bool → Nat → Nat → Nat → Nat → Nat → Int → Nat → (Bool → Prop) → Prop := (laws_FnExactCoolMelt.ib w_laws_szMelt w_laws_toMelt w_spec_CoolMelt w_impl_CoolMelt w_laws_eqMelt w_laws_markMelt w_laws_heldMelt).W laws_FnExactCoolMelt.g
noncomputable def laws_FnExactCoolMelt.wp : List Nat → List Nat → Int → Int → Bool → Int → Int → Bool → Nat → Nat → Nat → Nat → Nat → Int → Nat → (Bool → Prop) → Prop := laws_FnExactCoolMelt.bd laws_szMelt.wp laws_toMelt.wp spec_CoolMelt.wp impl_CoolMelt.wp laws_eqMelt.wp laws_markMelt.wp laws_heldMelt.wp
noncomputable def laws_FnExactCoolMelt.c : Ctr := laws_FnExactCoolMelt.g.ctr laws_FnExactCoolMelt.wp

-- loop.example/g01247/spec.l01Bits
noncomputable def spec_l01Bits.g : Sig := ⟨91, [(.v (.a (.one (.flt .f32))))], [], [.flt], [(.v (.a (.one (.int .i64))))], [], [.int]⟩
noncomputable def spec_l01Bits.ib  : FnI := ⟨Try.prog, [(106, .bits32)], [], 9, [.tmp 2], bodyOf Try.f91, .leaf, []⟩
noncomputable def spec_l01Bits.i : FnI := spec_l01Bits.ib 
noncomputable def spec_l01Bits.bd  : Nat → (Int → Prop) → Prop := (spec_l01Bits.ib ).W spec_l01Bits.g
noncomputable def spec_l01Bits.wp : Nat → (Int → Prop) → Prop := spec_l01Bits.bd 
noncomputable def spec_l01Bits.c : Ctr := spec_l01Bits.g.ctr spec_l01Bits.wp

-- loop.example/g01247/spec.l01From
noncomputable def spec_l01From.g : Sig := ⟨92, [(.v (.a (.one (.int .i64))))], [], [.int], [(.v (.a (.one (.flt .f32))))], [], [.flt]⟩
noncomputable def spec_l01From.ib  : FnI := ⟨Try.prog, [(107, .from32)], [], 6, [.tmp 2], bodyOf Try.f92, .leaf, []⟩
noncomputable def spec_l01From.i : FnI := spec_l01From.ib 
noncomputable def spec_l01From.bd  : Int → (Nat → Prop) → Prop := (spec_l01From.ib ).W spec_l01From.g
noncomputable def spec_l01From.wp : Int → (Nat → Prop) → Prop := spec_l01From.bd 
noncomputable def spec_l01From.c : Ctr := spec_l01From.g.ctr spec_l01From.wp

-- loop.example/g01247/spec.l01Flush
noncomputable def spec_l01Flush.g : Sig := ⟨64, [(.v (.a (.one (.flt .f32))))], [], [.flt], [(.v (.a (.one (.flt .f32))))], [], [.flt]⟩
noncomputable def spec_l01Flush.ib (w_spec_l01Bits : Nat → (Int → Prop) → Prop) (w_spec_l01From : Int → (Nat → Prop) → Prop) : FnI := ⟨Try.prog, [], [spec_l01Bits.g.ctr w_spec_l01Bits, spec_l01From.g.ctr w_spec_l01From], 13, [.tmp 2], bodyOf Try.f64, .leaf, []⟩
noncomputable def spec_l01Flush.i : FnI := spec_l01Flush.ib spec_l01Bits.wp spec_l01From.wp
noncomputable def spec_l01Flush.bd (w_spec_l01Bits : Nat → (Int → Prop) → Prop) (w_spec_l01From : Int → (Nat → Prop) → Prop) : Nat → (Nat → Prop) → Prop := (spec_l01Flush.ib w_spec_l01Bits w_spec_l01From).W spec_l01Flush.g
noncomputable def spec_l01Flush.wp : Nat → (Nat → Prop) → Prop := spec_l01Flush.bd spec_l01Bits.wp spec_l01From.wp
noncomputable def spec_l01Flush.c : Ctr := spec_l01Flush.g.ctr spec_l01Flush.wp

-- loop.example/g01247/spec.FlushMelt
noncomputable def spec_FlushMelt.g : Sig := ⟨33, [(.v (.a (.agg [(.int .i64), (.int .i64), .bool, (.sl 0), (.int .i64), (.int .i64), .bool, (.sl 1), (.flt .f32), (.flt .f32), (.flt .f32), (.flt .f32), (.flt .f32), (.int .i64)])))], [(.rd (.F .f32)), (.rd (.F .f32))], [.lf, .lf, .int, .int, .bool, .int, .int, .bool, .flt, .flt, .flt, .flt, .flt, .int], [(.tup [(.a (.agg [(.int .i64), (.int .i64), .bool, (.sl 2), (.int .i64), (.int .i64), .bool, (.sl 3), (.flt .f32), (.flt .f32), (.flt .f32), (.flt .f32), (.flt .f32), (.int .i64)])), (.a (.one .bool))])], [.keep, .keep, (.row 33 (.F .f32)), (.row 33 (.F .f32))], [.lf, .lf, .int, .int, .bool, .int, .int, .bool, .flt, .flt, .flt, .flt, .flt, .int, .bool]⟩
noncomputable def spec_FlushMelt.ib (w_spec_l03Is : Int → Int → Bool → Int → Int → Bool → Nat → Nat → Nat → Nat → Nat → Int → List Nat → List Nat → (Bool → Prop) → Prop) (w_spec_l03Own : Int → Int → Bool → Int → Int → Bool → Nat → Nat → Nat → Nat → Nat → Int → List Nat → List Nat → (List Nat → List Nat → Int → Int → Bool → Int → Int → Bool → Nat → Nat → Nat → Nat → Nat → Int → Prop) → Prop) (w_spec_l01Flush : Nat → (Nat → Prop) → Prop) : FnI := ⟨Try.prog, [], [spec_l03Is.g.ctr w_spec_l03Is, spec_l03Own.g.ctr w_spec_l03Own, spec_l01Flush.g.ctr w_spec_l01Flush], 43, [.cell 2 40, .tmp 3], bodyOf Try.f33, (.seq .leaf (.seq .leaf (.seq .leaf (.seq (.seq .leaf (.block (.loop ⟨[1, 2, 4, 13, 14], [.int, .int, .bool, .int, .int, .bool, .flt, .flt, .flt, .flt, .flt, .int, .int, .int, .bool, .int, .int, .bool, .flt, .flt, .flt, .flt, .flt, .int, .int, .int, .bool, .int, .int, .bool, .flt, .flt, .flt, .flt, .flt, .int, .lf, .lf, .lf, .lf, .int, .int], [(.v (.a (.one (.pt 2 0)))), (.v (.a (.one (.pt 3 0)))), (.v (.a (.one (.pt 4 0)))), (.v (.a (.one (.int .i64)))), (.v (.a (.one (.int .i64))))], [.keep, .keep, (.box 40 [(.int .i64), (.int .i64), .bool, (.sl 0), (.int .i64), (.int .i64), .bool, (.sl 1), (.flt .f32), (.flt .f32), (.flt .f32), (.flt .f32), (.flt .f32), (.int .i64)]), (.box 40 [(.int .i64), (.int .i64), .bool, (.sl 5), (.int .i64), (.int .i64), .bool, (.sl 6), (.flt .f32), (.flt .f32), (.flt .f32), (.flt .f32), (.flt .f32), (.int .i64)]), (.box 40 [(.int .i64), (.int .i64), .bool, (.sl 7), (.int .i64), (.int .i64), .bool, (.sl 8), (.flt .f32), (.flt .f32), (.flt .f32), (.flt .f32), (.flt .f32), (.int .i64)]), (.row 33 (.F .f32)), (.row 33 (.F .f32)), (.row 33 (.F .f32)), (.row 33 (.F .f32))]⟩ .leaf))) .leaf)))), []⟩
noncomputable def spec_FlushMelt.i : FnI := spec_FlushMelt.ib spec_l03Is.wp spec_l03Own.wp spec_l01Flush.wp
noncomputable def spec_FlushMelt.bd (w_spec_l03Is : Int → Int → Bool → Int → Int → Bool → Nat → Nat → Nat → Nat → Nat → Int → List Nat → List Nat → (Bool → Prop) → Prop) (w_spec_l03Own : Int → Int → Bool → Int → Int → Bool → Nat → Nat → Nat → Nat → Nat → Int → List Nat → List Nat → (List Nat → List Nat → Int → Int → Bool → Int → Int → Bool → Nat → Nat → Nat → Nat → Nat → Int → Prop) → Prop) (w_spec_l01Flush : Nat → (Nat → Prop) → Prop) : List Nat → List Nat → Int → Int → Bool → Int → Int → Bool → Nat → Nat → Nat → Nat → Nat → Int → (List Nat → List Nat → Int → Int → Bool → Int → Int → Bool → Nat → Nat → Nat → Nat → Nat → Int → Bool → Prop) → Prop := (spec_FlushMelt.ib w_spec_l03Is w_spec_l03Own w_spec_l01Flush).W spec_FlushMelt.g
noncomputable def spec_FlushMelt.wp : List Nat → List Nat → Int → Int → Bool → Int → Int → Bool → Nat → Nat → Nat → Nat → Nat → Int → (List Nat → List Nat → Int → Int → Bool → Int → Int → Bool → Nat → Nat → Nat → Nat → Nat → Int → Bool → Prop) → Prop := spec_FlushMelt.bd spec_l03Is.wp spec_l03Own.wp spec_l01Flush.wp
noncomputable def spec_FlushMelt.c : Ctr := spec_FlushMelt.g.ctr spec_FlushMelt.wp

-- loop.example/g01247/impl.IsSubnormal
noncomputable def impl_IsSubnormal.g : Sig := ⟨93, [(.v (.a (.one (.flt .f32))))], [], [.flt], [(.v (.a (.one .bool)))], [], [.bool]⟩
noncomputable def impl_IsSubnormal.ib (w_math_Abs : Nat → (Nat → Prop) → Prop) : FnI := ⟨Try.prog, [], [math_Abs.g.ctr w_math_Abs], 11, [.tmp 2], bodyOf Try.f93, .leaf, []⟩
noncomputable def impl_IsSubnormal.i : FnI := impl_IsSubnormal.ib math_Abs.wp
noncomputable def impl_IsSubnormal.bd (w_math_Abs : Nat → (Nat → Prop) → Prop) : Nat → (Bool → Prop) → Prop := (impl_IsSubnormal.ib w_math_Abs).W impl_IsSubnormal.g
noncomputable def impl_IsSubnormal.wp : Nat → (Bool → Prop) → Prop := impl_IsSubnormal.bd math_Abs.wp
noncomputable def impl_IsSubnormal.c : Ctr := impl_IsSubnormal.g.ctr impl_IsSubnormal.wp

-- math.Copysign
noncomputable def math_Copysign.g : Sig := ⟨94, [(.v (.a (.one (.flt .f64)))), (.v (.a (.one (.flt .f64))))], [], [.flt, .flt], [(.v (.a (.one (.flt .f64))))], [], [.flt]⟩
noncomputable def math_Copysign.ib  : FnI := ⟨Try.prog, [(109, .from64), (110, .bits64)], [], 13, [.tmp 4], bodyOf Try.f94, .leaf, []⟩
noncomputable def math_Copysign.i : FnI := math_Copysign.ib 
noncomputable def math_Copysign.bd  : Nat → Nat → (Nat → Prop) → Prop := (math_Copysign.ib ).W math_Copysign.g
noncomputable def math_Copysign.wp : Nat → Nat → (Nat → Prop) → Prop := math_Copysign.bd 
noncomputable def math_Copysign.c : Ctr := math_Copysign.g.ctr math_Copysign.wp

-- loop.example/g01247/impl.FlushNumber
noncomputable def impl_FlushNumber.g : Sig := ⟨65, [(.v (.a (.one (.flt .f32))))], [], [.flt], [(.v (.a (.one (.flt .f32))))], [], [.flt]⟩
noncomputable def impl_FlushNumber.ib (w_impl_IsSubnormal : Nat → (Bool → Prop) → Prop) (w_math_Copysign : Nat → Nat → (Nat → Prop) → Prop) : FnI := ⟨Try.prog, [], [impl_IsSubnormal.g.ctr w_impl_IsSubnormal, math_Copysign.g.ctr w_math_Copysign], 10, [.tmp 2], bodyOf Try.f65, .leaf, []⟩
noncomputable def impl_FlushNumber.i : FnI := impl_FlushNumber.ib impl_IsSubnormal.wp math_Copysign.wp
noncomputable def impl_FlushNumber.bd (w_impl_IsSubnormal : Nat → (Bool → Prop) → Prop) (w_math_Copysign : Nat → Nat → (Nat → Prop) → Prop) : Nat → (Nat → Prop) → Prop := (impl_FlushNumber.ib w_impl_IsSubnormal w_math_Copysign).W impl_FlushNumber.g
noncomputable def impl_FlushNumber.wp : Nat → (Nat → Prop) → Prop := impl_FlushNumber.bd impl_IsSubnormal.wp math_Copysign.wp
noncomputable def impl_FlushNumber.c : Ctr := impl_FlushNumber.g.ctr impl_FlushNumber.wp

-- loop.example/g01247/impl.FlushMelt
noncomputable def impl_FlushMelt.g : Sig := ⟨34, [(.v (.a (.agg [(.int .i64), (.int .i64), .bool, (.sl 0), (.int .i64), (.int .i64), .bool, (.sl 1), (.flt .f32), (.flt .f32), (.flt .f32), (.flt .f32), (.flt .f32), (.int .i64)])))], [(.rd (.F .f32)), (.rd (.F .f32))], [.lf, .lf, .int, .int, .bool, .int, .int, .bool, .flt, .flt, .flt, .flt, .flt, .int], [(.tup [(.a (.agg [(.int .i64), (.int .i64), .bool, (.sl 2), (.int .i64), (.int .i64), .bool, (.sl 3), (.flt .f32), (.flt .f32), (.flt .f32), (.flt .f32), (.flt .f32), (.int .i64)])), (.a (.one .bool))])], [.keep, .keep, (.row 33 (.F .f32)), (.row 33 (.F .f32))], [.lf, .lf, .int, .int, .bool, .int, .int, .bool, .flt, .flt, .flt, .flt, .flt, .int, .bool]⟩
noncomputable def impl_FlushMelt.ib (w_impl_Melt_cloned : List Nat → List Nat → Int → Int → Bool → Int → Int → Bool → Nat → Nat → Nat → Nat → Nat → Int → (List Nat → List Nat → Int → Int → Bool → Int → Int → Bool → Nat → Nat → Nat → Nat → Nat → Int → Bool → Prop) → Prop) (w_impl_FlushNumber : Nat → (Nat → Prop) → Prop) : FnI := ⟨Try.prog, [], [impl_Melt_cloned.g.ctr w_impl_Melt_cloned, impl_FlushNumber.g.ctr w_impl_FlushNumber], 48, [.cell 2 40, .tmp 3], bodyOf Try.f34, (.seq .leaf (.seq .leaf (.seq .leaf (.seq (.seq .leaf (.block (.loop ⟨[2, 4, 18, 19], [.int, .int, .bool, .int, .int, .bool, .flt, .flt, .flt, .flt, .flt, .int, .int, .int, .bool, .int, .int, .bool, .flt, .flt, .flt, .flt, .flt, .int, .lf, .lf, .lf, .lf, .int, .int], [(.v (.a (.one (.pt 2 0)))), (.v (.a (.one (.pt 3 0)))), (.v (.a (.one (.int .i64)))), (.v (.a (.one (.int .i64))))], [.keep, .keep, (.box 40 [(.int .i64), (.int .i64), .bool, (.sl 4), (.int .i64), (.int .i64), .bool, (.sl 5), (.flt .f32), (.flt .f32), (.flt .f32), (.flt .f32), (.flt .f32), (.int .i64)]), (.box 40 [(.int .i64), (.int .i64), .bool, (.sl 6), (.int .i64), (.int .i64), .bool, (.sl 7), (.flt .f32), (.flt .f32), (.flt .f32), (.flt .f32), (.flt .f32), (.int .i64)]), (.row 33 (.F .f32)), (.row 33 (.F .f32)), (.row 33 (.F .f32)), (.row 33 (.F .f32))]⟩ .leaf))) .leaf)))), []⟩
noncomputable def impl_FlushMelt.i : FnI := impl_FlushMelt.ib impl_Melt_cloned.wp impl_FlushNumber.wp
noncomputable def impl_FlushMelt.bd (w_impl_Melt_cloned : List Nat → List Nat → Int → Int → Bool → Int → Int → Bool → Nat → Nat → Nat → Nat → Nat → Int → (List Nat → List Nat → Int → Int → Bool → Int → Int → Bool → Nat → Nat → Nat → Nat → Nat → Int → Bool → Prop) → Prop) (w_impl_FlushNumber : Nat → (Nat → Prop) → Prop) : List Nat → List Nat → Int → Int → Bool → Int → Int → Bool → Nat → Nat → Nat → Nat → Nat → Int → (List Nat → List Nat → Int → Int → Bool → Int → Int → Bool → Nat → Nat → Nat → Nat → Nat → Int → Bool → Prop) → Prop := (impl_FlushMelt.ib w_impl_Melt_cloned w_impl_FlushNumber).W impl_FlushMelt.g
noncomputable def impl_FlushMelt.wp : List Nat → List Nat → Int → Int → Bool → Int → Int → Bool → Nat → Nat → Nat → Nat → Nat → Int → (List Nat → List Nat → Int → Int → Bool → Int → Int → Bool → Nat → Nat → Nat → Nat → Nat → Int → Bool → Prop) → Prop := impl_FlushMelt.bd impl_Melt_cloned.wp impl_FlushNumber.wp
noncomputable def impl_FlushMelt.c : Ctr := impl_FlushMelt.g.ctr impl_FlushMelt.wp

-- loop.example/g01247/laws.FnExactFlushMelt
noncomputable def laws_FnExactFlushMelt.g : Sig := ⟨9, [(.v (.a (.agg [(.int .i64), (.int .i64), .bool, (.sl 0), (.int .i64), (.int .i64), .bool, (.sl 1), (.flt .f32), (.flt .f32), (.flt .f32), (.flt .f32), (.flt .f32), (.int .i64)])))], [(.rd (.F .f32)), (.rd (.F .f32))], [.lf, .lf, .int, .int, .bool, .int, .int, .bool, .flt, .flt, .flt, .flt, .flt, .int], [(.v (.a (.one .bool)))], [.keep, .keep], [.bool]⟩
noncomputable def laws_FnExactFlushMelt.ib (w_laws_szMelt : List Nat → List Nat → Int → Int → Bool → Int → Int → Bool → Nat → Nat → Nat → Nat → Nat → Int → Int → (Int → Prop) → Prop) (w_laws_toMelt : List Nat → List Nat → Int → Int → Bool → Int → Int → Bool → Nat → Nat → Nat → Nat → Nat → Int → (List Nat → List Nat → Int → Int → Bool → Int → Int → Bool → Nat → Nat → Nat → Nat → Nat → Int → Prop) → Prop) (w_spec_FlushMelt : List Nat → List Nat → Int → Int → Bool → Int → Int → Bool → Nat → Nat → Nat → Nat → Nat → Int → (List Nat → List Nat → Int → Int → Bool → Int → Int → Bool → Nat → Nat → Nat → Nat → Nat → Int → Bool → Prop) → Prop) (w_impl_FlushMelt : List Nat → List Nat → Int → Int → Bool → Int → Int → Bool → Nat → Nat → Nat → Nat → Nat → Int → (List Nat → List Nat → Int → Int → Bool → Int → Int → Bool → Nat → Nat → Nat → Nat → Nat → Int → Bool → Prop) → Prop) (w_laws_eqMelt : List Nat → List Nat → List Nat → List Nat → Int → Int → Bool → Int → Int → Bool → Nat → Nat → Nat → Nat → Nat → Int → Int → Int → Bool → Int → Int → Bool → Nat → Nat → Nat → Nat → Nat → Int → (Bool → Prop) → Prop) (w_laws_markMelt : List Nat → List Nat → Int → Int → Bool → Int → Int → Bool → Nat → Nat → Nat → Nat → Nat → Int → Int → (List Nat → List Nat → Int → Prop) → Prop) (w_laws_heldMelt : List Nat → List Nat → Int → Int → Bool → Int → Int → Bool → Nat → Nat → Nat → Nat → Nat → Int → Int → (Int → Prop) → Prop) : FnI := ⟨Try.prog, [], [laws_szMelt.g.ctr w_laws_szMelt, laws_toMelt.g.ctr w_laws_toMelt, spec_FlushMelt.g.ctr w_spec_FlushMelt, impl_FlushMelt.g.ctr w_impl_FlushMelt, laws_eqMelt.g.ctr w_laws_eqMelt, laws_markMelt.g.ctr w_laws_markMelt, laws_heldMelt.g.ctr w_laws_heldMelt], 96, [.tmp 2], bodyOf Try.f9, .leaf, []⟩
noncomputable def laws_FnExactFlushMelt.i : FnI := laws_FnExactFlushMelt.ib laws_szMelt.wp laws_toMelt.wp spec_FlushMelt.wp impl_FlushMelt.wp laws_eqMelt.wp laws_markMelt.wp laws_heldMelt.wp
noncomputable def laws_FnExactFlushMelt.bd (w_laws_szMelt : List Nat → List Nat → Int → Int → Bool → Int → Int → Bool → Nat → Nat → Nat → Nat → Nat → Int → Int → (Int → Prop) → Prop) (w_laws_toMelt : List Nat → List Nat → Int → Int → Bool → Int → Int → Bool → Nat → Nat → Nat → Nat → Nat → Int → (List Nat → List Nat → Int → Int → Bool → Int → Int → Bool → Nat → Nat → Nat → Nat → Nat → Int → Prop) → Prop) (w_spec_FlushMelt : List Nat → List Nat → Int → Int → Bool → Int → Int → Bool → Nat → Nat → Nat → Nat → Nat → Int → (List Nat → List Nat → Int → Int → Bool → Int → Int → Bool → Nat → Nat → Nat → Nat → Nat → Int → Bool → Prop) → Prop) (w_impl_FlushMelt : List Nat → List Nat → Int → Int → Bool → Int → Int → Bool → Nat → Nat → Nat → Nat → Nat → Int → (List Nat → List Nat → Int → Int → Bool → Int → Int → Bool → Nat → Nat → Nat → Nat → Nat → Int → Bool → Prop) → Prop) (w_laws_eqMelt : List Nat → List Nat → List Nat → List Nat → Int → Int → Bool → Int → Int → Bool → Nat → Nat → Nat → Nat → Nat → Int → Int → Int → Bool → Int → Int → Bool → Nat → Nat → Nat → Nat → Nat → Int → (Bool → Prop) → Prop) (w_laws_markMelt : List Nat → List Nat → Int → Int → Bool → Int → Int → Bool → Nat → Nat → Nat → Nat → Nat → Int → Int → (List Nat → List Nat → Int → Prop) → Prop) (w_laws_heldMelt : List Nat → List Nat → Int → Int → Bool → Int → Int → Bool → Nat → Nat → Nat → Nat → Nat → Int → Int → (Int → Prop) → Prop) : List Nat → List Nat → Int → Int → Bool → Int → Int → Bool → Nat → Nat → Nat → Nat → Nat → Int → (Bool → Prop) → Prop := (laws_FnExactFlushMelt.ib w_laws_szMelt w_laws_toMelt w_spec_FlushMelt w_impl_FlushMelt w_laws_eqMelt w_laws_markMelt w_laws_heldMelt).W laws_FnExactFlushMelt.g
noncomputable def laws_FnExactFlushMelt.wp : List Nat → List Nat → Int → Int → Bool → Int → Int → Bool → Nat → Nat → Nat → Nat → Nat → Int → (Bool → Prop) → Prop := laws_FnExactFlushMelt.bd laws_szMelt.wp laws_toMelt.wp spec_FlushMelt.wp impl_FlushMelt.wp laws_eqMelt.wp laws_markMelt.wp laws_heldMelt.wp
noncomputable def laws_FnExactFlushMelt.c : Ctr := laws_FnExactFlushMelt.g.ctr laws_FnExactFlushMelt.wp
end Go.K.melts
