import Derived.Test.YtajlojldbmfokaaK20
import Derived.Test.YtajlojldbmfokaaProg
set_option maxRecDepth 100000
namespace Go.K.melts
open Go.Proofs

noncomputable def bodyOf (f : Func) : Code := match f.body with
  | some c => c
  | none => .skip
-- loop.example/g01247/laws.szFloat32S
noncomputable def laws_szFloat32S.g : Sig := ⟨56, [(.v (.a (.one (.sl 0)))), (.v (.a (.one (.int .i64))))], [(.rd (.F .f32))], [.lf, .int], [(.v (.a (.one (.int .i64))))], [.keep], [.int]⟩
noncomputable def laws_szFloat32S.ib  : FnI := ⟨Try.prog, [], [], 12, [.tmp 4], bodyOf Try.f56, .leaf, [1]⟩
noncomputable def laws_szFloat32S.i : FnI := laws_szFloat32S.ib 
noncomputable def laws_szFloat32S.bd  : List Nat → Int → (Int → Prop) → Prop := (laws_szFloat32S.ib ).W laws_szFloat32S.g
noncomputable def laws_szFloat32S.wp : List Nat → Int → (Int → Prop) → Prop := laws_szFloat32S.bd 
noncomputable def laws_szFloat32S.c : Ctr := laws_szFloat32S.g.ctr laws_szFloat32S.wp

-- loop.example/g01247/laws.szField
noncomputable def laws_szField.g : Sig := ⟨22, [(.v (.a (.agg [(.int .i64), (.int .i64), .bool, (.sl 0)]))), (.v (.a (.one (.int .i64))))], [(.rd (.F .f32))], [.lf, .int, .int, .bool, .int], [(.v (.a (.one (.int .i64))))], [.keep], [.int]⟩
noncomputable def laws_szField.ib (w_laws_szFloat32S : List Nat → Int → (Int → Prop) → Prop) : FnI := ⟨Try.prog, [], [laws_szFloat32S.g.ctr w_laws_szFloat32S], 12, [.tmp 4], bodyOf Try.f22, .leaf, [1]⟩
noncomputable def laws_szField.i : FnI := laws_szField.ib laws_szFloat32S.wp
noncomputable def laws_szField.bd (w_laws_szFloat32S : List Nat → Int → (Int → Prop) → Prop) : List Nat → Int → Int → Bool → Int → (Int → Prop) → Prop := (laws_szField.ib w_laws_szFloat32S).W laws_szField.g
noncomputable def laws_szField.wp : List Nat → Int → Int → Bool → Int → (Int → Prop) → Prop := laws_szField.bd laws_szFloat32S.wp
noncomputable def laws_szField.c : Ctr := laws_szField.g.ctr laws_szField.wp

-- loop.example/g01247/laws.szMelt
noncomputable def laws_szMelt.g : Sig := ⟨7, [(.v (.a (.agg [(.int .i64), (.int .i64), .bool, (.sl 0), (.int .i64), (.int .i64), .bool, (.sl 1), (.flt .f32), (.flt .f32), (.flt .f32), (.flt .f32), (.flt .f32), (.int .i64)]))), (.v (.a (.one (.int .i64))))], [(.rd (.F .f32)), (.rd (.F .f32))], [.lf, .lf, .int, .int, .bool, .int, .int, .bool, .flt, .flt, .flt, .flt, .flt, .int, .int], [(.v (.a (.one (.int .i64))))], [.keep, .keep], [.int]⟩
noncomputable def laws_szMelt.ib (w_laws_szField : List Nat → Int → Int → Bool → Int → (Int → Prop) → Prop) : FnI := ⟨Try.prog, [], [laws_szField.g.ctr w_laws_szField], 18, [.tmp 4], bodyOf Try.f7, .leaf, [1]⟩
noncomputable def laws_szMelt.i : FnI := laws_szMelt.ib laws_szField.wp
noncomputable def laws_szMelt.bd (w_laws_szField : List Nat → Int → Int → Bool → Int → (Int → Prop) → Prop) : List Nat → List Nat → Int → Int → Bool → Int → Int → Bool → Nat → Nat → Nat → Nat → Nat → Int → Int → (Int → Prop) → Prop := (laws_szMelt.ib w_laws_szField).W laws_szMelt.g
noncomputable def laws_szMelt.wp : List Nat → List Nat → Int → Int → Bool → Int → Int → Bool → Nat → Nat → Nat → Nat → Nat → Int → Int → (Int → Prop) → Prop := laws_szMelt.bd laws_szField.wp
noncomputable def laws_szMelt.c : Ctr := laws_szMelt.g.ctr laws_szMelt.wp

-- loop.example/g01247/laws.toFloat32S
noncomputable def laws_toFloat32S.g : Sig := ⟨60, [(.v (.a (.one (.sl 0))))], [(.rd (.F .f32))], [.lf], [(.v (.a (.one (.sl 1))))], [.keep, (.row 25 (.F .f32))], [.lf]⟩
noncomputable def laws_toFloat32S.ib  : FnI := ⟨Try.prog, [], [], 22, [.tmp 2], bodyOf Try.f60, (.seq .leaf (.seq .leaf (.seq (.seq .leaf (.block (.loop ⟨[3, 4], [.lf, .int], [(.v (.a (.one (.sl 1)))), (.v (.a (.one (.int .i64))))], [.keep, (.row 25 (.F .f32))]⟩ .leaf))) .leaf))), []⟩
noncomputable def laws_toFloat32S.i : FnI := laws_toFloat32S.ib 
noncomputable def laws_toFloat32S.bd  : List Nat → (List Nat → Prop) → Prop := (laws_toFloat32S.ib ).W laws_toFloat32S.g
noncomputable def laws_toFloat32S.wp : List Nat → (List Nat → Prop) → Prop := laws_toFloat32S.bd 
noncomputable def laws_toFloat32S.c : Ctr := laws_toFloat32S.g.ctr laws_toFloat32S.wp

-- loop.example/g01247/laws.toField
noncomputable def laws_toField.g : Sig := ⟨26, [(.v (.a (.agg [(.int .i64), (.int .i64), .bool, (.sl 0)])))], [(.rd (.F .f32))], [.lf, .int, .int, .bool], [(.v (.a (.agg [(.int .i64), (.int .i64), .bool, (.sl 1)])))], [.keep, (.row 25 (.F .f32))], [.lf, .int, .int, .bool]⟩
noncomputable def laws_toField.ib (w_laws_toFloat32S : List Nat → (List Nat → Prop) → Prop) : FnI := ⟨Try.prog, [], [laws_toFloat32S.g.ctr w_laws_toFloat32S], 18, [.cell 2 31], bodyOf Try.f26, .leaf, []⟩
noncomputable def laws_toField.i : FnI := laws_toField.ib laws_toFloat32S.wp
noncomputable def laws_toField.bd (w_laws_toFloat32S : List Nat → (List Nat → Prop) → Prop) : List Nat → Int → Int → Bool → (List Nat → Int → Int → Bool → Prop) → Prop := (laws_toField.ib w_laws_toFloat32S).W laws_toField.g
noncomputable def laws_toField.wp : List Nat → Int → Int → Bool → (List Nat → Int → Int → Bool → Prop) → Prop := laws_toField.bd laws_toFloat32S.wp
noncomputable def laws_toField.c : Ctr := laws_toField.g.ctr laws_toField.wp

-- loop.example/g01247/laws.toMelt
noncomputable def laws_toMelt.g : Sig := ⟨9, [(.v (.a (.agg [(.int .i64), (.int .i64), .bool, (.sl 0), (.int .i64), (.int .i64), .bool, (.sl 1), (.flt .f32), (.flt .f32), (.flt .f32), (.flt .f32), (.flt .f32), (.int .i64)])))], [(.rd (.F .f32)), (.rd (.F .f32))], [.lf, .lf, .int, .int, .bool, .int, .int, .bool, .flt, .flt, .flt, .flt, .flt, .int], [(.v (.a (.agg [(.int .i64), (.int .i64), .bool, (.sl 2), (.int .i64), (.int .i64), .bool, (.sl 3), (.flt .f32), (.flt .f32), (.flt .f32), (.flt .f32), (.flt .f32), (.int .i64)])))], [.keep, .keep, (.row 25 (.F .f32)), (.row 25 (.F .f32))], [.lf, .lf, .int, .int, .bool, .int, .int, .bool, .flt, .flt, .flt, .flt, .flt, .int]⟩
noncomputable def laws_toMelt.ib (w_laws_toField : List Nat → Int → Int → Bool → (List Nat → Int → Int → Bool → Prop) → Prop) : FnI := ⟨Try.prog, [], [laws_toField.g.ctr w_laws_toField], 31, [.cell 2 33], bodyOf Try.f9, .leaf, []⟩
noncomputable def laws_toMelt.i : FnI := laws_toMelt.ib laws_toField.wp
noncomputable def laws_toMelt.bd (w_laws_toField : List Nat → Int → Int → Bool → (List Nat → Int → Int → Bool → Prop) → Prop) : List Nat → List Nat → Int → Int → Bool → Int → Int → Bool → Nat → Nat → Nat → Nat → Nat → Int → (List Nat → List Nat → Int → Int → Bool → Int → Int → Bool → Nat → Nat → Nat → Nat → Nat → Int → Prop) → Prop := (laws_toMelt.ib w_laws_toField).W laws_toMelt.g
noncomputable def laws_toMelt.wp : List Nat → List Nat → Int → Int → Bool → Int → Int → Bool → Nat → Nat → Nat → Nat → Nat → Int → (List Nat → List Nat → Int → Int → Bool → Int → Int → Bool → Nat → Nat → Nat → Nat → Nat → Int → Prop) → Prop := laws_toMelt.bd laws_toField.wp
noncomputable def laws_toMelt.c : Ctr := laws_toMelt.g.ctr laws_toMelt.wp

-- loop.example/g01247/spec.l00In
noncomputable def spec_l00In.g : Sig := ⟨33, [(.v (.a (.one (.int .i64)))), (.v (.a (.one (.int .i64)))), (.v (.a (.one (.int .i64))))], [], [.int, .int, .int], [(.v (.a (.one .bool)))], [], [.bool]⟩
noncomputable def spec_l00In.ib  : FnI := ⟨Try.prog, [], [], 15, [.tmp 6], bodyOf Try.f33, .leaf, []⟩
noncomputable def spec_l00In.i : FnI := spec_l00In.ib 
noncomputable def spec_l00In.bd  : Int → Int → Int → (Bool → Prop) → Prop := (spec_l00In.ib ).W spec_l00In.g
noncomputable def spec_l00In.wp : Int → Int → Int → (Bool → Prop) → Prop := spec_l00In.bd 
noncomputable def spec_l00In.c : Ctr := spec_l00In.g.ctr spec_l00In.wp

-- loop.example/g01247/spec.l02Size
noncomputable def spec_l02Size.g : Sig := ⟨93, [(.v (.a (.one (.int .i64)))), (.v (.a (.one (.int .i64))))], [], [.int, .int], [(.v (.a (.one .bool)))], [], [.bool]⟩
noncomputable def spec_l02Size.ib (w_spec_l00In : Int → Int → Int → (Bool → Prop) → Prop) : FnI := ⟨Try.prog, [], [spec_l00In.g.ctr w_spec_l00In], 11, [.tmp 4], bodyOf Try.f93, .leaf, []⟩
noncomputable def spec_l02Size.i : FnI := spec_l02Size.ib spec_l00In.wp
noncomputable def spec_l02Size.bd (w_spec_l00In : Int → Int → Int → (Bool → Prop) → Prop) : Int → Int → (Bool → Prop) → Prop := (spec_l02Size.ib w_spec_l00In).W spec_l02Size.g
noncomputable def spec_l02Size.wp : Int → Int → (Bool → Prop) → Prop := spec_l02Size.bd spec_l00In.wp
noncomputable def spec_l02Size.c : Ctr := spec_l02Size.g.ctr spec_l02Size.wp

-- loop.example/g01247/spec.l02Is
noncomputable def spec_l02Is.g : Sig := ⟨67, [(.v (.a (.one (.pt 0 0))))], [(.rdb [(.int .i64), (.int .i64), .bool, (.sl 1)]), (.rd (.F .f32))], [.int, .int, .bool, .lf], [(.v (.a (.one .bool)))], [.keep, .keep], [.bool]⟩
noncomputable def spec_l02Is.ib (w_spec_l02Size : Int → Int → (Bool → Prop) → Prop) : FnI := ⟨Try.prog, [], [spec_l02Size.g.ctr w_spec_l02Size], 29, [.tmp 2], bodyOf Try.f67, .leaf, []⟩
noncomputable def spec_l02Is.i : FnI := spec_l02Is.ib spec_l02Size.wp
noncomputable def spec_l02Is.bd (w_spec_l02Size : Int → Int → (Bool → Prop) → Prop) : Int → Int → Bool → List Nat → (Bool → Prop) → Prop := (spec_l02Is.ib w_spec_l02Size).W spec_l02Is.g
noncomputable def spec_l02Is.wp : Int → Int → Bool → List Nat → (Bool → Prop) → Prop := spec_l02Is.bd spec_l02Size.wp
noncomputable def spec_l02Is.c : Ctr := spec_l02Is.g.ctr spec_l02Is.wp

-- loop.example/g01247/spec.l01Finite
noncomputable def spec_l01Finite.g : Sig := ⟨57, [(.v (.a (.one (.flt .f32))))], [], [.flt], [(.v (.a (.one .bool)))], [], [.bool]⟩
noncomputable def spec_l01Finite.ib  : FnI := ⟨Try.prog, [], [], 7, [.tmp 2], bodyOf Try.f57, .leaf, []⟩
noncomputable def spec_l01Finite.i : FnI := spec_l01Finite.ib 
noncomputable def spec_l01Finite.bd  : Nat → (Bool → Prop) → Prop := (spec_l01Finite.ib ).W spec_l01Finite.g
noncomputable def spec_l01Finite.wp : Nat → (Bool → Prop) → Prop := spec_l01Finite.bd 
noncomputable def spec_l01Finite.c : Ctr := spec_l01Finite.g.ctr spec_l01Finite.wp

-- loop.example/g01247/spec.l03Least
noncomputable def spec_l03Least.g : Sig := ⟨45, [(.v (.a (.one (.flt .f32))))], [], [.flt], [(.v (.a (.one .bool)))], [], [.bool]⟩
noncomputable def spec_l03Least.ib (w_spec_l01Finite : Nat → (Bool → Prop) → Prop) : FnI := ⟨Try.prog, [], [spec_l01Finite.g.ctr w_spec_l01Finite], 9, [.tmp 2], bodyOf Try.f45, .leaf, []⟩
noncomputable def spec_l03Least.i : FnI := spec_l03Least.ib spec_l01Finite.wp
noncomputable def spec_l03Least.bd (w_spec_l01Finite : Nat → (Bool → Prop) → Prop) : Nat → (Bool → Prop) → Prop := (spec_l03Least.ib w_spec_l01Finite).W spec_l03Least.g
noncomputable def spec_l03Least.wp : Nat → (Bool → Prop) → Prop := spec_l03Least.bd spec_l01Finite.wp
noncomputable def spec_l03Least.c : Ctr := spec_l03Least.g.ctr spec_l03Least.wp

-- loop.example/g01247/spec.l03Is
noncomputable def spec_l03Is.g : Sig := ⟨32, [(.v (.a (.one (.pt 0 0))))], [(.rdb [(.int .i64), (.int .i64), .bool, (.sl 1), (.int .i64), (.int .i64), .bool, (.sl 2), (.flt .f32), (.flt .f32), (.flt .f32), (.flt .f32), (.flt .f32), (.int .i64)]), (.rd (.F .f32)), (.rd (.F .f32))], [.int, .int, .bool, .int, .int, .bool, .flt, .flt, .flt, .flt, .flt, .int, .lf, .lf], [(.v (.a (.one .bool)))], [.keep, .keep, .keep], [.bool]⟩
noncomputable def spec_l03Is.ib (w_spec_l02Is : Int → Int → Bool → List Nat → (Bool → Prop) → Prop) (w_spec_l01Finite : Nat → (Bool → Prop) → Prop) (w_spec_l03Least : Nat → (Bool → Prop) → Prop) (w_spec_l00In : Int → Int → Int → (Bool → Prop) → Prop) : FnI := ⟨Try.prog, [], [spec_l02Is.g.ctr w_spec_l02Is, spec_l01Finite.g.ctr w_spec_l01Finite, spec_l03Least.g.ctr w_spec_l03Least, spec_l00In.g.ctr w_spec_l00In], 145, [.tmp 2], bodyOf Try.f32, (.seq .leaf (.seq .leaf (.seq (.seq .leaf (.block (.loop ⟨[60, 61], [.int, .int], [(.v (.a (.one (.int .i64)))), (.v (.a (.one (.int .i64))))], [.keep, .keep, .keep]⟩ .leaf))) .leaf))), []⟩
noncomputable def spec_l03Is.i : FnI := spec_l03Is.ib spec_l02Is.wp spec_l01Finite.wp spec_l03Least.wp spec_l00In.wp
noncomputable def spec_l03Is.bd (w_spec_l02Is : Int → Int → Bool → List Nat → (Bool → Prop) → Prop) (w_spec_l01Finite : Nat → (Bool → Prop) → Prop) (w_spec_l03Least : Nat → (Bool → Prop) → Prop) (w_spec_l00In : Int → Int → Int → (Bool → Prop) → Prop) : Int → Int → Bool → Int → Int → Bool → Nat → Nat → Nat → Nat → Nat → Int → List Nat → List Nat → (Bool → Prop) → Prop := (spec_l03Is.ib w_spec_l02Is w_spec_l01Finite w_spec_l03Least w_spec_l00In).W spec_l03Is.g
noncomputable def spec_l03Is.wp : Int → Int → Bool → Int → Int → Bool → Nat → Nat → Nat → Nat → Nat → Int → List Nat → List Nat → (Bool → Prop) → Prop := spec_l03Is.bd spec_l02Is.wp spec_l01Finite.wp spec_l03Least.wp spec_l00In.wp
noncomputable def spec_l03Is.c : Ctr := spec_l03Is.g.ctr spec_l03Is.wp

-- loop.example/g01247/spec.l03Long
noncomputable def spec_l03Long.g : Sig := ⟨46, [(.v (.a (.one (.int .i64)))), (.v (.a (.one .bool)))], [], [.int, .bool], [(.v (.a (.one .bool)))], [], [.bool]⟩
noncomputable def spec_l03Long.ib  : FnI := ⟨Try.prog, [], [], 19, [.tmp 4], bodyOf Try.f46, .leaf, []⟩
noncomputable def spec_l03Long.i : FnI := spec_l03Long.ib 
noncomputable def spec_l03Long.bd  : Int → Bool → (Bool → Prop) → Prop := (spec_l03Long.ib ).W spec_l03Long.g
noncomputable def spec_l03Long.wp : Int → Bool → (Bool → Prop) → Prop := spec_l03Long.bd 
noncomputable def spec_l03Long.c : Ctr := spec_l03Long.g.ctr spec_l03Long.wp

-- loop.example/g01247/spec.l02New
noncomputable def spec_l02New.g : Sig := ⟨104, [(.v (.a (.one (.int .i64)))), (.v (.a (.one (.int .i64)))), (.v (.a (.one .bool)))], [], [.int, .int, .bool], [(.v (.a (.agg [(.int .i64), (.int .i64), .bool, (.sl 0)])))], [(.row 25 (.F .f32))], [.lf, .int, .int, .bool]⟩
noncomputable def spec_l02New.ib  : FnI := ⟨Try.prog, [], [], 12, [.cell 6 31], bodyOf Try.f104, .leaf, []⟩
noncomputable def spec_l02New.i : FnI := spec_l02New.ib 
noncomputable def spec_l02New.bd  : Int → Int → Bool → (List Nat → Int → Int → Bool → Prop) → Prop := (spec_l02New.ib ).W spec_l02New.g
noncomputable def spec_l02New.wp : Int → Int → Bool → (List Nat → Int → Int → Bool → Prop) → Prop := spec_l02New.bd 
noncomputable def spec_l02New.c : Ctr := spec_l02New.g.ctr spec_l02New.wp

-- loop.example/g01247/spec.l02Own
noncomputable def spec_l02Own.g : Sig := ⟨85, [(.v (.a (.one (.pt 0 0))))], [(.rdb [(.int .i64), (.int .i64), .bool, (.sl 1)]), (.rd (.F .f32))], [.int, .int, .bool, .lf], [(.v (.a (.agg [(.int .i64), (.int .i64), .bool, (.sl 2)])))], [.keep, .keep, (.row 25 (.F .f32))], [.lf, .int, .int, .bool]⟩
noncomputable def spec_l02Own.ib (w_spec_l02New : Int → Int → Bool → (List Nat → Int → Int → Bool → Prop) → Prop) : FnI := ⟨Try.prog, [], [spec_l02New.g.ctr w_spec_l02New], 26, [.cell 2 31], bodyOf Try.f85, .leaf, []⟩
noncomputable def spec_l02Own.i : FnI := spec_l02Own.ib spec_l02New.wp
noncomputable def spec_l02Own.bd (w_spec_l02New : Int → Int → Bool → (List Nat → Int → Int → Bool → Prop) → Prop) : Int → Int → Bool → List Nat → (List Nat → Int → Int → Bool → Prop) → Prop := (spec_l02Own.ib w_spec_l02New).W spec_l02Own.g
noncomputable def spec_l02Own.wp : Int → Int → Bool → List Nat → (List Nat → Int → Int → Bool → Prop) → Prop := spec_l02Own.bd spec_l02New.wp
noncomputable def spec_l02Own.c : Ctr := spec_l02Own.g.ctr spec_l02Own.wp

-- loop.example/g01247/spec.l03Own
noncomputable def spec_l03Own.g : Sig := ⟨47, [(.v (.a (.one (.pt 0 0))))], [(.rdb [(.int .i64), (.int .i64), .bool, (.sl 1), (.int .i64), (.int .i64), .bool, (.sl 2), (.flt .f32), (.flt .f32), (.flt .f32), (.flt .f32), (.flt .f32), (.int .i64)]), (.rd (.F .f32)), (.rd (.F .f32))], [.int, .int, .bool, .int, .int, .bool, .flt, .flt, .flt, .flt, .flt, .int, .lf, .lf], [(.v (.a (.agg [(.int .i64), (.int .i64), .bool, (.sl 3), (.int .i64), (.int .i64), .bool, (.sl 4), (.flt .f32), (.flt .f32), (.flt .f32), (.flt .f32), (.flt .f32), (.int .i64)])))], [.keep, .keep, .keep, (.row 25 (.F .f32)), (.row 25 (.F .f32))], [.lf, .lf, .int, .int, .bool, .int, .int, .bool, .flt, .flt, .flt, .flt, .flt, .int]⟩
noncomputable def spec_l03Own.ib (w_spec_l02Own : Int → Int → Bool → List Nat → (List Nat → Int → Int → Bool → Prop) → Prop) : FnI := ⟨Try.prog, [], [spec_l02Own.g.ctr w_spec_l02Own], 18, [.cell 2 33], bodyOf Try.f47, .leaf, []⟩
noncomputable def spec_l03Own.i : FnI := spec_l03Own.ib spec_l02Own.wp
noncomputable def spec_l03Own.bd (w_spec_l02Own : Int → Int → Bool → List Nat → (List Nat → Int → Int → Bool → Prop) → Prop) : Int → Int → Bool → Int → Int → Bool → Nat → Nat → Nat → Nat → Nat → Int → List Nat → List Nat → (List Nat → List Nat → Int → Int → Bool → Int → Int → Bool → Nat → Nat → Nat → Nat → Nat → Int → Prop) → Prop := (spec_l03Own.ib w_spec_l02Own).W spec_l03Own.g
noncomputable def spec_l03Own.wp : Int → Int → Bool → Int → Int → Bool → Nat → Nat → Nat → Nat → Nat → Int → List Nat → List Nat → (List Nat → List Nat → Int → Int → Bool → Int → Int → Bool → Nat → Nat → Nat → Nat → Nat → Int → Prop) → Prop := spec_l03Own.bd spec_l02Own.wp
noncomputable def spec_l03Own.c : Ctr := spec_l03Own.g.ctr spec_l03Own.wp

-- loop.example/g01247/spec.l03Sweep
noncomputable def spec_l03Sweep.g : Sig := ⟨86, [(.v (.a (.one (.sl 0)))), (.v (.a (.one (.sl 1)))), (.v (.a (.one (.flt .f32))))], [(.rd (.F .f32)), (.rd (.F .f32))], [.lf, .lf, .flt], [(.v (.a (.one (.sl 2))))], [.keep, .keep, (.row 25 (.F .f32))], [.lf]⟩
noncomputable def spec_l03Sweep.ib  : FnI := ⟨Try.prog, [], [], 102, [.tmp 6], bodyOf Try.f86, (.seq .leaf (.seq .leaf (.seq .leaf (.seq .leaf (.seq (.seq .leaf (.block (.loop ⟨[7, 8, 9, 10], [.lf, .lf, .int, .int], [(.v (.a (.one (.int .i64)))), (.v (.a (.one (.sl 2)))), (.v (.a (.one (.sl 3)))), (.v (.a (.one (.int .i64))))], [.keep, .keep, (.row 25 (.F .f32)), (.row 25 (.F .f32))]⟩ (.seq .leaf (.seq (.block (.seq .leaf (.seq .leaf (.seq (.seq .leaf (.condJ ⟨[7, 8, 9, 10, 11, 12], [.lf, .lf, .int, .int, .flt, .flt], [(.v (.a (.one (.int .i64)))), (.v (.a (.one (.sl 2)))), (.v (.a (.one (.sl 3)))), (.v (.a (.one (.int .i64)))), (.v (.a (.one (.flt .f32)))), (.v (.a (.one (.flt .f32))))], [.keep, .keep, (.row 25 (.F .f32)), (.row 25 (.F .f32))]⟩ .leaf .leaf)) .leaf)))) .leaf))))) (.seq .leaf (.seq .leaf (.seq (.seq .leaf (.block (.loop ⟨[8, 9, 13, 14], [.lf, .lf, .lf, .int], [(.v (.a (.one (.sl 2)))), (.v (.a (.one (.sl 3)))), (.v (.a (.one (.sl 4)))), (.v (.a (.one (.int .i64))))], [.keep, .keep, (.row 25 (.F .f32)), (.row 25 (.F .f32)), (.row 25 (.F .f32))]⟩ .leaf))) .leaf)))))))), []⟩
noncomputable def spec_l03Sweep.i : FnI := spec_l03Sweep.ib 
noncomputable def spec_l03Sweep.bd  : List Nat → List Nat → Nat → (List Nat → Prop) → Prop := (spec_l03Sweep.ib ).W spec_l03Sweep.g
noncomputable def spec_l03Sweep.wp : List Nat → List Nat → Nat → (List Nat → Prop) → Prop := spec_l03Sweep.bd 
noncomputable def spec_l03Sweep.c : Ctr := spec_l03Sweep.g.ctr spec_l03Sweep.wp

-- loop.example/g01247/spec.l03Row
noncomputable def spec_l03Row.g : Sig := ⟨48, [(.v (.a (.one (.sl 0)))), (.v (.a (.one (.flt .f32)))), (.v (.a (.one .bool)))], [(.rd (.F .f32))], [.lf, .flt, .bool], [(.v (.a (.one (.sl 1))))], [.keep, (.row 25 (.F .f32))], [.lf]⟩
noncomputable def spec_l03Row.ib (w_spec_l03Sweep : List Nat → List Nat → Nat → (List Nat → Prop) → Prop) : FnI := ⟨Try.prog, [], [spec_l03Sweep.g.ctr w_spec_l03Sweep], 129, [.tmp 6], bodyOf Try.f48, (.seq .leaf (.seq .leaf (.seq .leaf (.seq (.seq .leaf (.block (.loop ⟨[7, 8, 19, 20], [.lf, .int, .int, .int], [(.v (.a (.one (.int .i64)))), (.v (.a (.one (.sl 1)))), (.v (.a (.one (.int .i64)))), (.v (.a (.one (.int .i64))))], [.keep, (.row 25 (.F .f32))]⟩ .leaf))) (.seq .leaf (.seq .leaf (.seq .leaf (.seq .leaf (.seq .leaf (.seq .leaf (.seq .leaf (.seq .leaf (.seq .leaf (.seq .leaf (.seq (.seq .leaf (.block (.loop ⟨[9, 11, 12, 13, 109, 110], [.lf, .lf, .lf, .flt, .int, .int], [(.v (.a (.one (.sl 1)))), (.v (.a (.one (.sl 2)))), (.v (.a (.one (.flt .f32)))), (.v (.a (.one (.sl 3)))), (.v (.a (.one (.int .i64)))), (.v (.a (.one (.int .i64))))], [.keep, (.row 25 (.F .f32)), (.row 25 (.F .f32)), (.row 25 (.F .f32))]⟩ .leaf))) .leaf))))))))))))))), []⟩
noncomputable def spec_l03Row.i : FnI := spec_l03Row.ib spec_l03Sweep.wp
noncomputable def spec_l03Row.bd (w_spec_l03Sweep : List Nat → List Nat → Nat → (List Nat → Prop) → Prop) : List Nat → Nat → Bool → (List Nat → Prop) → Prop := (spec_l03Row.ib w_spec_l03Sweep).W spec_l03Row.g
noncomputable def spec_l03Row.wp : List Nat → Nat → Bool → (List Nat → Prop) → Prop := spec_l03Row.bd spec_l03Sweep.wp
noncomputable def spec_l03Row.c : Ctr := spec_l03Row.g.ctr spec_l03Row.wp

-- loop.example/g01247/spec.l03Give
noncomputable def spec_l03Give.g : Sig := ⟨49, [(.v (.a (.agg [(.int .i64), (.int .i64), .bool, (.sl 0), (.int .i64), (.int .i64), .bool, (.sl 1), (.flt .f32), (.flt .f32), (.flt .f32), (.flt .f32), (.flt .f32), (.int .i64)])))], [(.row 25 (.F .f32)), (.row 25 (.F .f32))], [.lf, .lf, .int, .int, .bool, .int, .int, .bool, .flt, .flt, .flt, .flt, .flt, .int], [(.tup [(.a (.agg [(.int .i64), (.int .i64), .bool, (.sl 2), (.int .i64), (.int .i64), .bool, (.sl 3), (.flt .f32), (.flt .f32), (.flt .f32), (.flt .f32), (.flt .f32), (.int .i64)])), (.a (.one .bool))])], [.dead, .dead, (.row 25 (.F .f32)), (.row 25 (.F .f32))], [.lf, .lf, .int, .int, .bool, .int, .int, .bool, .flt, .flt, .flt, .flt, .flt, .int, .bool]⟩
noncomputable def spec_l03Give.ib (w_spec_l03Is : Int → Int → Bool → Int → Int → Bool → Nat → Nat → Nat → Nat → Nat → Int → List Nat → List Nat → (Bool → Prop) → Prop) : FnI := ⟨Try.prog, [], [spec_l03Is.g.ctr w_spec_l03Is], 8, [.cell 2 33, .tmp 3], bodyOf Try.f49, .leaf, []⟩
noncomputable def spec_l03Give.i : FnI := spec_l03Give.ib spec_l03Is.wp
noncomputable def spec_l03Give.bd (w_spec_l03Is : Int → Int → Bool → Int → Int → Bool → Nat → Nat → Nat → Nat → Nat → Int → List Nat → List Nat → (Bool → Prop) → Prop) : List Nat → List Nat → Int → Int → Bool → Int → Int → Bool → Nat → Nat → Nat → Nat → Nat → Int → (List Nat → List Nat → Int → Int → Bool → Int → Int → Bool → Nat → Nat → Nat → Nat → Nat → Int → Bool → Prop) → Prop := (spec_l03Give.ib w_spec_l03Is).W spec_l03Give.g
noncomputable def spec_l03Give.wp : List Nat → List Nat → Int → Int → Bool → Int → Int → Bool → Nat → Nat → Nat → Nat → Nat → Int → (List Nat → List Nat → Int → Int → Bool → Int → Int → Bool → Nat → Nat → Nat → Nat → Nat → Int → Bool → Prop) → Prop := spec_l03Give.bd spec_l03Is.wp
noncomputable def spec_l03Give.c : Ctr := spec_l03Give.g.ctr spec_l03Give.wp

-- loop.example/g01247/spec.SpreadHeat
noncomputable def spec_SpreadHeat.g : Sig := ⟨18, [(.v (.a (.agg [(.int .i64), (.int .i64), .bool, (.sl 0), (.int .i64), (.int .i64), .bool, (.sl 1), (.flt .f32), (.flt .f32), (.flt .f32), (.flt .f32), (.flt .f32), (.int .i64)]))), (.v (.a (.one (.flt .f32))))], [(.rd (.F .f32)), (.rd (.F .f32))], [.lf, .lf, .int, .int, .bool, .int, .int, .bool, .flt, .flt, .flt, .flt, .flt, .int, .flt], [(.tup [(.a (.agg [(.int .i64), (.int .i64), .bool, (.sl 2), (.int .i64), (.int .i64), .bool, (.sl 3), (.flt .f32), (.flt .f32), (.flt .f32), (.flt .f32), (.flt .f32), (.int .i64)])), (.a (.one .bool))])], [.keep, .keep, (.row 25 (.F .f32)), (.row 25 (.F .f32))], [.lf, .lf, .int, .int, .bool, .int, .int, .bool, .flt, .flt, .flt, .flt, .flt, .int, .bool]⟩
noncomputable def spec_SpreadHeat.ib (w_spec_l03Is : Int → Int → Bool → Int → Int → Bool → Nat → Nat → Nat → Nat → Nat → Int → List Nat → List Nat → (Bool → Prop) → Prop) (w_spec_l03Least : Nat → (Bool → Prop) → Prop) (w_spec_l03Long : Int → Bool → (Bool → Prop) → Prop) (w_spec_l03Own : Int → Int → Bool → Int → Int → Bool → Nat → Nat → Nat → Nat → Nat → Int → List Nat → List Nat → (List Nat → List Nat → Int → Int → Bool → Int → Int → Bool → Nat → Nat → Nat → Nat → Nat → Int → Prop) → Prop) (w_spec_l03Row : List Nat → Nat → Bool → (List Nat → Prop) → Prop) (w_spec_l03Give : List Nat → List Nat → Int → Int → Bool → Int → Int → Bool → Nat → Nat → Nat → Nat → Nat → Int → (List Nat → List Nat → Int → Int → Bool → Int → Int → Bool → Nat → Nat → Nat → Nat → Nat → Int → Bool → Prop) → Prop) : FnI := ⟨Try.prog, [], [spec_l03Is.g.ctr w_spec_l03Is, spec_l03Least.g.ctr w_spec_l03Least, spec_l03Long.g.ctr w_spec_l03Long, spec_l03Own.g.ctr w_spec_l03Own, spec_l03Row.g.ctr w_spec_l03Row, spec_l03Give.g.ctr w_spec_l03Give], 151, [.cell 4 33, .tmp 5], bodyOf Try.f18, (.seq .leaf (.seq .leaf (.seq .leaf (.seq .leaf (.seq .leaf (.seq .leaf (.seq .leaf (.seq (.seq .leaf (.block (.loop ⟨[2, 4, 6, 7, 8, 9, 10], [.int, .int, .bool, .int, .int, .bool, .flt, .flt, .flt, .flt, .flt, .int, .int, .int, .bool, .int, .int, .bool, .flt, .flt, .flt, .flt, .flt, .int, .int, .int, .bool, .int, .int, .bool, .flt, .flt, .flt, .flt, .flt, .int, .lf, .lf, .lf, .lf, .flt, .int, .int, .int], [(.v (.a (.one (.pt 2 0)))), (.v (.a (.one (.pt 3 0)))), (.v (.a (.one (.flt .f32)))), (.v (.a (.one (.int .i64)))), (.v (.a (.one (.int .i64)))), (.v (.a (.one (.pt 4 0)))), (.v (.a (.one (.int .i64))))], [.keep, .keep, (.box 33 [(.int .i64), (.int .i64), .bool, (.sl 0), (.int .i64), (.int .i64), .bool, (.sl 1), (.flt .f32), (.flt .f32), (.flt .f32), (.flt .f32), (.flt .f32), (.int .i64)]), (.box 33 [(.int .i64), (.int .i64), .bool, (.sl 5), (.int .i64), (.int .i64), .bool, (.sl 6), (.flt .f32), (.flt .f32), (.flt .f32), (.flt .f32), (.flt .f32), (.int .i64)]), (.box 33 [(.int .i64), (.int .i64), .bool, (.sl 7), (.int .i64), (.int .i64), .bool, (.sl 8), (.flt .f32), (.flt .f32), (.flt .f32), (.flt .f32), (.flt .f32), (.int .i64)]), (.row 25 (.F .f32)), (.row 25 (.F .f32)), (.row 25 (.F .f32)), (.row 25 (.F .f32))]⟩ (.seq .leaf (.seq (.block (.seq .leaf (.seq .leaf (.block (.loop ⟨[2, 4, 6, 7, 8, 9, 10, 11, 12], [.int, .int, .bool, .int, .int, .bool, .flt, .flt, .flt, .flt, .flt, .int, .int, .int, .bool, .int, .int, .bool, .flt, .flt, .flt, .flt, .flt, .int, .int, .int, .bool, .int, .int, .bool, .flt, .flt, .flt, .flt, .flt, .int, .lf, .lf, .lf, .lf, .lf, .flt, .int, .int, .int, .int], [(.v (.a (.one (.pt 2 0)))), (.v (.a (.one (.pt 3 0)))), (.v (.a (.one (.flt .f32)))), (.v (.a (.one (.int .i64)))), (.v (.a (.one (.int .i64)))), (.v (.a (.one (.pt 4 0)))), (.v (.a (.one (.int .i64)))), (.v (.a (.one (.sl 5)))), (.v (.a (.one (.int .i64))))], [.keep, .keep, (.box 33 [(.int .i64), (.int .i64), .bool, (.sl 0), (.int .i64), (.int .i64), .bool, (.sl 1), (.flt .f32), (.flt .f32), (.flt .f32), (.flt .f32), (.flt .f32), (.int .i64)]), (.box 33 [(.int .i64), (.int .i64), .bool, (.sl 6), (.int .i64), (.int .i64), .bool, (.sl 7), (.flt .f32), (.flt .f32), (.flt .f32), (.flt .f32), (.flt .f32), (.int .i64)]), (.box 33 [(.int .i64), (.int .i64), .bool, (.sl 8), (.int .i64), (.int .i64), .bool, (.sl 9), (.flt .f32), (.flt .f32), (.flt .f32), (.flt .f32), (.flt .f32), (.int .i64)]), (.row 25 (.F .f32)), (.row 25 (.F .f32)), (.row 25 (.F .f32)), (.row 25 (.F .f32)), (.row 25 (.F .f32))]⟩ .leaf))))) .leaf))))) (.seq (.seq .leaf (.block (.loop ⟨[2, 4, 6, 7, 8, 9, 13], [.int, .int, .bool, .int, .int, .bool, .flt, .flt, .flt, .flt, .flt, .int, .int, .int, .bool, .int, .int, .bool, .flt, .flt, .flt, .flt, .flt, .int, .int, .int, .bool, .int, .int, .bool, .flt, .flt, .flt, .flt, .flt, .int, .lf, .lf, .lf, .lf, .flt, .int, .int, .int], [(.v (.a (.one (.pt 2 0)))), (.v (.a (.one (.pt 3 0)))), (.v (.a (.one (.flt .f32)))), (.v (.a (.one (.int .i64)))), (.v (.a (.one (.int .i64)))), (.v (.a (.one (.pt 4 0)))), (.v (.a (.one (.int .i64))))], [.keep, .keep, (.box 33 [(.int .i64), (.int .i64), .bool, (.sl 0), (.int .i64), (.int .i64), .bool, (.sl 1), (.flt .f32), (.flt .f32), (.flt .f32), (.flt .f32), (.flt .f32), (.int .i64)]), (.box 33 [(.int .i64), (.int .i64), .bool, (.sl 5), (.int .i64), (.int .i64), .bool, (.sl 6), (.flt .f32), (.flt .f32), (.flt .f32), (.flt .f32), (.flt .f32), (.int .i64)]), (.box 33 [(.int .i64), (.int .i64), .bool, (.sl 7), (.int .i64), (.int .i64), .bool, (.sl 8), (.flt .f32), (.flt .f32), (.flt .f32), (.flt .f32), (.flt .f32), (.int .i64)]), (.row 25 (.F .f32)), (.row 25 (.F .f32)), (.row 25 (.F .f32)), (.row 25 (.F .f32))]⟩ (.seq .leaf (.seq (.block (.seq .leaf (.seq (.seq .leaf (.block (.loop ⟨[2, 4, 6, 7, 8, 9, 13, 14, 15], [.int, .int, .bool, .int, .int, .bool, .flt, .flt, .flt, .flt, .flt, .int, .int, .int, .bool, .int, .int, .bool, .flt, .flt, .flt, .flt, .flt, .int, .int, .int, .bool, .int, .int, .bool, .flt, .flt, .flt, .flt, .flt, .int, .lf, .lf, .lf, .lf, .lf, .flt, .int, .int, .int, .int], [(.v (.a (.one (.pt 2 0)))), (.v (.a (.one (.pt 3 0)))), (.v (.a (.one (.flt .f32)))), (.v (.a (.one (.int .i64)))), (.v (.a (.one (.int .i64)))), (.v (.a (.one (.pt 4 0)))), (.v (.a (.one (.int .i64)))), (.v (.a (.one (.sl 5)))), (.v (.a (.one (.int .i64))))], [.keep, .keep, (.box 33 [(.int .i64), (.int .i64), .bool, (.sl 0), (.int .i64), (.int .i64), .bool, (.sl 1), (.flt .f32), (.flt .f32), (.flt .f32), (.flt .f32), (.flt .f32), (.int .i64)]), (.box 33 [(.int .i64), (.int .i64), .bool, (.sl 6), (.int .i64), (.int .i64), .bool, (.sl 7), (.flt .f32), (.flt .f32), (.flt .f32), (.flt .f32), (.flt .f32), (.int .i64)]), (.box 33 [(.int .i64), (.int .i64), .bool, (.sl 8), (.int .i64), (.int .i64), .bool, (.sl 9), (.flt .f32), (.flt .f32), (.flt .f32), (.flt .f32), (.flt .f32), (.int .i64)]), (.row 25 (.F .f32)), (.row 25 (.F .f32)), (.row 25 (.F .f32)), (.row 25 (.F .f32)), (.row 25 (.F .f32))]⟩ .leaf))) (.seq .leaf (.seq .leaf (.block (.loop ⟨[2, 4, 6, 7, 8, 9, 13, 16, 17], [.int, .int, .bool, .int, .int, .bool, .flt, .flt, .flt, .flt, .flt, .int, .int, .int, .bool, .int, .int, .bool, .flt, .flt, .flt, .flt, .flt, .int, .int, .int, .bool, .int, .int, .bool, .flt, .flt, .flt, .flt, .flt, .int, .lf, .lf, .lf, .lf, .lf, .flt, .int, .int, .int, .int], [(.v (.a (.one (.pt 2 0)))), (.v (.a (.one (.pt 3 0)))), (.v (.a (.one (.flt .f32)))), (.v (.a (.one (.int .i64)))), (.v (.a (.one (.int .i64)))), (.v (.a (.one (.pt 4 0)))), (.v (.a (.one (.int .i64)))), (.v (.a (.one (.sl 5)))), (.v (.a (.one (.int .i64))))], [.keep, .keep, (.box 33 [(.int .i64), (.int .i64), .bool, (.sl 0), (.int .i64), (.int .i64), .bool, (.sl 1), (.flt .f32), (.flt .f32), (.flt .f32), (.flt .f32), (.flt .f32), (.int .i64)]), (.box 33 [(.int .i64), (.int .i64), .bool, (.sl 6), (.int .i64), (.int .i64), .bool, (.sl 7), (.flt .f32), (.flt .f32), (.flt .f32), (.flt .f32), (.flt .f32), (.int .i64)]), (.box 33 [(.int .i64), (.int .i64), .bool, (.sl 8), (.int .i64), (.int .i64), .bool, (.sl 9), (.flt .f32), (.flt .f32), (.flt .f32), (.flt .f32), (.flt .f32), (.int .i64)]), (.row 25 (.F .f32)), (.row 25 (.F .f32)), (.row 25 (.F .f32)), (.row 25 (.F .f32)), (.row 25 (.F .f32))]⟩ .leaf))))))) .leaf))))) .leaf))))))))), []⟩
noncomputable def spec_SpreadHeat.i : FnI := spec_SpreadHeat.ib spec_l03Is.wp spec_l03Least.wp spec_l03Long.wp spec_l03Own.wp spec_l03Row.wp spec_l03Give.wp
noncomputable def spec_SpreadHeat.bd (w_spec_l03Is : Int → Int → Bool → Int → Int → Bool → Nat → Nat → Nat → Nat → Nat → Int → List Nat → List Nat → (Bool → Prop) → Prop) (w_spec_l03Least : Nat → (Bool → Prop) → Prop) (w_spec_l03Long : Int → Bool → (Bool → Prop) → Prop) (w_spec_l03Own : Int → Int → Bool → Int → Int → Bool → Nat → Nat → Nat → Nat → Nat → Int → List Nat → List Nat → (List Nat → List Nat → Int → Int → Bool → Int → Int → Bool → Nat → Nat → Nat → Nat → Nat → Int → Prop) → Prop) (w_spec_l03Row : List Nat → Nat → Bool → (List Nat → Prop) → Prop) (w_spec_l03Give : List Nat → List Nat → Int → Int → Bool → Int → Int → Bool → Nat → Nat → Nat → Nat → Nat → Int → (List Nat → List Nat → Int → Int → Bool → Int → Int → Bool → Nat → Nat → Nat → Nat → Nat → Int → Bool → Prop) → Prop) : List Nat → List Nat → Int → Int → Bool → Int → Int → Bool → Nat → Nat → Nat → Nat → Nat → Int → Nat → (List Nat → List Nat → Int → Int → Bool → Int → Int → Bool → Nat → Nat → Nat → Nat → Nat → Int → Bool → Prop) → Prop := (spec_SpreadHeat.ib w_spec_l03Is w_spec_l03Least w_spec_l03Long w_spec_l03Own w_spec_l03Row w_spec_l03Give).W spec_SpreadHeat.g
noncomputable def spec_SpreadHeat.wp : List Nat → List Nat → Int → Int → Bool → Int → Int → Bool → Nat → Nat → Nat → Nat → Nat → Int → Nat → (List Nat → List Nat → Int → Int → Bool → Int → Int → Bool → Nat → Nat → Nat → Nat → Nat → Int → Bool → Prop) → Prop := spec_SpreadHeat.bd spec_l03Is.wp spec_l03Least.wp spec_l03Long.wp spec_l03Own.wp spec_l03Row.wp spec_l03Give.wp
noncomputable def spec_SpreadHeat.c : Ctr := spec_SpreadHeat.g.ctr spec_SpreadHeat.wp

-- loop.example/g01247/impl.within
noncomputable def impl_within.g : Sig := ⟨39, [(.v (.a (.one (.int .i64)))), (.v (.a (.one (.int .i64)))), (.v (.a (.one (.int .i64))))], [], [.int, .int, .int], [(.v (.a (.one .bool)))], [], [.bool]⟩
noncomputable def impl_within.ib  : FnI := ⟨Try.prog, [], [], 15, [.tmp 6], bodyOf Try.f39, .leaf, []⟩
noncomputable def impl_within.i : FnI := impl_within.ib 
noncomputable def impl_within.bd  : Int → Int → Int → (Bool → Prop) → Prop := (impl_within.ib ).W impl_within.g
noncomputable def impl_within.wp : Int → Int → Int → (Bool → Prop) → Prop := impl_within.bd 
noncomputable def impl_within.c : Ctr := impl_within.g.ctr impl_within.wp

-- loop.example/g01247/impl.areWithin$1
noncomputable def impl_areWithin_1.g : Sig := ⟨112, [(.v (.a (.one (.int .i64)))), (.v (.a (.one (.pt 0 0)))), (.v (.a (.one (.pt 1 0))))], [(.rdb [(.int .i64)]), (.rdb [(.int .i64)])], [.int, .int, .int], [(.v (.a (.one .bool)))], [.keep, .keep], [.bool]⟩
noncomputable def impl_areWithin_1.ib (w_impl_within : Int → Int → Int → (Bool → Prop) → Prop) : FnI := ⟨Try.prog, [], [impl_within.g.ctr w_impl_within], 10, [.tmp 4], bodyOf Try.f112, .leaf, []⟩
noncomputable def impl_areWithin_1.i : FnI := impl_areWithin_1.ib impl_within.wp
noncomputable def impl_areWithin_1.bd (w_impl_within : Int → Int → Int → (Bool → Prop) → Prop) : Int → Int → Int → (Bool → Prop) → Prop := (impl_areWithin_1.ib w_impl_within).W impl_areWithin_1.g
noncomputable def impl_areWithin_1.wp : Int → Int → Int → (Bool → Prop) → Prop := impl_areWithin_1.bd impl_within.wp
noncomputable def impl_areWithin_1.c : Ctr := impl_areWithin_1.g.ctr impl_areWithin_1.wp

-- slices.IndexFunc[[]int64,int64]
noncomputable def slices_IndexFunc_int64_int64__areWithin_1.g : Sig := ⟨116, [(.v (.a (.one (.sl 0)))), (.v (.fn 112 [] [(.one (.pt 1 0)), (.one (.pt 2 0))]))], [(.rd (.I .i64)), (.rdb [(.int .i64)]), (.rdb [(.int .i64)])], [.li, .int, .int], [(.v (.a (.one (.int .i64))))], [.keep, .keep, .keep], [.int]⟩
noncomputable def slices_IndexFunc_int64_int64__areWithin_1.ib (w_impl_areWithin_1 : Int → Int → Int → (Bool → Prop) → Prop) : FnI := ⟨Try.prog, [], [impl_areWithin_1.g.ctr w_impl_areWithin_1], 19, [.tmp 4], bodyOf Try.f116, (.seq .leaf (.seq (.seq .leaf (.block (.loop ⟨[7, 8], [.int, .int], [(.v (.a (.one (.int .i64)))), (.v (.a (.one (.int .i64))))], [.keep, .keep, .keep]⟩ .leaf))) .leaf)), []⟩
noncomputable def slices_IndexFunc_int64_int64__areWithin_1.i : FnI := slices_IndexFunc_int64_int64__areWithin_1.ib impl_areWithin_1.wp
noncomputable def slices_IndexFunc_int64_int64__areWithin_1.bd (w_impl_areWithin_1 : Int → Int → Int → (Bool → Prop) → Prop) : List Int → Int → Int → (Int → Prop) → Prop := (slices_IndexFunc_int64_int64__areWithin_1.ib w_impl_areWithin_1).W slices_IndexFunc_int64_int64__areWithin_1.g
noncomputable def slices_IndexFunc_int64_int64__areWithin_1.wp : List Int → Int → Int → (Int → Prop) → Prop := slices_IndexFunc_int64_int64__areWithin_1.bd impl_areWithin_1.wp
noncomputable def slices_IndexFunc_int64_int64__areWithin_1.c : Ctr := slices_IndexFunc_int64_int64__areWithin_1.g.ctr slices_IndexFunc_int64_int64__areWithin_1.wp

-- slices.ContainsFunc[[]int64,int64]
noncomputable def slices_ContainsFunc_int64_int64__areWithin_1.g : Sig := ⟨111, [(.v (.a (.one (.sl 0)))), (.v (.fn 112 [] [(.one (.pt 1 0)), (.one (.pt 2 0))]))], [(.rd (.I .i64)), (.rdb [(.int .i64)]), (.rdb [(.int .i64)])], [.li, .int, .int], [(.v (.a (.one .bool)))], [.keep, .keep, .keep], [.bool]⟩
noncomputable def slices_ContainsFunc_int64_int64__areWithin_1.ib (w_slices_IndexFunc_int64_int64__areWithin_1 : List Int → Int → Int → (Int → Prop) → Prop) : FnI := ⟨Try.prog, [], [slices_IndexFunc_int64_int64__areWithin_1.g.ctr w_slices_IndexFunc_int64_int64__areWithin_1], 9, [.tmp 4], bodyOf Try.f111, .leaf, []⟩
noncomputable def slices_ContainsFunc_int64_int64__areWithin_1.i : FnI := slices_ContainsFunc_int64_int64__areWithin_1.ib slices_IndexFunc_int64_int64__areWithin_1.wp
noncomputable def slices_ContainsFunc_int64_int64__areWithin_1.bd (w_slices_IndexFunc_int64_int64__areWithin_1 : List Int → Int → Int → (Int → Prop) → Prop) : List Int → Int → Int → (Bool → Prop) → Prop := (slices_ContainsFunc_int64_int64__areWithin_1.ib w_slices_IndexFunc_int64_int64__areWithin_1).W slices_ContainsFunc_int64_int64__areWithin_1.g
noncomputable def slices_ContainsFunc_int64_int64__areWithin_1.wp : List Int → Int → Int → (Bool → Prop) → Prop := slices_ContainsFunc_int64_int64__areWithin_1.bd slices_IndexFunc_int64_int64__areWithin_1.wp
noncomputable def slices_ContainsFunc_int64_int64__areWithin_1.c : Ctr := slices_ContainsFunc_int64_int64__areWithin_1.g.ctr slices_ContainsFunc_int64_int64__areWithin_1.wp

-- loop.example/g01247/impl.areWithin
noncomputable def impl_areWithin.g : Sig := ⟨97, [(.v (.a (.one (.int .i64)))), (.v (.a (.one (.int .i64)))), (.v (.a (.one (.sl 0))))], [(.rd (.I .i64))], [.li, .int, .int], [(.v (.a (.one .bool)))], [.keep], [.bool]⟩
noncomputable def impl_areWithin.ib (w_slices_ContainsFunc_int64_int64__areWithin_1 : List Int → Int → Int → (Bool → Prop) → Prop) : FnI := ⟨Try.prog, [], [slices_ContainsFunc_int64_int64__areWithin_1.g.ctr w_slices_ContainsFunc_int64_int64__areWithin_1], 11, [.tmp 6], bodyOf Try.f97, .leaf, []⟩
noncomputable def impl_areWithin.i : FnI := impl_areWithin.ib slices_ContainsFunc_int64_int64__areWithin_1.wp
noncomputable def impl_areWithin.bd (w_slices_ContainsFunc_int64_int64__areWithin_1 : List Int → Int → Int → (Bool → Prop) → Prop) : List Int → Int → Int → (Bool → Prop) → Prop := (impl_areWithin.ib w_slices_ContainsFunc_int64_int64__areWithin_1).W impl_areWithin.g
noncomputable def impl_areWithin.wp : List Int → Int → Int → (Bool → Prop) → Prop := impl_areWithin.bd slices_ContainsFunc_int64_int64__areWithin_1.wp
noncomputable def impl_areWithin.c : Ctr := impl_areWithin.g.ctr impl_areWithin.wp

-- loop.example/g01247/impl.ValidField
noncomputable def impl_ValidField.g : Sig := ⟨73, [(.v (.a (.agg [(.int .i64), (.int .i64), .bool, (.sl 0)])))], [(.rd (.F .f32))], [.lf, .int, .int, .bool], [(.v (.a (.one .bool)))], [.keep], [.bool]⟩
noncomputable def impl_ValidField.ib (w_impl_areWithin : List Int → Int → Int → (Bool → Prop) → Prop) : FnI := ⟨Try.prog, [], [impl_areWithin.g.ctr w_impl_areWithin], 20, [.tmp 2], bodyOf Try.f73, .leaf, []⟩
noncomputable def impl_ValidField.i : FnI := impl_ValidField.ib impl_areWithin.wp
noncomputable def impl_ValidField.bd (w_impl_areWithin : List Int → Int → Int → (Bool → Prop) → Prop) : List Nat → Int → Int → Bool → (Bool → Prop) → Prop := (impl_ValidField.ib w_impl_areWithin).W impl_ValidField.g
noncomputable def impl_ValidField.wp : List Nat → Int → Int → Bool → (Bool → Prop) → Prop := impl_ValidField.bd impl_areWithin.wp
noncomputable def impl_ValidField.c : Ctr := impl_ValidField.g.ctr impl_ValidField.wp

-- loop.example/g01247/impl.alike
noncomputable def impl_alike.g : Sig := ⟨74, [(.v (.a (.agg [(.int .i64), (.int .i64), .bool, (.sl 0)]))), (.v (.a (.agg [(.int .i64), (.int .i64), .bool, (.sl 1)])))], [(.rd (.F .f32)), (.rd (.F .f32))], [.lf, .lf, .int, .int, .bool, .int, .int, .bool], [(.v (.a (.one .bool)))], [.keep, .keep], [.bool]⟩
noncomputable def impl_alike.ib  : FnI := ⟨Try.prog, [], [], 24, [.tmp 4], bodyOf Try.f74, .leaf, []⟩
noncomputable def impl_alike.i : FnI := impl_alike.ib 
noncomputable def impl_alike.bd  : List Nat → List Nat → Int → Int → Bool → Int → Int → Bool → (Bool → Prop) → Prop := (impl_alike.ib ).W impl_alike.g
noncomputable def impl_alike.wp : List Nat → List Nat → Int → Int → Bool → Int → Int → Bool → (Bool → Prop) → Prop := impl_alike.bd 
noncomputable def impl_alike.c : Ctr := impl_alike.g.ctr impl_alike.wp

-- math.IsNaN
noncomputable def math_IsNaN.g : Sig := ⟨99, [(.v (.a (.one (.flt .f64))))], [], [.flt], [(.v (.a (.one .bool)))], [], [.bool]⟩
noncomputable def math_IsNaN.ib  : FnI := ⟨Try.prog, [], [], 6, [.tmp 2], bodyOf Try.f99, .leaf, []⟩
noncomputable def math_IsNaN.i : FnI := math_IsNaN.ib 
noncomputable def math_IsNaN.bd  : Nat → (Bool → Prop) → Prop := (math_IsNaN.ib ).W math_IsNaN.g
noncomputable def math_IsNaN.wp : Nat → (Bool → Prop) → Prop := math_IsNaN.bd 
noncomputable def math_IsNaN.c : Ctr := math_IsNaN.g.ctr math_IsNaN.wp

-- math.Abs
noncomputable def math_Abs.g : Sig := ⟨80, [(.v (.a (.one (.flt .f64))))], [], [.flt], [(.v (.a (.one (.flt .f64))))], [], [.flt]⟩
noncomputable def math_Abs.ib  : FnI := ⟨Try.prog, [(101, .from64), (102, .bits64)], [], 7, [.tmp 2], bodyOf Try.f80, .leaf, []⟩
noncomputable def math_Abs.i : FnI := math_Abs.ib 
noncomputable def math_Abs.bd  : Nat → (Nat → Prop) → Prop := (math_Abs.ib ).W math_Abs.g
noncomputable def math_Abs.wp : Nat → (Nat → Prop) → Prop := math_Abs.bd 
noncomputable def math_Abs.c : Ctr := math_Abs.g.ctr math_Abs.wp

-- math.IsInf
noncomputable def math_IsInf.g : Sig := ⟨100, [(.v (.a (.one (.flt .f64)))), (.v (.a (.one (.int .i64))))], [], [.flt, .int], [(.v (.a (.one .bool)))], [], [.bool]⟩
noncomputable def math_IsInf.ib (w_math_Abs : Nat → (Nat → Prop) → Prop) : FnI := ⟨Try.prog, [], [math_Abs.g.ctr w_math_Abs], 15, [.tmp 4], bodyOf Try.f100, .leaf, [0]⟩
noncomputable def math_IsInf.i : FnI := math_IsInf.ib math_Abs.wp
noncomputable def math_IsInf.bd (w_math_Abs : Nat → (Nat → Prop) → Prop) : Nat → Int → (Bool → Prop) → Prop := (math_IsInf.ib w_math_Abs).W math_IsInf.g
noncomputable def math_IsInf.wp : Nat → Int → (Bool → Prop) → Prop := math_IsInf.bd math_Abs.wp
noncomputable def math_IsInf.c : Ctr := math_IsInf.g.ctr math_IsInf.wp

-- loop.example/g01247/impl.finite
noncomputable def impl_finite.g : Sig := ⟨78, [(.v (.a (.one (.flt .f64))))], [], [.flt], [(.v (.a (.one .bool)))], [], [.bool]⟩
noncomputable def impl_finite.ib (w_math_IsNaN : Nat → (Bool → Prop) → Prop) (w_math_IsInf : Nat → Int → (Bool → Prop) → Prop) : FnI := ⟨Try.prog, [], [math_IsNaN.g.ctr w_math_IsNaN, math_IsInf.g.ctr w_math_IsInf], 11, [.tmp 2], bodyOf Try.f78, .leaf, []⟩
noncomputable def impl_finite.i : FnI := impl_finite.ib math_IsNaN.wp math_IsInf.wp
noncomputable def impl_finite.bd (w_math_IsNaN : Nat → (Bool → Prop) → Prop) (w_math_IsInf : Nat → Int → (Bool → Prop) → Prop) : Nat → (Bool → Prop) → Prop := (impl_finite.ib w_math_IsNaN w_math_IsInf).W impl_finite.g
noncomputable def impl_finite.wp : Nat → (Bool → Prop) → Prop := impl_finite.bd math_IsNaN.wp math_IsInf.wp
noncomputable def impl_finite.c : Ctr := impl_finite.g.ctr impl_finite.wp

-- loop.example/g01247/impl.IsFinite
noncomputable def impl_IsFinite.g : Sig := ⟨83, [(.v (.a (.one (.flt .f32))))], [], [.flt], [(.v (.a (.one .bool)))], [], [.bool]⟩
noncomputable def impl_IsFinite.ib (w_impl_finite : Nat → (Bool → Prop) → Prop) : FnI := ⟨Try.prog, [], [impl_finite.g.ctr w_impl_finite], 6, [.tmp 2], bodyOf Try.f83, .leaf, []⟩
noncomputable def impl_IsFinite.i : FnI := impl_IsFinite.ib impl_finite.wp
noncomputable def impl_IsFinite.bd (w_impl_finite : Nat → (Bool → Prop) → Prop) : Nat → (Bool → Prop) → Prop := (impl_IsFinite.ib w_impl_finite).W impl_IsFinite.g
noncomputable def impl_IsFinite.wp : Nat → (Bool → Prop) → Prop := impl_IsFinite.bd impl_finite.wp
noncomputable def impl_IsFinite.c : Ctr := impl_IsFinite.g.ctr impl_IsFinite.wp

-- loop.example/g01247/impl.areFinite$1
noncomputable def impl_areFinite_1.g : Sig := ⟨106, [(.v (.a (.one (.flt .f32))))], [], [.flt], [(.v (.a (.one .bool)))], [], [.bool]⟩
noncomputable def impl_areFinite_1.ib (w_impl_IsFinite : Nat → (Bool → Prop) → Prop) : FnI := ⟨Try.prog, [], [impl_IsFinite.g.ctr w_impl_IsFinite], 6, [.tmp 2], bodyOf Try.f106, .leaf, []⟩
noncomputable def impl_areFinite_1.i : FnI := impl_areFinite_1.ib impl_IsFinite.wp
noncomputable def impl_areFinite_1.bd (w_impl_IsFinite : Nat → (Bool → Prop) → Prop) : Nat → (Bool → Prop) → Prop := (impl_areFinite_1.ib w_impl_IsFinite).W impl_areFinite_1.g
noncomputable def impl_areFinite_1.wp : Nat → (Bool → Prop) → Prop := impl_areFinite_1.bd impl_IsFinite.wp
noncomputable def impl_areFinite_1.c : Ctr := impl_areFinite_1.g.ctr impl_areFinite_1.wp

-- slices.IndexFunc[[]float32,float32]
noncomputable def slices_IndexFunc_float32_float32__areFinite_1.g : Sig := ⟨98, [(.v (.a (.one (.sl 0)))), (.v (.fn 106 [] []))], [(.rd (.F .f32))], [.lf], [(.v (.a (.one (.int .i64))))], [.keep], [.int]⟩
noncomputable def slices_IndexFunc_float32_float32__areFinite_1.ib (w_impl_areFinite_1 : Nat → (Bool → Prop) → Prop) : FnI := ⟨Try.prog, [], [impl_areFinite_1.g.ctr w_impl_areFinite_1], 19, [.tmp 4], bodyOf Try.f98, (.seq .leaf (.seq (.seq .leaf (.block (.loop ⟨[7, 8], [.int, .int], [(.v (.a (.one (.int .i64)))), (.v (.a (.one (.int .i64))))], [.keep]⟩ .leaf))) .leaf)), []⟩
noncomputable def slices_IndexFunc_float32_float32__areFinite_1.i : FnI := slices_IndexFunc_float32_float32__areFinite_1.ib impl_areFinite_1.wp
noncomputable def slices_IndexFunc_float32_float32__areFinite_1.bd (w_impl_areFinite_1 : Nat → (Bool → Prop) → Prop) : List Nat → (Int → Prop) → Prop := (slices_IndexFunc_float32_float32__areFinite_1.ib w_impl_areFinite_1).W slices_IndexFunc_float32_float32__areFinite_1.g
noncomputable def slices_IndexFunc_float32_float32__areFinite_1.wp : List Nat → (Int → Prop) → Prop := slices_IndexFunc_float32_float32__areFinite_1.bd impl_areFinite_1.wp
noncomputable def slices_IndexFunc_float32_float32__areFinite_1.c : Ctr := slices_IndexFunc_float32_float32__areFinite_1.g.ctr slices_IndexFunc_float32_float32__areFinite_1.wp

-- slices.ContainsFunc[[]float32,float32]
noncomputable def slices_ContainsFunc_float32_float32__areFinite_1.g : Sig := ⟨76, [(.v (.a (.one (.sl 0)))), (.v (.fn 106 [] []))], [(.rd (.F .f32))], [.lf], [(.v (.a (.one .bool)))], [.keep], [.bool]⟩
noncomputable def slices_ContainsFunc_float32_float32__areFinite_1.ib (w_slices_IndexFunc_float32_float32__areFinite_1 : List Nat → (Int → Prop) → Prop) : FnI := ⟨Try.prog, [], [slices_IndexFunc_float32_float32__areFinite_1.g.ctr w_slices_IndexFunc_float32_float32__areFinite_1], 9, [.tmp 4], bodyOf Try.f76, .leaf, []⟩
noncomputable def slices_ContainsFunc_float32_float32__areFinite_1.i : FnI := slices_ContainsFunc_float32_float32__areFinite_1.ib slices_IndexFunc_float32_float32__areFinite_1.wp
noncomputable def slices_ContainsFunc_float32_float32__areFinite_1.bd (w_slices_IndexFunc_float32_float32__areFinite_1 : List Nat → (Int → Prop) → Prop) : List Nat → (Bool → Prop) → Prop := (slices_ContainsFunc_float32_float32__areFinite_1.ib w_slices_IndexFunc_float32_float32__areFinite_1).W slices_ContainsFunc_float32_float32__areFinite_1.g
noncomputable def slices_ContainsFunc_float32_float32__areFinite_1.wp : List Nat → (Bool → Prop) → Prop := slices_ContainsFunc_float32_float32__areFinite_1.bd slices_IndexFunc_float32_float32__areFinite_1.wp
noncomputable def slices_ContainsFunc_float32_float32__areFinite_1.c : Ctr := slices_ContainsFunc_float32_float32__areFinite_1.g.ctr slices_ContainsFunc_float32_float32__areFinite_1.wp

-- loop.example/g01247/impl.areFinite
noncomputable def impl_areFinite.g : Sig := ⟨89, [(.v (.a (.one (.sl 0))))], [(.rd (.F .f32))], [.lf], [(.v (.a (.one .bool)))], [.keep], [.bool]⟩
noncomputable def impl_areFinite.ib (w_slices_ContainsFunc_float32_float32__areFinite_1 : List Nat → (Bool → Prop) → Prop) : FnI := ⟨Try.prog, [], [slices_ContainsFunc_float32_float32__areFinite_1.g.ctr w_slices_ContainsFunc_float32_float32__areFinite_1], 6, [.tmp 2], bodyOf Try.f89, .leaf, []⟩
noncomputable def impl_areFinite.i : FnI := impl_areFinite.ib slices_ContainsFunc_float32_float32__areFinite_1.wp
noncomputable def impl_areFinite.bd (w_slices_ContainsFunc_float32_float32__areFinite_1 : List Nat → (Bool → Prop) → Prop) : List Nat → (Bool → Prop) → Prop := (impl_areFinite.ib w_slices_ContainsFunc_float32_float32__areFinite_1).W impl_areFinite.g
noncomputable def impl_areFinite.wp : List Nat → (Bool → Prop) → Prop := impl_areFinite.bd slices_ContainsFunc_float32_float32__areFinite_1.wp
noncomputable def impl_areFinite.c : Ctr := impl_areFinite.g.ctr impl_areFinite.wp

-- loop.example/g01247/impl.finiteField
noncomputable def impl_finiteField.g : Sig := ⟨75, [(.v (.a (.agg [(.int .i64), (.int .i64), .bool, (.sl 0)])))], [(.rd (.F .f32))], [.lf, .int, .int, .bool], [(.v (.a (.one .bool)))], [.keep], [.bool]⟩
noncomputable def impl_finiteField.ib (w_impl_areFinite : List Nat → (Bool → Prop) → Prop) : FnI := ⟨Try.prog, [], [impl_areFinite.g.ctr w_impl_areFinite], 6, [.tmp 2], bodyOf Try.f75, .leaf, []⟩
noncomputable def impl_finiteField.i : FnI := impl_finiteField.ib impl_areFinite.wp
noncomputable def impl_finiteField.bd (w_impl_areFinite : List Nat → (Bool → Prop) → Prop) : List Nat → Int → Int → Bool → (Bool → Prop) → Prop := (impl_finiteField.ib w_impl_areFinite).W impl_finiteField.g
noncomputable def impl_finiteField.wp : List Nat → Int → Int → Bool → (Bool → Prop) → Prop := impl_finiteField.bd impl_areFinite.wp
noncomputable def impl_finiteField.c : Ctr := impl_finiteField.g.ctr impl_finiteField.wp

-- loop.example/g01247/impl.ValidMelt$1
noncomputable def impl_ValidMelt_1.g : Sig := ⟨77, [(.v (.a (.one (.flt .f32))))], [], [.flt], [(.v (.a (.one .bool)))], [], [.bool]⟩
noncomputable def impl_ValidMelt_1.ib  : FnI := ⟨Try.prog, [], [], 10, [.tmp 2], bodyOf Try.f77, .leaf, []⟩
noncomputable def impl_ValidMelt_1.i : FnI := impl_ValidMelt_1.ib 
noncomputable def impl_ValidMelt_1.bd  : Nat → (Bool → Prop) → Prop := (impl_ValidMelt_1.ib ).W impl_ValidMelt_1.g
noncomputable def impl_ValidMelt_1.wp : Nat → (Bool → Prop) → Prop := impl_ValidMelt_1.bd 
noncomputable def impl_ValidMelt_1.c : Ctr := impl_ValidMelt_1.g.ctr impl_ValidMelt_1.wp

-- slices.IndexFunc[[]float32,float32]
noncomputable def slices_IndexFunc_float32_float32__ValidMelt_1.g : Sig := ⟨98, [(.v (.a (.one (.sl 0)))), (.v (.fn 77 [] []))], [(.rd (.F .f32))], [.lf], [(.v (.a (.one (.int .i64))))], [.keep], [.int]⟩
noncomputable def slices_IndexFunc_float32_float32__ValidMelt_1.ib (w_impl_ValidMelt_1 : Nat → (Bool → Prop) → Prop) : FnI := ⟨Try.prog, [], [impl_ValidMelt_1.g.ctr w_impl_ValidMelt_1], 19, [.tmp 4], bodyOf Try.f98, (.seq .leaf (.seq (.seq .leaf (.block (.loop ⟨[7, 8], [.int, .int], [(.v (.a (.one (.int .i64)))), (.v (.a (.one (.int .i64))))], [.keep]⟩ .leaf))) .leaf)), []⟩
noncomputable def slices_IndexFunc_float32_float32__ValidMelt_1.i : FnI := slices_IndexFunc_float32_float32__ValidMelt_1.ib impl_ValidMelt_1.wp
noncomputable def slices_IndexFunc_float32_float32__ValidMelt_1.bd (w_impl_ValidMelt_1 : Nat → (Bool → Prop) → Prop) : List Nat → (Int → Prop) → Prop := (slices_IndexFunc_float32_float32__ValidMelt_1.ib w_impl_ValidMelt_1).W slices_IndexFunc_float32_float32__ValidMelt_1.g
noncomputable def slices_IndexFunc_float32_float32__ValidMelt_1.wp : List Nat → (Int → Prop) → Prop := slices_IndexFunc_float32_float32__ValidMelt_1.bd impl_ValidMelt_1.wp
noncomputable def slices_IndexFunc_float32_float32__ValidMelt_1.c : Ctr := slices_IndexFunc_float32_float32__ValidMelt_1.g.ctr slices_IndexFunc_float32_float32__ValidMelt_1.wp

-- slices.ContainsFunc[[]float32,float32]
noncomputable def slices_ContainsFunc_float32_float32__ValidMelt_1.g : Sig := ⟨76, [(.v (.a (.one (.sl 0)))), (.v (.fn 77 [] []))], [(.rd (.F .f32))], [.lf], [(.v (.a (.one .bool)))], [.keep], [.bool]⟩
noncomputable def slices_ContainsFunc_float32_float32__ValidMelt_1.ib (w_slices_IndexFunc_float32_float32__ValidMelt_1 : List Nat → (Int → Prop) → Prop) : FnI := ⟨Try.prog, [], [slices_IndexFunc_float32_float32__ValidMelt_1.g.ctr w_slices_IndexFunc_float32_float32__ValidMelt_1], 9, [.tmp 4], bodyOf Try.f76, .leaf, []⟩
noncomputable def slices_ContainsFunc_float32_float32__ValidMelt_1.i : FnI := slices_ContainsFunc_float32_float32__ValidMelt_1.ib slices_IndexFunc_float32_float32__ValidMelt_1.wp
noncomputable def slices_ContainsFunc_float32_float32__ValidMelt_1.bd (w_slices_IndexFunc_float32_float32__ValidMelt_1 : List Nat → (Int → Prop) → Prop) : List Nat → (Bool → Prop) → Prop := (slices_ContainsFunc_float32_float32__ValidMelt_1.ib w_slices_IndexFunc_float32_float32__ValidMelt_1).W slices_ContainsFunc_float32_float32__ValidMelt_1.g
noncomputable def slices_ContainsFunc_float32_float32__ValidMelt_1.wp : List Nat → (Bool → Prop) → Prop := slices_ContainsFunc_float32_float32__ValidMelt_1.bd slices_IndexFunc_float32_float32__ValidMelt_1.wp
noncomputable def slices_ContainsFunc_float32_float32__ValidMelt_1.c : Ctr := slices_ContainsFunc_float32_float32__ValidMelt_1.g.ctr slices_ContainsFunc_float32_float32__ValidMelt_1.wp

-- loop.example/g01247/impl.aMass
noncomputable def impl_aMass.g : Sig := ⟨51, [(.v (.a (.one (.flt .f32))))], [], [.flt], [(.v (.a (.one .bool)))], [], [.bool]⟩
noncomputable def impl_aMass.ib (w_impl_IsFinite : Nat → (Bool → Prop) → Prop) : FnI := ⟨Try.prog, [], [impl_IsFinite.g.ctr w_impl_IsFinite], 9, [.tmp 2], bodyOf Try.f51, .leaf, []⟩
noncomputable def impl_aMass.i : FnI := impl_aMass.ib impl_IsFinite.wp
noncomputable def impl_aMass.bd (w_impl_IsFinite : Nat → (Bool → Prop) → Prop) : Nat → (Bool → Prop) → Prop := (impl_aMass.ib w_impl_IsFinite).W impl_aMass.g
noncomputable def impl_aMass.wp : Nat → (Bool → Prop) → Prop := impl_aMass.bd impl_IsFinite.wp
noncomputable def impl_aMass.c : Ctr := impl_aMass.g.ctr impl_aMass.wp

-- loop.example/g01247/impl.ValidMelt
noncomputable def impl_ValidMelt.g : Sig := ⟨38, [(.v (.a (.agg [(.int .i64), (.int .i64), .bool, (.sl 0), (.int .i64), (.int .i64), .bool, (.sl 1), (.flt .f32), (.flt .f32), (.flt .f32), (.flt .f32), (.flt .f32), (.int .i64)])))], [(.rd (.F .f32)), (.rd (.F .f32))], [.lf, .lf, .int, .int, .bool, .int, .int, .bool, .flt, .flt, .flt, .flt, .flt, .int], [(.v (.a (.one .bool)))], [.keep, .keep], [.bool]⟩
noncomputable def impl_ValidMelt.ib (w_impl_ValidField : List Nat → Int → Int → Bool → (Bool → Prop) → Prop) (w_impl_alike : List Nat → List Nat → Int → Int → Bool → Int → Int → Bool → (Bool → Prop) → Prop) (w_impl_finiteField : List Nat → Int → Int → Bool → (Bool → Prop) → Prop) (w_slices_ContainsFunc_float32_float32__ValidMelt_1 : List Nat → (Bool → Prop) → Prop) (w_impl_aMass : Nat → (Bool → Prop) → Prop) (w_impl_within : Int → Int → Int → (Bool → Prop) → Prop) : FnI := ⟨Try.prog, [], [impl_ValidField.g.ctr w_impl_ValidField, impl_alike.g.ctr w_impl_alike, impl_finiteField.g.ctr w_impl_finiteField, slices_ContainsFunc_float32_float32__ValidMelt_1.g.ctr w_slices_ContainsFunc_float32_float32__ValidMelt_1, impl_aMass.g.ctr w_impl_aMass, impl_within.g.ctr w_impl_within], 64, [.tmp 2], bodyOf Try.f38, (.seq .leaf (.seq .leaf (.seq .leaf (.seq (.seq .leaf (.block (.loop ⟨[1, 41, 42, 43], [.int, .int, .bool, .int, .int, .bool, .flt, .flt, .flt, .flt, .flt, .int, .lf, .int, .int], [(.v (.a (.one (.pt 2 0)))), (.v (.a (.one (.sl 3)))), (.v (.a (.one (.int .i64)))), (.v (.a (.one (.int .i64))))], [.keep, .keep, (.box 33 [(.int .i64), (.int .i64), .bool, (.sl 0), (.int .i64), (.int .i64), .bool, (.sl 1), (.flt .f32), (.flt .f32), (.flt .f32), (.flt .f32), (.flt .f32), (.int .i64)]), (.row 25 (.F .f32))]⟩ .leaf))) .leaf)))), []⟩
noncomputable def impl_ValidMelt.i : FnI := impl_ValidMelt.ib impl_ValidField.wp impl_alike.wp impl_finiteField.wp slices_ContainsFunc_float32_float32__ValidMelt_1.wp impl_aMass.wp impl_within.wp
noncomputable def impl_ValidMelt.bd (w_impl_ValidField : List Nat → Int → Int → Bool → (Bool → Prop) → Prop) (w_impl_alike : List Nat → List Nat → Int → Int → Bool → Int → Int → Bool → (Bool → Prop) → Prop) (w_impl_finiteField : List Nat → Int → Int → Bool → (Bool → Prop) → Prop) (w_slices_ContainsFunc_float32_float32__ValidMelt_1 : List Nat → (Bool → Prop) → Prop) (w_impl_aMass : Nat → (Bool → Prop) → Prop) (w_impl_within : Int → Int → Int → (Bool → Prop) → Prop) : List Nat → List Nat → Int → Int → Bool → Int → Int → Bool → Nat → Nat → Nat → Nat → Nat → Int → (Bool → Prop) → Prop := (impl_ValidMelt.ib w_impl_ValidField w_impl_alike w_impl_finiteField w_slices_ContainsFunc_float32_float32__ValidMelt_1 w_impl_aMass w_impl_within).W impl_ValidMelt.g
noncomputable def impl_ValidMelt.wp : List Nat → List Nat → Int → Int → Bool → Int → Int → Bool → Nat → Nat → Nat → Nat → Nat → Int → (Bool → Prop) → Prop := impl_ValidMelt.bd impl_ValidField.wp impl_alike.wp impl_finiteField.wp slices_ContainsFunc_float32_float32__ValidMelt_1.wp impl_aMass.wp impl_within.wp
noncomputable def impl_ValidMelt.c : Ctr := impl_ValidMelt.g.ctr impl_ValidMelt.wp

-- slices.Clone[[]float32,float32]
noncomputable def slices_Clone_float32_float32.g : Sig := ⟨87, [(.v (.a (.one (.sl 0))))], [(.rd (.F .f32))], [.lf], [(.v (.a (.one (.sl 1))))], [.keep, (.row 25 (.F .f32))], [.lf]⟩
noncomputable def slices_Clone_float32_float32.ib  : FnI := ⟨Try.prog, [], [], 8, [.tmp 2], bodyOf Try.f87, .leaf, []⟩
noncomputable def slices_Clone_float32_float32.i : FnI := slices_Clone_float32_float32.ib 
noncomputable def slices_Clone_float32_float32.bd  : List Nat → (List Nat → Prop) → Prop := (slices_Clone_float32_float32.ib ).W slices_Clone_float32_float32.g
noncomputable def slices_Clone_float32_float32.wp : List Nat → (List Nat → Prop) → Prop := slices_Clone_float32_float32.bd 
noncomputable def slices_Clone_float32_float32.c : Ctr := slices_Clone_float32_float32.g.ctr slices_Clone_float32_float32.wp

-- (loop.example/g01247/impl.Melt).cloned
noncomputable def impl_Melt_cloned.g : Sig := ⟨50, [(.v (.a (.agg [(.int .i64), (.int .i64), .bool, (.sl 0), (.int .i64), (.int .i64), .bool, (.sl 1), (.flt .f32), (.flt .f32), (.flt .f32), (.flt .f32), (.flt .f32), (.int .i64)])))], [(.rd (.F .f32)), (.rd (.F .f32))], [.lf, .lf, .int, .int, .bool, .int, .int, .bool, .flt, .flt, .flt, .flt, .flt, .int], [(.tup [(.a (.agg [(.int .i64), (.int .i64), .bool, (.sl 2), (.int .i64), (.int .i64), .bool, (.sl 3), (.flt .f32), (.flt .f32), (.flt .f32), (.flt .f32), (.flt .f32), (.int .i64)])), (.a (.one .bool))])], [.keep, .keep, (.row 25 (.F .f32)), (.row 25 (.F .f32))], [.lf, .lf, .int, .int, .bool, .int, .int, .bool, .flt, .flt, .flt, .flt, .flt, .int, .bool]⟩
noncomputable def impl_Melt_cloned.ib (w_impl_ValidMelt : List Nat → List Nat → Int → Int → Bool → Int → Int → Bool → Nat → Nat → Nat → Nat → Nat → Int → (Bool → Prop) → Prop) (w_slices_Clone_float32_float32 : List Nat → (List Nat → Prop) → Prop) : FnI := ⟨Try.prog, [], [impl_ValidMelt.g.ctr w_impl_ValidMelt, slices_Clone_float32_float32.g.ctr w_slices_Clone_float32_float32], 21, [.cell 2 33, .tmp 3], bodyOf Try.f50, .leaf, []⟩
noncomputable def impl_Melt_cloned.i : FnI := impl_Melt_cloned.ib impl_ValidMelt.wp slices_Clone_float32_float32.wp
noncomputable def impl_Melt_cloned.bd (w_impl_ValidMelt : List Nat → List Nat → Int → Int → Bool → Int → Int → Bool → Nat → Nat → Nat → Nat → Nat → Int → (Bool → Prop) → Prop) (w_slices_Clone_float32_float32 : List Nat → (List Nat → Prop) → Prop) : List Nat → List Nat → Int → Int → Bool → Int → Int → Bool → Nat → Nat → Nat → Nat → Nat → Int → (List Nat → List Nat → Int → Int → Bool → Int → Int → Bool → Nat → Nat → Nat → Nat → Nat → Int → Bool → Prop) → Prop := (impl_Melt_cloned.ib w_impl_ValidMelt w_slices_Clone_float32_float32).W impl_Melt_cloned.g
noncomputable def impl_Melt_cloned.wp : List Nat → List Nat → Int → Int → Bool → Int → Int → Bool → Nat → Nat → Nat → Nat → Nat → Int → (List Nat → List Nat → Int → Int → Bool → Int → Int → Bool → Nat → Nat → Nat → Nat → Nat → Int → Bool → Prop) → Prop := impl_Melt_cloned.bd impl_ValidMelt.wp slices_Clone_float32_float32.wp
noncomputable def impl_Melt_cloned.c : Ctr := impl_Melt_cloned.g.ctr impl_Melt_cloned.wp

-- loop.example/g01247/impl.swept
noncomputable def impl_swept.g : Sig := ⟨105, [(.v (.a (.one (.sl 0)))), (.v (.a (.one (.sl 1)))), (.v (.a (.one (.flt .f32))))], [(.rd (.F .f32)), (.rd (.F .f32))], [.lf, .lf, .flt], [(.v (.a (.one (.sl 2))))], [.keep, .keep, (.row 25 (.F .f32))], [.lf]⟩
noncomputable def impl_swept.ib (w_slices_Clone_float32_float32 : List Nat → (List Nat → Prop) → Prop) : FnI := ⟨Try.prog, [], [slices_Clone_float32_float32.g.ctr w_slices_Clone_float32_float32], 86, [.tmp 6], bodyOf Try.f105, (.seq .leaf (.seq .leaf (.seq (.seq .leaf (.block (.loop ⟨[7, 8, 17, 18, 19], [.lf, .lf, .int, .int], [(.v (.a (.one (.sl 2)))), (.v (.a (.one (.sl 3)))), (.v (.a (.one (.sl 1)))), (.v (.a (.one (.int .i64)))), (.v (.a (.one (.int .i64))))], [.keep, .keep, (.row 25 (.F .f32)), (.row 25 (.F .f32))]⟩ (.seq .leaf (.seq .leaf (.seq (.block (.seq .leaf (.seq (.seq .leaf (.condJ ⟨[7, 8, 9, 10, 17, 18, 19], [.lf, .lf, .int, .flt, .int, .int], [(.v (.a (.one (.sl 2)))), (.v (.a (.one (.sl 3)))), (.v (.a (.one (.int .i64)))), (.v (.a (.one (.flt .f32)))), (.v (.a (.one (.sl 1)))), (.v (.a (.one (.int .i64)))), (.v (.a (.one (.int .i64))))], [.keep, .keep, (.row 25 (.F .f32)), (.row 25 (.F .f32))]⟩ .leaf .leaf)) .leaf))) .leaf)))))) (.seq (.seq .leaf (.block (.loop ⟨[7, 8, 11], [.lf, .lf, .int], [(.v (.a (.one (.sl 2)))), (.v (.a (.one (.sl 3)))), (.v (.a (.one (.int .i64))))], [.keep, .keep, (.row 25 (.F .f32)), (.row 25 (.F .f32))]⟩ .leaf))) .leaf)))), []⟩
noncomputable def impl_swept.i : FnI := impl_swept.ib slices_Clone_float32_float32.wp
noncomputable def impl_swept.bd (w_slices_Clone_float32_float32 : List Nat → (List Nat → Prop) → Prop) : List Nat → List Nat → Nat → (List Nat → Prop) → Prop := (impl_swept.ib w_slices_Clone_float32_float32).W impl_swept.g
noncomputable def impl_swept.wp : List Nat → List Nat → Nat → (List Nat → Prop) → Prop := impl_swept.bd slices_Clone_float32_float32.wp
noncomputable def impl_swept.c : Ctr := impl_swept.g.ctr impl_swept.wp

-- loop.example/g01247/impl.solved
noncomputable def impl_solved.g : Sig := ⟨88, [(.v (.a (.one (.sl 0)))), (.v (.a (.one (.flt .f32)))), (.v (.a (.one .bool)))], [(.rd (.F .f32))], [.lf, .flt, .bool], [(.tup [(.a (.one (.sl 1))), (.a (.one .bool))])], [.keep, (.row 25 (.F .f32))], [.lf, .bool]⟩
noncomputable def impl_solved.ib (w_impl_within : Int → Int → Int → (Bool → Prop) → Prop) (w_impl_aMass : Nat → (Bool → Prop) → Prop) (w_impl_swept : List Nat → List Nat → Nat → (List Nat → Prop) → Prop) : FnI := ⟨Try.prog, [], [impl_within.g.ctr w_impl_within, impl_aMass.g.ctr w_impl_aMass, impl_swept.g.ctr w_impl_swept], 141, [.tmp 6, .tmp 7], bodyOf Try.f88, (.seq .leaf (.seq .leaf (.seq .leaf (.seq .leaf (.seq (.seq .leaf (.block (.loop ⟨[8, 9, 34, 35], [.lf, .int, .int, .int], [(.v (.a (.one (.int .i64)))), (.v (.a (.one (.sl 1)))), (.v (.a (.one (.int .i64)))), (.v (.a (.one (.int .i64))))], [.keep, (.row 25 (.F .f32))]⟩ .leaf))) (.seq .leaf (.seq .leaf (.seq .leaf (.seq .leaf (.seq .leaf (.seq .leaf (.seq .leaf (.seq (.seq .leaf (.block (.loop ⟨[10, 12, 13, 123, 124], [.lf, .lf, .flt, .int, .int], [(.v (.a (.one (.sl 1)))), (.v (.a (.one (.sl 2)))), (.v (.a (.one (.flt .f32)))), (.v (.a (.one (.int .i64)))), (.v (.a (.one (.int .i64))))], [.keep, (.row 25 (.F .f32)), (.row 25 (.F .f32))]⟩ .leaf))) .leaf))))))))))))), []⟩
noncomputable def impl_solved.i : FnI := impl_solved.ib impl_within.wp impl_aMass.wp impl_swept.wp
noncomputable def impl_solved.bd (w_impl_within : Int → Int → Int → (Bool → Prop) → Prop) (w_impl_aMass : Nat → (Bool → Prop) → Prop) (w_impl_swept : List Nat → List Nat → Nat → (List Nat → Prop) → Prop) : List Nat → Nat → Bool → (List Nat → Bool → Prop) → Prop := (impl_solved.ib w_impl_within w_impl_aMass w_impl_swept).W impl_solved.g
noncomputable def impl_solved.wp : List Nat → Nat → Bool → (List Nat → Bool → Prop) → Prop := impl_solved.bd impl_within.wp impl_aMass.wp impl_swept.wp
noncomputable def impl_solved.c : Ctr := impl_solved.g.ctr impl_solved.wp

-- loop.example/g01247/impl.SolveRow
noncomputable def impl_SolveRow.g : Sig := ⟨52, [(.v (.a (.one (.sl 0)))), (.v (.a (.one (.flt .f32)))), (.v (.a (.one .bool)))], [(.rd (.F .f32))], [.lf, .flt, .bool], [(.tup [(.a (.one (.sl 1))), (.a (.one .bool))])], [.keep, (.row 25 (.F .f32))], [.lf, .bool]⟩
noncomputable def impl_SolveRow.ib (w_impl_solved : List Nat → Nat → Bool → (List Nat → Bool → Prop) → Prop) (w_impl_areFinite : List Nat → (Bool → Prop) → Prop) : FnI := ⟨Try.prog, [], [impl_solved.g.ctr w_impl_solved, impl_areFinite.g.ctr w_impl_areFinite], 30, [.tmp 6, .tmp 7], bodyOf Try.f52, .leaf, []⟩
noncomputable def impl_SolveRow.i : FnI := impl_SolveRow.ib impl_solved.wp impl_areFinite.wp
noncomputable def impl_SolveRow.bd (w_impl_solved : List Nat → Nat → Bool → (List Nat → Bool → Prop) → Prop) (w_impl_areFinite : List Nat → (Bool → Prop) → Prop) : List Nat → Nat → Bool → (List Nat → Bool → Prop) → Prop := (impl_SolveRow.ib w_impl_solved w_impl_areFinite).W impl_SolveRow.g
noncomputable def impl_SolveRow.wp : List Nat → Nat → Bool → (List Nat → Bool → Prop) → Prop := impl_SolveRow.bd impl_solved.wp impl_areFinite.wp
noncomputable def impl_SolveRow.c : Ctr := impl_SolveRow.g.ctr impl_SolveRow.wp

-- (loop.example/g01247/impl.Field).at
noncomputable def impl_Field_at.g : Sig := ⟨53, [(.v (.a (.agg [(.int .i64), (.int .i64), .bool, (.sl 0)]))), (.v (.a (.one (.int .i64)))), (.v (.a (.one (.int .i64))))], [(.rd (.F .f32))], [.lf, .int, .int, .bool, .int, .int], [(.v (.a (.one (.flt .f32))))], [.keep], [.flt]⟩
noncomputable def impl_Field_at.ib  : FnI := ⟨Try.prog, [], [], 17, [.tmp 6], bodyOf Try.f53, .leaf, []⟩
noncomputable def impl_Field_at.i : FnI := impl_Field_at.ib 
noncomputable def impl_Field_at.bd  : List Nat → Int → Int → Bool → Int → Int → (Nat → Prop) → Prop := (impl_Field_at.ib ).W impl_Field_at.g
noncomputable def impl_Field_at.wp : List Nat → Int → Int → Bool → Int → Int → (Nat → Prop) → Prop := impl_Field_at.bd 
noncomputable def impl_Field_at.c : Ctr := impl_Field_at.g.ctr impl_Field_at.wp

-- loop.example/g01247/impl.SpreadHeat
noncomputable def impl_SpreadHeat.g : Sig := ⟨19, [(.v (.a (.agg [(.int .i64), (.int .i64), .bool, (.sl 0), (.int .i64), (.int .i64), .bool, (.sl 1), (.flt .f32), (.flt .f32), (.flt .f32), (.flt .f32), (.flt .f32), (.int .i64)]))), (.v (.a (.one (.flt .f32))))], [(.rd (.F .f32)), (.rd (.F .f32))], [.lf, .lf, .int, .int, .bool, .int, .int, .bool, .flt, .flt, .flt, .flt, .flt, .int, .flt], [(.tup [(.a (.agg [(.int .i64), (.int .i64), .bool, (.sl 2), (.int .i64), (.int .i64), .bool, (.sl 3), (.flt .f32), (.flt .f32), (.flt .f32), (.flt .f32), (.flt .f32), (.int .i64)])), (.a (.one .bool))])], [.keep, .keep, (.row 25 (.F .f32)), (.row 25 (.F .f32))], [.lf, .lf, .int, .int, .bool, .int, .int, .bool, .flt, .flt, .flt, .flt, .flt, .int, .bool]⟩
noncomputable def impl_SpreadHeat.ib (w_impl_Melt_cloned : List Nat → List Nat → Int → Int → Bool → Int → Int → Bool → Nat → Nat → Nat → Nat → Nat → Int → (List Nat → List Nat → Int → Int → Bool → Int → Int → Bool → Nat → Nat → Nat → Nat → Nat → Int → Bool → Prop) → Prop) (w_impl_aMass : Nat → (Bool → Prop) → Prop) (w_impl_SolveRow : List Nat → Nat → Bool → (List Nat → Bool → Prop) → Prop) (w_impl_Field_at : List Nat → Int → Int → Bool → Int → Int → (Nat → Prop) → Prop) : FnI := ⟨Try.prog, [], [impl_Melt_cloned.g.ctr w_impl_Melt_cloned, impl_aMass.g.ctr w_impl_aMass, impl_SolveRow.g.ctr w_impl_SolveRow, impl_Field_at.g.ctr w_impl_Field_at], 128, [.cell 4 33, .tmp 5], bodyOf Try.f19, (.seq .leaf (.seq .leaf (.seq .leaf (.seq .leaf (.seq (.seq .leaf (.block (.loop ⟨[4, 6, 8, 9, 39, 40], [.int, .int, .bool, .int, .int, .bool, .flt, .flt, .flt, .flt, .flt, .int, .int, .int, .bool, .int, .int, .bool, .flt, .flt, .flt, .flt, .flt, .int, .int, .int, .bool, .lf, .lf, .lf, .lf, .flt, .int, .int], [(.v (.a (.one (.pt 2 0)))), (.v (.a (.one (.pt 3 0)))), (.v (.a (.one (.pt 4 0)))), (.v (.a (.one (.flt .f32)))), (.v (.a (.one (.int .i64)))), (.v (.a (.one (.int .i64))))], [.keep, .keep, (.box 33 [(.int .i64), (.int .i64), .bool, (.sl 5), (.int .i64), (.int .i64), .bool, (.sl 6), (.flt .f32), (.flt .f32), (.flt .f32), (.flt .f32), (.flt .f32), (.int .i64)]), (.box 33 [(.int .i64), (.int .i64), .bool, (.sl 7), (.int .i64), (.int .i64), .bool, (.sl 8), (.flt .f32), (.flt .f32), (.flt .f32), (.flt .f32), (.flt .f32), (.int .i64)]), (.box 31 [(.int .i64), (.int .i64), .bool, (.sl 8)]), (.row 25 (.F .f32)), (.row 25 (.F .f32)), (.row 25 (.F .f32)), (.row 25 (.F .f32))]⟩ .leaf))) (.seq (.seq .leaf (.block (.loop ⟨[4, 6, 8, 9, 76, 77], [.int, .int, .bool, .int, .int, .bool, .flt, .flt, .flt, .flt, .flt, .int, .int, .int, .bool, .int, .int, .bool, .flt, .flt, .flt, .flt, .flt, .int, .int, .int, .bool, .lf, .lf, .lf, .lf, .flt, .int, .int], [(.v (.a (.one (.pt 2 0)))), (.v (.a (.one (.pt 3 0)))), (.v (.a (.one (.pt 4 0)))), (.v (.a (.one (.flt .f32)))), (.v (.a (.one (.int .i64)))), (.v (.a (.one (.int .i64))))], [.keep, .keep, (.box 33 [(.int .i64), (.int .i64), .bool, (.sl 5), (.int .i64), (.int .i64), .bool, (.sl 6), (.flt .f32), (.flt .f32), (.flt .f32), (.flt .f32), (.flt .f32), (.int .i64)]), (.box 33 [(.int .i64), (.int .i64), .bool, (.sl 7), (.int .i64), (.int .i64), .bool, (.sl 8), (.flt .f32), (.flt .f32), (.flt .f32), (.flt .f32), (.flt .f32), (.int .i64)]), (.box 31 [(.int .i64), (.int .i64), .bool, (.sl 8)]), (.row 25 (.F .f32)), (.row 25 (.F .f32)), (.row 25 (.F .f32)), (.row 25 (.F .f32))]⟩ (.seq .leaf (.seq .leaf (.seq (.block (.seq .leaf (.seq .leaf (.seq (.seq .leaf (.block (.loop ⟨[4, 6, 8, 9, 13, 14, 76, 77, 82, 83], [.int, .int, .bool, .int, .int, .bool, .flt, .flt, .flt, .flt, .flt, .int, .int, .int, .bool, .int, .int, .bool, .flt, .flt, .flt, .flt, .flt, .int, .int, .int, .bool, .lf, .lf, .lf, .lf, .lf, .flt, .int, .int, .int, .int, .int], [(.v (.a (.one (.pt 2 0)))), (.v (.a (.one (.pt 3 0)))), (.v (.a (.one (.pt 4 0)))), (.v (.a (.one (.flt .f32)))), (.v (.a (.one (.int .i64)))), (.v (.a (.one (.sl 5)))), (.v (.a (.one (.int .i64)))), (.v (.a (.one (.int .i64)))), (.v (.a (.one (.int .i64)))), (.v (.a (.one (.int .i64))))], [.keep, .keep, (.box 33 [(.int .i64), (.int .i64), .bool, (.sl 6), (.int .i64), (.int .i64), .bool, (.sl 7), (.flt .f32), (.flt .f32), (.flt .f32), (.flt .f32), (.flt .f32), (.int .i64)]), (.box 33 [(.int .i64), (.int .i64), .bool, (.sl 8), (.int .i64), (.int .i64), .bool, (.sl 9), (.flt .f32), (.flt .f32), (.flt .f32), (.flt .f32), (.flt .f32), (.int .i64)]), (.box 31 [(.int .i64), (.int .i64), .bool, (.sl 9)]), (.row 25 (.F .f32)), (.row 25 (.F .f32)), (.row 25 (.F .f32)), (.row 25 (.F .f32)), (.row 25 (.F .f32))]⟩ .leaf))) (.seq .leaf (.seq .leaf (.seq .leaf (.block (.loop ⟨[4, 6, 8, 9, 13, 76, 77, 105, 106, 107], [.int, .int, .bool, .int, .int, .bool, .flt, .flt, .flt, .flt, .flt, .int, .int, .int, .bool, .int, .int, .bool, .flt, .flt, .flt, .flt, .flt, .int, .int, .int, .bool, .lf, .lf, .lf, .lf, .lf, .flt, .int, .int, .int, .int, .int], [(.v (.a (.one (.pt 2 0)))), (.v (.a (.one (.pt 3 0)))), (.v (.a (.one (.pt 4 0)))), (.v (.a (.one (.flt .f32)))), (.v (.a (.one (.int .i64)))), (.v (.a (.one (.int .i64)))), (.v (.a (.one (.int .i64)))), (.v (.a (.one (.sl 5)))), (.v (.a (.one (.int .i64)))), (.v (.a (.one (.int .i64))))], [.keep, .keep, (.box 33 [(.int .i64), (.int .i64), .bool, (.sl 6), (.int .i64), (.int .i64), .bool, (.sl 7), (.flt .f32), (.flt .f32), (.flt .f32), (.flt .f32), (.flt .f32), (.int .i64)]), (.box 33 [(.int .i64), (.int .i64), .bool, (.sl 8), (.int .i64), (.int .i64), .bool, (.sl 9), (.flt .f32), (.flt .f32), (.flt .f32), (.flt .f32), (.flt .f32), (.int .i64)]), (.box 31 [(.int .i64), (.int .i64), .bool, (.sl 9)]), (.row 25 (.F .f32)), (.row 25 (.F .f32)), (.row 25 (.F .f32)), (.row 25 (.F .f32)), (.row 25 (.F .f32))]⟩ .leaf))))))))) .leaf)))))) .leaf)))))), []⟩
noncomputable def impl_SpreadHeat.i : FnI := impl_SpreadHeat.ib impl_Melt_cloned.wp impl_aMass.wp impl_SolveRow.wp impl_Field_at.wp
noncomputable def impl_SpreadHeat.bd (w_impl_Melt_cloned : List Nat → List Nat → Int → Int → Bool → Int → Int → Bool → Nat → Nat → Nat → Nat → Nat → Int → (List Nat → List Nat → Int → Int → Bool → Int → Int → Bool → Nat → Nat → Nat → Nat → Nat → Int → Bool → Prop) → Prop) (w_impl_aMass : Nat → (Bool → Prop) → Prop) (w_impl_SolveRow : List Nat → Nat → Bool → (List Nat → Bool → Prop) → Prop) (w_impl_Field_at : List Nat → Int → Int → Bool → Int → Int → (Nat → Prop) → Prop) : List Nat → List Nat → Int → Int → Bool → Int → Int → Bool → Nat → Nat → Nat → Nat → Nat → Int → Nat → (List Nat → List Nat → Int → Int → Bool → Int → Int → Bool → Nat → Nat → Nat → Nat → Nat → Int → Bool → Prop) → Prop := (impl_SpreadHeat.ib w_impl_Melt_cloned w_impl_aMass w_impl_SolveRow w_impl_Field_at).W impl_SpreadHeat.g
noncomputable def impl_SpreadHeat.wp : List Nat → List Nat → Int → Int → Bool → Int → Int → Bool → Nat → Nat → Nat → Nat → Nat → Int → Nat → (List Nat → List Nat → Int → Int → Bool → Int → Int → Bool → Nat → Nat → Nat → Nat → Nat → Int → Bool → Prop) → Prop := impl_SpreadHeat.bd impl_Melt_cloned.wp impl_aMass.wp impl_SolveRow.wp impl_Field_at.wp
noncomputable def impl_SpreadHeat.c : Ctr := impl_SpreadHeat.g.ctr impl_SpreadHeat.wp

-- loop.example/g01247/laws.sameFloat
noncomputable def laws_sameFloat.g : Sig := ⟨11, [(.v (.a (.one (.flt .f64)))), (.v (.a (.one (.flt .f64))))], [], [.flt, .flt], [(.v (.a (.one .bool)))], [], [.bool]⟩
noncomputable def laws_sameFloat.ib  : FnI := ⟨Try.prog, [], [], 37, [.tmp 4], bodyOf Try.f11, .leaf, []⟩
noncomputable def laws_sameFloat.i : FnI := laws_sameFloat.ib 
noncomputable def laws_sameFloat.bd  : Nat → Nat → (Bool → Prop) → Prop := (laws_sameFloat.ib ).W laws_sameFloat.g
noncomputable def laws_sameFloat.wp : Nat → Nat → (Bool → Prop) → Prop := laws_sameFloat.bd 
noncomputable def laws_sameFloat.c : Ctr := laws_sameFloat.g.ctr laws_sameFloat.wp

-- loop.example/g01247/laws.eqFloat32S
noncomputable def laws_eqFloat32S.g : Sig := ⟨64, [(.v (.a (.one (.sl 0)))), (.v (.a (.one (.sl 1))))], [(.rd (.F .f32)), (.rd (.F .f32))], [.lf, .lf], [(.v (.a (.one .bool)))], [.keep, .keep], [.bool]⟩
noncomputable def laws_eqFloat32S.ib (w_laws_sameFloat : Nat → Nat → (Bool → Prop) → Prop) : FnI := ⟨Try.prog, [], [laws_sameFloat.g.ctr w_laws_sameFloat], 29, [.tmp 4], bodyOf Try.f64, (.seq .leaf (.seq .leaf (.seq (.seq .leaf (.block (.loop ⟨[5], [.int], [(.v (.a (.one (.int .i64))))], [.keep, .keep]⟩ .leaf))) .leaf))), []⟩
noncomputable def laws_eqFloat32S.i : FnI := laws_eqFloat32S.ib laws_sameFloat.wp
noncomputable def laws_eqFloat32S.bd (w_laws_sameFloat : Nat → Nat → (Bool → Prop) → Prop) : List Nat → List Nat → (Bool → Prop) → Prop := (laws_eqFloat32S.ib w_laws_sameFloat).W laws_eqFloat32S.g
noncomputable def laws_eqFloat32S.wp : List Nat → List Nat → (Bool → Prop) → Prop := laws_eqFloat32S.bd laws_sameFloat.wp
noncomputable def laws_eqFloat32S.c : Ctr := laws_eqFloat32S.g.ctr laws_eqFloat32S.wp

-- loop.example/g01247/laws.eqField
noncomputable def laws_eqField.g : Sig := ⟨29, [(.v (.a (.agg [(.int .i64), (.int .i64), .bool, (.sl 0)]))), (.v (.a (.agg [(.int .i64), (.int .i64), .bool, (.sl 1)])))], [(.rd (.F .f32)), (.rd (.F .f32))], [.lf, .lf, .int, .int, .bool, .int, .int, .bool], [(.v (.a (.one .bool)))], [.keep, .keep], [.bool]⟩
noncomputable def laws_eqField.ib (w_laws_eqFloat32S : List Nat → List Nat → (Bool → Prop) → Prop) : FnI := ⟨Try.prog, [], [laws_eqFloat32S.g.ctr w_laws_eqFloat32S], 26, [.tmp 4], bodyOf Try.f29, .leaf, []⟩
noncomputable def laws_eqField.i : FnI := laws_eqField.ib laws_eqFloat32S.wp
noncomputable def laws_eqField.bd (w_laws_eqFloat32S : List Nat → List Nat → (Bool → Prop) → Prop) : List Nat → List Nat → Int → Int → Bool → Int → Int → Bool → (Bool → Prop) → Prop := (laws_eqField.ib w_laws_eqFloat32S).W laws_eqField.g
noncomputable def laws_eqField.wp : List Nat → List Nat → Int → Int → Bool → Int → Int → Bool → (Bool → Prop) → Prop := laws_eqField.bd laws_eqFloat32S.wp
noncomputable def laws_eqField.c : Ctr := laws_eqField.g.ctr laws_eqField.wp

-- loop.example/g01247/laws.eqMelt
noncomputable def laws_eqMelt.g : Sig := ⟨12, [(.v (.a (.agg [(.int .i64), (.int .i64), .bool, (.sl 0), (.int .i64), (.int .i64), .bool, (.sl 1), (.flt .f32), (.flt .f32), (.flt .f32), (.flt .f32), (.flt .f32), (.int .i64)]))), (.v (.a (.agg [(.int .i64), (.int .i64), .bool, (.sl 2), (.int .i64), (.int .i64), .bool, (.sl 3), (.flt .f32), (.flt .f32), (.flt .f32), (.flt .f32), (.flt .f32), (.int .i64)])))], [(.rd (.F .f32)), (.rd (.F .f32)), (.rd (.F .f32)), (.rd (.F .f32))], [.lf, .lf, .lf, .lf, .int, .int, .bool, .int, .int, .bool, .flt, .flt, .flt, .flt, .flt, .int, .int, .int, .bool, .int, .int, .bool, .flt, .flt, .flt, .flt, .flt, .int], [(.v (.a (.one .bool)))], [.keep, .keep, .keep, .keep], [.bool]⟩
noncomputable def laws_eqMelt.ib (w_laws_eqField : List Nat → List Nat → Int → Int → Bool → Int → Int → Bool → (Bool → Prop) → Prop) (w_laws_sameFloat : Nat → Nat → (Bool → Prop) → Prop) : FnI := ⟨Try.prog, [], [laws_eqField.g.ctr w_laws_eqField, laws_sameFloat.g.ctr w_laws_sameFloat], 62, [.tmp 4], bodyOf Try.f12, .leaf, []⟩
noncomputable def laws_eqMelt.i : FnI := laws_eqMelt.ib laws_eqField.wp laws_sameFloat.wp
noncomputable def laws_eqMelt.bd (w_laws_eqField : List Nat → List Nat → Int → Int → Bool → Int → Int → Bool → (Bool → Prop) → Prop) (w_laws_sameFloat : Nat → Nat → (Bool → Prop) → Prop) : List Nat → List Nat → List Nat → List Nat → Int → Int → Bool → Int → Int → Bool → Nat → Nat → Nat → Nat → Nat → Int → Int → Int → Bool → Int → Int → Bool → Nat → Nat → Nat → Nat → Nat → Int → (Bool → Prop) → Prop := (laws_eqMelt.ib w_laws_eqField w_laws_sameFloat).W laws_eqMelt.g
noncomputable def laws_eqMelt.wp : List Nat → List Nat → List Nat → List Nat → Int → Int → Bool → Int → Int → Bool → Nat → Nat → Nat → Nat → Nat → Int → Int → Int → Bool → Int → Int → Bool → Nat → Nat → Nat → Nat → Nat → Int → (Bool → Prop) → Prop := laws_eqMelt.bd laws_eqField.wp laws_sameFloat.wp
noncomputable def laws_eqMelt.c : Ctr := laws_eqMelt.g.ctr laws_eqMelt.wp

-- loop.example/g01247/laws.markFloat32S
noncomputable def laws_markFloat32S.g : Sig := ⟨90, [(.v (.a (.one (.sl 0)))), (.v (.a (.one (.int .i64))))], [(.row 25 (.F .f32))], [.lf, .int], [(.v (.a (.one (.int .i64))))], [(.row 25 (.F .f32))], [.lf, .int]⟩
noncomputable def laws_markFloat32S.ib  : FnI := ⟨Try.prog, [], [], 20, [.tmp 4], bodyOf Try.f90, (.seq .leaf (.seq (.seq .leaf (.block (.loop ⟨[1, 5], [.lf, .int, .int], [(.v (.a (.one (.int .i64)))), (.v (.a (.one (.int .i64))))], [(.row 25 (.F .f32))]⟩ .leaf))) .leaf)), [1]⟩
noncomputable def laws_markFloat32S.i : FnI := laws_markFloat32S.ib 
noncomputable def laws_markFloat32S.bd  : List Nat → Int → (List Nat → Int → Prop) → Prop := (laws_markFloat32S.ib ).W laws_markFloat32S.g
noncomputable def laws_markFloat32S.wp : List Nat → Int → (List Nat → Int → Prop) → Prop := laws_markFloat32S.bd 
noncomputable def laws_markFloat32S.c : Ctr := laws_markFloat32S.g.ctr laws_markFloat32S.wp

-- loop.example/g01247/laws.markField
noncomputable def laws_markField.g : Sig := ⟨54, [(.v (.a (.agg [(.int .i64), (.int .i64), .bool, (.sl 0)]))), (.v (.a (.one (.int .i64))))], [(.row 25 (.F .f32))], [.lf, .int, .int, .bool, .int], [(.v (.a (.one (.int .i64))))], [(.row 25 (.F .f32))], [.lf, .int]⟩
noncomputable def laws_markField.ib (w_laws_markFloat32S : List Nat → Int → (List Nat → Int → Prop) → Prop) : FnI := ⟨Try.prog, [], [laws_markFloat32S.g.ctr w_laws_markFloat32S], 10, [.tmp 4], bodyOf Try.f54, .leaf, [1]⟩
noncomputable def laws_markField.i : FnI := laws_markField.ib laws_markFloat32S.wp
noncomputable def laws_markField.bd (w_laws_markFloat32S : List Nat → Int → (List Nat → Int → Prop) → Prop) : List Nat → Int → Int → Bool → Int → (List Nat → Int → Prop) → Prop := (laws_markField.ib w_laws_markFloat32S).W laws_markField.g
noncomputable def laws_markField.wp : List Nat → Int → Int → Bool → Int → (List Nat → Int → Prop) → Prop := laws_markField.bd laws_markFloat32S.wp
noncomputable def laws_markField.c : Ctr := laws_markField.g.ctr laws_markField.wp

-- loop.example/g01247/laws.markMelt
noncomputable def laws_markMelt.g : Sig := ⟨20, [(.v (.a (.agg [(.int .i64), (.int .i64), .bool, (.sl 0), (.int .i64), (.int .i64), .bool, (.sl 1), (.flt .f32), (.flt .f32), (.flt .f32), (.flt .f32), (.flt .f32), (.int .i64)]))), (.v (.a (.one (.int .i64))))], [(.row 25 (.F .f32)), (.row 25 (.F .f32))], [.lf, .lf, .int, .int, .bool, .int, .int, .bool, .flt, .flt, .flt, .flt, .flt, .int, .int], [(.v (.a (.one (.int .i64))))], [(.row 25 (.F .f32)), (.row 25 (.F .f32))], [.lf, .lf, .int]⟩
noncomputable def laws_markMelt.ib (w_laws_markField : List Nat → Int → Int → Bool → Int → (List Nat → Int → Prop) → Prop) : FnI := ⟨Try.prog, [], [laws_markField.g.ctr w_laws_markField], 14, [.tmp 4], bodyOf Try.f20, .leaf, [1]⟩
noncomputable def laws_markMelt.i : FnI := laws_markMelt.ib laws_markField.wp
noncomputable def laws_markMelt.bd (w_laws_markField : List Nat → Int → Int → Bool → Int → (List Nat → Int → Prop) → Prop) : List Nat → List Nat → Int → Int → Bool → Int → Int → Bool → Nat → Nat → Nat → Nat → Nat → Int → Int → (List Nat → List Nat → Int → Prop) → Prop := (laws_markMelt.ib w_laws_markField).W laws_markMelt.g
noncomputable def laws_markMelt.wp : List Nat → List Nat → Int → Int → Bool → Int → Int → Bool → Nat → Nat → Nat → Nat → Nat → Int → Int → (List Nat → List Nat → Int → Prop) → Prop := laws_markMelt.bd laws_markField.wp
noncomputable def laws_markMelt.c : Ctr := laws_markMelt.g.ctr laws_markMelt.wp

-- loop.example/g01247/laws.heldFloat32S
noncomputable def laws_heldFloat32S.g : Sig := ⟨91, [(.v (.a (.one (.sl 0)))), (.v (.a (.one (.int .i64))))], [(.rd (.F .f32))], [.lf, .int], [(.v (.a (.one (.int .i64))))], [.keep], [.int]⟩
noncomputable def laws_heldFloat32S.ib  : FnI := ⟨Try.prog, [], [], 22, [.tmp 4], bodyOf Try.f91, (.seq .leaf (.seq (.seq .leaf (.block (.loop ⟨[1, 5], [.int, .int], [(.v (.a (.one (.int .i64)))), (.v (.a (.one (.int .i64))))], [.keep]⟩ .leaf))) .leaf)), [1]⟩
noncomputable def laws_heldFloat32S.i : FnI := laws_heldFloat32S.ib 
noncomputable def laws_heldFloat32S.bd  : List Nat → Int → (Int → Prop) → Prop := (laws_heldFloat32S.ib ).W laws_heldFloat32S.g
noncomputable def laws_heldFloat32S.wp : List Nat → Int → (Int → Prop) → Prop := laws_heldFloat32S.bd 
noncomputable def laws_heldFloat32S.c : Ctr := laws_heldFloat32S.g.ctr laws_heldFloat32S.wp

-- loop.example/g01247/laws.heldField
noncomputable def laws_heldField.g : Sig := ⟨55, [(.v (.a (.agg [(.int .i64), (.int .i64), .bool, (.sl 0)]))), (.v (.a (.one (.int .i64))))], [(.rd (.F .f32))], [.lf, .int, .int, .bool, .int], [(.v (.a (.one (.int .i64))))], [.keep], [.int]⟩
noncomputable def laws_heldField.ib (w_laws_heldFloat32S : List Nat → Int → (Int → Prop) → Prop) : FnI := ⟨Try.prog, [], [laws_heldFloat32S.g.ctr w_laws_heldFloat32S], 12, [.tmp 4], bodyOf Try.f55, .leaf, [1]⟩
noncomputable def laws_heldField.i : FnI := laws_heldField.ib laws_heldFloat32S.wp
noncomputable def laws_heldField.bd (w_laws_heldFloat32S : List Nat → Int → (Int → Prop) → Prop) : List Nat → Int → Int → Bool → Int → (Int → Prop) → Prop := (laws_heldField.ib w_laws_heldFloat32S).W laws_heldField.g
noncomputable def laws_heldField.wp : List Nat → Int → Int → Bool → Int → (Int → Prop) → Prop := laws_heldField.bd laws_heldFloat32S.wp
noncomputable def laws_heldField.c : Ctr := laws_heldField.g.ctr laws_heldField.wp

-- loop.example/g01247/laws.heldMelt
noncomputable def laws_heldMelt.g : Sig := ⟨21, [(.v (.a (.agg [(.int .i64), (.int .i64), .bool, (.sl 0), (.int .i64), (.int .i64), .bool, (.sl 1), (.flt .f32), (.flt .f32), (.flt .f32), (.flt .f32), (.flt .f32), (.int .i64)]))), (.v (.a (.one (.int .i64))))], [(.rd (.F .f32)), (.rd (.F .f32))], [.lf, .lf, .int, .int, .bool, .int, .int, .bool, .flt, .flt, .flt, .flt, .flt, .int, .int], [(.v (.a (.one (.int .i64))))], [.keep, .keep], [.int]⟩
noncomputable def laws_heldMelt.ib (w_laws_heldField : List Nat → Int → Int → Bool → Int → (Int → Prop) → Prop) : FnI := ⟨Try.prog, [], [laws_heldField.g.ctr w_laws_heldField], 18, [.tmp 4], bodyOf Try.f21, .leaf, [1]⟩
noncomputable def laws_heldMelt.i : FnI := laws_heldMelt.ib laws_heldField.wp
noncomputable def laws_heldMelt.bd (w_laws_heldField : List Nat → Int → Int → Bool → Int → (Int → Prop) → Prop) : List Nat → List Nat → Int → Int → Bool → Int → Int → Bool → Nat → Nat → Nat → Nat → Nat → Int → Int → (Int → Prop) → Prop := (laws_heldMelt.ib w_laws_heldField).W laws_heldMelt.g
noncomputable def laws_heldMelt.wp : List Nat → List Nat → Int → Int → Bool → Int → Int → Bool → Nat → Nat → Nat → Nat → Nat → Int → Int → (Int → Prop) → Prop := laws_heldMelt.bd laws_heldField.wp
noncomputable def laws_heldMelt.c : Ctr := laws_heldMelt.g.ctr laws_heldMelt.wp

-- loop.example/g01247/laws.FnExactSpreadHeat
noncomputable def laws_FnExactSpreadHeat.g : Sig := ⟨6, [(.v (.a (.agg [(.int .i64), (.int .i64), .bool, (.sl 0), (.int .i64), (.int .i64), .bool, (.sl 1), (.flt .f32), (.flt .f32), (.flt .f32), (.flt .f32), (.flt .f32), (.int .i64)]))), (.v (.a (.one (.flt .f32))))], [(.rd (.F .f32)), (.rd (.F .f32))], [.lf, .lf, .int, .int, .bool, .int, .int, .bool, .flt, .flt, .flt, .flt, .flt, .int, .flt], [(.v (.a (.one .bool)))], [.keep, .keep], [.bool]⟩
noncomputable def laws_FnExactSpreadHeat.ib (w_laws_szMelt : List Nat → List Nat → Int → Int → Bool → Int → Int → Bool → Nat → Nat → Nat → Nat → Nat → Int → Int → (Int → Prop) → Prop) (w_laws_toMelt : List Nat → List Nat → Int → Int → Bool → Int → Int → Bool → Nat → Nat → Nat → Nat → Nat → Int → (List Nat → List Nat → Int → Int → Bool → Int → Int → Bool → Nat → Nat → Nat → Nat → Nat → Int → Prop) → Prop) (w_spec_SpreadHeat : List Nat → List Nat → Int → Int → Bool → Int → Int → Bool → Nat → Nat → Nat → Nat → Nat → Int → Nat → (List Nat → List Nat → Int → Int → Bool → Int → Int → Bool → Nat → Nat → Nat → Nat → Nat → Int → Bool → Prop) → Prop) (w_impl_SpreadHeat : List Nat → List Nat → Int → Int → Bool → Int → Int → Bool → Nat → Nat → Nat → Nat → Nat → Int → Nat → (List Nat → List Nat → Int → Int → Bool → Int → Int → Bool → Nat → Nat → Nat → Nat → Nat → Int → Bool → Prop) → Prop) (w_laws_eqMelt : List Nat → List Nat → List Nat → List Nat → Int → Int → Bool → Int → Int → Bool → Nat → Nat → Nat → Nat → Nat → Int → Int → Int → Bool → Int → Int → Bool → Nat → Nat → Nat → Nat → Nat → Int → (Bool → Prop) → Prop) (w_laws_markMelt : List Nat → List Nat → Int → Int → Bool → Int → Int → Bool → Nat → Nat → Nat → Nat → Nat → Int → Int → (List Nat → List Nat → Int → Prop) → Prop) (w_laws_heldMelt : List Nat → List Nat → Int → Int → Bool → Int → Int → Bool → Nat → Nat → Nat → Nat → Nat → Int → Int → (Int → Prop) → Prop) : FnI := ⟨Try.prog, [], [laws_szMelt.g.ctr w_laws_szMelt, laws_toMelt.g.ctr w_laws_toMelt, spec_SpreadHeat.g.ctr w_spec_SpreadHeat, impl_SpreadHeat.g.ctr w_impl_SpreadHeat, laws_eqMelt.g.ctr w_laws_eqMelt, laws_markMelt.g.ctr w_laws_markMelt, laws_heldMelt.g.ctr w_laws_heldMelt], 101, [.tmp 4], bodyOf Try.f6, .leaf, []⟩
noncomputable def laws_FnExactSpreadHeat.i : FnI := laws_FnExactSpreadHeat.ib laws_szMelt.wp laws_toMelt.wp spec_SpreadHeat.wp impl_SpreadHeat.wp laws_eqMelt.wp laws_markMelt.wp laws_heldMelt.wp
noncomputable def laws_FnExactSpreadHeat.bd (w_laws_szMelt : List Nat → List Nat → Int → Int → Bool → Int → Int → Bool → Nat → Nat → Nat → Nat → Nat → Int → Int → (Int → Prop) → Prop) (w_laws_toMelt : List Nat → List Nat → Int → Int → Bool → Int → Int → Bool → Nat → Nat → Nat → Nat → Nat → Int → (List Nat → List Nat → Int → Int → Bool → Int → Int → Bool → Nat → Nat → Nat → Nat → Nat → Int → Prop) → Prop) (w_spec_SpreadHeat : List Nat → List Nat → Int → Int → Bool → Int → Int → Bool → Nat → Nat → Nat → Nat → Nat → Int → Nat → (List Nat → List Nat → Int → Int → Bool → Int → Int → Bool → Nat → Nat → Nat → Nat → Nat → Int → Bool → Prop) → Prop) (w_impl_SpreadHeat : List Nat → List Nat → Int → Int → Bool → Int → Int → Bool → Nat → Nat → Nat → Nat → Nat → Int → Nat → (List Nat → List Nat → Int → Int → Bool → Int → Int → Bool → Nat → Nat → Nat → Nat → Nat → Int → Bool → Prop) → Prop) (w_laws_eqMelt : List Nat → List Nat → List Nat → List Nat → Int → Int → Bool → Int → Int → Bool → Nat → Nat → Nat → Nat → Nat → Int → Int → Int → Bool → Int → Int → Bool → Nat → Nat → Nat → Nat → Nat → Int → (Bool → Prop) → Prop) (w_laws_markMelt : List Nat → List Nat → Int → Int → Bool → Int → Int → Bool → Nat → Nat → Nat → Nat → Nat → Int → Int → (List Nat → List Nat → Int → Prop) → Prop) (w_laws_heldMelt : List Nat → List Nat → Int → Int → Bool → Int → Int → Bool → Nat → Nat → Nat → Nat → Nat → Int → Int → (Int → Prop) → Prop) : List Nat → List Nat → Int → Int → Bool → Int → Int → Bool → Nat → Nat → Nat → Nat → Nat → Int → Nat → (Bool → Prop) → Prop := (laws_FnExactSpreadHeat.ib w_laws_szMelt w_laws_toMelt w_spec_SpreadHeat w_impl_SpreadHeat w_laws_eqMelt w_laws_markMelt w_laws_heldMelt).W laws_FnExactSpreadHeat.g
noncomputable def laws_FnExactSpreadHeat.wp : List Nat → List Nat → Int → Int → Bool → Int → Int → Bool → Nat → Nat → Nat → Nat → Nat → Int → Nat → (Bool → Prop) → Prop := laws_FnExactSpreadHeat.bd laws_szMelt.wp laws_toMelt.wp spec_SpreadHeat.wp impl_SpreadHeat.wp laws_eqMelt.wp laws_markMelt.wp laws_heldMelt.wp
noncomputable def laws_FnExactSpreadHeat.c : Ctr := laws_FnExactSpreadHeat.g.ctr laws_FnExactSpreadHeat.wp
end Go.K.melts
