import Derived.Test.YtajlojldbmfokaaK20
import Derived.Test.YtajlojldbmfokaaProg
set_option maxRecDepth 100000
namespace Go.K.melts
open Go.Proofs

noncomputable def bodyOf (f : Func) : Code := match f.body with
  | some c => c
  | none => .skip
-- loop.example/g01247/laws.szFloat32S
noncomputable def laws_szFloat32S.g : Sig := ⟨56, [(.v (.a (.one (.sl 0)))), (.v (.a (.one (.int .i64))))], [(.rd (.F .f32))], [.lf, .int], [(.v (.a (.one (.int .i64))))], [.keep], [.int]⟩
noncomputable def laws_szFloat32S.ib  : FnI := ⟨Try.prog, [], [], 12, [.tmp 4], bodyOf Try.f56, .leaf, [1]⟩
noncomputable def laws_szFloat32S.i : FnI := laws_szFloat32S.ib 
noncomputable def laws_szFloat32S.bd  : List Nat → Int → (Int → Prop) → Prop := (laws_szFloat32S.ib ).W laws_szFloat32S.g
noncomputable def laws_szFloat32S.wp : List Nat → Int → (Int → Prop) → Prop := laws_szFloat32S.bd 
noncomputable def laws_szFloat32S.c : Ctr := laws_szFloat32S.g.ctr laws_szFloat32S.wp

-- loop.example/g01247/laws.szField
noncomputable def laws_szField.g : Sig := ⟨22, [(.v (.a (.agg [(.int .i64), (.int .i64), .bool, (.sl 0)]))), (.v (.a (.one (.int .i64))))], [(.rd (.F .f32))], [.lf, .int, .int, .bool, .int], [(.v (.a (.one (.int .i64))))], [.keep], [.int]⟩
noncomputable def laws_szField.ib (w_laws_szFloat32S : List Nat → Int → (Int → Prop) → Prop) : FnI := ⟨Try.prog, [], [laws_szFloat32S.g.ctr w_laws_szFloat32S], 12, [.tmp 4], bodyOf Try.f22, .leaf, [1]⟩
noncomputable def laws_szField.i : FnI := laws_szField.ib laws_szFloat32S.wp
noncomputable def laws_szField.bd (w_laws_szFloat32S : List Nat → Int → (Int → Prop) → Prop) : List Nat → Int → Int → Bool → Int → (Int → Prop) → Prop := (laws_szField.ib w_laws_szFloat32S).W laws_szField.g
noncomputable def laws_szField.wp : List Nat → Int → Int → Bool → Int → (Int → Prop) → Prop := laws_szField.bd laws_szFloat32S.wp
noncomputable def laws_szField.c : Ctr := laws_szField.g.ctr laws_szField.wp

-- loop.example/g01247/laws.szMelt
noncomputable def laws_szMelt.g : Sig := ⟨7, [(.v (.a (.agg [(.int .i64), (.int .i64), .bool, (.sl 0), (.int .i64), (.int .i64), .bool, (.sl 1), (.flt .f32), (.flt .f32), (.flt .f32), (.flt .f32), (.flt .f32), (.int .i64)]))), (.v (.a (.one (.int .i64))))], [(.rd (.F .f32)), (.rd (.F .f32))], [.lf, .lf, .int, .int, .bool, .int, .int, .bool, .flt, .flt, .flt, .flt, .flt, .int, .int], [(.v (.a (.one (.int .i64))))], [.keep, .keep], [.int]⟩
noncomputable def laws_szMelt.ib (w_laws_szField : List Nat → Int → Int → Bool → Int → (Int → Prop) → Prop) : FnI := ⟨Try.prog, [], [laws_szField.g.ctr w_laws_szField], 18, [.tmp 4], bodyOf Try.f7, .leaf, [1]⟩
noncomputable def laws_szMelt.i : FnI := laws_szMelt.ib laws_szField.wp
noncomputable def laws_szMelt.bd (w_laws_szField : List Nat → Int → Int → Bool → Int → (Int → Prop) → Prop) : List Nat → List Nat → Int → Int → Bool → Int → Int → Bool → Nat → Nat → Nat → Nat → Nat → Int → Int → (Int → Prop) → Prop := (laws_szMelt.ib w_laws_szField).W laws_szMelt.g
noncomputable def laws_szMelt.wp : List Nat → List Nat → Int → Int → Bool → Int → Int → Bool → Nat → Nat → Nat → Nat → Nat → Int → Int → (Int → Prop) → Prop := laws_szMelt.bd laws_szField.wp
noncomputable def laws_szMelt.c : Ctr := laws_szMelt.g.ctr laws_szMelt.wp

-- loop.example/g01247/laws.toFloat32S
noncomputable def laws_toFloat32S.g : Sig := ⟨60, [(.v (.a (.one (.sl 0))))], [(.rd (.F .f32))], [.lf], [(.v (.a (.one (.sl 1))))], [.keep, (.row 25 (.F .f32))], [.lf]⟩
noncomputable def laws_toFloat32S.ib  : FnI := ⟨Try.prog, [], [], 22, [.tmp 2], bodyOf Try.f60, (.seq .leaf (.seq .leaf (.seq (.seq .leaf (.block (.loop ⟨[3, 4], [.lf, .int], [(.v (.a (.one (.sl 1)))), (.v (.a (.one (.int .i64))))], [.keep, (.row 25 (.F .f32))]⟩ .leaf))) .leaf))), []⟩
noncomputable def laws_toFloat32S.i : FnI := laws_toFloat32S.ib 
noncomputable def laws_toFloat32S.bd  : List Nat → (List Nat → Prop) → Prop := (laws_toFloat32S.ib ).W laws_toFloat32S.g
noncomputable def laws_toFloat32S.wp : List Nat → (List Nat → Prop) → Prop := laws_toFloat32S.bd 
noncomputable def laws_toFloat32S.c : Ctr := laws_toFloat32S.g.ctr laws_toFloat32S.wp

-- loop.example/g01247/laws.toField
noncomputable def laws_toField.g : Sig := ⟨26, [(.v (.a (.agg [(.int .i64), (.int .i64), .bool, (.sl 0)])))], [(.rd (.F .f32))], [.lf, .int, .int, .bool], [(.v (.a (.agg [(.int .i64), (.int .i64), .bool, (.sl 1)])))], [.keep, (.row 25 (.F .f32))], [.lf, .int, .int, .bool]⟩
noncomputable def laws_toField.ib (w_laws_toFloat32S : List Nat → (List Nat → Prop) → Prop) : FnI := ⟨Try.prog, [], [laws_toFloat32S.g.ctr w_laws_toFloat32S], 18, [.cell 2 31], bodyOf Try.f26, .leaf, []⟩
noncomputable def laws_toField.i : FnI := laws_toField.ib laws_toFloat32S.wp
noncomputable def laws_toField.bd (w_laws_toFloat32S : List Nat → (List Nat → Prop) → Prop) : List Nat → Int → Int → Bool → (List Nat → Int → Int → Bool → Prop) → Prop := (laws_toField.ib w_laws_toFloat32S).W laws_toField.g
noncomputable def laws_toField.wp : List Nat → Int → Int → Bool → (List Nat → Int → Int → Bool → Prop) → Prop := laws_toField.bd laws_toFloat32S.wp
noncomputable def laws_toField.c : Ctr := laws_toField.g.ctr laws_toField.wp

-- loop.example/g01247/laws.toMelt
noncomputable def laws_toMelt.g : Sig := ⟨9, [(.v (.a (.agg [(.int .i64), (.int .i64), .bool, (.sl 0), (.int .i64), (.int .i64), .bool, (.sl 1), (.flt .f32), (.flt .f32), (.flt .f32), (.flt .f32), (.flt .f32), (.int .i64)])))], [(.rd (.F .f32)), (.rd (.F .f32))], [.lf, .lf, .int, .int, .bool, .int, .int, .bool, .flt, .flt, .flt, .flt, .flt, .int], [(.v (.a (.agg [(.int .i64), (.int .i64), .bool, (.sl 2), (.int .i64), (.int .i64), .bool, (.sl 3), (.flt .f32), (.flt .f32), (.flt .f32), (.flt .f32), (.flt .f32), (.int .i64)])))], [.keep, .keep, (.row 25 (.F .f32)), (.row 25 (.F .f32))], [.lf, .lf, .int, .int, .bool, .int, .int, .bool, .flt, .flt, .flt, .flt, .flt, .int]⟩
noncomputable def laws_toMelt.ib (w_laws_toField : List Nat → Int → Int → Bool → (List Nat → Int → Int → Bool → Prop) → Prop) : FnI := ⟨Try.prog, [], [laws_toField.g.ctr w_laws_toField], 31, [.cell 2 33], bodyOf Try.f9, .leaf, []⟩
noncomputable def laws_toMelt.i : FnI := laws_toMelt.ib laws_toField.wp
noncomputable def laws_toMelt.bd (w_laws_toField : List Nat → Int → Int → Bool → (List Nat → Int → Int → Bool → Prop) → Prop) : List Nat → List Nat → Int → Int → Bool → Int → Int → Bool → Nat → Nat → Nat → Nat → Nat → Int → (List Nat → List Nat → Int → Int → Bool → Int → Int → Bool → Nat → Nat → Nat → Nat → Nat → Int → Prop) → Prop := (laws_toMelt.ib w_laws_toField).W laws_toMelt.g
noncomputable def laws_toMelt.wp : List Nat → List Nat → Int → Int → Bool → Int → Int → Bool → Nat → Nat → Nat → Nat → Nat → Int → (List Nat → List Nat → Int → Int → Bool → Int → Int → Bool → Nat → Nat → Nat → Nat → Nat → Int → Prop) → Prop := laws_toMelt.bd laws_toField.wp
noncomputable def laws_toMelt.c : Ctr := laws_toMelt.g.ctr laws_toMelt.wp

-- loop.example/g01247/spec.l00In
noncomputable def spec_l00In.g : Sig := ⟨33, [(.v (.a (.one (.int .i64)))), (.v (.a (.one (.int .i64)))), (.v (.a (.one (.int .i64))))], [], [.int, .int, .int], [(.v (.a (.one .bool)))], [], [.bool]⟩
noncomputable def spec_l00In.ib  : FnI := ⟨Try.prog, [], [], 15, [.tmp 6], bodyOf Try.f33, .leaf, []⟩
noncomputable def spec_l00In.i : FnI := spec_l00In.ib 
noncomputable def spec_l00In.bd  : Int → Int → Int → (Bool → Prop) → Prop := (spec_l00In.ib ).W spec_l00In.g
noncomputable def spec_l00In.wp : Int → Int → Int → (Bool → Prop) → Prop := spec_l00In.bd 
noncomputable def spec_l00In.c : Ctr := spec_l00In.g.ctr spec_l00In.wp

-- loop.example/g01247/spec.l02Size
noncomputable def spec_l02Size.g : Sig := ⟨93, [(.v (.a (.one (.int .i64)))), (.v (.a (.one (.int .i64))))], [], [.int, .int], [(.v (.a (.one .bool)))], [], [.bool]⟩
noncomputable def spec_l02Size.ib (w_spec_l00In : Int → Int → Int → (Bool → Prop) → Prop) : FnI := ⟨Try.prog, [], [spec_l00In.g.ctr w_spec_l00In], 11, [.tmp 4], bodyOf Try.f93, .leaf, []⟩
noncomputable def spec_l02Size.i : FnI := spec_l02Size.ib spec_l00In.wp
noncomputable def spec_l02Size.bd (w_spec_l00In : Int → Int → Int → (Bool → Prop) → Prop) : Int → Int → (Bool → Prop) → Prop := (spec_l02Size.ib w_spec_l00In).W spec_l02Size.g
noncomputable def spec_l02Size.wp : Int → Int → (Bool → Prop) → Prop := spec_l02Size.bd spec_l00In.wp
noncomputable def spec_l02Size.c : Ctr := spec_l02Size.g.ctr spec_l02Size.wp

-- loop.example/g01247/spec.l02Is
noncomputable def spec_l02Is.g : Sig := ⟨67, [(.v (.a (.one (.pt 0 0))))], [(.rdb [(.int .i64), (.int .i64), .bool, (.sl 1)]), (.rd (.F .f32))], [.int, .int, .bool, .lf], [(.v (.a (.one .bool)))], [.keep, .keep], [.bool]⟩
noncomputable def spec_l02Is.ib (w_spec_l02Size : Int → Int → (Bool → Prop) → Prop) : FnI := ⟨Try.prog, [], [spec_l02Size.g.ctr w_spec_l02Size], 29, [.tmp 2], bodyOf Try.f67, .leaf, []⟩
noncomputable def spec_l02Is.i : FnI := spec_l02Is.ib spec_l02Size.wp
noncomputable def spec_l02Is.bd (w_spec_l02Size : Int → Int → (Bool → Prop) → Prop) : Int → Int → Bool → List Nat → (Bool → Prop) → Prop := (spec_l02Is.ib w_spec_l02Size).W spec_l02Is.g
noncomputable def spec_l02Is.wp : Int → Int → Bool → List Nat → (Bool → Prop) → Prop := spec_l02Is.bd spec_l02Size.wp
noncomputable def spec_l02Is.c : Ctr := spec_l02Is.g.ctr spec_l02Is.wp

-- loop.example/g01247/spec.l01Finite
noncomputable def spec_l01Finite.g : Sig := ⟨57, [(.v (.a (.one (.flt .f32))))], [], [.flt], [(.v (.a (.one .bool)))], [], [.bool]⟩
noncomputable def spec_l01Finite.ib  : FnI := ⟨Try.prog, [], [], 7, [.tmp 2], bodyOf Try.f57, .leaf, []⟩
noncomputable def spec_l01Finite.i : FnI := spec_l01Finite.ib 
noncomputable def spec_l01Finite.bd  : Nat → (Bool → Prop) → Prop := (spec_l01Finite.ib ).W spec_l01Finite.g
noncomputable def spec_l01Finite.wp : Nat → (Bool → Prop) → Prop := spec_l01Finite.bd 
noncomputable def spec_l01Finite.c : Ctr := spec_l01Finite.g.ctr spec_l01Finite.wp

-- loop.example/g01247/spec.l03Least
noncomputable def spec_l03Least.g : Sig := ⟨45, [(.v (.a (.one (.flt .f32))))], [], [.flt], [(.v (.a (.one .bool)))], [], [.bool]⟩
noncomputable def spec_l03Least.ib (w_spec_l01Finite : Nat → (Bool → Prop) → Prop) : FnI := ⟨Try.prog, [], [spec_l01Finite.g.ctr w_spec_l01Finite], 9, [.tmp 2], bodyOf Try.f45, .leaf, []⟩
noncomputable def spec_l03Least.i : FnI := spec_l03Least.ib spec_l01Finite.wp
noncomputable def spec_l03Least.bd (w_spec_l01Finite : Nat → (Bool → Prop) → Prop) : Nat → (Bool → Prop) → Prop := (spec_l03Least.ib w_spec_l01Finite).W spec_l03Least.g
noncomputable def spec_l03Least.wp : Nat → (Bool → Prop) → Prop := spec_l03Least.bd spec_l01Finite.wp
noncomputable def spec_l03Least.c : Ctr := spec_l03Least.g.ctr spec_l03Least.wp

-- loop.example/g01247/spec.l03Is
noncomputable def spec_l03Is.g : Sig := ⟨32, [(.v (.a (.one (.pt 0 0))))], [(.rdb [(.int .i64), (.int .i64), .bool, (.sl 1), (.int .i64), (.int .i64), .bool, (.sl 2), (.flt .f32), (.flt .f32), (.flt .f32), (.flt .f32), (.flt .f32), (.int .i64)]), (.rd (.F .f32)), (.rd (.F .f32))], [.int, .int, .bool, .int, .int, .bool, .flt, .flt, .flt, .flt, .flt, .int, .lf, .lf], [(.v (.a (.one .bool)))], [.keep, .keep, .keep], [.bool]⟩
noncomputable def spec_l03Is.ib (w_spec_l02Is : Int → Int → Bool → List Nat → (Bool → Prop) → Prop) (w_spec_l01Finite : Nat → (Bool → Prop) → Prop) (w_spec_l03Least : Nat → (Bool → Prop) → Prop) (w_spec_l00In : Int → Int → Int → (Bool → Prop) → Prop) : FnI := ⟨Try.prog, [], [spec_l02Is.g.ctr w_spec_l02Is, spec_l01Finite.g.ctr w_spec_l01Finite, spec_l03Least.g.ctr w_spec_l03Least, spec_l00In.g.ctr w_spec_l00In], 145, [.tmp 2], bodyOf Try.f32, (.seq .leaf (.seq .leaf (.seq (.seq .leaf (.block (.loop ⟨[60, 61], [.int, .int], [(.v (.a (.one (.int .i64)))), (.v (.a (.one (.int .i64))))], [.keep, .keep, .keep]⟩ .leaf))) .leaf))), []⟩
noncomputable def spec_l03Is.i : FnI := spec_l03Is.ib spec_l02Is.wp spec_l01Finite.wp spec_l03Least.wp spec_l00In.wp
noncomputable def spec_l03Is.bd (w_spec_l02Is : Int → Int → Bool → List Nat → (Bool → Prop) → Prop) (w_spec_l01Finite : Nat → (Bool → Prop) → Prop) (w_spec_l03Least : Nat → (Bool → Prop) → Prop) (w_spec_l00In : Int → Int → Int → (Bool → Prop) → Prop) : Int → Int → Bool → Int → Int → Bool → Nat → Nat → Nat → Nat → Nat → Int → List Nat → List Nat → (Bool → Prop) → Prop := (spec_l03Is.ib w_spec_l02Is w_spec_l01Finite w_spec_l03Least w_spec_l00In).W spec_l03Is.g
noncomputable def spec_l03Is.wp : Int → Int → Bool → Int → Int → Bool → Nat → Nat → Nat → Nat → Nat → Int → List Nat → List Nat → (Bool → Prop) → Prop := spec_l03Is.bd spec_l02Is.wp spec_l01Finite.wp spec_l03Least.wp spec_l00In.wp
noncomputable def spec_l03Is.c : Ctr := spec_l03Is.g.ctr spec_l03Is.wp

-- loop.example/g01247/spec.l03Cell
noncomputable def spec_l03Cell.g : Sig := ⟨23, [(.v (.a (.one (.pt 0 0)))), (.v (.a (.one (.int .i64)))), (.v (.a (.one (.int .i64))))], [(.rdb [(.int .i64), (.int .i64), .bool, (.sl 1), (.int .i64), (.int .i64), .bool, (.sl 2), (.flt .f32), (.flt .f32), (.flt .f32), (.flt .f32), (.flt .f32), (.int .i64)]), (.rd (.F .f32)), (.rd (.F .f32))], [.int, .int, .bool, .int, .int, .bool, .flt, .flt, .flt, .flt, .flt, .int, .lf, .lf, .int, .int], [(.v (.a (.one .bool)))], [.keep, .keep, .keep], [.bool]⟩
noncomputable def spec_l03Cell.ib (w_spec_l03Is : Int → Int → Bool → Int → Int → Bool → Nat → Nat → Nat → Nat → Nat → Int → List Nat → List Nat → (Bool → Prop) → Prop) (w_spec_l00In : Int → Int → Int → (Bool → Prop) → Prop) : FnI := ⟨Try.prog, [], [spec_l03Is.g.ctr w_spec_l03Is, spec_l00In.g.ctr w_spec_l00In], 29, [.tmp 6], bodyOf Try.f23, .leaf, []⟩
noncomputable def spec_l03Cell.i : FnI := spec_l03Cell.ib spec_l03Is.wp spec_l00In.wp
noncomputable def spec_l03Cell.bd (w_spec_l03Is : Int → Int → Bool → Int → Int → Bool → Nat → Nat → Nat → Nat → Nat → Int → List Nat → List Nat → (Bool → Prop) → Prop) (w_spec_l00In : Int → Int → Int → (Bool → Prop) → Prop) : Int → Int → Bool → Int → Int → Bool → Nat → Nat → Nat → Nat → Nat → Int → List Nat → List Nat → Int → Int → (Bool → Prop) → Prop := (spec_l03Cell.ib w_spec_l03Is w_spec_l00In).W spec_l03Cell.g
noncomputable def spec_l03Cell.wp : Int → Int → Bool → Int → Int → Bool → Nat → Nat → Nat → Nat → Nat → Int → List Nat → List Nat → Int → Int → (Bool → Prop) → Prop := spec_l03Cell.bd spec_l03Is.wp spec_l00In.wp
noncomputable def spec_l03Cell.c : Ctr := spec_l03Cell.g.ctr spec_l03Cell.wp

-- loop.example/g01247/spec.l00Min
noncomputable def spec_l00Min.g : Sig := ⟨109, [(.v (.a (.one (.int .i64)))), (.v (.a (.one (.int .i64))))], [], [.int, .int], [(.v (.a (.one (.int .i64))))], [], [.int]⟩
noncomputable def spec_l00Min.ib  : FnI := ⟨Try.prog, [], [], 10, [.tmp 4], bodyOf Try.f109, .leaf, []⟩
noncomputable def spec_l00Min.i : FnI := spec_l00Min.ib 
noncomputable def spec_l00Min.bd  : Int → Int → (Int → Prop) → Prop := (spec_l00Min.ib ).W spec_l00Min.g
noncomputable def spec_l00Min.wp : Int → Int → (Int → Prop) → Prop := spec_l00Min.bd 
noncomputable def spec_l00Min.c : Ctr := spec_l00Min.g.ctr spec_l00Min.wp

-- loop.example/g01247/spec.l00Max
noncomputable def spec_l00Max.g : Sig := ⟨108, [(.v (.a (.one (.int .i64)))), (.v (.a (.one (.int .i64))))], [], [.int, .int], [(.v (.a (.one (.int .i64))))], [], [.int]⟩
noncomputable def spec_l00Max.ib  : FnI := ⟨Try.prog, [], [], 10, [.tmp 4], bodyOf Try.f108, .leaf, []⟩
noncomputable def spec_l00Max.i : FnI := spec_l00Max.ib 
noncomputable def spec_l00Max.bd  : Int → Int → (Int → Prop) → Prop := (spec_l00Max.ib ).W spec_l00Max.g
noncomputable def spec_l00Max.wp : Int → Int → (Int → Prop) → Prop := spec_l00Max.bd 
noncomputable def spec_l00Max.c : Ctr := spec_l00Max.g.ctr spec_l00Max.wp

-- loop.example/g01247/spec.l02Place
noncomputable def spec_l02Place.g : Sig := ⟨94, [(.v (.a (.one (.int .i64)))), (.v (.a (.one (.int .i64)))), (.v (.a (.one .bool)))], [], [.int, .int, .bool], [(.v (.a (.one (.int .i64))))], [], [.int]⟩
noncomputable def spec_l02Place.ib (w_spec_l00Min : Int → Int → (Int → Prop) → Prop) (w_spec_l00Max : Int → Int → (Int → Prop) → Prop) : FnI := ⟨Try.prog, [], [spec_l00Min.g.ctr w_spec_l00Min, spec_l00Max.g.ctr w_spec_l00Max], 20, [.tmp 6], bodyOf Try.f94, .leaf, []⟩
noncomputable def spec_l02Place.i : FnI := spec_l02Place.ib spec_l00Min.wp spec_l00Max.wp
noncomputable def spec_l02Place.bd (w_spec_l00Min : Int → Int → (Int → Prop) → Prop) (w_spec_l00Max : Int → Int → (Int → Prop) → Prop) : Int → Int → Bool → (Int → Prop) → Prop := (spec_l02Place.ib w_spec_l00Min w_spec_l00Max).W spec_l02Place.g
noncomputable def spec_l02Place.wp : Int → Int → Bool → (Int → Prop) → Prop := spec_l02Place.bd spec_l00Min.wp spec_l00Max.wp
noncomputable def spec_l02Place.c : Ctr := spec_l02Place.g.ctr spec_l02Place.wp

-- loop.example/g01247/spec.l02Index
noncomputable def spec_l02Index.g : Sig := ⟨68, [(.v (.a (.one (.pt 0 0)))), (.v (.a (.one (.int .i64)))), (.v (.a (.one (.int .i64))))], [(.rdb [(.int .i64), (.int .i64), .bool, (.sl 1)]), (.rd (.F .f32))], [.int, .int, .bool, .lf, .int, .int], [(.v (.a (.one (.int .i64))))], [.keep, .keep], [.int]⟩
noncomputable def spec_l02Index.ib (w_spec_l02Place : Int → Int → Bool → (Int → Prop) → Prop) : FnI := ⟨Try.prog, [], [spec_l02Place.g.ctr w_spec_l02Place], 33, [.tmp 6], bodyOf Try.f68, .leaf, []⟩
noncomputable def spec_l02Index.i : FnI := spec_l02Index.ib spec_l02Place.wp
noncomputable def spec_l02Index.bd (w_spec_l02Place : Int → Int → Bool → (Int → Prop) → Prop) : Int → Int → Bool → List Nat → Int → Int → (Int → Prop) → Prop := (spec_l02Index.ib w_spec_l02Place).W spec_l02Index.g
noncomputable def spec_l02Index.wp : Int → Int → Bool → List Nat → Int → Int → (Int → Prop) → Prop := spec_l02Index.bd spec_l02Place.wp
noncomputable def spec_l02Index.c : Ctr := spec_l02Index.g.ctr spec_l02Index.wp

-- loop.example/g01247/spec.l02At
noncomputable def spec_l02At.g : Sig := ⟨34, [(.v (.a (.one (.pt 0 0)))), (.v (.a (.one (.int .i64)))), (.v (.a (.one (.int .i64))))], [(.rdb [(.int .i64), (.int .i64), .bool, (.sl 1)]), (.rd (.F .f32))], [.int, .int, .bool, .lf, .int, .int], [(.v (.a (.one (.flt .f32))))], [.keep, .keep], [.flt]⟩
noncomputable def spec_l02At.ib (w_spec_l02Index : Int → Int → Bool → List Nat → Int → Int → (Int → Prop) → Prop) : FnI := ⟨Try.prog, [], [spec_l02Index.g.ctr w_spec_l02Index], 17, [.tmp 6], bodyOf Try.f34, .leaf, []⟩
noncomputable def spec_l02At.i : FnI := spec_l02At.ib spec_l02Index.wp
noncomputable def spec_l02At.bd (w_spec_l02Index : Int → Int → Bool → List Nat → Int → Int → (Int → Prop) → Prop) : Int → Int → Bool → List Nat → Int → Int → (Nat → Prop) → Prop := (spec_l02At.ib w_spec_l02Index).W spec_l02At.g
noncomputable def spec_l02At.wp : Int → Int → Bool → List Nat → Int → Int → (Nat → Prop) → Prop := spec_l02At.bd spec_l02Index.wp
noncomputable def spec_l02At.c : Ctr := spec_l02At.g.ctr spec_l02At.wp

-- loop.example/g01247/spec.l02SlopeY
noncomputable def spec_l02SlopeY.g : Sig := ⟨58, [(.v (.a (.one (.pt 0 0)))), (.v (.a (.one (.int .i64)))), (.v (.a (.one (.int .i64))))], [(.rdb [(.int .i64), (.int .i64), .bool, (.sl 1)]), (.rd (.F .f32))], [.int, .int, .bool, .lf, .int, .int], [(.v (.a (.one (.flt .f32))))], [.keep, .keep], [.flt]⟩
noncomputable def spec_l02SlopeY.ib (w_spec_l02At : Int → Int → Bool → List Nat → Int → Int → (Nat → Prop) → Prop) : FnI := ⟨Try.prog, [], [spec_l02At.g.ctr w_spec_l02At], 19, [.tmp 6], bodyOf Try.f58, .leaf, []⟩
noncomputable def spec_l02SlopeY.i : FnI := spec_l02SlopeY.ib spec_l02At.wp
noncomputable def spec_l02SlopeY.bd (w_spec_l02At : Int → Int → Bool → List Nat → Int → Int → (Nat → Prop) → Prop) : Int → Int → Bool → List Nat → Int → Int → (Nat → Prop) → Prop := (spec_l02SlopeY.ib w_spec_l02At).W spec_l02SlopeY.g
noncomputable def spec_l02SlopeY.wp : Int → Int → Bool → List Nat → Int → Int → (Nat → Prop) → Prop := spec_l02SlopeY.bd spec_l02At.wp
noncomputable def spec_l02SlopeY.c : Ctr := spec_l02SlopeY.g.ctr spec_l02SlopeY.wp

-- loop.example/g01247/spec.l02SlopeX
noncomputable def spec_l02SlopeX.g : Sig := ⟨59, [(.v (.a (.one (.pt 0 0)))), (.v (.a (.one (.int .i64)))), (.v (.a (.one (.int .i64))))], [(.rdb [(.int .i64), (.int .i64), .bool, (.sl 1)]), (.rd (.F .f32))], [.int, .int, .bool, .lf, .int, .int], [(.v (.a (.one (.flt .f32))))], [.keep, .keep], [.flt]⟩
noncomputable def spec_l02SlopeX.ib (w_spec_l02At : Int → Int → Bool → List Nat → Int → Int → (Nat → Prop) → Prop) : FnI := ⟨Try.prog, [], [spec_l02At.g.ctr w_spec_l02At], 19, [.tmp 6], bodyOf Try.f59, .leaf, []⟩
noncomputable def spec_l02SlopeX.i : FnI := spec_l02SlopeX.ib spec_l02At.wp
noncomputable def spec_l02SlopeX.bd (w_spec_l02At : Int → Int → Bool → List Nat → Int → Int → (Nat → Prop) → Prop) : Int → Int → Bool → List Nat → Int → Int → (Nat → Prop) → Prop := (spec_l02SlopeX.ib w_spec_l02At).W spec_l02SlopeX.g
noncomputable def spec_l02SlopeX.wp : Int → Int → Bool → List Nat → Int → Int → (Nat → Prop) → Prop := spec_l02SlopeX.bd spec_l02At.wp
noncomputable def spec_l02SlopeX.c : Ctr := spec_l02SlopeX.g.ctr spec_l02SlopeX.wp

-- math.NaN
noncomputable def math_NaN.g : Sig := ⟨79, [], [], [], [(.v (.a (.one (.flt .f64))))], [], [.flt]⟩
noncomputable def math_NaN.ib  : FnI := ⟨Try.prog, [(101, .from64)], [], 2, [.tmp 0], bodyOf Try.f79, .leaf, []⟩
noncomputable def math_NaN.i : FnI := math_NaN.ib 
noncomputable def math_NaN.bd  : (Nat → Prop) → Prop := (math_NaN.ib ).W math_NaN.g
noncomputable def math_NaN.wp : (Nat → Prop) → Prop := math_NaN.bd 
noncomputable def math_NaN.c : Ctr := math_NaN.g.ctr math_NaN.wp

-- math.Abs
noncomputable def math_Abs.g : Sig := ⟨80, [(.v (.a (.one (.flt .f64))))], [], [.flt], [(.v (.a (.one (.flt .f64))))], [], [.flt]⟩
noncomputable def math_Abs.ib  : FnI := ⟨Try.prog, [(101, .from64), (102, .bits64)], [], 7, [.tmp 2], bodyOf Try.f80, .leaf, []⟩
noncomputable def math_Abs.i : FnI := math_Abs.ib 
noncomputable def math_Abs.bd  : Nat → (Nat → Prop) → Prop := (math_Abs.ib ).W math_Abs.g
noncomputable def math_Abs.wp : Nat → (Nat → Prop) → Prop := math_Abs.bd 
noncomputable def math_Abs.c : Ctr := math_Abs.g.ctr math_Abs.wp

-- math.Sqrt
noncomputable def math_Sqrt.g : Sig := ⟨96, [(.v (.a (.one (.flt .f64))))], [], [.flt], [(.v (.a (.one (.flt .f64))))], [], [.flt]⟩
noncomputable def math_Sqrt.ib  : FnI := ⟨Try.prog, [(110, .sqrt)], [], 5, [.tmp 2], bodyOf Try.f96, .leaf, []⟩
noncomputable def math_Sqrt.i : FnI := math_Sqrt.ib 
noncomputable def math_Sqrt.bd  : Nat → (Nat → Prop) → Prop := (math_Sqrt.ib ).W math_Sqrt.g
noncomputable def math_Sqrt.wp : Nat → (Nat → Prop) → Prop := math_Sqrt.bd 
noncomputable def math_Sqrt.c : Ctr := math_Sqrt.g.ctr math_Sqrt.wp

-- loop.example/g01247/spec.l01AngleWide
noncomputable def spec_l01AngleWide.g : Sig := ⟨72, [(.v (.a (.one (.flt .f64)))), (.v (.a (.one (.flt .f64))))], [], [.flt, .flt], [(.v (.a (.one (.flt .f64))))], [], [.flt]⟩
noncomputable def spec_l01AngleWide.ib (w_math_NaN : (Nat → Prop) → Prop) (w_math_Abs : Nat → (Nat → Prop) → Prop) (w_math_Sqrt : Nat → (Nat → Prop) → Prop) : FnI := ⟨Try.prog, [], [math_NaN.g.ctr w_math_NaN, math_Abs.g.ctr w_math_Abs, math_Sqrt.g.ctr w_math_Sqrt], 88, [.tmp 4], bodyOf Try.f72, (.seq .leaf (.seq .leaf (.seq .leaf (.seq .leaf (.seq .leaf (.seq .leaf (.seq .leaf (.seq (.seq .leaf (.condJ ⟨[7, 8], [.bool, .flt], [(.v (.a (.one .bool))), (.v (.a (.one (.flt .f64))))], []⟩ .leaf .leaf)) (.seq (.seq .leaf (.block (.loop ⟨[7, 8, 9], [.bool, .flt, .int], [(.v (.a (.one .bool))), (.v (.a (.one (.flt .f64)))), (.v (.a (.one (.int .i64))))], []⟩ .leaf))) (.seq .leaf (.seq .leaf (.seq (.seq .leaf (.block (.loop ⟨[7, 8, 10, 11, 12], [.bool, .flt, .flt, .flt, .int], [(.v (.a (.one .bool))), (.v (.a (.one (.flt .f64)))), (.v (.a (.one (.flt .f64)))), (.v (.a (.one (.flt .f64)))), (.v (.a (.one (.int .i64))))], []⟩ .leaf))) .leaf)))))))))))), []⟩
noncomputable def spec_l01AngleWide.i : FnI := spec_l01AngleWide.ib math_NaN.wp math_Abs.wp math_Sqrt.wp
noncomputable def spec_l01AngleWide.bd (w_math_NaN : (Nat → Prop) → Prop) (w_math_Abs : Nat → (Nat → Prop) → Prop) (w_math_Sqrt : Nat → (Nat → Prop) → Prop) : Nat → Nat → (Nat → Prop) → Prop := (spec_l01AngleWide.ib w_math_NaN w_math_Abs w_math_Sqrt).W spec_l01AngleWide.g
noncomputable def spec_l01AngleWide.wp : Nat → Nat → (Nat → Prop) → Prop := spec_l01AngleWide.bd math_NaN.wp math_Abs.wp math_Sqrt.wp
noncomputable def spec_l01AngleWide.c : Ctr := spec_l01AngleWide.g.ctr spec_l01AngleWide.wp

-- loop.example/g01247/spec.l01Narrow
noncomputable def spec_l01Narrow.g : Sig := ⟨71, [(.v (.a (.one (.flt .f64))))], [], [.flt], [(.v (.a (.one (.flt .f32))))], [], [.flt]⟩
noncomputable def spec_l01Narrow.ib  : FnI := ⟨Try.prog, [], [], 5, [.tmp 2], bodyOf Try.f71, .leaf, []⟩
noncomputable def spec_l01Narrow.i : FnI := spec_l01Narrow.ib 
noncomputable def spec_l01Narrow.bd  : Nat → (Nat → Prop) → Prop := (spec_l01Narrow.ib ).W spec_l01Narrow.g
noncomputable def spec_l01Narrow.wp : Nat → (Nat → Prop) → Prop := spec_l01Narrow.bd 
noncomputable def spec_l01Narrow.c : Ctr := spec_l01Narrow.g.ctr spec_l01Narrow.wp

-- loop.example/g01247/spec.l01Angle
noncomputable def spec_l01Angle.g : Sig := ⟨37, [(.v (.a (.one (.flt .f32)))), (.v (.a (.one (.flt .f32))))], [], [.flt, .flt], [(.v (.a (.one (.flt .f32))))], [], [.flt]⟩
noncomputable def spec_l01Angle.ib (w_spec_l01AngleWide : Nat → Nat → (Nat → Prop) → Prop) (w_spec_l01Narrow : Nat → (Nat → Prop) → Prop) : FnI := ⟨Try.prog, [], [spec_l01AngleWide.g.ctr w_spec_l01AngleWide, spec_l01Narrow.g.ctr w_spec_l01Narrow], 11, [.tmp 4], bodyOf Try.f37, .leaf, []⟩
noncomputable def spec_l01Angle.i : FnI := spec_l01Angle.ib spec_l01AngleWide.wp spec_l01Narrow.wp
noncomputable def spec_l01Angle.bd (w_spec_l01AngleWide : Nat → Nat → (Nat → Prop) → Prop) (w_spec_l01Narrow : Nat → (Nat → Prop) → Prop) : Nat → Nat → (Nat → Prop) → Prop := (spec_l01Angle.ib w_spec_l01AngleWide w_spec_l01Narrow).W spec_l01Angle.g
noncomputable def spec_l01Angle.wp : Nat → Nat → (Nat → Prop) → Prop := spec_l01Angle.bd spec_l01AngleWide.wp spec_l01Narrow.wp
noncomputable def spec_l01Angle.c : Ctr := spec_l01Angle.g.ctr spec_l01Angle.wp

-- loop.example/g01247/spec.l03Turn
noncomputable def spec_l03Turn.g : Sig := ⟨25, [(.v (.a (.one (.pt 0 0)))), (.v (.a (.one (.int .i64)))), (.v (.a (.one (.int .i64))))], [(.rdb [(.int .i64), (.int .i64), .bool, (.sl 1), (.int .i64), (.int .i64), .bool, (.sl 2), (.flt .f32), (.flt .f32), (.flt .f32), (.flt .f32), (.flt .f32), (.int .i64)]), (.rd (.F .f32)), (.rd (.F .f32))], [.int, .int, .bool, .int, .int, .bool, .flt, .flt, .flt, .flt, .flt, .int, .lf, .lf, .int, .int], [(.v (.a (.one (.flt .f32))))], [.keep, .keep, .keep], [.flt]⟩
noncomputable def spec_l03Turn.ib (w_spec_l02SlopeY : Int → Int → Bool → List Nat → Int → Int → (Nat → Prop) → Prop) (w_spec_l02SlopeX : Int → Int → Bool → List Nat → Int → Int → (Nat → Prop) → Prop) (w_spec_l01Angle : Nat → Nat → (Nat → Prop) → Prop) : FnI := ⟨Try.prog, [], [spec_l02SlopeY.g.ctr w_spec_l02SlopeY, spec_l02SlopeX.g.ctr w_spec_l02SlopeX, spec_l01Angle.g.ctr w_spec_l01Angle], 20, [.tmp 6], bodyOf Try.f25, .leaf, []⟩
noncomputable def spec_l03Turn.i : FnI := spec_l03Turn.ib spec_l02SlopeY.wp spec_l02SlopeX.wp spec_l01Angle.wp
noncomputable def spec_l03Turn.bd (w_spec_l02SlopeY : Int → Int → Bool → List Nat → Int → Int → (Nat → Prop) → Prop) (w_spec_l02SlopeX : Int → Int → Bool → List Nat → Int → Int → (Nat → Prop) → Prop) (w_spec_l01Angle : Nat → Nat → (Nat → Prop) → Prop) : Int → Int → Bool → Int → Int → Bool → Nat → Nat → Nat → Nat → Nat → Int → List Nat → List Nat → Int → Int → (Nat → Prop) → Prop := (spec_l03Turn.ib w_spec_l02SlopeY w_spec_l02SlopeX w_spec_l01Angle).W spec_l03Turn.g
noncomputable def spec_l03Turn.wp : Int → Int → Bool → Int → Int → Bool → Nat → Nat → Nat → Nat → Nat → Int → List Nat → List Nat → Int → Int → (Nat → Prop) → Prop := spec_l03Turn.bd spec_l02SlopeY.wp spec_l02SlopeX.wp spec_l01Angle.wp
noncomputable def spec_l03Turn.c : Ctr := spec_l03Turn.g.ctr spec_l03Turn.wp

-- loop.example/g01247/spec.l03Number
noncomputable def spec_l03Number.g : Sig := ⟨24, [(.v (.a (.one (.flt .f32))))], [], [.flt], [(.tup [(.a (.one (.flt .f32))), (.a (.one .bool))])], [], [.flt, .bool]⟩
noncomputable def spec_l03Number.ib (w_spec_l01Finite : Nat → (Bool → Prop) → Prop) : FnI := ⟨Try.prog, [], [spec_l01Finite.g.ctr w_spec_l01Finite], 8, [.tmp 2, .tmp 3], bodyOf Try.f24, .leaf, []⟩
noncomputable def spec_l03Number.i : FnI := spec_l03Number.ib spec_l01Finite.wp
noncomputable def spec_l03Number.bd (w_spec_l01Finite : Nat → (Bool → Prop) → Prop) : Nat → (Nat → Bool → Prop) → Prop := (spec_l03Number.ib w_spec_l01Finite).W spec_l03Number.g
noncomputable def spec_l03Number.wp : Nat → (Nat → Bool → Prop) → Prop := spec_l03Number.bd spec_l01Finite.wp
noncomputable def spec_l03Number.c : Ctr := spec_l03Number.g.ctr spec_l03Number.wp

-- loop.example/g01247/spec.TurnAt
noncomputable def spec_TurnAt.g : Sig := ⟨8, [(.v (.a (.agg [(.int .i64), (.int .i64), .bool, (.sl 0), (.int .i64), (.int .i64), .bool, (.sl 1), (.flt .f32), (.flt .f32), (.flt .f32), (.flt .f32), (.flt .f32), (.int .i64)]))), (.v (.a (.one (.int .i64)))), (.v (.a (.one (.int .i64))))], [(.rd (.F .f32)), (.rd (.F .f32))], [.lf, .lf, .int, .int, .bool, .int, .int, .bool, .flt, .flt, .flt, .flt, .flt, .int, .int, .int], [(.tup [(.a (.one (.flt .f32))), (.a (.one .bool))])], [.keep, .keep], [.flt, .bool]⟩
noncomputable def spec_TurnAt.ib (w_spec_l03Cell : Int → Int → Bool → Int → Int → Bool → Nat → Nat → Nat → Nat → Nat → Int → List Nat → List Nat → Int → Int → (Bool → Prop) → Prop) (w_spec_l03Turn : Int → Int → Bool → Int → Int → Bool → Nat → Nat → Nat → Nat → Nat → Int → List Nat → List Nat → Int → Int → (Nat → Prop) → Prop) (w_spec_l03Number : Nat → (Nat → Bool → Prop) → Prop) : FnI := ⟨Try.prog, [], [spec_l03Cell.g.ctr w_spec_l03Cell, spec_l03Turn.g.ctr w_spec_l03Turn, spec_l03Number.g.ctr w_spec_l03Number], 18, [.tmp 6, .tmp 7], bodyOf Try.f8, .leaf, []⟩
noncomputable def spec_TurnAt.i : FnI := spec_TurnAt.ib spec_l03Cell.wp spec_l03Turn.wp spec_l03Number.wp
noncomputable def spec_TurnAt.bd (w_spec_l03Cell : Int → Int → Bool → Int → Int → Bool → Nat → Nat → Nat → Nat → Nat → Int → List Nat → List Nat → Int → Int → (Bool → Prop) → Prop) (w_spec_l03Turn : Int → Int → Bool → Int → Int → Bool → Nat → Nat → Nat → Nat → Nat → Int → List Nat → List Nat → Int → Int → (Nat → Prop) → Prop) (w_spec_l03Number : Nat → (Nat → Bool → Prop) → Prop) : List Nat → List Nat → Int → Int → Bool → Int → Int → Bool → Nat → Nat → Nat → Nat → Nat → Int → Int → Int → (Nat → Bool → Prop) → Prop := (spec_TurnAt.ib w_spec_l03Cell w_spec_l03Turn w_spec_l03Number).W spec_TurnAt.g
noncomputable def spec_TurnAt.wp : List Nat → List Nat → Int → Int → Bool → Int → Int → Bool → Nat → Nat → Nat → Nat → Nat → Int → Int → Int → (Nat → Bool → Prop) → Prop := spec_TurnAt.bd spec_l03Cell.wp spec_l03Turn.wp spec_l03Number.wp
noncomputable def spec_TurnAt.c : Ctr := spec_TurnAt.g.ctr spec_TurnAt.wp

-- loop.example/g01247/impl.within
noncomputable def impl_within.g : Sig := ⟨39, [(.v (.a (.one (.int .i64)))), (.v (.a (.one (.int .i64)))), (.v (.a (.one (.int .i64))))], [], [.int, .int, .int], [(.v (.a (.one .bool)))], [], [.bool]⟩
noncomputable def impl_within.ib  : FnI := ⟨Try.prog, [], [], 15, [.tmp 6], bodyOf Try.f39, .leaf, []⟩
noncomputable def impl_within.i : FnI := impl_within.ib 
noncomputable def impl_within.bd  : Int → Int → Int → (Bool → Prop) → Prop := (impl_within.ib ).W impl_within.g
noncomputable def impl_within.wp : Int → Int → Int → (Bool → Prop) → Prop := impl_within.bd 
noncomputable def impl_within.c : Ctr := impl_within.g.ctr impl_within.wp

-- loop.example/g01247/impl.areWithin$1
noncomputable def impl_areWithin_1.g : Sig := ⟨112, [(.v (.a (.one (.int .i64)))), (.v (.a (.one (.pt 0 0)))), (.v (.a (.one (.pt 1 0))))], [(.rdb [(.int .i64)]), (.rdb [(.int .i64)])], [.int, .int, .int], [(.v (.a (.one .bool)))], [.keep, .keep], [.bool]⟩
noncomputable def impl_areWithin_1.ib (w_impl_within : Int → Int → Int → (Bool → Prop) → Prop) : FnI := ⟨Try.prog, [], [impl_within.g.ctr w_impl_within], 10, [.tmp 4], bodyOf Try.f112, .leaf, []⟩
noncomputable def impl_areWithin_1.i : FnI := impl_areWithin_1.ib impl_within.wp
noncomputable def impl_areWithin_1.bd (w_impl_within : Int → Int → Int → (Bool → Prop) → Prop) : Int → Int → Int → (Bool → Prop) → Prop := (impl_areWithin_1.ib w_impl_within).W impl_areWithin_1.g
noncomputable def impl_areWithin_1.wp : Int → Int → Int → (Bool → Prop) → Prop := impl_areWithin_1.bd impl_within.wp
noncomputable def impl_areWithin_1.c : Ctr := impl_areWithin_1.g.ctr impl_areWithin_1.wp

-- slices.IndexFunc[[]int64,int64]
noncomputable def slices_IndexFunc_int64_int64__areWithin_1.g : Sig := ⟨116, [(.v (.a (.one (.sl 0)))), (.v (.fn 112 [] [(.one (.pt 1 0)), (.one (.pt 2 0))]))], [(.rd (.I .i64)), (.rdb [(.int .i64)]), (.rdb [(.int .i64)])], [.li, .int, .int], [(.v (.a (.one (.int .i64))))], [.keep, .keep, .keep], [.int]⟩
noncomputable def slices_IndexFunc_int64_int64__areWithin_1.ib (w_impl_areWithin_1 : Int → Int → Int → (Bool → Prop) → Prop) : FnI := ⟨Try.prog, [], [impl_areWithin_1.g.ctr w_impl_areWithin_1], 19, [.tmp 4], bodyOf Try.f116, (.seq .leaf (.seq (.seq .leaf (.block (.loop ⟨[7, 8], [.int, .int], [(.v (.a (.one (.int .i64)))), (.v (.a (.one (.int .i64))))], [.keep, .keep, .keep]⟩ .leaf))) .leaf)), []⟩
noncomputable def slices_IndexFunc_int64_int64__areWithin_1.i : FnI := slices_IndexFunc_int64_int64__areWithin_1.ib impl_areWithin_1.wp
noncomputable def slices_IndexFunc_int64_int64__areWithin_1.bd (w_impl_areWithin_1 : Int → Int → Int → (Bool → Prop) → Prop) : List Int → Int → Int → (Int → Prop) → Prop := (slices_IndexFunc_int64_int64__areWithin_1.ib w_impl_areWithin_1).W slices_IndexFunc_int64_int64__areWithin_1.g
noncomputable def slices_IndexFunc_int64_int64__areWithin_1.wp : List Int → Int → Int → (Int → Prop) → Prop := slices_IndexFunc_int64_int64__areWithin_1.bd impl_areWithin_1.wp
noncomputable def slices_IndexFunc_int64_int64__areWithin_1.c : Ctr := slices_IndexFunc_int64_int64__areWithin_1.g.ctr slices_IndexFunc_int64_int64__areWithin_1.wp

-- slices.ContainsFunc[[]int64,int64]
noncomputable def slices_ContainsFunc_int64_int64__areWithin_1.g : Sig := ⟨111, [(.v (.a (.one (.sl 0)))), (.v (.fn 112 [] [(.one (.pt 1 0)), (.one (.pt 2 0))]))], [(.rd (.I .i64)), (.rdb [(.int .i64)]), (.rdb [(.int .i64)])], [.li, .int, .int], [(.v (.a (.one .bool)))], [.keep, .keep, .keep], [.bool]⟩
noncomputable def slices_ContainsFunc_int64_int64__areWithin_1.ib (w_slices_IndexFunc_int64_int64__areWithin_1 : List Int → Int → Int → (Int → Prop) → Prop) : FnI := ⟨Try.prog, [], [slices_IndexFunc_int64_int64__areWithin_1.g.ctr w_slices_IndexFunc_int64_int64__areWithin_1], 9, [.tmp 4], bodyOf Try.f111, .leaf, []⟩
noncomputable def slices_ContainsFunc_int64_int64__areWithin_1.i : FnI := slices_ContainsFunc_int64_int64__areWithin_1.ib slices_IndexFunc_int64_int64__areWithin_1.wp
noncomputable def slices_ContainsFunc_int64_int64__areWithin_1.bd (w_slices_IndexFunc_int64_int64__areWithin_1 : List Int → Int → Int → (Int → Prop) → Prop) : List Int → Int → Int → (Bool → Prop) → Prop := (slices_ContainsFunc_int64_int64__areWithin_1.ib w_slices_IndexFunc_int64_int64__areWithin_1).W slices_ContainsFunc_int64_int64__areWithin_1.g
noncomputable def slices_ContainsFunc_int64_int64__areWithin_1.wp : List Int → Int → Int → (Bool → Prop) → Prop := slices_ContainsFunc_int64_int64__areWithin_1.bd slices_IndexFunc_int64_int64__areWithin_1.wp
noncomputable def slices_ContainsFunc_int64_int64__areWithin_1.c : Ctr := slices_ContainsFunc_int64_int64__areWithin_1.g.ctr slices_ContainsFunc_int64_int64__areWithin_1.wp

-- loop.example/g01247/impl.areWithin
noncomputable def impl_areWithin.g : Sig := ⟨97, [(.v (.a (.one (.int .i64)))), (.v (.a (.one (.int .i64)))), (.v (.a (.one (.sl 0))))], [(.rd (.I .i64))], [.li, .int, .int], [(.v (.a (.one .bool)))], [.keep], [.bool]⟩
noncomputable def impl_areWithin.ib (w_slices_ContainsFunc_int64_int64__areWithin_1 : List Int → Int → Int → (Bool → Prop) → Prop) : FnI := ⟨Try.prog, [], [slices_ContainsFunc_int64_int64__areWithin_1.g.ctr w_slices_ContainsFunc_int64_int64__areWithin_1], 11, [.tmp 6], bodyOf Try.f97, .leaf, []⟩
noncomputable def impl_areWithin.i : FnI := impl_areWithin.ib slices_ContainsFunc_int64_int64__areWithin_1.wp
noncomputable def impl_areWithin.bd (w_slices_ContainsFunc_int64_int64__areWithin_1 : List Int → Int → Int → (Bool → Prop) → Prop) : List Int → Int → Int → (Bool → Prop) → Prop := (impl_areWithin.ib w_slices_ContainsFunc_int64_int64__areWithin_1).W impl_areWithin.g
noncomputable def impl_areWithin.wp : List Int → Int → Int → (Bool → Prop) → Prop := impl_areWithin.bd slices_ContainsFunc_int64_int64__areWithin_1.wp
noncomputable def impl_areWithin.c : Ctr := impl_areWithin.g.ctr impl_areWithin.wp

-- loop.example/g01247/impl.ValidField
noncomputable def impl_ValidField.g : Sig := ⟨73, [(.v (.a (.agg [(.int .i64), (.int .i64), .bool, (.sl 0)])))], [(.rd (.F .f32))], [.lf, .int, .int, .bool], [(.v (.a (.one .bool)))], [.keep], [.bool]⟩
noncomputable def impl_ValidField.ib (w_impl_areWithin : List Int → Int → Int → (Bool → Prop) → Prop) : FnI := ⟨Try.prog, [], [impl_areWithin.g.ctr w_impl_areWithin], 20, [.tmp 2], bodyOf Try.f73, .leaf, []⟩
noncomputable def impl_ValidField.i : FnI := impl_ValidField.ib impl_areWithin.wp
noncomputable def impl_ValidField.bd (w_impl_areWithin : List Int → Int → Int → (Bool → Prop) → Prop) : List Nat → Int → Int → Bool → (Bool → Prop) → Prop := (impl_ValidField.ib w_impl_areWithin).W impl_ValidField.g
noncomputable def impl_ValidField.wp : List Nat → Int → Int → Bool → (Bool → Prop) → Prop := impl_ValidField.bd impl_areWithin.wp
noncomputable def impl_ValidField.c : Ctr := impl_ValidField.g.ctr impl_ValidField.wp

-- loop.example/g01247/impl.alike
noncomputable def impl_alike.g : Sig := ⟨74, [(.v (.a (.agg [(.int .i64), (.int .i64), .bool, (.sl 0)]))), (.v (.a (.agg [(.int .i64), (.int .i64), .bool, (.sl 1)])))], [(.rd (.F .f32)), (.rd (.F .f32))], [.lf, .lf, .int, .int, .bool, .int, .int, .bool], [(.v (.a (.one .bool)))], [.keep, .keep], [.bool]⟩
noncomputable def impl_alike.ib  : FnI := ⟨Try.prog, [], [], 24, [.tmp 4], bodyOf Try.f74, .leaf, []⟩
noncomputable def impl_alike.i : FnI := impl_alike.ib 
noncomputable def impl_alike.bd  : List Nat → List Nat → Int → Int → Bool → Int → Int → Bool → (Bool → Prop) → Prop := (impl_alike.ib ).W impl_alike.g
noncomputable def impl_alike.wp : List Nat → List Nat → Int → Int → Bool → Int → Int → Bool → (Bool → Prop) → Prop := impl_alike.bd 
noncomputable def impl_alike.c : Ctr := impl_alike.g.ctr impl_alike.wp

-- math.IsNaN
noncomputable def math_IsNaN.g : Sig := ⟨99, [(.v (.a (.one (.flt .f64))))], [], [.flt], [(.v (.a (.one .bool)))], [], [.bool]⟩
noncomputable def math_IsNaN.ib  : FnI := ⟨Try.prog, [], [], 6, [.tmp 2], bodyOf Try.f99, .leaf, []⟩
noncomputable def math_IsNaN.i : FnI := math_IsNaN.ib 
noncomputable def math_IsNaN.bd  : Nat → (Bool → Prop) → Prop := (math_IsNaN.ib ).W math_IsNaN.g
noncomputable def math_IsNaN.wp : Nat → (Bool → Prop) → Prop := math_IsNaN.bd 
noncomputable def math_IsNaN.c : Ctr := math_IsNaN.g.ctr math_IsNaN.wp

-- math.IsInf
noncomputable def math_IsInf.g : Sig := ⟨100, [(.v (.a (.one (.flt .f64)))), (.v (.a (.one (.int .i64))))], [], [.flt, .int], [(.v (.a (.one .bool)))], [], [.bool]⟩
noncomputable def math_IsInf.ib (w_math_Abs : Nat → (Nat → Prop) → Prop) : FnI := ⟨Try.prog, [], [math_Abs.g.ctr w_math_Abs], 15, [.tmp 4], bodyOf Try.f100, .leaf, [0]⟩
noncomputable def math_IsInf.i : FnI := math_IsInf.ib math_Abs.wp
noncomputable def math_IsInf.bd (w_math_Abs : Nat → (Nat → Prop) → Prop) : Nat → Int → (Bool → Prop) → Prop := (math_IsInf.ib w_math_Abs).W math_IsInf.g
noncomputable def math_IsInf.wp : Nat → Int → (Bool → Prop) → Prop := math_IsInf.bd math_Abs.wp
noncomputable def math_IsInf.c : Ctr := math_IsInf.g.ctr math_IsInf.wp

-- loop.example/g01247/impl.finite
noncomputable def impl_finite.g : Sig := ⟨78, [(.v (.a (.one (.flt .f64))))], [], [.flt], [(.v (.a (.one .bool)))], [], [.bool]⟩
noncomputable def impl_finite.ib (w_math_IsNaN : Nat → (Bool → Prop) → Prop) (w_math_IsInf : Nat → Int → (Bool → Prop) → Prop) : FnI := ⟨Try.prog, [], [math_IsNaN.g.ctr w_math_IsNaN, math_IsInf.g.ctr w_math_IsInf], 11, [.tmp 2], bodyOf Try.f78, .leaf, []⟩
noncomputable def impl_finite.i : FnI := impl_finite.ib math_IsNaN.wp math_IsInf.wp
noncomputable def impl_finite.bd (w_math_IsNaN : Nat → (Bool → Prop) → Prop) (w_math_IsInf : Nat → Int → (Bool → Prop) → Prop) : Nat → (Bool → Prop) → Prop := (impl_finite.ib w_math_IsNaN w_math_IsInf).W impl_finite.g
noncomputable def impl_finite.wp : Nat → (Bool → Prop) → Prop := impl_finite.bd math_IsNaN.wp math_IsInf.wp
noncomputable def impl_finite.c : Ctr := impl_finite.g.ctr impl_finite.wp

-- loop.example/g01247/impl.IsFinite
noncomputable def impl_IsFinite.g : Sig := ⟨83, [(.v (.a (.one (.flt .f32))))], [], [.flt], [(.v (.a (.one .bool)))], [], [.bool]⟩
noncomputable def impl_IsFinite.ib (w_impl_finite : Nat → (Bool → Prop) → Prop) : FnI := ⟨Try.prog, [], [impl_finite.g.ctr w_impl_finite], 6, [.tmp 2], bodyOf Try.f83, .leaf, []⟩
noncomputable def impl_IsFinite.i : FnI := impl_IsFinite.ib impl_finite.wp
noncomputable def impl_IsFinite.bd (w_impl_finite : Nat → (Bool → Prop) → Prop) : Nat → (Bool → Prop) → Prop := (impl_IsFinite.ib w_impl_finite).W impl_IsFinite.g
noncomputable def impl_IsFinite.wp : Nat → (Bool → Prop) → Prop := impl_IsFinite.bd impl_finite.wp
noncomputable def impl_IsFinite.c : Ctr := impl_IsFinite.g.ctr impl_IsFinite.wp

-- loop.example/g01247/impl.areFinite$1
noncomputable def impl_areFinite_1.g : Sig := ⟨106, [(.v (.a (.one (.flt .f32))))], [], [.flt], [(.v (.a (.one .bool)))], [], [.bool]⟩
noncomputable def impl_areFinite_1.ib (w_impl_IsFinite : Nat → (Bool → Prop) → Prop) : FnI := ⟨Try.prog, [], [impl_IsFinite.g.ctr w_impl_IsFinite], 6, [.tmp 2], bodyOf Try.f106, .leaf, []⟩
noncomputable def impl_areFinite_1.i : FnI := impl_areFinite_1.ib impl_IsFinite.wp
noncomputable def impl_areFinite_1.bd (w_impl_IsFinite : Nat → (Bool → Prop) → Prop) : Nat → (Bool → Prop) → Prop := (impl_areFinite_1.ib w_impl_IsFinite).W impl_areFinite_1.g
noncomputable def impl_areFinite_1.wp : Nat → (Bool → Prop) → Prop := impl_areFinite_1.bd impl_IsFinite.wp
noncomputable def impl_areFinite_1.c : Ctr := impl_areFinite_1.g.ctr impl_areFinite_1.wp

-- slices.IndexFunc[[]float32,float32]
noncomputable def slices_IndexFunc_float32_float32__areFinite_1.g : Sig := ⟨98, [(.v (.a (.one (.sl 0)))), (.v (.fn 106 [] []))], [(.rd (.F .f32))], [.lf], [(.v (.a (.one (.int .i64))))], [.keep], [.int]⟩
noncomputable def slices_IndexFunc_float32_float32__areFinite_1.ib (w_impl_areFinite_1 : Nat → (Bool → Prop) → Prop) : FnI := ⟨Try.prog, [], [impl_areFinite_1.g.ctr w_impl_areFinite_1], 19, [.tmp 4], bodyOf Try.f98, (.seq .leaf (.seq (.seq .leaf (.block (.loop ⟨[7, 8], [.int, .int], [(.v (.a (.one (.int .i64)))), (.v (.a (.one (.int .i64))))], [.keep]⟩ .leaf))) .leaf)), []⟩
noncomputable def slices_IndexFunc_float32_float32__areFinite_1.i : FnI := slices_IndexFunc_float32_float32__areFinite_1.ib impl_areFinite_1.wp
noncomputable def slices_IndexFunc_float32_float32__areFinite_1.bd (w_impl_areFinite_1 : Nat → (Bool → Prop) → Prop) : List Nat → (Int → Prop) → Prop := (slices_IndexFunc_float32_float32__areFinite_1.ib w_impl_areFinite_1).W slices_IndexFunc_float32_float32__areFinite_1.g
noncomputable def slices_IndexFunc_float32_float32__areFinite_1.wp : List Nat → (Int → Prop) → Prop := slices_IndexFunc_float32_float32__areFinite_1.bd impl_areFinite_1.wp
noncomputable def slices_IndexFunc_float32_float32__areFinite_1.c : Ctr := slices_IndexFunc_float32_float32__areFinite_1.g.ctr slices_IndexFunc_float32_float32__areFinite_1.wp

-- slices.ContainsFunc[[]float32,float32]
noncomputable def slices_ContainsFunc_float32_float32__areFinite_1.g : Sig := ⟨76, [(.v (.a (.one (.sl 0)))), (.v (.fn 106 [] []))], [(.rd (.F .f32))], [.lf], [(.v (.a (.one .bool)))], [.keep], [.bool]⟩
noncomputable def slices_ContainsFunc_float32_float32__areFinite_1.ib (w_slices_IndexFunc_float32_float32__areFinite_1 : List Nat → (Int → Prop) → Prop) : FnI := ⟨Try.prog, [], [slices_IndexFunc_float32_float32__areFinite_1.g.ctr w_slices_IndexFunc_float32_float32__areFinite_1], 9, [.tmp 4], bodyOf Try.f76, .leaf, []⟩
noncomputable def slices_ContainsFunc_float32_float32__areFinite_1.i : FnI := slices_ContainsFunc_float32_float32__areFinite_1.ib slices_IndexFunc_float32_float32__areFinite_1.wp
noncomputable def slices_ContainsFunc_float32_float32__areFinite_1.bd (w_slices_IndexFunc_float32_float32__areFinite_1 : List Nat → (Int → Prop) → Prop) : List Nat → (Bool → Prop) → Prop := (slices_ContainsFunc_float32_float32__areFinite_1.ib w_slices_IndexFunc_float32_float32__areFinite_1).W slices_ContainsFunc_float32_float32__areFinite_1.g
noncomputable def slices_ContainsFunc_float32_float32__areFinite_1.wp : List Nat → (Bool → Prop) → Prop := slices_ContainsFunc_float32_float32__areFinite_1.bd slices_IndexFunc_float32_float32__areFinite_1.wp
noncomputable def slices_ContainsFunc_float32_float32__areFinite_1.c : Ctr := slices_ContainsFunc_float32_float32__areFinite_1.g.ctr slices_ContainsFunc_float32_float32__areFinite_1.wp

-- loop.example/g01247/impl.areFinite
noncomputable def impl_areFinite.g : Sig := ⟨89, [(.v (.a (.one (.sl 0))))], [(.rd (.F .f32))], [.lf], [(.v (.a (.one .bool)))], [.keep], [.bool]⟩
noncomputable def impl_areFinite.ib (w_slices_ContainsFunc_float32_float32__areFinite_1 : List Nat → (Bool → Prop) → Prop) : FnI := ⟨Try.prog, [], [slices_ContainsFunc_float32_float32__areFinite_1.g.ctr w_slices_ContainsFunc_float32_float32__areFinite_1], 6, [.tmp 2], bodyOf Try.f89, .leaf, []⟩
noncomputable def impl_areFinite.i : FnI := impl_areFinite.ib slices_ContainsFunc_float32_float32__areFinite_1.wp
noncomputable def impl_areFinite.bd (w_slices_ContainsFunc_float32_float32__areFinite_1 : List Nat → (Bool → Prop) → Prop) : List Nat → (Bool → Prop) → Prop := (impl_areFinite.ib w_slices_ContainsFunc_float32_float32__areFinite_1).W impl_areFinite.g
noncomputable def impl_areFinite.wp : List Nat → (Bool → Prop) → Prop := impl_areFinite.bd slices_ContainsFunc_float32_float32__areFinite_1.wp
noncomputable def impl_areFinite.c : Ctr := impl_areFinite.g.ctr impl_areFinite.wp

-- loop.example/g01247/impl.finiteField
noncomputable def impl_finiteField.g : Sig := ⟨75, [(.v (.a (.agg [(.int .i64), (.int .i64), .bool, (.sl 0)])))], [(.rd (.F .f32))], [.lf, .int, .int, .bool], [(.v (.a (.one .bool)))], [.keep], [.bool]⟩
noncomputable def impl_finiteField.ib (w_impl_areFinite : List Nat → (Bool → Prop) → Prop) : FnI := ⟨Try.prog, [], [impl_areFinite.g.ctr w_impl_areFinite], 6, [.tmp 2], bodyOf Try.f75, .leaf, []⟩
noncomputable def impl_finiteField.i : FnI := impl_finiteField.ib impl_areFinite.wp
noncomputable def impl_finiteField.bd (w_impl_areFinite : List Nat → (Bool → Prop) → Prop) : List Nat → Int → Int → Bool → (Bool → Prop) → Prop := (impl_finiteField.ib w_impl_areFinite).W impl_finiteField.g
noncomputable def impl_finiteField.wp : List Nat → Int → Int → Bool → (Bool → Prop) → Prop := impl_finiteField.bd impl_areFinite.wp
noncomputable def impl_finiteField.c : Ctr := impl_finiteField.g.ctr impl_finiteField.wp

-- loop.example/g01247/impl.ValidMelt$1
noncomputable def impl_ValidMelt_1.g : Sig := ⟨77, [(.v (.a (.one (.flt .f32))))], [], [.flt], [(.v (.a (.one .bool)))], [], [.bool]⟩
noncomputable def impl_ValidMelt_1.ib  : FnI := ⟨Try.prog, [], [], 10, [.tmp 2], bodyOf Try.f77, .leaf, []⟩
noncomputable def impl_ValidMelt_1.i : FnI := impl_ValidMelt_1.ib 
noncomputable def impl_ValidMelt_1.bd  : Nat → (Bool → Prop) → Prop := (impl_ValidMelt_1.ib ).W impl_ValidMelt_1.g
noncomputable def impl_ValidMelt_1.wp : Nat → (Bool → Prop) → Prop := impl_ValidMelt_1.bd 
noncomputable def impl_ValidMelt_1.c : Ctr := impl_ValidMelt_1.g.ctr impl_ValidMelt_1.wp

-- slices.IndexFunc[[]float32,float32]
noncomputable def slices_IndexFunc_float32_float32__ValidMelt_1.g : Sig := ⟨98, [(.v (.a (.one (.sl 0)))), (.v (.fn 77 [] []))], [(.rd (.F .f32))], [.lf], [(.v (.a (.one (.int .i64))))], [.keep], [.int]⟩
noncomputable def slices_IndexFunc_float32_float32__ValidMelt_1.ib (w_impl_ValidMelt_1 : Nat → (Bool → Prop) → Prop) : FnI := ⟨Try.prog, [], [impl_ValidMelt_1.g.ctr w_impl_ValidMelt_1], 19, [.tmp 4], bodyOf Try.f98, (.seq .leaf (.seq (.seq .leaf (.block (.loop ⟨[7, 8], [.int, .int], [(.v (.a (.one (.int .i64)))), (.v (.a (.one (.int .i64))))], [.keep]⟩ .leaf))) .leaf)), []⟩
noncomputable def slices_IndexFunc_float32_float32__ValidMelt_1.i : FnI := slices_IndexFunc_float32_float32__ValidMelt_1.ib impl_ValidMelt_1.wp
noncomputable def slices_IndexFunc_float32_float32__ValidMelt_1.bd (w_impl_ValidMelt_1 : Nat → (Bool → Prop) → Prop) : List Nat → (Int → Prop) → Prop := (slices_IndexFunc_float32_float32__ValidMelt_1.ib w_impl_ValidMelt_1).W slices_IndexFunc_float32_float32__ValidMelt_1.g
noncomputable def slices_IndexFunc_float32_float32__ValidMelt_1.wp : List Nat → (Int → Prop) → Prop := slices_IndexFunc_float32_float32__ValidMelt_1.bd impl_ValidMelt_1.wp
noncomputable def slices_IndexFunc_float32_float32__ValidMelt_1.c : Ctr := slices_IndexFunc_float32_float32__ValidMelt_1.g.ctr slices_IndexFunc_float32_float32__ValidMelt_1.wp

-- slices.ContainsFunc[[]float32,float32]
noncomputable def slices_ContainsFunc_float32_float32__ValidMelt_1.g : Sig := ⟨76, [(.v (.a (.one (.sl 0)))), (.v (.fn 77 [] []))], [(.rd (.F .f32))], [.lf], [(.v (.a (.one .bool)))], [.keep], [.bool]⟩
noncomputable def slices_ContainsFunc_float32_float32__ValidMelt_1.ib (w_slices_IndexFunc_float32_float32__ValidMelt_1 : List Nat → (Int → Prop) → Prop) : FnI := ⟨Try.prog, [], [slices_IndexFunc_float32_float32__ValidMelt_1.g.ctr w_slices_IndexFunc_float32_float32__ValidMelt_1], 9, [.tmp 4], bodyOf Try.f76, .leaf, []⟩
noncomputable def slices_ContainsFunc_float32_float32__ValidMelt_1.i : FnI := slices_ContainsFunc_float32_float32__ValidMelt_1.ib slices_IndexFunc_float32_float32__ValidMelt_1.wp
noncomputable def slices_ContainsFunc_float32_float32__ValidMelt_1.bd (w_slices_IndexFunc_float32_float32__ValidMelt_1 : List Nat → (Int → Prop) → Prop) : List Nat → (Bool → Prop) → Prop := (slices_ContainsFunc_float32_float32__ValidMelt_1.ib w_slices_IndexFunc_float32_float32__ValidMelt_1).W slices_ContainsFunc_float32_float32__ValidMelt_1.g
noncomputable def slices_ContainsFunc_float32_float32__ValidMelt_1.wp : List Nat → (Bool → Prop) → Prop := slices_ContainsFunc_float32_float32__ValidMelt_1.bd slices_IndexFunc_float32_float32__ValidMelt_1.wp
noncomputable def slices_ContainsFunc_float32_float32__ValidMelt_1.c : Ctr := slices_ContainsFunc_float32_float32__ValidMelt_1.g.ctr slices_ContainsFunc_float32_float32__ValidMelt_1.wp

-- loop.example/g01247/impl.aMass
noncomputable def impl_aMass.g : Sig := ⟨51, [(.v (.a (.one (.flt .f32))))], [], [.flt], [(.v (.a (.one .bool)))], [], [.bool]⟩
noncomputable def impl_aMass.ib (w_impl_IsFinite : Nat → (Bool → Prop) → Prop) : FnI := ⟨Try.prog, [], [impl_IsFinite.g.ctr w_impl_IsFinite], 9, [.tmp 2], bodyOf Try.f51, .leaf, []⟩
noncomputable def impl_aMass.i : FnI := impl_aMass.ib impl_IsFinite.wp
noncomputable def impl_aMass.bd (w_impl_IsFinite : Nat → (Bool → Prop) → Prop) : Nat → (Bool → Prop) → Prop := (impl_aMass.ib w_impl_IsFinite).W impl_aMass.g
noncomputable def impl_aMass.wp : Nat → (Bool → Prop) → Prop := impl_aMass.bd impl_IsFinite.wp
noncomputable def impl_aMass.c : Ctr := impl_aMass.g.ctr impl_aMass.wp

-- loop.example/g01247/impl.ValidMelt
noncomputable def impl_ValidMelt.g : Sig := ⟨38, [(.v (.a (.agg [(.int .i64), (.int .i64), .bool, (.sl 0), (.int .i64), (.int .i64), .bool, (.sl 1), (.flt .f32), (.flt .f32), (.flt .f32), (.flt .f32), (.flt .f32), (.int .i64)])))], [(.rd (.F .f32)), (.rd (.F .f32))], [.lf, .lf, .int, .int, .bool, .int, .int, .bool, .flt, .flt, .flt, .flt, .flt, .int], [(.v (.a (.one .bool)))], [.keep, .keep], [.bool]⟩
noncomputable def impl_ValidMelt.ib (w_impl_ValidField : List Nat → Int → Int → Bool → (Bool → Prop) → Prop) (w_impl_alike : List Nat → List Nat → Int → Int → Bool → Int → Int → Bool → (Bool → Prop) → Prop) (w_impl_finiteField : List Nat → Int → Int → Bool → (Bool → Prop) → Prop) (w_slices_ContainsFunc_float32_float32__ValidMelt_1 : List Nat → (Bool → Prop) → Prop) (w_impl_aMass : Nat → (Bool → Prop) → Prop) (w_impl_within : Int → Int → Int → (Bool → Prop) → Prop) : FnI := ⟨Try.prog, [], [impl_ValidField.g.ctr w_impl_ValidField, impl_alike.g.ctr w_impl_alike, impl_finiteField.g.ctr w_impl_finiteField, slices_ContainsFunc_float32_float32__ValidMelt_1.g.ctr w_slices_ContainsFunc_float32_float32__ValidMelt_1, impl_aMass.g.ctr w_impl_aMass, impl_within.g.ctr w_impl_within], 64, [.tmp 2], bodyOf Try.f38, (.seq .leaf (.seq .leaf (.seq .leaf (.seq (.seq .leaf (.block (.loop ⟨[1, 41, 42, 43], [.int, .int, .bool, .int, .int, .bool, .flt, .flt, .flt, .flt, .flt, .int, .lf, .int, .int], [(.v (.a (.one (.pt 2 0)))), (.v (.a (.one (.sl 3)))), (.v (.a (.one (.int .i64)))), (.v (.a (.one (.int .i64))))], [.keep, .keep, (.box 33 [(.int .i64), (.int .i64), .bool, (.sl 0), (.int .i64), (.int .i64), .bool, (.sl 1), (.flt .f32), (.flt .f32), (.flt .f32), (.flt .f32), (.flt .f32), (.int .i64)]), (.row 25 (.F .f32))]⟩ .leaf))) .leaf)))), []⟩
noncomputable def impl_ValidMelt.i : FnI := impl_ValidMelt.ib impl_ValidField.wp impl_alike.wp impl_finiteField.wp slices_ContainsFunc_float32_float32__ValidMelt_1.wp impl_aMass.wp impl_within.wp
noncomputable def impl_ValidMelt.bd (w_impl_ValidField : List Nat → Int → Int → Bool → (Bool → Prop) → Prop) (w_impl_alike : List Nat → List Nat → Int → Int → Bool → Int → Int → Bool → (Bool → Prop) → Prop) (w_impl_finiteField : List Nat → Int → Int → Bool → (Bool → Prop) → Prop) (w_slices_ContainsFunc_float32_float32__ValidMelt_1 : List Nat → (Bool → Prop) → Prop) (w_impl_aMass : Nat → (Bool → Prop) → Prop) (w_impl_within : Int → Int → Int → (Bool → Prop) → Prop) : List Nat → List Nat → Int → Int → Bool → Int → Int → Bool → Nat → Nat → Nat → Nat → Nat → Int → (Bool → Prop) → Prop := (impl_ValidMelt.ib w_impl_ValidField w_impl_alike w_impl_finiteField w_slices_ContainsFunc_float32_float32__ValidMelt_1 w_impl_aMass w_impl_within).W impl_ValidMelt.g
noncomputable def impl_ValidMelt.wp : List Nat → List Nat → Int → Int → Bool → Int → Int → Bool → Nat → Nat → Nat → Nat → Nat → Int → (Bool → Prop) → Prop := impl_ValidMelt.bd impl_ValidField.wp impl_alike.wp impl_finiteField.wp slices_ContainsFunc_float32_float32__ValidMelt_1.wp impl_aMass.wp impl_within.wp
noncomputable def impl_ValidMelt.c : Ctr := impl_ValidMelt.g.ctr impl_ValidMelt.wp

-- (loop.example/g01247/impl.Melt).isCell
noncomputable def impl_Melt_isCell.g : Sig := ⟨61, [(.v (.a (.agg [(.int .i64), (.int .i64), .bool, (.sl 0), (.int .i64), (.int .i64), .bool, (.sl 1), (.flt .f32), (.flt .f32), (.flt .f32), (.flt .f32), (.flt .f32), (.int .i64)]))), (.v (.a (.one (.int .i64)))), (.v (.a (.one (.int .i64))))], [(.rd (.F .f32)), (.rd (.F .f32))], [.lf, .lf, .int, .int, .bool, .int, .int, .bool, .flt, .flt, .flt, .flt, .flt, .int, .int, .int], [(.v (.a (.one .bool)))], [.keep, .keep], [.bool]⟩
noncomputable def impl_Melt_isCell.ib (w_impl_ValidMelt : List Nat → List Nat → Int → Int → Bool → Int → Int → Bool → Nat → Nat → Nat → Nat → Nat → Int → (Bool → Prop) → Prop) (w_impl_within : Int → Int → Int → (Bool → Prop) → Prop) : FnI := ⟨Try.prog, [], [impl_ValidMelt.g.ctr w_impl_ValidMelt, impl_within.g.ctr w_impl_within], 25, [.tmp 6], bodyOf Try.f61, .leaf, []⟩
noncomputable def impl_Melt_isCell.i : FnI := impl_Melt_isCell.ib impl_ValidMelt.wp impl_within.wp
noncomputable def impl_Melt_isCell.bd (w_impl_ValidMelt : List Nat → List Nat → Int → Int → Bool → Int → Int → Bool → Nat → Nat → Nat → Nat → Nat → Int → (Bool → Prop) → Prop) (w_impl_within : Int → Int → Int → (Bool → Prop) → Prop) : List Nat → List Nat → Int → Int → Bool → Int → Int → Bool → Nat → Nat → Nat → Nat → Nat → Int → Int → Int → (Bool → Prop) → Prop := (impl_Melt_isCell.ib w_impl_ValidMelt w_impl_within).W impl_Melt_isCell.g
noncomputable def impl_Melt_isCell.wp : List Nat → List Nat → Int → Int → Bool → Int → Int → Bool → Nat → Nat → Nat → Nat → Nat → Int → Int → Int → (Bool → Prop) → Prop := impl_Melt_isCell.bd impl_ValidMelt.wp impl_within.wp
noncomputable def impl_Melt_isCell.c : Ctr := impl_Melt_isCell.g.ctr impl_Melt_isCell.wp

-- loop.example/g01247/impl.place
noncomputable def impl_place.g : Sig := ⟨115, [(.v (.a (.one (.int .i64)))), (.v (.a (.one (.int .i64)))), (.v (.a (.one .bool)))], [], [.int, .int, .bool], [(.v (.a (.one (.int .i64))))], [], [.int]⟩
noncomputable def impl_place.ib  : FnI := ⟨Try.prog, [], [], 20, [.tmp 6], bodyOf Try.f115, .leaf, []⟩
noncomputable def impl_place.i : FnI := impl_place.ib 
noncomputable def impl_place.bd  : Int → Int → Bool → (Int → Prop) → Prop := (impl_place.ib ).W impl_place.g
noncomputable def impl_place.wp : Int → Int → Bool → (Int → Prop) → Prop := impl_place.bd 
noncomputable def impl_place.c : Ctr := impl_place.g.ctr impl_place.wp

-- (loop.example/g01247/impl.Field).cell
noncomputable def impl_Field_cell.g : Sig := ⟨107, [(.v (.a (.agg [(.int .i64), (.int .i64), .bool, (.sl 0)]))), (.v (.a (.one (.int .i64)))), (.v (.a (.one (.int .i64))))], [(.rd (.F .f32))], [.lf, .int, .int, .bool, .int, .int], [(.v (.a (.one (.int .i64))))], [.keep], [.int]⟩
noncomputable def impl_Field_cell.ib (w_impl_place : Int → Int → Bool → (Int → Prop) → Prop) : FnI := ⟨Try.prog, [], [impl_place.g.ctr w_impl_place], 23, [.tmp 6], bodyOf Try.f107, .leaf, []⟩
noncomputable def impl_Field_cell.i : FnI := impl_Field_cell.ib impl_place.wp
noncomputable def impl_Field_cell.bd (w_impl_place : Int → Int → Bool → (Int → Prop) → Prop) : List Nat → Int → Int → Bool → Int → Int → (Int → Prop) → Prop := (impl_Field_cell.ib w_impl_place).W impl_Field_cell.g
noncomputable def impl_Field_cell.wp : List Nat → Int → Int → Bool → Int → Int → (Int → Prop) → Prop := impl_Field_cell.bd impl_place.wp
noncomputable def impl_Field_cell.c : Ctr := impl_Field_cell.g.ctr impl_Field_cell.wp

-- (loop.example/g01247/impl.Field).about
noncomputable def impl_Field_about.g : Sig := ⟨92, [(.v (.a (.agg [(.int .i64), (.int .i64), .bool, (.sl 0)]))), (.v (.a (.one (.int .i64)))), (.v (.a (.one (.int .i64))))], [(.rd (.F .f32))], [.lf, .int, .int, .bool, .int, .int], [(.v (.a (.one (.flt .f32))))], [.keep], [.flt]⟩
noncomputable def impl_Field_about.ib (w_impl_Field_cell : List Nat → Int → Int → Bool → Int → Int → (Int → Prop) → Prop) : FnI := ⟨Try.prog, [], [impl_Field_cell.g.ctr w_impl_Field_cell], 15, [.tmp 6], bodyOf Try.f92, .leaf, []⟩
noncomputable def impl_Field_about.i : FnI := impl_Field_about.ib impl_Field_cell.wp
noncomputable def impl_Field_about.bd (w_impl_Field_cell : List Nat → Int → Int → Bool → Int → Int → (Int → Prop) → Prop) : List Nat → Int → Int → Bool → Int → Int → (Nat → Prop) → Prop := (impl_Field_about.ib w_impl_Field_cell).W impl_Field_about.g
noncomputable def impl_Field_about.wp : List Nat → Int → Int → Bool → Int → Int → (Nat → Prop) → Prop := impl_Field_about.bd impl_Field_cell.wp
noncomputable def impl_Field_about.c : Ctr := impl_Field_about.g.ctr impl_Field_about.wp

-- (loop.example/g01247/impl.Field).slopes
noncomputable def impl_Field_slopes.g : Sig := ⟨63, [(.v (.a (.agg [(.int .i64), (.int .i64), .bool, (.sl 0)]))), (.v (.a (.one (.int .i64)))), (.v (.a (.one (.int .i64))))], [(.rd (.F .f32))], [.lf, .int, .int, .bool, .int, .int], [(.tup [(.a (.one (.flt .f32))), (.a (.one (.flt .f32)))])], [.keep], [.flt, .flt]⟩
noncomputable def impl_Field_slopes.ib (w_impl_Field_about : List Nat → Int → Int → Bool → Int → Int → (Nat → Prop) → Prop) : FnI := ⟨Try.prog, [], [impl_Field_about.g.ctr w_impl_Field_about], 32, [.tmp 6, .tmp 7], bodyOf Try.f63, .leaf, []⟩
noncomputable def impl_Field_slopes.i : FnI := impl_Field_slopes.ib impl_Field_about.wp
noncomputable def impl_Field_slopes.bd (w_impl_Field_about : List Nat → Int → Int → Bool → Int → Int → (Nat → Prop) → Prop) : List Nat → Int → Int → Bool → Int → Int → (Nat → Nat → Prop) → Prop := (impl_Field_slopes.ib w_impl_Field_about).W impl_Field_slopes.g
noncomputable def impl_Field_slopes.wp : List Nat → Int → Int → Bool → Int → Int → (Nat → Nat → Prop) → Prop := impl_Field_slopes.bd impl_Field_about.wp
noncomputable def impl_Field_slopes.c : Ctr := impl_Field_slopes.g.ctr impl_Field_slopes.wp

-- loop.example/g01247/impl.angle
noncomputable def impl_angle.g : Sig := ⟨84, [(.v (.a (.one (.flt .f64)))), (.v (.a (.one (.flt .f64))))], [], [.flt, .flt], [(.v (.a (.one (.flt .f64))))], [], [.flt]⟩
noncomputable def impl_angle.ib (w_math_Abs : Nat → (Nat → Prop) → Prop) (w_math_Sqrt : Nat → (Nat → Prop) → Prop) : FnI := ⟨Try.prog, [], [math_Abs.g.ctr w_math_Abs, math_Sqrt.g.ctr w_math_Sqrt], 69, [.tmp 4], bodyOf Try.f84, (.seq .leaf (.seq .leaf (.seq .leaf (.seq (.seq .leaf (.condJ ⟨[5, 6, 7], [.flt, .flt, .flt], [(.v (.a (.one (.flt .f64)))), (.v (.a (.one (.flt .f64)))), (.v (.a (.one (.flt .f64))))], []⟩ .leaf .leaf)) (.seq (.seq .leaf (.block (.loop ⟨[5, 6, 7, 25], [.flt, .flt, .flt, .int], [(.v (.a (.one (.flt .f64)))), (.v (.a (.one (.flt .f64)))), (.v (.a (.one (.flt .f64)))), (.v (.a (.one (.int .i64))))], []⟩ .leaf))) (.seq .leaf (.seq (.seq .leaf (.block (.loop ⟨[5, 6, 7, 8, 9, 10], [.flt, .flt, .flt, .flt, .flt, .int], [(.v (.a (.one (.flt .f64)))), (.v (.a (.one (.flt .f64)))), (.v (.a (.one (.flt .f64)))), (.v (.a (.one (.flt .f64)))), (.v (.a (.one (.flt .f64)))), (.v (.a (.one (.int .i64))))], []⟩ .leaf))) .leaf))))))), []⟩
noncomputable def impl_angle.i : FnI := impl_angle.ib math_Abs.wp math_Sqrt.wp
noncomputable def impl_angle.bd (w_math_Abs : Nat → (Nat → Prop) → Prop) (w_math_Sqrt : Nat → (Nat → Prop) → Prop) : Nat → Nat → (Nat → Prop) → Prop := (impl_angle.ib w_math_Abs w_math_Sqrt).W impl_angle.g
noncomputable def impl_angle.wp : Nat → Nat → (Nat → Prop) → Prop := impl_angle.bd math_Abs.wp math_Sqrt.wp
noncomputable def impl_angle.c : Ctr := impl_angle.g.ctr impl_angle.wp

-- loop.example/g01247/impl.AngleTurns
noncomputable def impl_AngleTurns.g : Sig := ⟨43, [(.v (.a (.one (.flt .f32)))), (.v (.a (.one (.flt .f32))))], [], [.flt, .flt], [(.v (.a (.one (.flt .f32))))], [], [.flt]⟩
noncomputable def impl_AngleTurns.ib (w_impl_IsFinite : Nat → (Bool → Prop) → Prop) (w_math_NaN : (Nat → Prop) → Prop) (w_impl_angle : Nat → Nat → (Nat → Prop) → Prop) : FnI := ⟨Try.prog, [], [impl_IsFinite.g.ctr w_impl_IsFinite, math_NaN.g.ctr w_math_NaN, impl_angle.g.ctr w_impl_angle], 29, [.tmp 4], bodyOf Try.f43, .leaf, []⟩
noncomputable def impl_AngleTurns.i : FnI := impl_AngleTurns.ib impl_IsFinite.wp math_NaN.wp impl_angle.wp
noncomputable def impl_AngleTurns.bd (w_impl_IsFinite : Nat → (Bool → Prop) → Prop) (w_math_NaN : (Nat → Prop) → Prop) (w_impl_angle : Nat → Nat → (Nat → Prop) → Prop) : Nat → Nat → (Nat → Prop) → Prop := (impl_AngleTurns.ib w_impl_IsFinite w_math_NaN w_impl_angle).W impl_AngleTurns.g
noncomputable def impl_AngleTurns.wp : Nat → Nat → (Nat → Prop) → Prop := impl_AngleTurns.bd impl_IsFinite.wp math_NaN.wp impl_angle.wp
noncomputable def impl_AngleTurns.c : Ctr := impl_AngleTurns.g.ctr impl_AngleTurns.wp

-- (loop.example/g01247/impl.Melt).turn
noncomputable def impl_Melt_turn.g : Sig := ⟨28, [(.v (.a (.agg [(.int .i64), (.int .i64), .bool, (.sl 0), (.int .i64), (.int .i64), .bool, (.sl 1), (.flt .f32), (.flt .f32), (.flt .f32), (.flt .f32), (.flt .f32), (.int .i64)]))), (.v (.a (.one (.int .i64)))), (.v (.a (.one (.int .i64))))], [(.rd (.F .f32)), (.rd (.F .f32))], [.lf, .lf, .int, .int, .bool, .int, .int, .bool, .flt, .flt, .flt, .flt, .flt, .int, .int, .int], [(.v (.a (.one (.flt .f32))))], [.keep, .keep], [.flt]⟩
noncomputable def impl_Melt_turn.ib (w_impl_Field_slopes : List Nat → Int → Int → Bool → Int → Int → (Nat → Nat → Prop) → Prop) (w_impl_AngleTurns : Nat → Nat → (Nat → Prop) → Prop) : FnI := ⟨Try.prog, [], [impl_Field_slopes.g.ctr w_impl_Field_slopes, impl_AngleTurns.g.ctr w_impl_AngleTurns], 20, [.tmp 6], bodyOf Try.f28, .leaf, []⟩
noncomputable def impl_Melt_turn.i : FnI := impl_Melt_turn.ib impl_Field_slopes.wp impl_AngleTurns.wp
noncomputable def impl_Melt_turn.bd (w_impl_Field_slopes : List Nat → Int → Int → Bool → Int → Int → (Nat → Nat → Prop) → Prop) (w_impl_AngleTurns : Nat → Nat → (Nat → Prop) → Prop) : List Nat → List Nat → Int → Int → Bool → Int → Int → Bool → Nat → Nat → Nat → Nat → Nat → Int → Int → Int → (Nat → Prop) → Prop := (impl_Melt_turn.ib w_impl_Field_slopes w_impl_AngleTurns).W impl_Melt_turn.g
noncomputable def impl_Melt_turn.wp : List Nat → List Nat → Int → Int → Bool → Int → Int → Bool → Nat → Nat → Nat → Nat → Nat → Int → Int → Int → (Nat → Prop) → Prop := impl_Melt_turn.bd impl_Field_slopes.wp impl_AngleTurns.wp
noncomputable def impl_Melt_turn.c : Ctr := impl_Melt_turn.g.ctr impl_Melt_turn.wp

-- loop.example/g01247/impl.told
noncomputable def impl_told.g : Sig := ⟨62, [(.v (.a (.one (.flt .f32))))], [], [.flt], [(.tup [(.a (.one (.flt .f32))), (.a (.one .bool))])], [], [.flt, .bool]⟩
noncomputable def impl_told.ib (w_impl_IsFinite : Nat → (Bool → Prop) → Prop) : FnI := ⟨Try.prog, [], [impl_IsFinite.g.ctr w_impl_IsFinite], 8, [.tmp 2, .tmp 3], bodyOf Try.f62, .leaf, []⟩
noncomputable def impl_told.i : FnI := impl_told.ib impl_IsFinite.wp
noncomputable def impl_told.bd (w_impl_IsFinite : Nat → (Bool → Prop) → Prop) : Nat → (Nat → Bool → Prop) → Prop := (impl_told.ib w_impl_IsFinite).W impl_told.g
noncomputable def impl_told.wp : Nat → (Nat → Bool → Prop) → Prop := impl_told.bd impl_IsFinite.wp
noncomputable def impl_told.c : Ctr := impl_told.g.ctr impl_told.wp

-- (loop.example/g01247/impl.Melt).toldAt
noncomputable def impl_Melt_toldAt__Melt_turn.g : Sig := ⟨27, [(.v (.a (.agg [(.int .i64), (.int .i64), .bool, (.sl 0), (.int .i64), (.int .i64), .bool, (.sl 1), (.flt .f32), (.flt .f32), (.flt .f32), (.flt .f32), (.flt .f32), (.int .i64)]))), (.v (.a (.one (.int .i64)))), (.v (.a (.one (.int .i64)))), (.v (.fn 28 [(.agg [(.int .i64), (.int .i64), .bool, (.sl 2), (.int .i64), (.int .i64), .bool, (.sl 3), (.flt .f32), (.flt .f32), (.flt .f32), (.flt .f32), (.flt .f32), (.int .i64)])] []))], [(.rd (.F .f32)), (.rd (.F .f32)), (.rd (.F .f32)), (.rd (.F .f32))], [.lf, .lf, .lf, .lf, .int, .int, .bool, .int, .int, .bool, .flt, .flt, .flt, .flt, .flt, .int, .int, .int, .int, .int, .bool, .int, .int, .bool, .flt, .flt, .flt, .flt, .flt, .int], [(.tup [(.a (.one (.flt .f32))), (.a (.one .bool))])], [.keep, .keep, .keep, .keep], [.flt, .bool]⟩
noncomputable def impl_Melt_toldAt__Melt_turn.ib (w_impl_Melt_isCell : List Nat → List Nat → Int → Int → Bool → Int → Int → Bool → Nat → Nat → Nat → Nat → Nat → Int → Int → Int → (Bool → Prop) → Prop) (w_impl_Melt_turn : List Nat → List Nat → Int → Int → Bool → Int → Int → Bool → Nat → Nat → Nat → Nat → Nat → Int → Int → Int → (Nat → Prop) → Prop) (w_impl_told : Nat → (Nat → Bool → Prop) → Prop) : FnI := ⟨Try.prog, [], [impl_Melt_isCell.g.ctr w_impl_Melt_isCell, impl_Melt_turn.g.ctr w_impl_Melt_turn, impl_told.g.ctr w_impl_told], 22, [.tmp 8, .tmp 9], bodyOf Try.f27, .leaf, []⟩
noncomputable def impl_Melt_toldAt__Melt_turn.i : FnI := impl_Melt_toldAt__Melt_turn.ib impl_Melt_isCell.wp impl_Melt_turn.wp impl_told.wp
noncomputable def impl_Melt_toldAt__Melt_turn.bd (w_impl_Melt_isCell : List Nat → List Nat → Int → Int → Bool → Int → Int → Bool → Nat → Nat → Nat → Nat → Nat → Int → Int → Int → (Bool → Prop) → Prop) (w_impl_Melt_turn : List Nat → List Nat → Int → Int → Bool → Int → Int → Bool → Nat → Nat → Nat → Nat → Nat → Int → Int → Int → (Nat → Prop) → Prop) (w_impl_told : Nat → (Nat → Bool → Prop) → Prop) : List Nat → List Nat → List Nat → List Nat → Int → Int → Bool → Int → Int → Bool → Nat → Nat → Nat → Nat → Nat → Int → Int → Int → Int → Int → Bool → Int → Int → Bool → Nat → Nat → Nat → Nat → Nat → Int → (Nat → Bool → Prop) → Prop := (impl_Melt_toldAt__Melt_turn.ib w_impl_Melt_isCell w_impl_Melt_turn w_impl_told).W impl_Melt_toldAt__Melt_turn.g
noncomputable def impl_Melt_toldAt__Melt_turn.wp : List Nat → List Nat → List Nat → List Nat → Int → Int → Bool → Int → Int → Bool → Nat → Nat → Nat → Nat → Nat → Int → Int → Int → Int → Int → Bool → Int → Int → Bool → Nat → Nat → Nat → Nat → Nat → Int → (Nat → Bool → Prop) → Prop := impl_Melt_toldAt__Melt_turn.bd impl_Melt_isCell.wp impl_Melt_turn.wp impl_told.wp
noncomputable def impl_Melt_toldAt__Melt_turn.c : Ctr := impl_Melt_toldAt__Melt_turn.g.ctr impl_Melt_toldAt__Melt_turn.wp

-- loop.example/g01247/impl.TurnAt
noncomputable def impl_TurnAt.g : Sig := ⟨10, [(.v (.a (.agg [(.int .i64), (.int .i64), .bool, (.sl 0), (.int .i64), (.int .i64), .bool, (.sl 1), (.flt .f32), (.flt .f32), (.flt .f32), (.flt .f32), (.flt .f32), (.int .i64)]))), (.v (.a (.one (.int .i64)))), (.v (.a (.one (.int .i64))))], [(.rd (.F .f32)), (.rd (.F .f32))], [.lf, .lf, .int, .int, .bool, .int, .int, .bool, .flt, .flt, .flt, .flt, .flt, .int, .int, .int], [(.tup [(.a (.one (.flt .f32))), (.a (.one .bool))])], [.keep, .keep], [.flt, .bool]⟩
noncomputable def impl_TurnAt.ib (w_impl_Melt_toldAt__Melt_turn : List Nat → List Nat → List Nat → List Nat → Int → Int → Bool → Int → Int → Bool → Nat → Nat → Nat → Nat → Nat → Int → Int → Int → Int → Int → Bool → Int → Int → Bool → Nat → Nat → Nat → Nat → Nat → Int → (Nat → Bool → Prop) → Prop) : FnI := ⟨Try.prog, [], [impl_Melt_toldAt__Melt_turn.g.ctr w_impl_Melt_toldAt__Melt_turn], 16, [.tmp 6, .tmp 7], bodyOf Try.f10, .leaf, []⟩
noncomputable def impl_TurnAt.i : FnI := impl_TurnAt.ib impl_Melt_toldAt__Melt_turn.wp
noncomputable def impl_TurnAt.bd (w_impl_Melt_toldAt__Melt_turn : List Nat → List Nat → List Nat → List Nat → Int → Int → Bool → Int → Int → Bool → Nat → Nat → Nat → Nat → Nat → Int → Int → Int → Int → Int → Bool → Int → Int → Bool → Nat → Nat → Nat → Nat → Nat → Int → (Nat → Bool → Prop) → Prop) : List Nat → List Nat → Int → Int → Bool → Int → Int → Bool → Nat → Nat → Nat → Nat → Nat → Int → Int → Int → (Nat → Bool → Prop) → Prop := (impl_TurnAt.ib w_impl_Melt_toldAt__Melt_turn).W impl_TurnAt.g
noncomputable def impl_TurnAt.wp : List Nat → List Nat → Int → Int → Bool → Int → Int → Bool → Nat → Nat → Nat → Nat → Nat → Int → Int → Int → (Nat → Bool → Prop) → Prop := impl_TurnAt.bd impl_Melt_toldAt__Melt_turn.wp
noncomputable def impl_TurnAt.c : Ctr := impl_TurnAt.g.ctr impl_TurnAt.wp

-- loop.example/g01247/laws.sameFloat
noncomputable def laws_sameFloat.g : Sig := ⟨11, [(.v (.a (.one (.flt .f64)))), (.v (.a (.one (.flt .f64))))], [], [.flt, .flt], [(.v (.a (.one .bool)))], [], [.bool]⟩
noncomputable def laws_sameFloat.ib  : FnI := ⟨Try.prog, [], [], 37, [.tmp 4], bodyOf Try.f11, .leaf, []⟩
noncomputable def laws_sameFloat.i : FnI := laws_sameFloat.ib 
noncomputable def laws_sameFloat.bd  : Nat → Nat → (Bool → Prop) → Prop := (laws_sameFloat.ib ).W laws_sameFloat.g
noncomputable def laws_sameFloat.wp : Nat → Nat → (Bool → Prop) → Prop := laws_sameFloat.bd 
noncomputable def laws_sameFloat.c : Ctr := laws_sameFloat.g.ctr laws_sameFloat.wp

-- loop.example/g01247/laws.eqFloat32S
noncomputable def laws_eqFloat32S.g : Sig := ⟨64, [(.v (.a (.one (.sl 0)))), (.v (.a (.one (.sl 1))))], [(.rd (.F .f32)), (.rd (.F .f32))], [.lf, .lf], [(.v (.a (.one .bool)))], [.keep, .keep], [.bool]⟩
noncomputable def laws_eqFloat32S.ib (w_laws_sameFloat : Nat → Nat → (Bool → Prop) → Prop) : FnI := ⟨Try.prog, [], [laws_sameFloat.g.ctr w_laws_sameFloat], 29, [.tmp 4], bodyOf Try.f64, (.seq .leaf (.seq .leaf (.seq (.seq .leaf (.block (.loop ⟨[5], [.int], [(.v (.a (.one (.int .i64))))], [.keep, .keep]⟩ .leaf))) .leaf))), []⟩
noncomputable def laws_eqFloat32S.i : FnI := laws_eqFloat32S.ib laws_sameFloat.wp
noncomputable def laws_eqFloat32S.bd (w_laws_sameFloat : Nat → Nat → (Bool → Prop) → Prop) : List Nat → List Nat → (Bool → Prop) → Prop := (laws_eqFloat32S.ib w_laws_sameFloat).W laws_eqFloat32S.g
noncomputable def laws_eqFloat32S.wp : List Nat → List Nat → (Bool → Prop) → Prop := laws_eqFloat32S.bd laws_sameFloat.wp
noncomputable def laws_eqFloat32S.c : Ctr := laws_eqFloat32S.g.ctr laws_eqFloat32S.wp

-- loop.example/g01247/laws.eqField
noncomputable def laws_eqField.g : Sig := ⟨29, [(.v (.a (.agg [(.int .i64), (.int .i64), .bool, (.sl 0)]))), (.v (.a (.agg [(.int .i64), (.int .i64), .bool, (.sl 1)])))], [(.rd (.F .f32)), (.rd (.F .f32))], [.lf, .lf, .int, .int, .bool, .int, .int, .bool], [(.v (.a (.one .bool)))], [.keep, .keep], [.bool]⟩
noncomputable def laws_eqField.ib (w_laws_eqFloat32S : List Nat → List Nat → (Bool → Prop) → Prop) : FnI := ⟨Try.prog, [], [laws_eqFloat32S.g.ctr w_laws_eqFloat32S], 26, [.tmp 4], bodyOf Try.f29, .leaf, []⟩
noncomputable def laws_eqField.i : FnI := laws_eqField.ib laws_eqFloat32S.wp
noncomputable def laws_eqField.bd (w_laws_eqFloat32S : List Nat → List Nat → (Bool → Prop) → Prop) : List Nat → List Nat → Int → Int → Bool → Int → Int → Bool → (Bool → Prop) → Prop := (laws_eqField.ib w_laws_eqFloat32S).W laws_eqField.g
noncomputable def laws_eqField.wp : List Nat → List Nat → Int → Int → Bool → Int → Int → Bool → (Bool → Prop) → Prop := laws_eqField.bd laws_eqFloat32S.wp
noncomputable def laws_eqField.c : Ctr := laws_eqField.g.ctr laws_eqField.wp

-- loop.example/g01247/laws.eqMelt
noncomputable def laws_eqMelt.g : Sig := ⟨12, [(.v (.a (.agg [(.int .i64), (.int .i64), .bool, (.sl 0), (.int .i64), (.int .i64), .bool, (.sl 1), (.flt .f32), (.flt .f32), (.flt .f32), (.flt .f32), (.flt .f32), (.int .i64)]))), (.v (.a (.agg [(.int .i64), (.int .i64), .bool, (.sl 2), (.int .i64), (.int .i64), .bool, (.sl 3), (.flt .f32), (.flt .f32), (.flt .f32), (.flt .f32), (.flt .f32), (.int .i64)])))], [(.rd (.F .f32)), (.rd (.F .f32)), (.rd (.F .f32)), (.rd (.F .f32))], [.lf, .lf, .lf, .lf, .int, .int, .bool, .int, .int, .bool, .flt, .flt, .flt, .flt, .flt, .int, .int, .int, .bool, .int, .int, .bool, .flt, .flt, .flt, .flt, .flt, .int], [(.v (.a (.one .bool)))], [.keep, .keep, .keep, .keep], [.bool]⟩
noncomputable def laws_eqMelt.ib (w_laws_eqField : List Nat → List Nat → Int → Int → Bool → Int → Int → Bool → (Bool → Prop) → Prop) (w_laws_sameFloat : Nat → Nat → (Bool → Prop) → Prop) : FnI := ⟨Try.prog, [], [laws_eqField.g.ctr w_laws_eqField, laws_sameFloat.g.ctr w_laws_sameFloat], 62, [.tmp 4], bodyOf Try.f12, .leaf, []⟩
noncomputable def laws_eqMelt.i : FnI := laws_eqMelt.ib laws_eqField.wp laws_sameFloat.wp
noncomputable def laws_eqMelt.bd (w_laws_eqField : List Nat → List Nat → Int → Int → Bool → Int → Int → Bool → (Bool → Prop) → Prop) (w_laws_sameFloat : Nat → Nat → (Bool → Prop) → Prop) : List Nat → List Nat → List Nat → List Nat → Int → Int → Bool → Int → Int → Bool → Nat → Nat → Nat → Nat → Nat → Int → Int → Int → Bool → Int → Int → Bool → Nat → Nat → Nat → Nat → Nat → Int → (Bool → Prop) → Prop := (laws_eqMelt.ib w_laws_eqField w_laws_sameFloat).W laws_eqMelt.g
noncomputable def laws_eqMelt.wp : List Nat → List Nat → List Nat → List Nat → Int → Int → Bool → Int → Int → Bool → Nat → Nat → Nat → Nat → Nat → Int → Int → Int → Bool → Int → Int → Bool → Nat → Nat → Nat → Nat → Nat → Int → (Bool → Prop) → Prop := laws_eqMelt.bd laws_eqField.wp laws_sameFloat.wp
noncomputable def laws_eqMelt.c : Ctr := laws_eqMelt.g.ctr laws_eqMelt.wp

-- loop.example/g01247/laws.FnExactTurnAt
noncomputable def laws_FnExactTurnAt.g : Sig := ⟨3, [(.v (.a (.agg [(.int .i64), (.int .i64), .bool, (.sl 0), (.int .i64), (.int .i64), .bool, (.sl 1), (.flt .f32), (.flt .f32), (.flt .f32), (.flt .f32), (.flt .f32), (.int .i64)]))), (.v (.a (.one (.int .i64)))), (.v (.a (.one (.int .i64))))], [(.rd (.F .f32)), (.rd (.F .f32))], [.lf, .lf, .int, .int, .bool, .int, .int, .bool, .flt, .flt, .flt, .flt, .flt, .int, .int, .int], [(.v (.a (.one .bool)))], [.keep, .keep], [.bool]⟩
noncomputable def laws_FnExactTurnAt.ib (w_laws_szMelt : List Nat → List Nat → Int → Int → Bool → Int → Int → Bool → Nat → Nat → Nat → Nat → Nat → Int → Int → (Int → Prop) → Prop) (w_laws_toMelt : List Nat → List Nat → Int → Int → Bool → Int → Int → Bool → Nat → Nat → Nat → Nat → Nat → Int → (List Nat → List Nat → Int → Int → Bool → Int → Int → Bool → Nat → Nat → Nat → Nat → Nat → Int → Prop) → Prop) (w_spec_TurnAt : List Nat → List Nat → Int → Int → Bool → Int → Int → Bool → Nat → Nat → Nat → Nat → Nat → Int → Int → Int → (Nat → Bool → Prop) → Prop) (w_impl_TurnAt : List Nat → List Nat → Int → Int → Bool → Int → Int → Bool → Nat → Nat → Nat → Nat → Nat → Int → Int → Int → (Nat → Bool → Prop) → Prop) (w_laws_sameFloat : Nat → Nat → (Bool → Prop) → Prop) (w_laws_eqMelt : List Nat → List Nat → List Nat → List Nat → Int → Int → Bool → Int → Int → Bool → Nat → Nat → Nat → Nat → Nat → Int → Int → Int → Bool → Int → Int → Bool → Nat → Nat → Nat → Nat → Nat → Int → (Bool → Prop) → Prop) : FnI := ⟨Try.prog, [], [laws_szMelt.g.ctr w_laws_szMelt, laws_toMelt.g.ctr w_laws_toMelt, spec_TurnAt.g.ctr w_spec_TurnAt, impl_TurnAt.g.ctr w_impl_TurnAt, laws_sameFloat.g.ctr w_laws_sameFloat, laws_eqMelt.g.ctr w_laws_eqMelt], 51, [.tmp 6], bodyOf Try.f3, .leaf, []⟩
noncomputable def laws_FnExactTurnAt.i : FnI := laws_FnExactTurnAt.ib laws_szMelt.wp laws_toMelt.wp spec_TurnAt.wp impl_TurnAt.wp laws_sameFloat.wp laws_eqMelt.wp
noncomputable def laws_FnExactTurnAt.bd (w_laws_szMelt : List Nat → List Nat → Int → Int → Bool → Int → Int → Bool → Nat → Nat → Nat → Nat → Nat → Int → Int → (Int → Prop) → Prop) (w_laws_toMelt : List Nat → List Nat → Int → Int → Bool → Int → Int → Bool → Nat → Nat → Nat → Nat → Nat → Int → (List Nat → List Nat → Int → Int → Bool → Int → Int → Bool → Nat → Nat → Nat → Nat → Nat → Int → Prop) → Prop) (w_spec_TurnAt : List Nat → List Nat → Int → Int → Bool → Int → Int → Bool → Nat → Nat → Nat → Nat → Nat → Int → Int → Int → (Nat → Bool → Prop) → Prop) (w_impl_TurnAt : List Nat → List Nat → Int → Int → Bool → Int → Int → Bool → Nat → Nat → Nat → Nat → Nat → Int → Int → Int → (Nat → Bool → Prop) → Prop) (w_laws_sameFloat : Nat → Nat → (Bool → Prop) → Prop) (w_laws_eqMelt : List Nat → List Nat → List Nat → List Nat → Int → Int → Bool → Int → Int → Bool → Nat → Nat → Nat → Nat → Nat → Int → Int → Int → Bool → Int → Int → Bool → Nat → Nat → Nat → Nat → Nat → Int → (Bool → Prop) → Prop) : List Nat → List Nat → Int → Int → Bool → Int → Int → Bool → Nat → Nat → Nat → Nat → Nat → Int → Int → Int → (Bool → Prop) → Prop := (laws_FnExactTurnAt.ib w_laws_szMelt w_laws_toMelt w_spec_TurnAt w_impl_TurnAt w_laws_sameFloat w_laws_eqMelt).W laws_FnExactTurnAt.g
noncomputable def laws_FnExactTurnAt.wp : List Nat → List Nat → Int → Int → Bool → Int → Int → Bool → Nat → Nat → Nat → Nat → Nat → Int → Int → Int → (Bool → Prop) → Prop := laws_FnExactTurnAt.bd laws_szMelt.wp laws_toMelt.wp spec_TurnAt.wp impl_TurnAt.wp laws_sameFloat.wp laws_eqMelt.wp
noncomputable def laws_FnExactTurnAt.c : Ctr := laws_FnExactTurnAt.g.ctr laws_FnExactTurnAt.wp

-- loop.example/g01247/spec.l01SineWide
noncomputable def spec_l01SineWide.g : Sig := ⟨70, [(.v (.a (.one (.flt .f64))))], [], [.flt], [(.v (.a (.one (.flt .f64))))], [], [.flt]⟩
noncomputable def spec_l01SineWide.ib (w_math_NaN : (Nat → Prop) → Prop) : FnI := ⟨Try.prog, [], [math_NaN.g.ctr w_math_NaN], 67, [.tmp 2], bodyOf Try.f70, (.seq .leaf (.seq .leaf (.seq .leaf (.seq .leaf (.seq (.seq .leaf (.condJ ⟨[3], [.flt], [(.v (.a (.one (.flt .f64))))], []⟩ .leaf .leaf)) (.seq .leaf (.seq (.seq .leaf (.condJ ⟨[3, 4], [.flt, .bool], [(.v (.a (.one (.flt .f64)))), (.v (.a (.one .bool)))], []⟩ .leaf .leaf)) (.seq (.seq .leaf (.condJ ⟨[3, 4], [.flt, .bool], [(.v (.a (.one (.flt .f64)))), (.v (.a (.one .bool)))], []⟩ .leaf .leaf)) (.seq .leaf (.seq .leaf (.seq .leaf (.seq (.seq .leaf (.block (.loop ⟨[4, 5, 6, 7, 8], [.bool, .flt, .flt, .flt, .int], [(.v (.a (.one .bool))), (.v (.a (.one (.flt .f64)))), (.v (.a (.one (.flt .f64)))), (.v (.a (.one (.flt .f64)))), (.v (.a (.one (.int .i64))))], []⟩ .leaf))) .leaf)))))))))))), []⟩
noncomputable def spec_l01SineWide.i : FnI := spec_l01SineWide.ib math_NaN.wp
noncomputable def spec_l01SineWide.bd (w_math_NaN : (Nat → Prop) → Prop) : Nat → (Nat → Prop) → Prop := (spec_l01SineWide.ib w_math_NaN).W spec_l01SineWide.g
noncomputable def spec_l01SineWide.wp : Nat → (Nat → Prop) → Prop := spec_l01SineWide.bd math_NaN.wp
noncomputable def spec_l01SineWide.c : Ctr := spec_l01SineWide.g.ctr spec_l01SineWide.wp

-- loop.example/g01247/spec.l01Sine
noncomputable def spec_l01Sine.g : Sig := ⟨65, [(.v (.a (.one (.flt .f32))))], [], [.flt], [(.v (.a (.one (.flt .f32))))], [], [.flt]⟩
noncomputable def spec_l01Sine.ib (w_spec_l01SineWide : Nat → (Nat → Prop) → Prop) (w_spec_l01Narrow : Nat → (Nat → Prop) → Prop) : FnI := ⟨Try.prog, [], [spec_l01SineWide.g.ctr w_spec_l01SineWide, spec_l01Narrow.g.ctr w_spec_l01Narrow], 7, [.tmp 2], bodyOf Try.f65, .leaf, []⟩
noncomputable def spec_l01Sine.i : FnI := spec_l01Sine.ib spec_l01SineWide.wp spec_l01Narrow.wp
noncomputable def spec_l01Sine.bd (w_spec_l01SineWide : Nat → (Nat → Prop) → Prop) (w_spec_l01Narrow : Nat → (Nat → Prop) → Prop) : Nat → (Nat → Prop) → Prop := (spec_l01Sine.ib w_spec_l01SineWide w_spec_l01Narrow).W spec_l01Sine.g
noncomputable def spec_l01Sine.wp : Nat → (Nat → Prop) → Prop := spec_l01Sine.bd spec_l01SineWide.wp spec_l01Narrow.wp
noncomputable def spec_l01Sine.c : Ctr := spec_l01Sine.g.ctr spec_l01Sine.wp

-- loop.example/g01247/spec.l03Ease
noncomputable def spec_l03Ease.g : Sig := ⟨30, [(.v (.a (.one (.pt 0 0)))), (.v (.a (.one (.int .i64)))), (.v (.a (.one (.int .i64))))], [(.rdb [(.int .i64), (.int .i64), .bool, (.sl 1), (.int .i64), (.int .i64), .bool, (.sl 2), (.flt .f32), (.flt .f32), (.flt .f32), (.flt .f32), (.flt .f32), (.int .i64)]), (.rd (.F .f32)), (.rd (.F .f32))], [.int, .int, .bool, .int, .int, .bool, .flt, .flt, .flt, .flt, .flt, .int, .lf, .lf, .int, .int], [(.v (.a (.one (.flt .f32))))], [.keep, .keep, .keep], [.flt]⟩
noncomputable def spec_l03Ease.ib (w_spec_l03Turn : Int → Int → Bool → Int → Int → Bool → Nat → Nat → Nat → Nat → Nat → Int → List Nat → List Nat → Int → Int → (Nat → Prop) → Prop) (w_spec_l01Sine : Nat → (Nat → Prop) → Prop) : FnI := ⟨Try.prog, [], [spec_l03Turn.g.ctr w_spec_l03Turn, spec_l01Sine.g.ctr w_spec_l01Sine], 25, [.tmp 6], bodyOf Try.f30, .leaf, []⟩
noncomputable def spec_l03Ease.i : FnI := spec_l03Ease.ib spec_l03Turn.wp spec_l01Sine.wp
noncomputable def spec_l03Ease.bd (w_spec_l03Turn : Int → Int → Bool → Int → Int → Bool → Nat → Nat → Nat → Nat → Nat → Int → List Nat → List Nat → Int → Int → (Nat → Prop) → Prop) (w_spec_l01Sine : Nat → (Nat → Prop) → Prop) : Int → Int → Bool → Int → Int → Bool → Nat → Nat → Nat → Nat → Nat → Int → List Nat → List Nat → Int → Int → (Nat → Prop) → Prop := (spec_l03Ease.ib w_spec_l03Turn w_spec_l01Sine).W spec_l03Ease.g
noncomputable def spec_l03Ease.wp : Int → Int → Bool → Int → Int → Bool → Nat → Nat → Nat → Nat → Nat → Int → List Nat → List Nat → Int → Int → (Nat → Prop) → Prop := spec_l03Ease.bd spec_l03Turn.wp spec_l01Sine.wp
noncomputable def spec_l03Ease.c : Ctr := spec_l03Ease.g.ctr spec_l03Ease.wp

-- loop.example/g01247/spec.EaseAt
noncomputable def spec_EaseAt.g : Sig := ⟨13, [(.v (.a (.agg [(.int .i64), (.int .i64), .bool, (.sl 0), (.int .i64), (.int .i64), .bool, (.sl 1), (.flt .f32), (.flt .f32), (.flt .f32), (.flt .f32), (.flt .f32), (.int .i64)]))), (.v (.a (.one (.int .i64)))), (.v (.a (.one (.int .i64))))], [(.rd (.F .f32)), (.rd (.F .f32))], [.lf, .lf, .int, .int, .bool, .int, .int, .bool, .flt, .flt, .flt, .flt, .flt, .int, .int, .int], [(.tup [(.a (.one (.flt .f32))), (.a (.one .bool))])], [.keep, .keep], [.flt, .bool]⟩
noncomputable def spec_EaseAt.ib (w_spec_l03Cell : Int → Int → Bool → Int → Int → Bool → Nat → Nat → Nat → Nat → Nat → Int → List Nat → List Nat → Int → Int → (Bool → Prop) → Prop) (w_spec_l03Ease : Int → Int → Bool → Int → Int → Bool → Nat → Nat → Nat → Nat → Nat → Int → List Nat → List Nat → Int → Int → (Nat → Prop) → Prop) (w_spec_l03Number : Nat → (Nat → Bool → Prop) → Prop) : FnI := ⟨Try.prog, [], [spec_l03Cell.g.ctr w_spec_l03Cell, spec_l03Ease.g.ctr w_spec_l03Ease, spec_l03Number.g.ctr w_spec_l03Number], 18, [.tmp 6, .tmp 7], bodyOf Try.f13, .leaf, []⟩
noncomputable def spec_EaseAt.i : FnI := spec_EaseAt.ib spec_l03Cell.wp spec_l03Ease.wp spec_l03Number.wp
noncomputable def spec_EaseAt.bd (w_spec_l03Cell : Int → Int → Bool → Int → Int → Bool → Nat → Nat → Nat → Nat → Nat → Int → List Nat → List Nat → Int → Int → (Bool → Prop) → Prop) (w_spec_l03Ease : Int → Int → Bool → Int → Int → Bool → Nat → Nat → Nat → Nat → Nat → Int → List Nat → List Nat → Int → Int → (Nat → Prop) → Prop) (w_spec_l03Number : Nat → (Nat → Bool → Prop) → Prop) : List Nat → List Nat → Int → Int → Bool → Int → Int → Bool → Nat → Nat → Nat → Nat → Nat → Int → Int → Int → (Nat → Bool → Prop) → Prop := (spec_EaseAt.ib w_spec_l03Cell w_spec_l03Ease w_spec_l03Number).W spec_EaseAt.g
noncomputable def spec_EaseAt.wp : List Nat → List Nat → Int → Int → Bool → Int → Int → Bool → Nat → Nat → Nat → Nat → Nat → Int → Int → Int → (Nat → Bool → Prop) → Prop := spec_EaseAt.bd spec_l03Cell.wp spec_l03Ease.wp spec_l03Number.wp
noncomputable def spec_EaseAt.c : Ctr := spec_EaseAt.g.ctr spec_EaseAt.wp

-- math.Copysign
noncomputable def math_Copysign.g : Sig := ⟨117, [(.v (.a (.one (.flt .f64)))), (.v (.a (.one (.flt .f64))))], [], [.flt, .flt], [(.v (.a (.one (.flt .f64))))], [], [.flt]⟩
noncomputable def math_Copysign.ib  : FnI := ⟨Try.prog, [(101, .from64), (102, .bits64)], [], 13, [.tmp 4], bodyOf Try.f117, .leaf, []⟩
noncomputable def math_Copysign.i : FnI := math_Copysign.ib 
noncomputable def math_Copysign.bd  : Nat → Nat → (Nat → Prop) → Prop := (math_Copysign.ib ).W math_Copysign.g
noncomputable def math_Copysign.wp : Nat → Nat → (Nat → Prop) → Prop := math_Copysign.bd 
noncomputable def math_Copysign.c : Ctr := math_Copysign.g.ctr math_Copysign.wp

-- math.trunc
noncomputable def math_trunc.g : Sig := ⟨114, [(.v (.a (.one (.flt .f64))))], [], [.flt], [(.v (.a (.one (.flt .f64))))], [], [.flt]⟩
noncomputable def math_trunc.ib (w_math_Abs : Nat → (Nat → Prop) → Prop) (w_math_Copysign : Nat → Nat → (Nat → Prop) → Prop) : FnI := ⟨Try.prog, [(101, .from64), (102, .bits64)], [math_Abs.g.ctr w_math_Abs, math_Copysign.g.ctr w_math_Copysign], 26, [.tmp 2], bodyOf Try.f114, .leaf, []⟩
noncomputable def math_trunc.i : FnI := math_trunc.ib math_Abs.wp math_Copysign.wp
noncomputable def math_trunc.bd (w_math_Abs : Nat → (Nat → Prop) → Prop) (w_math_Copysign : Nat → Nat → (Nat → Prop) → Prop) : Nat → (Nat → Prop) → Prop := (math_trunc.ib w_math_Abs w_math_Copysign).W math_trunc.g
noncomputable def math_trunc.wp : Nat → (Nat → Prop) → Prop := math_trunc.bd math_Abs.wp math_Copysign.wp
noncomputable def math_trunc.c : Ctr := math_trunc.g.ctr math_trunc.wp

-- math.Trunc
noncomputable def math_Trunc.g : Sig := ⟨103, [(.v (.a (.one (.flt .f64))))], [], [.flt], [(.v (.a (.one (.flt .f64))))], [], [.flt]⟩
noncomputable def math_Trunc.ib (w_math_trunc : Nat → (Nat → Prop) → Prop) : FnI := ⟨Try.prog, [(113, .trunc)], [math_trunc.g.ctr w_math_trunc], 7, [.tmp 2], bodyOf Try.f103, .leaf, []⟩
noncomputable def math_Trunc.i : FnI := math_Trunc.ib math_trunc.wp
noncomputable def math_Trunc.bd (w_math_trunc : Nat → (Nat → Prop) → Prop) : Nat → (Nat → Prop) → Prop := (math_Trunc.ib w_math_trunc).W math_Trunc.g
noncomputable def math_Trunc.wp : Nat → (Nat → Prop) → Prop := math_Trunc.bd math_trunc.wp
noncomputable def math_Trunc.c : Ctr := math_Trunc.g.ctr math_Trunc.wp

-- loop.example/g01247/impl.behind
noncomputable def impl_behind.g : Sig := ⟨81, [(.v (.a (.one (.flt .f64))))], [], [.flt], [(.v (.a (.one (.flt .f64))))], [], [.flt]⟩
noncomputable def impl_behind.ib (w_math_Trunc : Nat → (Nat → Prop) → Prop) : FnI := ⟨Try.prog, [], [math_Trunc.g.ctr w_math_Trunc], 14, [.tmp 2], bodyOf Try.f81, .leaf, []⟩
noncomputable def impl_behind.i : FnI := impl_behind.ib math_Trunc.wp
noncomputable def impl_behind.bd (w_math_Trunc : Nat → (Nat → Prop) → Prop) : Nat → (Nat → Prop) → Prop := (impl_behind.ib w_math_Trunc).W impl_behind.g
noncomputable def impl_behind.wp : Nat → (Nat → Prop) → Prop := impl_behind.bd math_Trunc.wp
noncomputable def impl_behind.c : Ctr := impl_behind.g.ctr impl_behind.wp

-- loop.example/g01247/impl.sine
noncomputable def impl_sine.g : Sig := ⟨82, [(.v (.a (.one (.flt .f64))))], [], [.flt], [(.v (.a (.one (.flt .f64))))], [], [.flt]⟩
noncomputable def impl_sine.ib (w_impl_behind : Nat → (Nat → Prop) → Prop) : FnI := ⟨Try.prog, [], [impl_behind.g.ctr w_impl_behind], 48, [.tmp 2], bodyOf Try.f82, (.seq .leaf (.seq .leaf (.seq (.seq .leaf (.condJ ⟨[3, 4], [.flt, .bool], [(.v (.a (.one (.flt .f64)))), (.v (.a (.one .bool)))], []⟩ .leaf .leaf)) (.seq (.seq .leaf (.condJ ⟨[3, 4], [.flt, .bool], [(.v (.a (.one (.flt .f64)))), (.v (.a (.one .bool)))], []⟩ .leaf .leaf)) (.seq .leaf (.seq .leaf (.seq (.seq .leaf (.block (.loop ⟨[4, 5, 6, 7, 8], [.bool, .flt, .flt, .flt, .int], [(.v (.a (.one .bool))), (.v (.a (.one (.flt .f64)))), (.v (.a (.one (.flt .f64)))), (.v (.a (.one (.flt .f64)))), (.v (.a (.one (.int .i64))))], []⟩ .leaf))) .leaf))))))), []⟩
noncomputable def impl_sine.i : FnI := impl_sine.ib impl_behind.wp
noncomputable def impl_sine.bd (w_impl_behind : Nat → (Nat → Prop) → Prop) : Nat → (Nat → Prop) → Prop := (impl_sine.ib w_impl_behind).W impl_sine.g
noncomputable def impl_sine.wp : Nat → (Nat → Prop) → Prop := impl_sine.bd impl_behind.wp
noncomputable def impl_sine.c : Ctr := impl_sine.g.ctr impl_sine.wp

-- loop.example/g01247/impl.SineTurns
noncomputable def impl_SineTurns.g : Sig := ⟨66, [(.v (.a (.one (.flt .f32))))], [], [.flt], [(.v (.a (.one (.flt .f32))))], [], [.flt]⟩
noncomputable def impl_SineTurns.ib (w_impl_IsFinite : Nat → (Bool → Prop) → Prop) (w_math_NaN : (Nat → Prop) → Prop) (w_math_Abs : Nat → (Nat → Prop) → Prop) (w_impl_sine : Nat → (Nat → Prop) → Prop) : FnI := ⟨Try.prog, [], [impl_IsFinite.g.ctr w_impl_IsFinite, math_NaN.g.ctr w_math_NaN, math_Abs.g.ctr w_math_Abs, impl_sine.g.ctr w_impl_sine], 18, [.tmp 2], bodyOf Try.f66, .leaf, []⟩
noncomputable def impl_SineTurns.i : FnI := impl_SineTurns.ib impl_IsFinite.wp math_NaN.wp math_Abs.wp impl_sine.wp
noncomputable def impl_SineTurns.bd (w_impl_IsFinite : Nat → (Bool → Prop) → Prop) (w_math_NaN : (Nat → Prop) → Prop) (w_math_Abs : Nat → (Nat → Prop) → Prop) (w_impl_sine : Nat → (Nat → Prop) → Prop) : Nat → (Nat → Prop) → Prop := (impl_SineTurns.ib w_impl_IsFinite w_math_NaN w_math_Abs w_impl_sine).W impl_SineTurns.g
noncomputable def impl_SineTurns.wp : Nat → (Nat → Prop) → Prop := impl_SineTurns.bd impl_IsFinite.wp math_NaN.wp math_Abs.wp impl_sine.wp
noncomputable def impl_SineTurns.c : Ctr := impl_SineTurns.g.ctr impl_SineTurns.wp

-- (loop.example/g01247/impl.Melt).ease
noncomputable def impl_Melt_ease.g : Sig := ⟨31, [(.v (.a (.agg [(.int .i64), (.int .i64), .bool, (.sl 0), (.int .i64), (.int .i64), .bool, (.sl 1), (.flt .f32), (.flt .f32), (.flt .f32), (.flt .f32), (.flt .f32), (.int .i64)]))), (.v (.a (.one (.int .i64)))), (.v (.a (.one (.int .i64))))], [(.rd (.F .f32)), (.rd (.F .f32))], [.lf, .lf, .int, .int, .bool, .int, .int, .bool, .flt, .flt, .flt, .flt, .flt, .int, .int, .int], [(.v (.a (.one (.flt .f32))))], [.keep, .keep], [.flt]⟩
noncomputable def impl_Melt_ease.ib (w_impl_Melt_turn : List Nat → List Nat → Int → Int → Bool → Int → Int → Bool → Nat → Nat → Nat → Nat → Nat → Int → Int → Int → (Nat → Prop) → Prop) (w_impl_SineTurns : Nat → (Nat → Prop) → Prop) : FnI := ⟨Try.prog, [], [impl_Melt_turn.g.ctr w_impl_Melt_turn, impl_SineTurns.g.ctr w_impl_SineTurns], 21, [.tmp 6], bodyOf Try.f31, .leaf, []⟩
noncomputable def impl_Melt_ease.i : FnI := impl_Melt_ease.ib impl_Melt_turn.wp impl_SineTurns.wp
noncomputable def impl_Melt_ease.bd (w_impl_Melt_turn : List Nat → List Nat → Int → Int → Bool → Int → Int → Bool → Nat → Nat → Nat → Nat → Nat → Int → Int → Int → (Nat → Prop) → Prop) (w_impl_SineTurns : Nat → (Nat → Prop) → Prop) : List Nat → List Nat → Int → Int → Bool → Int → Int → Bool → Nat → Nat → Nat → Nat → Nat → Int → Int → Int → (Nat → Prop) → Prop := (impl_Melt_ease.ib w_impl_Melt_turn w_impl_SineTurns).W impl_Melt_ease.g
noncomputable def impl_Melt_ease.wp : List Nat → List Nat → Int → Int → Bool → Int → Int → Bool → Nat → Nat → Nat → Nat → Nat → Int → Int → Int → (Nat → Prop) → Prop := impl_Melt_ease.bd impl_Melt_turn.wp impl_SineTurns.wp
noncomputable def impl_Melt_ease.c : Ctr := impl_Melt_ease.g.ctr impl_Melt_ease.wp

-- (loop.example/g01247/impl.Melt).toldAt
noncomputable def impl_Melt_toldAt__Melt_ease.g : Sig := ⟨27, [(.v (.a (.agg [(.int .i64), (.int .i64), .bool, (.sl 0), (.int .i64), (.int .i64), .bool, (.sl 1), (.flt .f32), (.flt .f32), (.flt .f32), (.flt .f32), (.flt .f32), (.int .i64)]))), (.v (.a (.one (.int .i64)))), (.v (.a (.one (.int .i64)))), (.v (.fn 31 [(.agg [(.int .i64), (.int .i64), .bool, (.sl 2), (.int .i64), (.int .i64), .bool, (.sl 3), (.flt .f32), (.flt .f32), (.flt .f32), (.flt .f32), (.flt .f32), (.int .i64)])] []))], [(.rd (.F .f32)), (.rd (.F .f32)), (.rd (.F .f32)), (.rd (.F .f32))], [.lf, .lf, .lf, .lf, .int, .int, .bool, .int, .int, .bool, .flt, .flt, .flt, .flt, .flt, .int, .int, .int, .int, .int, .bool, .int, .int, .bool, .flt, .flt, .flt, .flt, .flt, .int], [(.tup [(.a (.one (.flt .f32))), (.a (.one .bool))])], [.keep, .keep, .keep, .keep], [.flt, .bool]⟩
noncomputable def impl_Melt_toldAt__Melt_ease.ib (w_impl_Melt_isCell : List Nat → List Nat → Int → Int → Bool → Int → Int → Bool → Nat → Nat → Nat → Nat → Nat → Int → Int → Int → (Bool → Prop) → Prop) (w_impl_Melt_ease : List Nat → List Nat → Int → Int → Bool → Int → Int → Bool → Nat → Nat → Nat → Nat → Nat → Int → Int → Int → (Nat → Prop) → Prop) (w_impl_told : Nat → (Nat → Bool → Prop) → Prop) : FnI := ⟨Try.prog, [], [impl_Melt_isCell.g.ctr w_impl_Melt_isCell, impl_Melt_ease.g.ctr w_impl_Melt_ease, impl_told.g.ctr w_impl_told], 22, [.tmp 8, .tmp 9], bodyOf Try.f27, .leaf, []⟩
noncomputable def impl_Melt_toldAt__Melt_ease.i : FnI := impl_Melt_toldAt__Melt_ease.ib impl_Melt_isCell.wp impl_Melt_ease.wp impl_told.wp
noncomputable def impl_Melt_toldAt__Melt_ease.bd (w_impl_Melt_isCell : List Nat → List Nat → Int → Int → Bool → Int → Int → Bool → Nat → Nat → Nat → Nat → Nat → Int → Int → Int → (Bool → Prop) → Prop) (w_impl_Melt_ease : List Nat → List Nat → Int → Int → Bool → Int → Int → Bool → Nat → Nat → Nat → Nat → Nat → Int → Int → Int → (Nat → Prop) → Prop) (w_impl_told : Nat → (Nat → Bool → Prop) → Prop) : List Nat → List Nat → List Nat → List Nat → Int → Int → Bool → Int → Int → Bool → Nat → Nat → Nat → Nat → Nat → Int → Int → Int → Int → Int → Bool → Int → Int → Bool → Nat → Nat → Nat → Nat → Nat → Int → (Nat → Bool → Prop) → Prop := (impl_Melt_toldAt__Melt_ease.ib w_impl_Melt_isCell w_impl_Melt_ease w_impl_told).W impl_Melt_toldAt__Melt_ease.g
noncomputable def impl_Melt_toldAt__Melt_ease.wp : List Nat → List Nat → List Nat → List Nat → Int → Int → Bool → Int → Int → Bool → Nat → Nat → Nat → Nat → Nat → Int → Int → Int → Int → Int → Bool → Int → Int → Bool → Nat → Nat → Nat → Nat → Nat → Int → (Nat → Bool → Prop) → Prop := impl_Melt_toldAt__Melt_ease.bd impl_Melt_isCell.wp impl_Melt_ease.wp impl_told.wp
noncomputable def impl_Melt_toldAt__Melt_ease.c : Ctr := impl_Melt_toldAt__Melt_ease.g.ctr impl_Melt_toldAt__Melt_ease.wp

-- loop.example/g01247/impl.EaseAt
noncomputable def impl_EaseAt.g : Sig := ⟨14, [(.v (.a (.agg [(.int .i64), (.int .i64), .bool, (.sl 0), (.int .i64), (.int .i64), .bool, (.sl 1), (.flt .f32), (.flt .f32), (.flt .f32), (.flt .f32), (.flt .f32), (.int .i64)]))), (.v (.a (.one (.int .i64)))), (.v (.a (.one (.int .i64))))], [(.rd (.F .f32)), (.rd (.F .f32))], [.lf, .lf, .int, .int, .bool, .int, .int, .bool, .flt, .flt, .flt, .flt, .flt, .int, .int, .int], [(.tup [(.a (.one (.flt .f32))), (.a (.one .bool))])], [.keep, .keep], [.flt, .bool]⟩
noncomputable def impl_EaseAt.ib (w_impl_Melt_toldAt__Melt_ease : List Nat → List Nat → List Nat → List Nat → Int → Int → Bool → Int → Int → Bool → Nat → Nat → Nat → Nat → Nat → Int → Int → Int → Int → Int → Bool → Int → Int → Bool → Nat → Nat → Nat → Nat → Nat → Int → (Nat → Bool → Prop) → Prop) : FnI := ⟨Try.prog, [], [impl_Melt_toldAt__Melt_ease.g.ctr w_impl_Melt_toldAt__Melt_ease], 16, [.tmp 6, .tmp 7], bodyOf Try.f14, .leaf, []⟩
noncomputable def impl_EaseAt.i : FnI := impl_EaseAt.ib impl_Melt_toldAt__Melt_ease.wp
noncomputable def impl_EaseAt.bd (w_impl_Melt_toldAt__Melt_ease : List Nat → List Nat → List Nat → List Nat → Int → Int → Bool → Int → Int → Bool → Nat → Nat → Nat → Nat → Nat → Int → Int → Int → Int → Int → Bool → Int → Int → Bool → Nat → Nat → Nat → Nat → Nat → Int → (Nat → Bool → Prop) → Prop) : List Nat → List Nat → Int → Int → Bool → Int → Int → Bool → Nat → Nat → Nat → Nat → Nat → Int → Int → Int → (Nat → Bool → Prop) → Prop := (impl_EaseAt.ib w_impl_Melt_toldAt__Melt_ease).W impl_EaseAt.g
noncomputable def impl_EaseAt.wp : List Nat → List Nat → Int → Int → Bool → Int → Int → Bool → Nat → Nat → Nat → Nat → Nat → Int → Int → Int → (Nat → Bool → Prop) → Prop := impl_EaseAt.bd impl_Melt_toldAt__Melt_ease.wp
noncomputable def impl_EaseAt.c : Ctr := impl_EaseAt.g.ctr impl_EaseAt.wp

-- loop.example/g01247/laws.FnExactEaseAt
noncomputable def laws_FnExactEaseAt.g : Sig := ⟨4, [(.v (.a (.agg [(.int .i64), (.int .i64), .bool, (.sl 0), (.int .i64), (.int .i64), .bool, (.sl 1), (.flt .f32), (.flt .f32), (.flt .f32), (.flt .f32), (.flt .f32), (.int .i64)]))), (.v (.a (.one (.int .i64)))), (.v (.a (.one (.int .i64))))], [(.rd (.F .f32)), (.rd (.F .f32))], [.lf, .lf, .int, .int, .bool, .int, .int, .bool, .flt, .flt, .flt, .flt, .flt, .int, .int, .int], [(.v (.a (.one .bool)))], [.keep, .keep], [.bool]⟩
noncomputable def laws_FnExactEaseAt.ib (w_laws_szMelt : List Nat → List Nat → Int → Int → Bool → Int → Int → Bool → Nat → Nat → Nat → Nat → Nat → Int → Int → (Int → Prop) → Prop) (w_laws_toMelt : List Nat → List Nat → Int → Int → Bool → Int → Int → Bool → Nat → Nat → Nat → Nat → Nat → Int → (List Nat → List Nat → Int → Int → Bool → Int → Int → Bool → Nat → Nat → Nat → Nat → Nat → Int → Prop) → Prop) (w_spec_EaseAt : List Nat → List Nat → Int → Int → Bool → Int → Int → Bool → Nat → Nat → Nat → Nat → Nat → Int → Int → Int → (Nat → Bool → Prop) → Prop) (w_impl_EaseAt : List Nat → List Nat → Int → Int → Bool → Int → Int → Bool → Nat → Nat → Nat → Nat → Nat → Int → Int → Int → (Nat → Bool → Prop) → Prop) (w_laws_sameFloat : Nat → Nat → (Bool → Prop) → Prop) (w_laws_eqMelt : List Nat → List Nat → List Nat → List Nat → Int → Int → Bool → Int → Int → Bool → Nat → Nat → Nat → Nat → Nat → Int → Int → Int → Bool → Int → Int → Bool → Nat → Nat → Nat → Nat → Nat → Int → (Bool → Prop) → Prop) : FnI := ⟨Try.prog, [], [laws_szMelt.g.ctr w_laws_szMelt, laws_toMelt.g.ctr w_laws_toMelt, spec_EaseAt.g.ctr w_spec_EaseAt, impl_EaseAt.g.ctr w_impl_EaseAt, laws_sameFloat.g.ctr w_laws_sameFloat, laws_eqMelt.g.ctr w_laws_eqMelt], 51, [.tmp 6], bodyOf Try.f4, .leaf, []⟩
noncomputable def laws_FnExactEaseAt.i : FnI := laws_FnExactEaseAt.ib laws_szMelt.wp laws_toMelt.wp spec_EaseAt.wp impl_EaseAt.wp laws_sameFloat.wp laws_eqMelt.wp
noncomputable def laws_FnExactEaseAt.bd (w_laws_szMelt : List Nat → List Nat → Int → Int → Bool → Int → Int → Bool → Nat → Nat → Nat → Nat → Nat → Int → Int → (Int → Prop) → Prop) (w_laws_toMelt : List Nat → List Nat → Int → Int → Bool → Int → Int → Bool → Nat → Nat → Nat → Nat → Nat → Int → (List Nat → List Nat → Int → Int → Bool → Int → Int → Bool → Nat → Nat → Nat → Nat → Nat → Int → Prop) → Prop) (w_spec_EaseAt : List Nat → List Nat → Int → Int → Bool → Int → Int → Bool → Nat → Nat → Nat → Nat → Nat → Int → Int → Int → (Nat → Bool → Prop) → Prop) (w_impl_EaseAt : List Nat → List Nat → Int → Int → Bool → Int → Int → Bool → Nat → Nat → Nat → Nat → Nat → Int → Int → Int → (Nat → Bool → Prop) → Prop) (w_laws_sameFloat : Nat → Nat → (Bool → Prop) → Prop) (w_laws_eqMelt : List Nat → List Nat → List Nat → List Nat → Int → Int → Bool → Int → Int → Bool → Nat → Nat → Nat → Nat → Nat → Int → Int → Int → Bool → Int → Int → Bool → Nat → Nat → Nat → Nat → Nat → Int → (Bool → Prop) → Prop) : List Nat → List Nat → Int → Int → Bool → Int → Int → Bool → Nat → Nat → Nat → Nat → Nat → Int → Int → Int → (Bool → Prop) → Prop := (laws_FnExactEaseAt.ib w_laws_szMelt w_laws_toMelt w_spec_EaseAt w_impl_EaseAt w_laws_sameFloat w_laws_eqMelt).W laws_FnExactEaseAt.g
noncomputable def laws_FnExactEaseAt.wp : List Nat → List Nat → Int → Int → Bool → Int → Int → Bool → Nat → Nat → Nat → Nat → Nat → Int → Int → Int → (Bool → Prop) → Prop := laws_FnExactEaseAt.bd laws_szMelt.wp laws_toMelt.wp spec_EaseAt.wp impl_EaseAt.wp laws_sameFloat.wp laws_eqMelt.wp
noncomputable def laws_FnExactEaseAt.c : Ctr := laws_FnExactEaseAt.g.ctr laws_FnExactEaseAt.wp

-- loop.example/g01247/spec.l01From
noncomputable def spec_l01From.g : Sig := ⟨69, [(.v (.a (.one (.int .i64))))], [], [.int], [(.v (.a (.one (.flt .f32))))], [], [.flt]⟩
noncomputable def spec_l01From.ib  : FnI := ⟨Try.prog, [(95, .from32)], [], 6, [.tmp 2], bodyOf Try.f69, .leaf, []⟩
noncomputable def spec_l01From.i : FnI := spec_l01From.ib 
noncomputable def spec_l01From.bd  : Int → (Nat → Prop) → Prop := (spec_l01From.ib ).W spec_l01From.g
noncomputable def spec_l01From.wp : Int → (Nat → Prop) → Prop := spec_l01From.bd 
noncomputable def spec_l01From.c : Ctr := spec_l01From.g.ctr spec_l01From.wp

-- loop.example/g01247/spec.l01Phasor
noncomputable def spec_l01Phasor.g : Sig := ⟨36, [(.v (.a (.one (.flt .f64))))], [], [.flt], [(.v (.a (.one (.cpx .f32))))], [], [.flt, .flt]⟩
noncomputable def spec_l01Phasor.ib (w_spec_l01From : Int → (Nat → Prop) → Prop) (w_spec_l01SineWide : Nat → (Nat → Prop) → Prop) (w_spec_l01Narrow : Nat → (Nat → Prop) → Prop) : FnI := ⟨Try.prog, [], [spec_l01From.g.ctr w_spec_l01From, spec_l01SineWide.g.ctr w_spec_l01SineWide, spec_l01Narrow.g.ctr w_spec_l01Narrow], 71, [.tmp 2], bodyOf Try.f36, (.seq .leaf (.seq .leaf (.seq .leaf (.seq .leaf (.seq (.seq .leaf (.condJ ⟨[3], [.flt], [(.v (.a (.one (.flt .f64))))], []⟩ .leaf .leaf)) (.seq .leaf (.seq (.block (.loop ⟨[3, 4], [.flt, .int], [(.v (.a (.one (.flt .f64)))), (.v (.a (.one (.int .i64))))], []⟩ .leaf)) .leaf))))))), []⟩
noncomputable def spec_l01Phasor.i : FnI := spec_l01Phasor.ib spec_l01From.wp spec_l01SineWide.wp spec_l01Narrow.wp
noncomputable def spec_l01Phasor.bd (w_spec_l01From : Int → (Nat → Prop) → Prop) (w_spec_l01SineWide : Nat → (Nat → Prop) → Prop) (w_spec_l01Narrow : Nat → (Nat → Prop) → Prop) : Nat → (Nat → Nat → Prop) → Prop := (spec_l01Phasor.ib w_spec_l01From w_spec_l01SineWide w_spec_l01Narrow).W spec_l01Phasor.g
noncomputable def spec_l01Phasor.wp : Nat → (Nat → Nat → Prop) → Prop := spec_l01Phasor.bd spec_l01From.wp spec_l01SineWide.wp spec_l01Narrow.wp
noncomputable def spec_l01Phasor.c : Ctr := spec_l01Phasor.g.ctr spec_l01Phasor.wp

-- loop.example/g01247/spec.l01Scale
noncomputable def spec_l01Scale.g : Sig := ⟨35, [(.v (.a (.one (.cpx .f32)))), (.v (.a (.one (.flt .f32))))], [], [.flt, .flt, .flt], [(.v (.a (.one (.cpx .f32))))], [], [.flt, .flt]⟩
noncomputable def spec_l01Scale.ib  : FnI := ⟨Try.prog, [], [], 14, [.tmp 4], bodyOf Try.f35, .leaf, []⟩
noncomputable def spec_l01Scale.i : FnI := spec_l01Scale.ib 
noncomputable def spec_l01Scale.bd  : Nat → Nat → Nat → (Nat → Nat → Prop) → Prop := (spec_l01Scale.ib ).W spec_l01Scale.g
noncomputable def spec_l01Scale.wp : Nat → Nat → Nat → (Nat → Nat → Prop) → Prop := spec_l01Scale.bd 
noncomputable def spec_l01Scale.c : Ctr := spec_l01Scale.g.ctr spec_l01Scale.wp

-- loop.example/g01247/spec.FoldOf
noncomputable def spec_FoldOf.g : Sig := ⟨15, [(.v (.a (.agg [(.int .i64), (.int .i64), .bool, (.sl 0), (.int .i64), (.int .i64), .bool, (.sl 1), (.flt .f32), (.flt .f32), (.flt .f32), (.flt .f32), (.flt .f32), (.int .i64)]))), (.v (.a (.one (.int .i64))))], [(.rd (.F .f32)), (.rd (.F .f32))], [.lf, .lf, .int, .int, .bool, .int, .int, .bool, .flt, .flt, .flt, .flt, .flt, .int, .int], [(.tup [(.a (.one (.cpx .f32))), (.a (.one .bool))])], [.keep, .keep], [.flt, .flt, .bool]⟩
noncomputable def spec_FoldOf.ib (w_spec_l03Is : Int → Int → Bool → Int → Int → Bool → Nat → Nat → Nat → Nat → Nat → Int → List Nat → List Nat → (Bool → Prop) → Prop) (w_spec_l00In : Int → Int → Int → (Bool → Prop) → Prop) (w_spec_l02At : Int → Int → Bool → List Nat → Int → Int → (Nat → Prop) → Prop) (w_spec_l01Angle : Nat → Nat → (Nat → Prop) → Prop) (w_spec_l01Phasor : Nat → (Nat → Nat → Prop) → Prop) (w_spec_l01Scale : Nat → Nat → Nat → (Nat → Nat → Prop) → Prop) : FnI := ⟨Try.prog, [], [spec_l03Is.g.ctr w_spec_l03Is, spec_l00In.g.ctr w_spec_l00In, spec_l02At.g.ctr w_spec_l02At, spec_l01Angle.g.ctr w_spec_l01Angle, spec_l01Phasor.g.ctr w_spec_l01Phasor, spec_l01Scale.g.ctr w_spec_l01Scale], 89, [.tmp 4, .tmp 5], bodyOf Try.f15, (.seq .leaf (.seq .leaf (.seq .leaf (.seq .leaf (.seq (.seq .leaf (.block (.loop ⟨[2, 6, 7, 8], [.int, .int, .bool, .int, .int, .bool, .flt, .flt, .flt, .flt, .flt, .int, .flt, .flt, .flt, .int], [(.v (.a (.one (.pt 2 0)))), (.v (.a (.one (.cpx .f32)))), (.v (.a (.one (.flt .f32)))), (.v (.a (.one (.int .i64))))], [.keep, .keep, (.box 33 [(.int .i64), (.int .i64), .bool, (.sl 0), (.int .i64), (.int .i64), .bool, (.sl 1), (.flt .f32), (.flt .f32), (.flt .f32), (.flt .f32), (.flt .f32), (.int .i64)])]⟩ (.seq .leaf (.seq (.block (.seq .leaf (.block (.loop ⟨[2, 6, 7, 8, 9], [.int, .int, .bool, .int, .int, .bool, .flt, .flt, .flt, .flt, .flt, .int, .flt, .flt, .flt, .int, .int], [(.v (.a (.one (.pt 2 0)))), (.v (.a (.one (.cpx .f32)))), (.v (.a (.one (.flt .f32)))), (.v (.a (.one (.int .i64)))), (.v (.a (.one (.int .i64))))], [.keep, .keep, (.box 33 [(.int .i64), (.int .i64), .bool, (.sl 0), (.int .i64), (.int .i64), .bool, (.sl 1), (.flt .f32), (.flt .f32), (.flt .f32), (.flt .f32), (.flt .f32), (.int .i64)])]⟩ .leaf)))) .leaf))))) .leaf))))), []⟩
noncomputable def spec_FoldOf.i : FnI := spec_FoldOf.ib spec_l03Is.wp spec_l00In.wp spec_l02At.wp spec_l01Angle.wp spec_l01Phasor.wp spec_l01Scale.wp
noncomputable def spec_FoldOf.bd (w_spec_l03Is : Int → Int → Bool → Int → Int → Bool → Nat → Nat → Nat → Nat → Nat → Int → List Nat → List Nat → (Bool → Prop) → Prop) (w_spec_l00In : Int → Int → Int → (Bool → Prop) → Prop) (w_spec_l02At : Int → Int → Bool → List Nat → Int → Int → (Nat → Prop) → Prop) (w_spec_l01Angle : Nat → Nat → (Nat → Prop) → Prop) (w_spec_l01Phasor : Nat → (Nat → Nat → Prop) → Prop) (w_spec_l01Scale : Nat → Nat → Nat → (Nat → Nat → Prop) → Prop) : List Nat → List Nat → Int → Int → Bool → Int → Int → Bool → Nat → Nat → Nat → Nat → Nat → Int → Int → (Nat → Nat → Bool → Prop) → Prop := (spec_FoldOf.ib w_spec_l03Is w_spec_l00In w_spec_l02At w_spec_l01Angle w_spec_l01Phasor w_spec_l01Scale).W spec_FoldOf.g
noncomputable def spec_FoldOf.wp : List Nat → List Nat → Int → Int → Bool → Int → Int → Bool → Nat → Nat → Nat → Nat → Nat → Int → Int → (Nat → Nat → Bool → Prop) → Prop := spec_FoldOf.bd spec_l03Is.wp spec_l00In.wp spec_l02At.wp spec_l01Angle.wp spec_l01Phasor.wp spec_l01Scale.wp
noncomputable def spec_FoldOf.c : Ctr := spec_FoldOf.g.ctr spec_FoldOf.wp

-- loop.example/g01247/impl.PhasorOf
noncomputable def impl_PhasorOf.g : Sig := ⟨42, [(.v (.a (.one (.flt .f64))))], [], [.flt], [(.v (.a (.one (.cpx .f32))))], [], [.flt, .flt]⟩
noncomputable def impl_PhasorOf.ib (w_impl_finite : Nat → (Bool → Prop) → Prop) (w_math_NaN : (Nat → Prop) → Prop) (w_math_Abs : Nat → (Nat → Prop) → Prop) (w_impl_behind : Nat → (Nat → Prop) → Prop) (w_impl_sine : Nat → (Nat → Prop) → Prop) : FnI := ⟨Try.prog, [], [impl_finite.g.ctr w_impl_finite, math_NaN.g.ctr w_math_NaN, math_Abs.g.ctr w_math_Abs, impl_behind.g.ctr w_impl_behind, impl_sine.g.ctr w_impl_sine], 60, [.tmp 2], bodyOf Try.f42, (.seq .leaf (.seq .leaf (.seq .leaf (.seq (.block (.loop ⟨[4, 5], [.flt, .int], [(.v (.a (.one (.flt .f64)))), (.v (.a (.one (.int .i64))))], []⟩ .leaf)) .leaf)))), []⟩
noncomputable def impl_PhasorOf.i : FnI := impl_PhasorOf.ib impl_finite.wp math_NaN.wp math_Abs.wp impl_behind.wp impl_sine.wp
noncomputable def impl_PhasorOf.bd (w_impl_finite : Nat → (Bool → Prop) → Prop) (w_math_NaN : (Nat → Prop) → Prop) (w_math_Abs : Nat → (Nat → Prop) → Prop) (w_impl_behind : Nat → (Nat → Prop) → Prop) (w_impl_sine : Nat → (Nat → Prop) → Prop) : Nat → (Nat → Nat → Prop) → Prop := (impl_PhasorOf.ib w_impl_finite w_math_NaN w_math_Abs w_impl_behind w_impl_sine).W impl_PhasorOf.g
noncomputable def impl_PhasorOf.wp : Nat → (Nat → Nat → Prop) → Prop := impl_PhasorOf.bd impl_finite.wp math_NaN.wp math_Abs.wp impl_behind.wp impl_sine.wp
noncomputable def impl_PhasorOf.c : Ctr := impl_PhasorOf.g.ctr impl_PhasorOf.wp

-- loop.example/g01247/impl.ScaleComplex
noncomputable def impl_ScaleComplex.g : Sig := ⟨41, [(.v (.a (.one (.cpx .f32)))), (.v (.a (.one (.flt .f32))))], [], [.flt, .flt, .flt], [(.v (.a (.one (.cpx .f32))))], [], [.flt, .flt]⟩
noncomputable def impl_ScaleComplex.ib  : FnI := ⟨Try.prog, [], [], 14, [.tmp 4], bodyOf Try.f41, .leaf, []⟩
noncomputable def impl_ScaleComplex.i : FnI := impl_ScaleComplex.ib 
noncomputable def impl_ScaleComplex.bd  : Nat → Nat → Nat → (Nat → Nat → Prop) → Prop := (impl_ScaleComplex.ib ).W impl_ScaleComplex.g
noncomputable def impl_ScaleComplex.wp : Nat → Nat → Nat → (Nat → Nat → Prop) → Prop := impl_ScaleComplex.bd 
noncomputable def impl_ScaleComplex.c : Ctr := impl_ScaleComplex.g.ctr impl_ScaleComplex.wp

-- loop.example/g01247/impl.plusComplex
noncomputable def impl_plusComplex.g : Sig := ⟨40, [(.v (.a (.one (.cpx .f32)))), (.v (.a (.one (.cpx .f32))))], [], [.flt, .flt, .flt, .flt], [(.v (.a (.one (.cpx .f32))))], [], [.flt, .flt]⟩
noncomputable def impl_plusComplex.ib  : FnI := ⟨Try.prog, [], [], 16, [.tmp 4], bodyOf Try.f40, .leaf, []⟩
noncomputable def impl_plusComplex.i : FnI := impl_plusComplex.ib 
noncomputable def impl_plusComplex.bd  : Nat → Nat → Nat → Nat → (Nat → Nat → Prop) → Prop := (impl_plusComplex.ib ).W impl_plusComplex.g
noncomputable def impl_plusComplex.wp : Nat → Nat → Nat → Nat → (Nat → Nat → Prop) → Prop := impl_plusComplex.bd 
noncomputable def impl_plusComplex.c : Ctr := impl_plusComplex.g.ctr impl_plusComplex.wp

-- loop.example/g01247/impl.IsFiniteComplex
noncomputable def impl_IsFiniteComplex.g : Sig := ⟨44, [(.v (.a (.one (.cpx .f32))))], [], [.flt, .flt], [(.v (.a (.one .bool)))], [], [.bool]⟩
noncomputable def impl_IsFiniteComplex.ib (w_impl_IsFinite : Nat → (Bool → Prop) → Prop) : FnI := ⟨Try.prog, [], [impl_IsFinite.g.ctr w_impl_IsFinite], 11, [.tmp 2], bodyOf Try.f44, .leaf, []⟩
noncomputable def impl_IsFiniteComplex.i : FnI := impl_IsFiniteComplex.ib impl_IsFinite.wp
noncomputable def impl_IsFiniteComplex.bd (w_impl_IsFinite : Nat → (Bool → Prop) → Prop) : Nat → Nat → (Bool → Prop) → Prop := (impl_IsFiniteComplex.ib w_impl_IsFinite).W impl_IsFiniteComplex.g
noncomputable def impl_IsFiniteComplex.wp : Nat → Nat → (Bool → Prop) → Prop := impl_IsFiniteComplex.bd impl_IsFinite.wp
noncomputable def impl_IsFiniteComplex.c : Ctr := impl_IsFiniteComplex.g.ctr impl_IsFiniteComplex.wp

-- loop.example/g01247/impl.FoldOf
noncomputable def impl_FoldOf.g : Sig := ⟨16, [(.v (.a (.agg [(.int .i64), (.int .i64), .bool, (.sl 0), (.int .i64), (.int .i64), .bool, (.sl 1), (.flt .f32), (.flt .f32), (.flt .f32), (.flt .f32), (.flt .f32), (.int .i64)]))), (.v (.a (.one (.int .i64))))], [(.rd (.F .f32)), (.rd (.F .f32))], [.lf, .lf, .int, .int, .bool, .int, .int, .bool, .flt, .flt, .flt, .flt, .flt, .int, .int], [(.tup [(.a (.one (.cpx .f32))), (.a (.one .bool))])], [.keep, .keep], [.flt, .flt, .bool]⟩
noncomputable def impl_FoldOf.ib (w_impl_ValidMelt : List Nat → List Nat → Int → Int → Bool → Int → Int → Bool → Nat → Nat → Nat → Nat → Nat → Int → (Bool → Prop) → Prop) (w_impl_within : Int → Int → Int → (Bool → Prop) → Prop) (w_impl_AngleTurns : Nat → Nat → (Nat → Prop) → Prop) (w_impl_PhasorOf : Nat → (Nat → Nat → Prop) → Prop) (w_impl_ScaleComplex : Nat → Nat → Nat → (Nat → Nat → Prop) → Prop) (w_impl_plusComplex : Nat → Nat → Nat → Nat → (Nat → Nat → Prop) → Prop) (w_impl_IsFiniteComplex : Nat → Nat → (Bool → Prop) → Prop) : FnI := ⟨Try.prog, [], [impl_ValidMelt.g.ctr w_impl_ValidMelt, impl_within.g.ctr w_impl_within, impl_AngleTurns.g.ctr w_impl_AngleTurns, impl_PhasorOf.g.ctr w_impl_PhasorOf, impl_ScaleComplex.g.ctr w_impl_ScaleComplex, impl_plusComplex.g.ctr w_impl_plusComplex, impl_IsFiniteComplex.g.ctr w_impl_IsFiniteComplex], 96, [.tmp 4, .tmp 5], bodyOf Try.f16, (.seq .leaf (.seq .leaf (.seq .leaf (.seq (.seq .leaf (.block (.loop ⟨[2, 6, 7, 23, 24, 25], [.int, .int, .bool, .int, .int, .bool, .flt, .flt, .flt, .flt, .flt, .int, .flt, .flt, .flt, .int, .int], [(.v (.a (.one (.pt 2 0)))), (.v (.a (.one (.cpx .f32)))), (.v (.a (.one (.flt .f32)))), (.v (.a (.one (.sl 0)))), (.v (.a (.one (.int .i64)))), (.v (.a (.one (.int .i64))))], [.keep, .keep, (.box 33 [(.int .i64), (.int .i64), .bool, (.sl 0), (.int .i64), (.int .i64), .bool, (.sl 1), (.flt .f32), (.flt .f32), (.flt .f32), (.flt .f32), (.flt .f32), (.int .i64)])]⟩ .leaf))) .leaf)))), []⟩
noncomputable def impl_FoldOf.i : FnI := impl_FoldOf.ib impl_ValidMelt.wp impl_within.wp impl_AngleTurns.wp impl_PhasorOf.wp impl_ScaleComplex.wp impl_plusComplex.wp impl_IsFiniteComplex.wp
noncomputable def impl_FoldOf.bd (w_impl_ValidMelt : List Nat → List Nat → Int → Int → Bool → Int → Int → Bool → Nat → Nat → Nat → Nat → Nat → Int → (Bool → Prop) → Prop) (w_impl_within : Int → Int → Int → (Bool → Prop) → Prop) (w_impl_AngleTurns : Nat → Nat → (Nat → Prop) → Prop) (w_impl_PhasorOf : Nat → (Nat → Nat → Prop) → Prop) (w_impl_ScaleComplex : Nat → Nat → Nat → (Nat → Nat → Prop) → Prop) (w_impl_plusComplex : Nat → Nat → Nat → Nat → (Nat → Nat → Prop) → Prop) (w_impl_IsFiniteComplex : Nat → Nat → (Bool → Prop) → Prop) : List Nat → List Nat → Int → Int → Bool → Int → Int → Bool → Nat → Nat → Nat → Nat → Nat → Int → Int → (Nat → Nat → Bool → Prop) → Prop := (impl_FoldOf.ib w_impl_ValidMelt w_impl_within w_impl_AngleTurns w_impl_PhasorOf w_impl_ScaleComplex w_impl_plusComplex w_impl_IsFiniteComplex).W impl_FoldOf.g
noncomputable def impl_FoldOf.wp : List Nat → List Nat → Int → Int → Bool → Int → Int → Bool → Nat → Nat → Nat → Nat → Nat → Int → Int → (Nat → Nat → Bool → Prop) → Prop := impl_FoldOf.bd impl_ValidMelt.wp impl_within.wp impl_AngleTurns.wp impl_PhasorOf.wp impl_ScaleComplex.wp impl_plusComplex.wp impl_IsFiniteComplex.wp
noncomputable def impl_FoldOf.c : Ctr := impl_FoldOf.g.ctr impl_FoldOf.wp

-- loop.example/g01247/laws.sameComplex
noncomputable def laws_sameComplex.g : Sig := ⟨17, [(.v (.a (.one (.cpx .f64)))), (.v (.a (.one (.cpx .f64))))], [], [.flt, .flt, .flt, .flt], [(.v (.a (.one .bool)))], [], [.bool]⟩
noncomputable def laws_sameComplex.ib (w_laws_sameFloat : Nat → Nat → (Bool → Prop) → Prop) : FnI := ⟨Try.prog, [], [laws_sameFloat.g.ctr w_laws_sameFloat], 17, [.tmp 4], bodyOf Try.f17, .leaf, []⟩
noncomputable def laws_sameComplex.i : FnI := laws_sameComplex.ib laws_sameFloat.wp
noncomputable def laws_sameComplex.bd (w_laws_sameFloat : Nat → Nat → (Bool → Prop) → Prop) : Nat → Nat → Nat → Nat → (Bool → Prop) → Prop := (laws_sameComplex.ib w_laws_sameFloat).W laws_sameComplex.g
noncomputable def laws_sameComplex.wp : Nat → Nat → Nat → Nat → (Bool → Prop) → Prop := laws_sameComplex.bd laws_sameFloat.wp
noncomputable def laws_sameComplex.c : Ctr := laws_sameComplex.g.ctr laws_sameComplex.wp

-- loop.example/g01247/laws.FnExactFoldOf
noncomputable def laws_FnExactFoldOf.g : Sig := ⟨5, [(.v (.a (.agg [(.int .i64), (.int .i64), .bool, (.sl 0), (.int .i64), (.int .i64), .bool, (.sl 1), (.flt .f32), (.flt .f32), (.flt .f32), (.flt .f32), (.flt .f32), (.int .i64)]))), (.v (.a (.one (.int .i64))))], [(.rd (.F .f32)), (.rd (.F .f32))], [.lf, .lf, .int, .int, .bool, .int, .int, .bool, .flt, .flt, .flt, .flt, .flt, .int, .int], [(.v (.a (.one .bool)))], [.keep, .keep], [.bool]⟩
noncomputable def laws_FnExactFoldOf.ib (w_laws_szMelt : List Nat → List Nat → Int → Int → Bool → Int → Int → Bool → Nat → Nat → Nat → Nat → Nat → Int → Int → (Int → Prop) → Prop) (w_laws_toMelt : List Nat → List Nat → Int → Int → Bool → Int → Int → Bool → Nat → Nat → Nat → Nat → Nat → Int → (List Nat → List Nat → Int → Int → Bool → Int → Int → Bool → Nat → Nat → Nat → Nat → Nat → Int → Prop) → Prop) (w_spec_FoldOf : List Nat → List Nat → Int → Int → Bool → Int → Int → Bool → Nat → Nat → Nat → Nat → Nat → Int → Int → (Nat → Nat → Bool → Prop) → Prop) (w_impl_FoldOf : List Nat → List Nat → Int → Int → Bool → Int → Int → Bool → Nat → Nat → Nat → Nat → Nat → Int → Int → (Nat → Nat → Bool → Prop) → Prop) (w_laws_sameComplex : Nat → Nat → Nat → Nat → (Bool → Prop) → Prop) (w_laws_eqMelt : List Nat → List Nat → List Nat → List Nat → Int → Int → Bool → Int → Int → Bool → Nat → Nat → Nat → Nat → Nat → Int → Int → Int → Bool → Int → Int → Bool → Nat → Nat → Nat → Nat → Nat → Int → (Bool → Prop) → Prop) : FnI := ⟨Try.prog, [], [laws_szMelt.g.ctr w_laws_szMelt, laws_toMelt.g.ctr w_laws_toMelt, spec_FoldOf.g.ctr w_spec_FoldOf, impl_FoldOf.g.ctr w_impl_FoldOf, laws_sameComplex.g.ctr w_laws_sameComplex, laws_eqMelt.g.ctr w_laws_eqMelt], 47, [.tmp 4], bodyOf Try.f5, .leaf, []⟩
noncomputable def laws_FnExactFoldOf.i : FnI := laws_FnExactFoldOf.ib laws_szMelt.wp laws_toMelt.wp spec_FoldOf.wp impl_FoldOf.wp laws_sameComplex.wp laws_eqMelt.wp
noncomputable def laws_FnExactFoldOf.bd (w_laws_szMelt : List Nat → List Nat → Int → Int → Bool → Int → Int → Bool → Nat → Nat → Nat → Nat → Nat → Int → Int → (Int → Prop) → Prop) (w_laws_toMelt : List Nat → List Nat → Int → Int → Bool → Int → Int → Bool → Nat → Nat → Nat → Nat → Nat → Int → (List Nat → List Nat → Int → Int → Bool → Int → Int → Bool → Nat → Nat → Nat → Nat → Nat → Int → Prop) → Prop) (w_spec_FoldOf : List Nat → List Nat → Int → Int → Bool → Int → Int → Bool → Nat → Nat → Nat → Nat → Nat → Int → Int → (Nat → Nat → Bool → Prop) → Prop) (w_impl_FoldOf : List Nat → List Nat → Int → Int → Bool → Int → Int → Bool → Nat → Nat → Nat → Nat → Nat → Int → Int → (Nat → Nat → Bool → Prop) → Prop) (w_laws_sameComplex : Nat → Nat → Nat → Nat → (Bool → Prop) → Prop) (w_laws_eqMelt : List Nat → List Nat → List Nat → List Nat → Int → Int → Bool → Int → Int → Bool → Nat → Nat → Nat → Nat → Nat → Int → Int → Int → Bool → Int → Int → Bool → Nat → Nat → Nat → Nat → Nat → Int → (Bool → Prop) → Prop) : List Nat → List Nat → Int → Int → Bool → Int → Int → Bool → Nat → Nat → Nat → Nat → Nat → Int → Int → (Bool → Prop) → Prop := (laws_FnExactFoldOf.ib w_laws_szMelt w_laws_toMelt w_spec_FoldOf w_impl_FoldOf w_laws_sameComplex w_laws_eqMelt).W laws_FnExactFoldOf.g
noncomputable def laws_FnExactFoldOf.wp : List Nat → List Nat → Int → Int → Bool → Int → Int → Bool → Nat → Nat → Nat → Nat → Nat → Int → Int → (Bool → Prop) → Prop := laws_FnExactFoldOf.bd laws_szMelt.wp laws_toMelt.wp spec_FoldOf.wp impl_FoldOf.wp laws_sameComplex.wp laws_eqMelt.wp
noncomputable def laws_FnExactFoldOf.c : Ctr := laws_FnExactFoldOf.g.ctr laws_FnExactFoldOf.wp
end Go.K.melts
