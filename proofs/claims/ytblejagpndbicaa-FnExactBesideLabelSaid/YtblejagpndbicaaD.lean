import Derived.Test.YtblejagpndbicaaK22
import Derived.Test.YtblejagpndbicaaProg
set_option maxRecDepth 100000
namespace Go.K.grains
open Go.Proofs

noncomputable def bodyOf (f : Func) : Code := match f.body with
  | some c => c
  | none => .skip
-- loop.example/g01247/laws.szInt64S
noncomputable def laws_szInt64S.g : Sig := ⟨69, [(.v (.a (.one (.sl 0)))), (.v (.a (.one (.int .i64))))], [(.rd (.I .i64))], [.li, .int], [(.v (.a (.one (.int .i64))))], [.keep], [.int]⟩
noncomputable def laws_szInt64S.ib  : FnI := ⟨Try.prog, [], [], 12, [.tmp 4], bodyOf Try.f69, .leaf, [1]⟩
noncomputable def laws_szInt64S.i : FnI := laws_szInt64S.ib 
noncomputable def laws_szInt64S.bd  : List Int → Int → (Int → Prop) → Prop := (laws_szInt64S.ib ).W laws_szInt64S.g
noncomputable def laws_szInt64S.wp : List Int → Int → (Int → Prop) → Prop := laws_szInt64S.bd 
noncomputable def laws_szInt64S.c : Ctr := laws_szInt64S.g.ctr laws_szInt64S.wp

-- loop.example/g01247/laws.szGrains
noncomputable def laws_szGrains.g : Sig := ⟨23, [(.v (.a (.agg [(.int .i64), (.int .i64), (.sl 0)]))), (.v (.a (.one (.int .i64))))], [(.rd (.I .i64))], [.li, .int, .int, .int], [(.v (.a (.one (.int .i64))))], [.keep], [.int]⟩
noncomputable def laws_szGrains.ib (w_laws_szInt64S : List Int → Int → (Int → Prop) → Prop) : FnI := ⟨Try.prog, [], [laws_szInt64S.g.ctr w_laws_szInt64S], 12, [.tmp 4], bodyOf Try.f23, .leaf, [1]⟩
noncomputable def laws_szGrains.i : FnI := laws_szGrains.ib laws_szInt64S.wp
noncomputable def laws_szGrains.bd (w_laws_szInt64S : List Int → Int → (Int → Prop) → Prop) : List Int → Int → Int → Int → (Int → Prop) → Prop := (laws_szGrains.ib w_laws_szInt64S).W laws_szGrains.g
noncomputable def laws_szGrains.wp : List Int → Int → Int → Int → (Int → Prop) → Prop := laws_szGrains.bd laws_szInt64S.wp
noncomputable def laws_szGrains.c : Ctr := laws_szGrains.g.ctr laws_szGrains.wp

-- loop.example/g01247/laws.toInt64S
noncomputable def laws_toInt64S.g : Sig := ⟨75, [(.v (.a (.one (.sl 0))))], [(.rd (.I .i64))], [.li], [(.v (.a (.one (.sl 1))))], [.keep, (.row 2 (.I .i64))], [.li]⟩
noncomputable def laws_toInt64S.ib  : FnI := ⟨Try.prog, [], [], 22, [.tmp 2], bodyOf Try.f75, (.seq .leaf (.seq .leaf (.seq (.seq .leaf (.block (.loop ⟨[3, 4], [.li, .int], [(.v (.a (.one (.sl 1)))), (.v (.a (.one (.int .i64))))], [.keep, (.row 2 (.I .i64))]⟩ .leaf))) .leaf))), []⟩
noncomputable def laws_toInt64S.i : FnI := laws_toInt64S.ib 
noncomputable def laws_toInt64S.bd  : List Int → (List Int → Prop) → Prop := (laws_toInt64S.ib ).W laws_toInt64S.g
noncomputable def laws_toInt64S.wp : List Int → (List Int → Prop) → Prop := laws_toInt64S.bd 
noncomputable def laws_toInt64S.c : Ctr := laws_toInt64S.g.ctr laws_toInt64S.wp

-- loop.example/g01247/laws.toGrains
noncomputable def laws_toGrains.g : Sig := ⟨25, [(.v (.a (.agg [(.int .i64), (.int .i64), (.sl 0)])))], [(.rd (.I .i64))], [.li, .int, .int], [(.v (.a (.agg [(.int .i64), (.int .i64), (.sl 1)])))], [.keep, (.row 2 (.I .i64))], [.li, .int, .int]⟩
noncomputable def laws_toGrains.ib (w_laws_toInt64S : List Int → (List Int → Prop) → Prop) : FnI := ⟨Try.prog, [], [laws_toInt64S.g.ctr w_laws_toInt64S], 15, [.cell 2 26], bodyOf Try.f25, .leaf, []⟩
noncomputable def laws_toGrains.i : FnI := laws_toGrains.ib laws_toInt64S.wp
noncomputable def laws_toGrains.bd (w_laws_toInt64S : List Int → (List Int → Prop) → Prop) : List Int → Int → Int → (List Int → Int → Int → Prop) → Prop := (laws_toGrains.ib w_laws_toInt64S).W laws_toGrains.g
noncomputable def laws_toGrains.wp : List Int → Int → Int → (List Int → Int → Int → Prop) → Prop := laws_toGrains.bd laws_toInt64S.wp
noncomputable def laws_toGrains.c : Ctr := laws_toGrains.g.ctr laws_toGrains.wp

-- loop.example/g01247/spec.l00In
noncomputable def spec_l00In.g : Sig := ⟨71, [(.v (.a (.one (.int .i64)))), (.v (.a (.one (.int .i64)))), (.v (.a (.one (.int .i64))))], [], [.int, .int, .int], [(.v (.a (.one .bool)))], [], [.bool]⟩
noncomputable def spec_l00In.ib  : FnI := ⟨Try.prog, [], [], 15, [.tmp 6], bodyOf Try.f71, .leaf, []⟩
noncomputable def spec_l00In.i : FnI := spec_l00In.ib 
noncomputable def spec_l00In.bd  : Int → Int → Int → (Bool → Prop) → Prop := (spec_l00In.ib ).W spec_l00In.g
noncomputable def spec_l00In.wp : Int → Int → Int → (Bool → Prop) → Prop := spec_l00In.bd 
noncomputable def spec_l00In.c : Ctr := spec_l00In.g.ctr spec_l00In.wp

-- loop.example/g01247/spec.l02Size
noncomputable def spec_l02Size.g : Sig := ⟨112, [(.v (.a (.one (.int .i64)))), (.v (.a (.one (.int .i64))))], [], [.int, .int], [(.v (.a (.one .bool)))], [], [.bool]⟩
noncomputable def spec_l02Size.ib (w_spec_l00In : Int → Int → Int → (Bool → Prop) → Prop) : FnI := ⟨Try.prog, [], [spec_l00In.g.ctr w_spec_l00In], 11, [.tmp 4], bodyOf Try.f112, .leaf, []⟩
noncomputable def spec_l02Size.i : FnI := spec_l02Size.ib spec_l00In.wp
noncomputable def spec_l02Size.bd (w_spec_l00In : Int → Int → Int → (Bool → Prop) → Prop) : Int → Int → (Bool → Prop) → Prop := (spec_l02Size.ib w_spec_l00In).W spec_l02Size.g
noncomputable def spec_l02Size.wp : Int → Int → (Bool → Prop) → Prop := spec_l02Size.bd spec_l00In.wp
noncomputable def spec_l02Size.c : Ctr := spec_l02Size.g.ctr spec_l02Size.wp

-- loop.example/g01247/spec.l04Label
noncomputable def spec_l04Label.g : Sig := ⟨84, [(.v (.a (.one (.int .i64))))], [], [.int], [(.v (.a (.one .bool)))], [], [.bool]⟩
noncomputable def spec_l04Label.ib (w_spec_l00In : Int → Int → Int → (Bool → Prop) → Prop) : FnI := ⟨Try.prog, [], [spec_l00In.g.ctr w_spec_l00In], 5, [.tmp 2], bodyOf Try.f84, .leaf, []⟩
noncomputable def spec_l04Label.i : FnI := spec_l04Label.ib spec_l00In.wp
noncomputable def spec_l04Label.bd (w_spec_l00In : Int → Int → Int → (Bool → Prop) → Prop) : Int → (Bool → Prop) → Prop := (spec_l04Label.ib w_spec_l00In).W spec_l04Label.g
noncomputable def spec_l04Label.wp : Int → (Bool → Prop) → Prop := spec_l04Label.bd spec_l00In.wp
noncomputable def spec_l04Label.c : Ctr := spec_l04Label.g.ctr spec_l04Label.wp

-- loop.example/g01247/spec.l04Is
noncomputable def spec_l04Is.g : Sig := ⟨70, [(.v (.a (.one (.pt 0 0))))], [(.rdb [(.int .i64), (.int .i64), (.sl 1)]), (.rd (.I .i64))], [.int, .int, .li], [(.v (.a (.one .bool)))], [.keep, .keep], [.bool]⟩
noncomputable def spec_l04Is.ib (w_spec_l02Size : Int → Int → (Bool → Prop) → Prop) (w_spec_l04Label : Int → (Bool → Prop) → Prop) : FnI := ⟨Try.prog, [], [spec_l02Size.g.ctr w_spec_l02Size, spec_l04Label.g.ctr w_spec_l04Label], 49, [.tmp 2], bodyOf Try.f70, (.seq .leaf (.seq .leaf (.seq (.seq .leaf (.block (.loop ⟨[3], [.int], [(.v (.a (.one (.int .i64))))], [.keep, .keep]⟩ .leaf))) .leaf))), []⟩
noncomputable def spec_l04Is.i : FnI := spec_l04Is.ib spec_l02Size.wp spec_l04Label.wp
noncomputable def spec_l04Is.bd (w_spec_l02Size : Int → Int → (Bool → Prop) → Prop) (w_spec_l04Label : Int → (Bool → Prop) → Prop) : Int → Int → List Int → (Bool → Prop) → Prop := (spec_l04Is.ib w_spec_l02Size w_spec_l04Label).W spec_l04Is.g
noncomputable def spec_l04Is.wp : Int → Int → List Int → (Bool → Prop) → Prop := spec_l04Is.bd spec_l02Size.wp spec_l04Label.wp
noncomputable def spec_l04Is.c : Ctr := spec_l04Is.g.ctr spec_l04Is.wp

-- loop.example/g01247/spec.l00Min
noncomputable def spec_l00Min.g : Sig := ⟨130, [(.v (.a (.one (.int .i64)))), (.v (.a (.one (.int .i64))))], [], [.int, .int], [(.v (.a (.one (.int .i64))))], [], [.int]⟩
noncomputable def spec_l00Min.ib  : FnI := ⟨Try.prog, [], [], 10, [.tmp 4], bodyOf Try.f130, .leaf, []⟩
noncomputable def spec_l00Min.i : FnI := spec_l00Min.ib 
noncomputable def spec_l00Min.bd  : Int → Int → (Int → Prop) → Prop := (spec_l00Min.ib ).W spec_l00Min.g
noncomputable def spec_l00Min.wp : Int → Int → (Int → Prop) → Prop := spec_l00Min.bd 
noncomputable def spec_l00Min.c : Ctr := spec_l00Min.g.ctr spec_l00Min.wp

-- loop.example/g01247/spec.l00Max
noncomputable def spec_l00Max.g : Sig := ⟨129, [(.v (.a (.one (.int .i64)))), (.v (.a (.one (.int .i64))))], [], [.int, .int], [(.v (.a (.one (.int .i64))))], [], [.int]⟩
noncomputable def spec_l00Max.ib  : FnI := ⟨Try.prog, [], [], 10, [.tmp 4], bodyOf Try.f129, .leaf, []⟩
noncomputable def spec_l00Max.i : FnI := spec_l00Max.ib 
noncomputable def spec_l00Max.bd  : Int → Int → (Int → Prop) → Prop := (spec_l00Max.ib ).W spec_l00Max.g
noncomputable def spec_l00Max.wp : Int → Int → (Int → Prop) → Prop := spec_l00Max.bd 
noncomputable def spec_l00Max.c : Ctr := spec_l00Max.g.ctr spec_l00Max.wp

-- loop.example/g01247/spec.l02Place
noncomputable def spec_l02Place.g : Sig := ⟨115, [(.v (.a (.one (.int .i64)))), (.v (.a (.one (.int .i64)))), (.v (.a (.one .bool)))], [], [.int, .int, .bool], [(.v (.a (.one (.int .i64))))], [], [.int]⟩
noncomputable def spec_l02Place.ib (w_spec_l00Min : Int → Int → (Int → Prop) → Prop) (w_spec_l00Max : Int → Int → (Int → Prop) → Prop) : FnI := ⟨Try.prog, [], [spec_l00Min.g.ctr w_spec_l00Min, spec_l00Max.g.ctr w_spec_l00Max], 20, [.tmp 6], bodyOf Try.f115, .leaf, []⟩
noncomputable def spec_l02Place.i : FnI := spec_l02Place.ib spec_l00Min.wp spec_l00Max.wp
noncomputable def spec_l02Place.bd (w_spec_l00Min : Int → Int → (Int → Prop) → Prop) (w_spec_l00Max : Int → Int → (Int → Prop) → Prop) : Int → Int → Bool → (Int → Prop) → Prop := (spec_l02Place.ib w_spec_l00Min w_spec_l00Max).W spec_l02Place.g
noncomputable def spec_l02Place.wp : Int → Int → Bool → (Int → Prop) → Prop := spec_l02Place.bd spec_l00Min.wp spec_l00Max.wp
noncomputable def spec_l02Place.c : Ctr := spec_l02Place.g.ctr spec_l02Place.wp

-- loop.example/g01247/spec.l04About
noncomputable def spec_l04About.g : Sig := ⟨78, [(.v (.a (.one (.pt 0 0)))), (.v (.a (.one (.int .i64)))), (.v (.a (.one (.int .i64))))], [(.rdb [(.int .i64), (.int .i64), (.sl 1)]), (.rd (.I .i64))], [.int, .int, .li, .int, .int], [(.v (.a (.one (.int .i64))))], [.keep, .keep], [.int]⟩
noncomputable def spec_l04About.ib (w_spec_l02Place : Int → Int → Bool → (Int → Prop) → Prop) : FnI := ⟨Try.prog, [], [spec_l02Place.g.ctr w_spec_l02Place], 31, [.tmp 6], bodyOf Try.f78, .leaf, []⟩
noncomputable def spec_l04About.i : FnI := spec_l04About.ib spec_l02Place.wp
noncomputable def spec_l04About.bd (w_spec_l02Place : Int → Int → Bool → (Int → Prop) → Prop) : Int → Int → List Int → Int → Int → (Int → Prop) → Prop := (spec_l04About.ib w_spec_l02Place).W spec_l04About.g
noncomputable def spec_l04About.wp : Int → Int → List Int → Int → Int → (Int → Prop) → Prop := spec_l04About.bd spec_l02Place.wp
noncomputable def spec_l04About.c : Ctr := spec_l04About.g.ctr spec_l04About.wp

-- loop.example/g01247/spec.TriplePoints
noncomputable def spec_TriplePoints.g : Sig := ⟨30, [(.v (.a (.agg [(.int .i64), (.int .i64), (.sl 0)])))], [(.rd (.I .i64))], [.li, .int, .int], [(.tup [(.a (.one (.int .i64))), (.a (.one .bool))])], [.keep], [.int, .bool]⟩
noncomputable def spec_TriplePoints.ib (w_spec_l04Is : Int → Int → List Int → (Bool → Prop) → Prop) (w_spec_l04About : Int → Int → List Int → Int → Int → (Int → Prop) → Prop) : FnI := ⟨Try.prog, [], [spec_l04Is.g.ctr w_spec_l04Is, spec_l04About.g.ctr w_spec_l04About], 80, [.tmp 2, .tmp 3], bodyOf Try.f30, (.seq .leaf (.seq .leaf (.seq .leaf (.seq (.seq .leaf (.block (.loop ⟨[1, 4, 5], [.int, .int, .int, .int], [(.v (.a (.one (.pt 1 0)))), (.v (.a (.one (.int .i64)))), (.v (.a (.one (.int .i64))))], [.keep, (.box 26 [(.int .i64), (.int .i64), (.sl 0)])]⟩ (.seq .leaf (.seq (.block (.seq .leaf (.seq .leaf (.seq .leaf (.seq .leaf (.seq (.seq .leaf (.block (.loop ⟨[1, 4, 5, 8, 9, 10], [.int, .int, .li, .int, .int, .int, .int], [(.v (.a (.one (.pt 1 0)))), (.v (.a (.one (.int .i64)))), (.v (.a (.one (.int .i64)))), (.v (.a (.one (.sl 2)))), (.v (.a (.one (.int .i64)))), (.v (.a (.one (.int .i64))))], [.keep, (.box 26 [(.int .i64), (.int .i64), (.sl 0)]), (.row 2 (.I .i64))]⟩ (.seq .leaf (.seq (.block (.seq .leaf (.seq (.seq .leaf (.block (.loop ⟨[1, 4, 5, 8, 9, 10, 11, 12], [.int, .int, .li, .int, .int, .int, .int, .bool, .int], [(.v (.a (.one (.pt 1 0)))), (.v (.a (.one (.int .i64)))), (.v (.a (.one (.int .i64)))), (.v (.a (.one (.sl 2)))), (.v (.a (.one (.int .i64)))), (.v (.a (.one (.int .i64)))), (.v (.a (.one .bool))), (.v (.a (.one (.int .i64))))], [.keep, (.box 26 [(.int .i64), (.int .i64), (.sl 0)]), (.row 2 (.I .i64))]⟩ .leaf))) .leaf))) .leaf))))) .leaf)))))) .leaf))))) .leaf)))), []⟩
noncomputable def spec_TriplePoints.i : FnI := spec_TriplePoints.ib spec_l04Is.wp spec_l04About.wp
noncomputable def spec_TriplePoints.bd (w_spec_l04Is : Int → Int → List Int → (Bool → Prop) → Prop) (w_spec_l04About : Int → Int → List Int → Int → Int → (Int → Prop) → Prop) : List Int → Int → Int → (Int → Bool → Prop) → Prop := (spec_TriplePoints.ib w_spec_l04Is w_spec_l04About).W spec_TriplePoints.g
noncomputable def spec_TriplePoints.wp : List Int → Int → Int → (Int → Bool → Prop) → Prop := spec_TriplePoints.bd spec_l04Is.wp spec_l04About.wp
noncomputable def spec_TriplePoints.c : Ctr := spec_TriplePoints.g.ctr spec_TriplePoints.wp

-- loop.example/g01247/impl.within
noncomputable def impl_within.g : Sig := ⟨76, [(.v (.a (.one (.int .i64)))), (.v (.a (.one (.int .i64)))), (.v (.a (.one (.int .i64))))], [], [.int, .int, .int], [(.v (.a (.one .bool)))], [], [.bool]⟩
noncomputable def impl_within.ib  : FnI := ⟨Try.prog, [], [], 15, [.tmp 6], bodyOf Try.f76, .leaf, []⟩
noncomputable def impl_within.i : FnI := impl_within.ib 
noncomputable def impl_within.bd  : Int → Int → Int → (Bool → Prop) → Prop := (impl_within.ib ).W impl_within.g
noncomputable def impl_within.wp : Int → Int → Int → (Bool → Prop) → Prop := impl_within.bd 
noncomputable def impl_within.c : Ctr := impl_within.g.ctr impl_within.wp

-- loop.example/g01247/impl.areWithin$1
noncomputable def impl_areWithin_1.g : Sig := ⟨106, [(.v (.a (.one (.int .i64)))), (.v (.a (.one (.pt 0 0)))), (.v (.a (.one (.pt 1 0))))], [(.rdb [(.int .i64)]), (.rdb [(.int .i64)])], [.int, .int, .int], [(.v (.a (.one .bool)))], [.keep, .keep], [.bool]⟩
noncomputable def impl_areWithin_1.ib (w_impl_within : Int → Int → Int → (Bool → Prop) → Prop) : FnI := ⟨Try.prog, [], [impl_within.g.ctr w_impl_within], 10, [.tmp 4], bodyOf Try.f106, .leaf, []⟩
noncomputable def impl_areWithin_1.i : FnI := impl_areWithin_1.ib impl_within.wp
noncomputable def impl_areWithin_1.bd (w_impl_within : Int → Int → Int → (Bool → Prop) → Prop) : Int → Int → Int → (Bool → Prop) → Prop := (impl_areWithin_1.ib w_impl_within).W impl_areWithin_1.g
noncomputable def impl_areWithin_1.wp : Int → Int → Int → (Bool → Prop) → Prop := impl_areWithin_1.bd impl_within.wp
noncomputable def impl_areWithin_1.c : Ctr := impl_areWithin_1.g.ctr impl_areWithin_1.wp

-- slices.IndexFunc[[]int64,int64]
noncomputable def slices_IndexFunc_int64_int64__areWithin_1.g : Sig := ⟨124, [(.v (.a (.one (.sl 0)))), (.v (.fn 106 [] [(.one (.pt 1 0)), (.one (.pt 2 0))]))], [(.rd (.I .i64)), (.rdb [(.int .i64)]), (.rdb [(.int .i64)])], [.li, .int, .int], [(.v (.a (.one (.int .i64))))], [.keep, .keep, .keep], [.int]⟩
noncomputable def slices_IndexFunc_int64_int64__areWithin_1.ib (w_impl_areWithin_1 : Int → Int → Int → (Bool → Prop) → Prop) : FnI := ⟨Try.prog, [], [impl_areWithin_1.g.ctr w_impl_areWithin_1], 19, [.tmp 4], bodyOf Try.f124, (.seq .leaf (.seq (.seq .leaf (.block (.loop ⟨[7, 8], [.int, .int], [(.v (.a (.one (.int .i64)))), (.v (.a (.one (.int .i64))))], [.keep, .keep, .keep]⟩ .leaf))) .leaf)), []⟩
noncomputable def slices_IndexFunc_int64_int64__areWithin_1.i : FnI := slices_IndexFunc_int64_int64__areWithin_1.ib impl_areWithin_1.wp
noncomputable def slices_IndexFunc_int64_int64__areWithin_1.bd (w_impl_areWithin_1 : Int → Int → Int → (Bool → Prop) → Prop) : List Int → Int → Int → (Int → Prop) → Prop := (slices_IndexFunc_int64_int64__areWithin_1.ib w_impl_areWithin_1).W slices_IndexFunc_int64_int64__areWithin_1.g
noncomputable def slices_IndexFunc_int64_int64__areWithin_1.wp : List Int → Int → Int → (Int → Prop) → Prop := slices_IndexFunc_int64_int64__areWithin_1.bd impl_areWithin_1.wp
noncomputable def slices_IndexFunc_int64_int64__areWithin_1.c : Ctr := slices_IndexFunc_int64_int64__areWithin_1.g.ctr slices_IndexFunc_int64_int64__areWithin_1.wp

-- slices.ContainsFunc[[]int64,int64]
noncomputable def slices_ContainsFunc_int64_int64__areWithin_1.g : Sig := ⟨105, [(.v (.a (.one (.sl 0)))), (.v (.fn 106 [] [(.one (.pt 1 0)), (.one (.pt 2 0))]))], [(.rd (.I .i64)), (.rdb [(.int .i64)]), (.rdb [(.int .i64)])], [.li, .int, .int], [(.v (.a (.one .bool)))], [.keep, .keep, .keep], [.bool]⟩
noncomputable def slices_ContainsFunc_int64_int64__areWithin_1.ib (w_slices_IndexFunc_int64_int64__areWithin_1 : List Int → Int → Int → (Int → Prop) → Prop) : FnI := ⟨Try.prog, [], [slices_IndexFunc_int64_int64__areWithin_1.g.ctr w_slices_IndexFunc_int64_int64__areWithin_1], 9, [.tmp 4], bodyOf Try.f105, .leaf, []⟩
noncomputable def slices_ContainsFunc_int64_int64__areWithin_1.i : FnI := slices_ContainsFunc_int64_int64__areWithin_1.ib slices_IndexFunc_int64_int64__areWithin_1.wp
noncomputable def slices_ContainsFunc_int64_int64__areWithin_1.bd (w_slices_IndexFunc_int64_int64__areWithin_1 : List Int → Int → Int → (Int → Prop) → Prop) : List Int → Int → Int → (Bool → Prop) → Prop := (slices_ContainsFunc_int64_int64__areWithin_1.ib w_slices_IndexFunc_int64_int64__areWithin_1).W slices_ContainsFunc_int64_int64__areWithin_1.g
noncomputable def slices_ContainsFunc_int64_int64__areWithin_1.wp : List Int → Int → Int → (Bool → Prop) → Prop := slices_ContainsFunc_int64_int64__areWithin_1.bd slices_IndexFunc_int64_int64__areWithin_1.wp
noncomputable def slices_ContainsFunc_int64_int64__areWithin_1.c : Ctr := slices_ContainsFunc_int64_int64__areWithin_1.g.ctr slices_ContainsFunc_int64_int64__areWithin_1.wp

-- loop.example/g01247/impl.areWithin
noncomputable def impl_areWithin.g : Sig := ⟨53, [(.v (.a (.one (.int .i64)))), (.v (.a (.one (.int .i64)))), (.v (.a (.one (.sl 0))))], [(.rd (.I .i64))], [.li, .int, .int], [(.v (.a (.one .bool)))], [.keep], [.bool]⟩
noncomputable def impl_areWithin.ib (w_slices_ContainsFunc_int64_int64__areWithin_1 : List Int → Int → Int → (Bool → Prop) → Prop) : FnI := ⟨Try.prog, [], [slices_ContainsFunc_int64_int64__areWithin_1.g.ctr w_slices_ContainsFunc_int64_int64__areWithin_1], 11, [.tmp 6], bodyOf Try.f53, .leaf, []⟩
noncomputable def impl_areWithin.i : FnI := impl_areWithin.ib slices_ContainsFunc_int64_int64__areWithin_1.wp
noncomputable def impl_areWithin.bd (w_slices_ContainsFunc_int64_int64__areWithin_1 : List Int → Int → Int → (Bool → Prop) → Prop) : List Int → Int → Int → (Bool → Prop) → Prop := (impl_areWithin.ib w_slices_ContainsFunc_int64_int64__areWithin_1).W impl_areWithin.g
noncomputable def impl_areWithin.wp : List Int → Int → Int → (Bool → Prop) → Prop := impl_areWithin.bd slices_ContainsFunc_int64_int64__areWithin_1.wp
noncomputable def impl_areWithin.c : Ctr := impl_areWithin.g.ctr impl_areWithin.wp

-- loop.example/g01247/impl.ValidGrains
noncomputable def impl_ValidGrains.g : Sig := ⟨35, [(.v (.a (.agg [(.int .i64), (.int .i64), (.sl 0)])))], [(.rd (.I .i64))], [.li, .int, .int], [(.v (.a (.one .bool)))], [.keep], [.bool]⟩
noncomputable def impl_ValidGrains.ib (w_impl_areWithin : List Int → Int → Int → (Bool → Prop) → Prop) : FnI := ⟨Try.prog, [], [impl_areWithin.g.ctr w_impl_areWithin], 25, [.tmp 2], bodyOf Try.f35, .leaf, []⟩
noncomputable def impl_ValidGrains.i : FnI := impl_ValidGrains.ib impl_areWithin.wp
noncomputable def impl_ValidGrains.bd (w_impl_areWithin : List Int → Int → Int → (Bool → Prop) → Prop) : List Int → Int → Int → (Bool → Prop) → Prop := (impl_ValidGrains.ib w_impl_areWithin).W impl_ValidGrains.g
noncomputable def impl_ValidGrains.wp : List Int → Int → Int → (Bool → Prop) → Prop := impl_ValidGrains.bd impl_areWithin.wp
noncomputable def impl_ValidGrains.c : Ctr := impl_ValidGrains.g.ctr impl_ValidGrains.wp

-- loop.example/g01247/impl.place
noncomputable def impl_place.g : Sig := ⟨107, [(.v (.a (.one (.int .i64)))), (.v (.a (.one (.int .i64)))), (.v (.a (.one .bool)))], [], [.int, .int, .bool], [(.v (.a (.one (.int .i64))))], [], [.int]⟩
noncomputable def impl_place.ib  : FnI := ⟨Try.prog, [], [], 20, [.tmp 6], bodyOf Try.f107, .leaf, []⟩
noncomputable def impl_place.i : FnI := impl_place.ib 
noncomputable def impl_place.bd  : Int → Int → Bool → (Int → Prop) → Prop := (impl_place.ib ).W impl_place.g
noncomputable def impl_place.wp : Int → Int → Bool → (Int → Prop) → Prop := impl_place.bd 
noncomputable def impl_place.c : Ctr := impl_place.g.ctr impl_place.wp

-- (loop.example/g01247/impl.Grains).cell
noncomputable def impl_Grains_cell.g : Sig := ⟨58, [(.v (.a (.agg [(.int .i64), (.int .i64), (.sl 0)]))), (.v (.a (.one (.int .i64)))), (.v (.a (.one (.int .i64))))], [(.rd (.I .i64))], [.li, .int, .int, .int, .int], [(.v (.a (.one (.int .i64))))], [.keep], [.int]⟩
noncomputable def impl_Grains_cell.ib (w_impl_place : Int → Int → Bool → (Int → Prop) → Prop) : FnI := ⟨Try.prog, [], [impl_place.g.ctr w_impl_place], 19, [.tmp 6], bodyOf Try.f58, .leaf, []⟩
noncomputable def impl_Grains_cell.i : FnI := impl_Grains_cell.ib impl_place.wp
noncomputable def impl_Grains_cell.bd (w_impl_place : Int → Int → Bool → (Int → Prop) → Prop) : List Int → Int → Int → Int → Int → (Int → Prop) → Prop := (impl_Grains_cell.ib w_impl_place).W impl_Grains_cell.g
noncomputable def impl_Grains_cell.wp : List Int → Int → Int → Int → Int → (Int → Prop) → Prop := impl_Grains_cell.bd impl_place.wp
noncomputable def impl_Grains_cell.c : Ctr := impl_Grains_cell.g.ctr impl_Grains_cell.wp

-- (loop.example/g01247/impl.Grains).about
noncomputable def impl_Grains_about.g : Sig := ⟨54, [(.v (.a (.agg [(.int .i64), (.int .i64), (.sl 0)]))), (.v (.a (.one (.int .i64)))), (.v (.a (.one (.int .i64))))], [(.rd (.I .i64))], [.li, .int, .int, .int, .int], [(.v (.a (.one (.int .i64))))], [.keep], [.int]⟩
noncomputable def impl_Grains_about.ib (w_impl_Grains_cell : List Int → Int → Int → Int → Int → (Int → Prop) → Prop) : FnI := ⟨Try.prog, [], [impl_Grains_cell.g.ctr w_impl_Grains_cell], 15, [.tmp 6], bodyOf Try.f54, .leaf, []⟩
noncomputable def impl_Grains_about.i : FnI := impl_Grains_about.ib impl_Grains_cell.wp
noncomputable def impl_Grains_about.bd (w_impl_Grains_cell : List Int → Int → Int → Int → Int → (Int → Prop) → Prop) : List Int → Int → Int → Int → Int → (Int → Prop) → Prop := (impl_Grains_about.ib w_impl_Grains_cell).W impl_Grains_about.g
noncomputable def impl_Grains_about.wp : List Int → Int → Int → Int → Int → (Int → Prop) → Prop := impl_Grains_about.bd impl_Grains_cell.wp
noncomputable def impl_Grains_about.c : Ctr := impl_Grains_about.g.ctr impl_Grains_about.wp

-- slices.Sort[[]int64,int64]
noncomputable def slices_Sort_int64_int64.g : Sig := ⟨109, [(.v (.a (.one (.sl 0))))], [(.row 2 (.I .i64))], [.li], [(.tup [])], [(.row 2 (.I .i64))], [.li]⟩
noncomputable def slices_Sort_int64_int64.wp : List Int → (List Int → Prop) → Prop := fun l K => l.length ≤ 1099511627776 ∧ K (sortZ l)
noncomputable def slices_Sort_int64_int64.c : Ctr := slices_Sort_int64_int64.g.ctr slices_Sort_int64_int64.wp

-- slices.Compact[[]int64,int64]
noncomputable def slices_Compact_int64_int64.g : Sig := ⟨110, [(.v (.a (.one (.sl 0))))], [(.row 2 (.I .i64))], [.li], [(.v (.a (.one (.sl 1))))], [.dead, (.row 2 (.I .i64))], [.li]⟩
noncomputable def slices_Compact_int64_int64.wp : List Int → (List Int → Prop) → Prop := fun l K => l.length ≤ 1099511627776 ∧ K (compZ l)
noncomputable def slices_Compact_int64_int64.c : Ctr := slices_Compact_int64_int64.g.ctr slices_Compact_int64_int64.wp

-- loop.example/g01247/impl.set
noncomputable def impl_set.g : Sig := ⟨65, [(.v (.a (.one (.sl 0))))], [(.rd (.I .i64))], [.li], [(.v (.a (.one (.sl 1))))], [.keep, (.row 2 (.I .i64))], [.li]⟩
noncomputable def impl_set.ib (w_slices_Sort_int64_int64 : List Int → (List Int → Prop) → Prop) (w_slices_Compact_int64_int64 : List Int → (List Int → Prop) → Prop) : FnI := ⟨Try.prog, [], [slices_Sort_int64_int64.g.ctr w_slices_Sort_int64_int64, slices_Compact_int64_int64.g.ctr w_slices_Compact_int64_int64], 11, [.tmp 2], bodyOf Try.f65, .leaf, []⟩
noncomputable def impl_set.i : FnI := impl_set.ib slices_Sort_int64_int64.wp slices_Compact_int64_int64.wp
noncomputable def impl_set.bd (w_slices_Sort_int64_int64 : List Int → (List Int → Prop) → Prop) (w_slices_Compact_int64_int64 : List Int → (List Int → Prop) → Prop) : List Int → (List Int → Prop) → Prop := (impl_set.ib w_slices_Sort_int64_int64 w_slices_Compact_int64_int64).W impl_set.g
noncomputable def impl_set.wp : List Int → (List Int → Prop) → Prop := impl_set.bd slices_Sort_int64_int64.wp slices_Compact_int64_int64.wp
noncomputable def impl_set.c : Ctr := impl_set.g.ctr impl_set.wp

-- loop.example/g01247/impl.TriplePoints
noncomputable def impl_TriplePoints.g : Sig := ⟨21, [(.v (.a (.agg [(.int .i64), (.int .i64), (.sl 0)])))], [(.rd (.I .i64))], [.li, .int, .int], [(.tup [(.a (.one (.int .i64))), (.a (.one .bool))])], [.keep], [.int, .bool]⟩
noncomputable def impl_TriplePoints.ib (w_impl_ValidGrains : List Int → Int → Int → (Bool → Prop) → Prop) (w_impl_Grains_about : List Int → Int → Int → Int → Int → (Int → Prop) → Prop) (w_impl_set : List Int → (List Int → Prop) → Prop) : FnI := ⟨Try.prog, [], [impl_ValidGrains.g.ctr w_impl_ValidGrains, impl_Grains_about.g.ctr w_impl_Grains_about, impl_set.g.ctr w_impl_set], 53, [.tmp 2, .tmp 3], bodyOf Try.f21, (.seq .leaf (.seq .leaf (.seq .leaf (.seq (.seq .leaf (.block (.loop ⟨[1, 4, 13, 14], [.int, .int, .int, .int, .int], [(.v (.a (.one (.pt 1 0)))), (.v (.a (.one (.int .i64)))), (.v (.a (.one (.int .i64)))), (.v (.a (.one (.int .i64))))], [.keep, (.box 26 [(.int .i64), (.int .i64), (.sl 0)])]⟩ .leaf))) .leaf)))), []⟩
noncomputable def impl_TriplePoints.i : FnI := impl_TriplePoints.ib impl_ValidGrains.wp impl_Grains_about.wp impl_set.wp
noncomputable def impl_TriplePoints.bd (w_impl_ValidGrains : List Int → Int → Int → (Bool → Prop) → Prop) (w_impl_Grains_about : List Int → Int → Int → Int → Int → (Int → Prop) → Prop) (w_impl_set : List Int → (List Int → Prop) → Prop) : List Int → Int → Int → (Int → Bool → Prop) → Prop := (impl_TriplePoints.ib w_impl_ValidGrains w_impl_Grains_about w_impl_set).W impl_TriplePoints.g
noncomputable def impl_TriplePoints.wp : List Int → Int → Int → (Int → Bool → Prop) → Prop := impl_TriplePoints.bd impl_ValidGrains.wp impl_Grains_about.wp impl_set.wp
noncomputable def impl_TriplePoints.c : Ctr := impl_TriplePoints.g.ctr impl_TriplePoints.wp

-- loop.example/g01247/laws.eqInt64S
noncomputable def laws_eqInt64S.g : Sig := ⟨39, [(.v (.a (.one (.sl 0)))), (.v (.a (.one (.sl 1))))], [(.rd (.I .i64)), (.rd (.I .i64))], [.li, .li], [(.v (.a (.one .bool)))], [.keep, .keep], [.bool]⟩
noncomputable def laws_eqInt64S.ib  : FnI := ⟨Try.prog, [], [], 26, [.tmp 4], bodyOf Try.f39, (.seq .leaf (.seq .leaf (.seq (.seq .leaf (.block (.loop ⟨[5], [.int], [(.v (.a (.one (.int .i64))))], [.keep, .keep]⟩ .leaf))) .leaf))), []⟩
noncomputable def laws_eqInt64S.i : FnI := laws_eqInt64S.ib 
noncomputable def laws_eqInt64S.bd  : List Int → List Int → (Bool → Prop) → Prop := (laws_eqInt64S.ib ).W laws_eqInt64S.g
noncomputable def laws_eqInt64S.wp : List Int → List Int → (Bool → Prop) → Prop := laws_eqInt64S.bd 
noncomputable def laws_eqInt64S.c : Ctr := laws_eqInt64S.g.ctr laws_eqInt64S.wp

-- loop.example/g01247/laws.eqGrains
noncomputable def laws_eqGrains.g : Sig := ⟨27, [(.v (.a (.agg [(.int .i64), (.int .i64), (.sl 0)]))), (.v (.a (.agg [(.int .i64), (.int .i64), (.sl 1)])))], [(.rd (.I .i64)), (.rd (.I .i64))], [.li, .li, .int, .int, .int, .int], [(.v (.a (.one .bool)))], [.keep, .keep], [.bool]⟩
noncomputable def laws_eqGrains.ib (w_laws_eqInt64S : List Int → List Int → (Bool → Prop) → Prop) : FnI := ⟨Try.prog, [], [laws_eqInt64S.g.ctr w_laws_eqInt64S], 21, [.tmp 4], bodyOf Try.f27, .leaf, []⟩
noncomputable def laws_eqGrains.i : FnI := laws_eqGrains.ib laws_eqInt64S.wp
noncomputable def laws_eqGrains.bd (w_laws_eqInt64S : List Int → List Int → (Bool → Prop) → Prop) : List Int → List Int → Int → Int → Int → Int → (Bool → Prop) → Prop := (laws_eqGrains.ib w_laws_eqInt64S).W laws_eqGrains.g
noncomputable def laws_eqGrains.wp : List Int → List Int → Int → Int → Int → Int → (Bool → Prop) → Prop := laws_eqGrains.bd laws_eqInt64S.wp
noncomputable def laws_eqGrains.c : Ctr := laws_eqGrains.g.ctr laws_eqGrains.wp

-- loop.example/g01247/laws.FnExactTriplePoints
noncomputable def laws_FnExactTriplePoints.g : Sig := ⟨5, [(.v (.a (.agg [(.int .i64), (.int .i64), (.sl 0)])))], [(.rd (.I .i64))], [.li, .int, .int], [(.v (.a (.one .bool)))], [.keep], [.bool]⟩
noncomputable def laws_FnExactTriplePoints.ib (w_laws_szGrains : List Int → Int → Int → Int → (Int → Prop) → Prop) (w_laws_toGrains : List Int → Int → Int → (List Int → Int → Int → Prop) → Prop) (w_spec_TriplePoints : List Int → Int → Int → (Int → Bool → Prop) → Prop) (w_impl_TriplePoints : List Int → Int → Int → (Int → Bool → Prop) → Prop) (w_laws_eqGrains : List Int → List Int → Int → Int → Int → Int → (Bool → Prop) → Prop) : FnI := ⟨Try.prog, [], [laws_szGrains.g.ctr w_laws_szGrains, laws_toGrains.g.ctr w_laws_toGrains, spec_TriplePoints.g.ctr w_spec_TriplePoints, impl_TriplePoints.g.ctr w_impl_TriplePoints, laws_eqGrains.g.ctr w_laws_eqGrains], 40, [.tmp 2], bodyOf Try.f5, .leaf, []⟩
noncomputable def laws_FnExactTriplePoints.i : FnI := laws_FnExactTriplePoints.ib laws_szGrains.wp laws_toGrains.wp spec_TriplePoints.wp impl_TriplePoints.wp laws_eqGrains.wp
noncomputable def laws_FnExactTriplePoints.bd (w_laws_szGrains : List Int → Int → Int → Int → (Int → Prop) → Prop) (w_laws_toGrains : List Int → Int → Int → (List Int → Int → Int → Prop) → Prop) (w_spec_TriplePoints : List Int → Int → Int → (Int → Bool → Prop) → Prop) (w_impl_TriplePoints : List Int → Int → Int → (Int → Bool → Prop) → Prop) (w_laws_eqGrains : List Int → List Int → Int → Int → Int → Int → (Bool → Prop) → Prop) : List Int → Int → Int → (Bool → Prop) → Prop := (laws_FnExactTriplePoints.ib w_laws_szGrains w_laws_toGrains w_spec_TriplePoints w_impl_TriplePoints w_laws_eqGrains).W laws_FnExactTriplePoints.g
noncomputable def laws_FnExactTriplePoints.wp : List Int → Int → Int → (Bool → Prop) → Prop := laws_FnExactTriplePoints.bd laws_szGrains.wp laws_toGrains.wp spec_TriplePoints.wp impl_TriplePoints.wp laws_eqGrains.wp
noncomputable def laws_FnExactTriplePoints.c : Ctr := laws_FnExactTriplePoints.g.ctr laws_FnExactTriplePoints.wp

-- loop.example/g01247/spec.l04Beside
noncomputable def spec_l04Beside.g : Sig := ⟨85, [(.v (.a (.one (.pt 0 0)))), (.v (.a (.one (.int .i64))))], [(.rdb [(.int .i64), (.int .i64), (.sl 1)]), (.rd (.I .i64))], [.int, .int, .li, .int], [(.v (.a (.one (.sl 2))))], [.keep, .keep, (.row 2 (.I .i64))], [.li]⟩
noncomputable def spec_l04Beside.ib (w_spec_l02Place : Int → Int → Bool → (Int → Prop) → Prop) : FnI := ⟨Try.prog, [], [spec_l02Place.g.ctr w_spec_l02Place], 80, [.tmp 4], bodyOf Try.f85, .leaf, []⟩
noncomputable def spec_l04Beside.i : FnI := spec_l04Beside.ib spec_l02Place.wp
noncomputable def spec_l04Beside.bd (w_spec_l02Place : Int → Int → Bool → (Int → Prop) → Prop) : Int → Int → List Int → Int → (List Int → Prop) → Prop := (spec_l04Beside.ib w_spec_l02Place).W spec_l04Beside.g
noncomputable def spec_l04Beside.wp : Int → Int → List Int → Int → (List Int → Prop) → Prop := spec_l04Beside.bd spec_l02Place.wp
noncomputable def spec_l04Beside.c : Ctr := spec_l04Beside.g.ctr spec_l04Beside.wp

-- loop.example/g01247/spec.BesideLabel
noncomputable def spec_BesideLabel.g : Sig := ⟨37, [(.v (.a (.agg [(.int .i64), (.int .i64), (.sl 0)]))), (.v (.a (.one (.int .i64))))], [(.rd (.I .i64))], [.li, .int, .int, .int], [(.tup [(.a (.one (.sl 1))), (.a (.one .bool))])], [.keep, (.row 2 (.I .i64))], [.li, .bool]⟩
noncomputable def spec_BesideLabel.ib (w_spec_l04Is : Int → Int → List Int → (Bool → Prop) → Prop) (w_spec_l04Label : Int → (Bool → Prop) → Prop) (w_spec_l04Beside : Int → Int → List Int → Int → (List Int → Prop) → Prop) : FnI := ⟨Try.prog, [], [spec_l04Is.g.ctr w_spec_l04Is, spec_l04Label.g.ctr w_spec_l04Label, spec_l04Beside.g.ctr w_spec_l04Beside], 73, [.tmp 4, .tmp 5], bodyOf Try.f37, (.seq .leaf (.seq .leaf (.seq .leaf (.seq (.seq .leaf (.block (.loop ⟨[2, 6, 7], [.int, .int, .lb, .int], [(.v (.a (.one (.pt 1 0)))), (.v (.a (.one (.sl 2)))), (.v (.a (.one (.int .i64))))], [.keep, (.box 26 [(.int .i64), (.int .i64), (.sl 0)]), (.row 4 .B)]⟩ (.seq .leaf (.seq (.block (.seq .leaf (.seq .leaf (.block (.loop ⟨[2, 6, 7, 8, 9], [.int, .int, .lb, .li, .int, .int], [(.v (.a (.one (.pt 1 0)))), (.v (.a (.one (.sl 2)))), (.v (.a (.one (.int .i64)))), (.v (.a (.one (.sl 3)))), (.v (.a (.one (.int .i64))))], [.keep, (.box 26 [(.int .i64), (.int .i64), (.sl 0)]), (.row 4 .B), (.row 2 (.I .i64))]⟩ .leaf))))) .leaf))))) (.seq .leaf (.seq (.seq .leaf (.block (.loop ⟨[6, 10, 11], [.lb, .li, .int], [(.v (.a (.one (.sl 1)))), (.v (.a (.one (.sl 2)))), (.v (.a (.one (.int .i64))))], [.keep, (.row 4 .B), (.row 2 (.I .i64))]⟩ .leaf))) .leaf)))))), []⟩
noncomputable def spec_BesideLabel.i : FnI := spec_BesideLabel.ib spec_l04Is.wp spec_l04Label.wp spec_l04Beside.wp
noncomputable def spec_BesideLabel.bd (w_spec_l04Is : Int → Int → List Int → (Bool → Prop) → Prop) (w_spec_l04Label : Int → (Bool → Prop) → Prop) (w_spec_l04Beside : Int → Int → List Int → Int → (List Int → Prop) → Prop) : List Int → Int → Int → Int → (List Int → Bool → Prop) → Prop := (spec_BesideLabel.ib w_spec_l04Is w_spec_l04Label w_spec_l04Beside).W spec_BesideLabel.g
noncomputable def spec_BesideLabel.wp : List Int → Int → Int → Int → (List Int → Bool → Prop) → Prop := spec_BesideLabel.bd spec_l04Is.wp spec_l04Label.wp spec_l04Beside.wp
noncomputable def spec_BesideLabel.c : Ctr := spec_BesideLabel.g.ctr spec_BesideLabel.wp

-- loop.example/g01247/impl.isLabel
noncomputable def impl_isLabel.g : Sig := ⟨56, [(.v (.a (.one (.int .i64))))], [], [.int], [(.v (.a (.one .bool)))], [], [.bool]⟩
noncomputable def impl_isLabel.ib (w_impl_within : Int → Int → Int → (Bool → Prop) → Prop) : FnI := ⟨Try.prog, [], [impl_within.g.ctr w_impl_within], 5, [.tmp 2], bodyOf Try.f56, .leaf, []⟩
noncomputable def impl_isLabel.i : FnI := impl_isLabel.ib impl_within.wp
noncomputable def impl_isLabel.bd (w_impl_within : Int → Int → Int → (Bool → Prop) → Prop) : Int → (Bool → Prop) → Prop := (impl_isLabel.ib w_impl_within).W impl_isLabel.g
noncomputable def impl_isLabel.wp : Int → (Bool → Prop) → Prop := impl_isLabel.bd impl_within.wp
noncomputable def impl_isLabel.c : Ctr := impl_isLabel.g.ctr impl_isLabel.wp

-- (loop.example/g01247/impl.Grains).around
noncomputable def impl_Grains_around.g : Sig := ⟨83, [(.v (.a (.agg [(.int .i64), (.int .i64), (.sl 0)]))), (.v (.a (.one (.int .i64)))), (.v (.a (.one (.int .i64))))], [(.rd (.I .i64))], [.li, .int, .int, .int, .int], [(.v (.a (.one (.sl 1))))], [.keep, (.row 2 (.I .i64))], [.li]⟩
noncomputable def impl_Grains_around.ib (w_impl_Grains_about : List Int → Int → Int → Int → Int → (Int → Prop) → Prop) : FnI := ⟨Try.prog, [], [impl_Grains_about.g.ctr w_impl_Grains_about], 38, [.tmp 6], bodyOf Try.f83, (.seq .leaf (.seq .leaf (.seq (.seq .leaf (.block (.loop ⟨[3, 7, 19, 20], [.int, .int, .li, .int, .int, .int, .int, .int, .int, .int, .int, .int, .int, .int, .int, .int, .int, .int, .int, .int], [(.v (.a (.one (.pt 1 0)))), (.v (.a (.one (.sl 2)))), (.v (.a (.agg [(.int .i64), (.int .i64), (.int .i64), (.int .i64), (.int .i64), (.int .i64), (.int .i64), (.int .i64), (.int .i64), (.int .i64), (.int .i64), (.int .i64), (.int .i64), (.int .i64), (.int .i64), (.int .i64)]))), (.v (.a (.one (.int .i64))))], [.keep, (.box 26 [(.int .i64), (.int .i64), (.sl 0)]), (.row 2 (.I .i64))]⟩ .leaf))) .leaf))), []⟩
noncomputable def impl_Grains_around.i : FnI := impl_Grains_around.ib impl_Grains_about.wp
noncomputable def impl_Grains_around.bd (w_impl_Grains_about : List Int → Int → Int → Int → Int → (Int → Prop) → Prop) : List Int → Int → Int → Int → Int → (List Int → Prop) → Prop := (impl_Grains_around.ib w_impl_Grains_about).W impl_Grains_around.g
noncomputable def impl_Grains_around.wp : List Int → Int → Int → Int → Int → (List Int → Prop) → Prop := impl_Grains_around.bd impl_Grains_about.wp
noncomputable def impl_Grains_around.c : Ctr := impl_Grains_around.g.ctr impl_Grains_around.wp

-- loop.example/g01247/impl.BesideLabel
noncomputable def impl_BesideLabel.g : Sig := ⟨38, [(.v (.a (.agg [(.int .i64), (.int .i64), (.sl 0)]))), (.v (.a (.one (.int .i64))))], [(.rd (.I .i64))], [.li, .int, .int, .int], [(.tup [(.a (.one (.sl 1))), (.a (.one .bool))])], [.keep, (.row 2 (.I .i64))], [.li, .bool]⟩
noncomputable def impl_BesideLabel.ib (w_impl_ValidGrains : List Int → Int → Int → (Bool → Prop) → Prop) (w_impl_isLabel : Int → (Bool → Prop) → Prop) (w_impl_Grains_around : List Int → Int → Int → Int → Int → (List Int → Prop) → Prop) (w_impl_set : List Int → (List Int → Prop) → Prop) : FnI := ⟨Try.prog, [], [impl_ValidGrains.g.ctr w_impl_ValidGrains, impl_isLabel.g.ctr w_impl_isLabel, impl_Grains_around.g.ctr w_impl_Grains_around, impl_set.g.ctr w_impl_set], 58, [.tmp 4, .tmp 5], bodyOf Try.f38, (.seq .leaf (.seq .leaf (.seq .leaf (.seq (.seq .leaf (.block (.loop ⟨[2, 6, 21, 22, 23], [.int, .int, .li, .int, .int], [(.v (.a (.one (.pt 1 0)))), (.v (.a (.one (.sl 2)))), (.v (.a (.one (.sl 0)))), (.v (.a (.one (.int .i64)))), (.v (.a (.one (.int .i64))))], [.keep, (.box 26 [(.int .i64), (.int .i64), (.sl 0)]), (.row 2 (.I .i64))]⟩ (.seq .leaf (.seq .leaf (.seq (.block (.seq .leaf (.seq .leaf (.seq .leaf (.block (.loop ⟨[2, 6, 21, 22, 23, 41, 42, 43], [.int, .int, .li, .li, .int, .int, .int, .int], [(.v (.a (.one (.pt 1 0)))), (.v (.a (.one (.sl 2)))), (.v (.a (.one (.sl 0)))), (.v (.a (.one (.int .i64)))), (.v (.a (.one (.int .i64)))), (.v (.a (.one (.sl 3)))), (.v (.a (.one (.int .i64)))), (.v (.a (.one (.int .i64))))], [.keep, (.box 26 [(.int .i64), (.int .i64), (.sl 0)]), (.row 2 (.I .i64)), (.row 2 (.I .i64))]⟩ .leaf)))))) .leaf)))))) .leaf)))), []⟩
noncomputable def impl_BesideLabel.i : FnI := impl_BesideLabel.ib impl_ValidGrains.wp impl_isLabel.wp impl_Grains_around.wp impl_set.wp
noncomputable def impl_BesideLabel.bd (w_impl_ValidGrains : List Int → Int → Int → (Bool → Prop) → Prop) (w_impl_isLabel : Int → (Bool → Prop) → Prop) (w_impl_Grains_around : List Int → Int → Int → Int → Int → (List Int → Prop) → Prop) (w_impl_set : List Int → (List Int → Prop) → Prop) : List Int → Int → Int → Int → (List Int → Bool → Prop) → Prop := (impl_BesideLabel.ib w_impl_ValidGrains w_impl_isLabel w_impl_Grains_around w_impl_set).W impl_BesideLabel.g
noncomputable def impl_BesideLabel.wp : List Int → Int → Int → Int → (List Int → Bool → Prop) → Prop := impl_BesideLabel.bd impl_ValidGrains.wp impl_isLabel.wp impl_Grains_around.wp impl_set.wp
noncomputable def impl_BesideLabel.c : Ctr := impl_BesideLabel.g.ctr impl_BesideLabel.wp

-- loop.example/g01247/laws.markInt64S
noncomputable def laws_markInt64S.g : Sig := ⟨40, [(.v (.a (.one (.sl 0)))), (.v (.a (.one (.int .i64))))], [(.row 2 (.I .i64))], [.li, .int], [(.v (.a (.one (.int .i64))))], [(.row 2 (.I .i64))], [.li, .int]⟩
noncomputable def laws_markInt64S.ib  : FnI := ⟨Try.prog, [], [], 19, [.tmp 4], bodyOf Try.f40, (.seq .leaf (.seq (.seq .leaf (.block (.loop ⟨[1, 5], [.li, .int, .int], [(.v (.a (.one (.int .i64)))), (.v (.a (.one (.int .i64))))], [(.row 2 (.I .i64))]⟩ .leaf))) .leaf)), [1]⟩
noncomputable def laws_markInt64S.i : FnI := laws_markInt64S.ib 
noncomputable def laws_markInt64S.bd  : List Int → Int → (List Int → Int → Prop) → Prop := (laws_markInt64S.ib ).W laws_markInt64S.g
noncomputable def laws_markInt64S.wp : List Int → Int → (List Int → Int → Prop) → Prop := laws_markInt64S.bd 
noncomputable def laws_markInt64S.c : Ctr := laws_markInt64S.g.ctr laws_markInt64S.wp

-- loop.example/g01247/laws.markGrains
noncomputable def laws_markGrains.g : Sig := ⟨28, [(.v (.a (.agg [(.int .i64), (.int .i64), (.sl 0)]))), (.v (.a (.one (.int .i64))))], [(.row 2 (.I .i64))], [.li, .int, .int, .int], [(.v (.a (.one (.int .i64))))], [(.row 2 (.I .i64))], [.li, .int]⟩
noncomputable def laws_markGrains.ib (w_laws_markInt64S : List Int → Int → (List Int → Int → Prop) → Prop) : FnI := ⟨Try.prog, [], [laws_markInt64S.g.ctr w_laws_markInt64S], 10, [.tmp 4], bodyOf Try.f28, .leaf, [1]⟩
noncomputable def laws_markGrains.i : FnI := laws_markGrains.ib laws_markInt64S.wp
noncomputable def laws_markGrains.bd (w_laws_markInt64S : List Int → Int → (List Int → Int → Prop) → Prop) : List Int → Int → Int → Int → (List Int → Int → Prop) → Prop := (laws_markGrains.ib w_laws_markInt64S).W laws_markGrains.g
noncomputable def laws_markGrains.wp : List Int → Int → Int → Int → (List Int → Int → Prop) → Prop := laws_markGrains.bd laws_markInt64S.wp
noncomputable def laws_markGrains.c : Ctr := laws_markGrains.g.ctr laws_markGrains.wp

-- loop.example/g01247/laws.heldInt64S
noncomputable def laws_heldInt64S.g : Sig := ⟨41, [(.v (.a (.one (.sl 0)))), (.v (.a (.one (.int .i64))))], [(.rd (.I .i64))], [.li, .int], [(.v (.a (.one (.int .i64))))], [.keep], [.int]⟩
noncomputable def laws_heldInt64S.ib  : FnI := ⟨Try.prog, [], [], 21, [.tmp 4], bodyOf Try.f41, (.seq .leaf (.seq (.seq .leaf (.block (.loop ⟨[1, 5], [.int, .int], [(.v (.a (.one (.int .i64)))), (.v (.a (.one (.int .i64))))], [.keep]⟩ .leaf))) .leaf)), [1]⟩
noncomputable def laws_heldInt64S.i : FnI := laws_heldInt64S.ib 
noncomputable def laws_heldInt64S.bd  : List Int → Int → (Int → Prop) → Prop := (laws_heldInt64S.ib ).W laws_heldInt64S.g
noncomputable def laws_heldInt64S.wp : List Int → Int → (Int → Prop) → Prop := laws_heldInt64S.bd 
noncomputable def laws_heldInt64S.c : Ctr := laws_heldInt64S.g.ctr laws_heldInt64S.wp

-- loop.example/g01247/laws.FnExactBesideLabel
noncomputable def laws_FnExactBesideLabel.g : Sig := ⟨8, [(.v (.a (.agg [(.int .i64), (.int .i64), (.sl 0)]))), (.v (.a (.one (.int .i64))))], [(.rd (.I .i64))], [.li, .int, .int, .int], [(.v (.a (.one .bool)))], [.keep], [.bool]⟩
noncomputable def laws_FnExactBesideLabel.ib (w_laws_szGrains : List Int → Int → Int → Int → (Int → Prop) → Prop) (w_laws_toGrains : List Int → Int → Int → (List Int → Int → Int → Prop) → Prop) (w_spec_BesideLabel : List Int → Int → Int → Int → (List Int → Bool → Prop) → Prop) (w_impl_BesideLabel : List Int → Int → Int → Int → (List Int → Bool → Prop) → Prop) (w_laws_eqInt64S : List Int → List Int → (Bool → Prop) → Prop) (w_laws_eqGrains : List Int → List Int → Int → Int → Int → Int → (Bool → Prop) → Prop) (w_laws_markGrains : List Int → Int → Int → Int → (List Int → Int → Prop) → Prop) (w_laws_markInt64S : List Int → Int → (List Int → Int → Prop) → Prop) (w_laws_heldInt64S : List Int → Int → (Int → Prop) → Prop) : FnI := ⟨Try.prog, [], [laws_szGrains.g.ctr w_laws_szGrains, laws_toGrains.g.ctr w_laws_toGrains, spec_BesideLabel.g.ctr w_spec_BesideLabel, impl_BesideLabel.g.ctr w_impl_BesideLabel, laws_eqInt64S.g.ctr w_laws_eqInt64S, laws_eqGrains.g.ctr w_laws_eqGrains, laws_markGrains.g.ctr w_laws_markGrains, laws_markInt64S.g.ctr w_laws_markInt64S, laws_heldInt64S.g.ctr w_laws_heldInt64S], 101, [.tmp 4], bodyOf Try.f8, .leaf, []⟩
noncomputable def laws_FnExactBesideLabel.i : FnI := laws_FnExactBesideLabel.ib laws_szGrains.wp laws_toGrains.wp spec_BesideLabel.wp impl_BesideLabel.wp laws_eqInt64S.wp laws_eqGrains.wp laws_markGrains.wp laws_markInt64S.wp laws_heldInt64S.wp
noncomputable def laws_FnExactBesideLabel.bd (w_laws_szGrains : List Int → Int → Int → Int → (Int → Prop) → Prop) (w_laws_toGrains : List Int → Int → Int → (List Int → Int → Int → Prop) → Prop) (w_spec_BesideLabel : List Int → Int → Int → Int → (List Int → Bool → Prop) → Prop) (w_impl_BesideLabel : List Int → Int → Int → Int → (List Int → Bool → Prop) → Prop) (w_laws_eqInt64S : List Int → List Int → (Bool → Prop) → Prop) (w_laws_eqGrains : List Int → List Int → Int → Int → Int → Int → (Bool → Prop) → Prop) (w_laws_markGrains : List Int → Int → Int → Int → (List Int → Int → Prop) → Prop) (w_laws_markInt64S : List Int → Int → (List Int → Int → Prop) → Prop) (w_laws_heldInt64S : List Int → Int → (Int → Prop) → Prop) : List Int → Int → Int → Int → (Bool → Prop) → Prop := (laws_FnExactBesideLabel.ib w_laws_szGrains w_laws_toGrains w_spec_BesideLabel w_impl_BesideLabel w_laws_eqInt64S w_laws_eqGrains w_laws_markGrains w_laws_markInt64S w_laws_heldInt64S).W laws_FnExactBesideLabel.g
noncomputable def laws_FnExactBesideLabel.wp : List Int → Int → Int → Int → (Bool → Prop) → Prop := laws_FnExactBesideLabel.bd laws_szGrains.wp laws_toGrains.wp spec_BesideLabel.wp impl_BesideLabel.wp laws_eqInt64S.wp laws_eqGrains.wp laws_markGrains.wp laws_markInt64S.wp laws_heldInt64S.wp
noncomputable def laws_FnExactBesideLabel.c : Ctr := laws_FnExactBesideLabel.g.ctr laws_FnExactBesideLabel.wp
end Go.K.grains
