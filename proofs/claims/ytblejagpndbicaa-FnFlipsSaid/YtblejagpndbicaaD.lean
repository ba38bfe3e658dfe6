import Derived.Test.YtblejagpndbicaaK22
import Derived.Test.YtblejagpndbicaaProg
set_option maxRecDepth 100000
namespace Go.K.grains
open Go.Proofs

noncomputable def bodyOf (f : Func) : Code := match f.body with
  | some c => c
  | none => .skip
-- loop.example/g01247/laws.r8Long
noncomputable def laws_r8Long.g : Sig := ⟨10, [(.v (.a (.one (.sl 0)))), (.v (.a (.one (.sl 1))))], [(.rd (.I .u8)), (.rd (.I .u8))], [.li, .li], [(.v (.a (.one .bool)))], [.keep, .keep], [.bool]⟩
noncomputable def laws_r8Long.ib  : FnI := ⟨Try.prog, [], [], 13, [.tmp 4], bodyOf Try.f10, .leaf, []⟩
noncomputable def laws_r8Long.i : FnI := laws_r8Long.ib 
noncomputable def laws_r8Long.bd  : List Int → List Int → (Bool → Prop) → Prop := (laws_r8Long.ib ).W laws_r8Long.g
noncomputable def laws_r8Long.wp : List Int → List Int → (Bool → Prop) → Prop := laws_r8Long.bd 
noncomputable def laws_r8Long.c : Ctr := laws_r8Long.g.ctr laws_r8Long.wp

-- loop.example/g01247/spec.l00From
noncomputable def spec_l00From.g : Sig := ⟨51, [(.v (.a (.one (.sl 0))))], [(.rd (.I .u8))], [.li], [(.v (.a (.one (.pt 1 0))))], [.keep, (.box 117 [(.sl 0), (.int .i64), (.int .u64)])], [.int, .int]⟩
noncomputable def spec_l00From.ib  : FnI := ⟨Try.prog, [], [], 6, [.tmp 2], bodyOf Try.f51, .leaf, []⟩
noncomputable def spec_l00From.i : FnI := spec_l00From.ib 
noncomputable def spec_l00From.bd  : List Int → (Int → Int → Prop) → Prop := (spec_l00From.ib ).W spec_l00From.g
noncomputable def spec_l00From.wp : List Int → (Int → Int → Prop) → Prop := spec_l00From.bd 
noncomputable def spec_l00From.c : Ctr := spec_l00From.g.ctr spec_l00From.wp

-- (*loop.example/g01247/spec.l00Src).next
noncomputable def spec_l00Src_next.g : Sig := ⟨108, [(.v (.a (.one (.pt 0 0))))], [(.box 117 [(.sl 1), (.int .i64), (.int .u64)]), (.rd (.I .u8))], [.int, .int, .li], [(.v (.a (.one (.int .i64))))], [(.box 117 [(.sl 1), (.int .i64), (.int .u64)]), .keep], [.int, .int, .int]⟩
noncomputable def spec_l00Src_next.ib  : FnI := ⟨Try.prog, [], [], 62, [.tmp 2], bodyOf Try.f108, (.seq .leaf (.seq .leaf (.seq (.seq .leaf (.condJ ⟨[3], [.int, .int, .int], [(.v (.a (.one (.int .i64))))], [(.box 117 [(.sl 1), (.int .i64), (.int .u64)]), .keep]⟩ .leaf .leaf)) .leaf))), []⟩
noncomputable def spec_l00Src_next.i : FnI := spec_l00Src_next.ib 
noncomputable def spec_l00Src_next.bd  : Int → Int → List Int → (Int → Int → Int → Prop) → Prop := (spec_l00Src_next.ib ).W spec_l00Src_next.g
noncomputable def spec_l00Src_next.wp : Int → Int → List Int → (Int → Int → Int → Prop) → Prop := spec_l00Src_next.bd 
noncomputable def spec_l00Src_next.c : Ctr := spec_l00Src_next.g.ctr spec_l00Src_next.wp

-- (*loop.example/g01247/spec.l00Src).pick
noncomputable def spec_l00Src_pick.g : Sig := ⟨64, [(.v (.a (.one (.pt 0 0)))), (.v (.a (.one (.int .i64))))], [(.box 117 [(.sl 1), (.int .i64), (.int .u64)]), (.rd (.I .u8))], [.int, .int, .li, .int], [(.v (.a (.one (.int .i64))))], [(.box 117 [(.sl 1), (.int .i64), (.int .u64)]), .keep], [.int, .int, .int]⟩
noncomputable def spec_l00Src_pick.ib (w_spec_l00Src_next : Int → Int → List Int → (Int → Int → Int → Prop) → Prop) : FnI := ⟨Try.prog, [], [spec_l00Src_next.g.ctr w_spec_l00Src_next], 20, [.tmp 4], bodyOf Try.f64, .leaf, []⟩
noncomputable def spec_l00Src_pick.i : FnI := spec_l00Src_pick.ib spec_l00Src_next.wp
noncomputable def spec_l00Src_pick.bd (w_spec_l00Src_next : Int → Int → List Int → (Int → Int → Int → Prop) → Prop) : Int → Int → List Int → Int → (Int → Int → Int → Prop) → Prop := (spec_l00Src_pick.ib w_spec_l00Src_next).W spec_l00Src_pick.g
noncomputable def spec_l00Src_pick.wp : Int → Int → List Int → Int → (Int → Int → Int → Prop) → Prop := spec_l00Src_pick.bd spec_l00Src_next.wp
noncomputable def spec_l00Src_pick.c : Ctr := spec_l00Src_pick.g.ctr spec_l00Src_pick.wp

-- loop.example/g01247/spec.l04New
noncomputable def spec_l04New.g : Sig := ⟨103, [(.v (.a (.one (.int .i64)))), (.v (.a (.one (.int .i64))))], [], [.int, .int], [(.v (.a (.agg [(.int .i64), (.int .i64), (.sl 0)])))], [(.row 2 (.I .i64))], [.li, .int, .int]⟩
noncomputable def spec_l04New.ib  : FnI := ⟨Try.prog, [], [], 9, [.cell 4 26], bodyOf Try.f103, .leaf, []⟩
noncomputable def spec_l04New.i : FnI := spec_l04New.ib 
noncomputable def spec_l04New.bd  : Int → Int → (List Int → Int → Int → Prop) → Prop := (spec_l04New.ib ).W spec_l04New.g
noncomputable def spec_l04New.wp : Int → Int → (List Int → Int → Int → Prop) → Prop := spec_l04New.bd 
noncomputable def spec_l04New.c : Ctr := spec_l04New.g.ctr spec_l04New.wp

-- (*loop.example/g01247/spec.l00Src).one
noncomputable def spec_l00Src_one.g : Sig := ⟨104, [(.v (.a (.one (.pt 0 0)))), (.v (.a (.one (.int .i64))))], [(.box 117 [(.sl 1), (.int .i64), (.int .u64)]), (.rd (.I .u8))], [.int, .int, .li, .int], [(.v (.a (.one .bool)))], [(.box 117 [(.sl 1), (.int .i64), (.int .u64)]), .keep], [.int, .int, .bool]⟩
noncomputable def spec_l00Src_one.ib (w_spec_l00Src_pick : Int → Int → List Int → Int → (Int → Int → Int → Prop) → Prop) : FnI := ⟨Try.prog, [], [spec_l00Src_pick.g.ctr w_spec_l00Src_pick], 9, [.tmp 4], bodyOf Try.f104, .leaf, []⟩
noncomputable def spec_l00Src_one.i : FnI := spec_l00Src_one.ib spec_l00Src_pick.wp
noncomputable def spec_l00Src_one.bd (w_spec_l00Src_pick : Int → Int → List Int → Int → (Int → Int → Int → Prop) → Prop) : Int → Int → List Int → Int → (Int → Int → Bool → Prop) → Prop := (spec_l00Src_one.ib w_spec_l00Src_pick).W spec_l00Src_one.g
noncomputable def spec_l00Src_one.wp : Int → Int → List Int → Int → (Int → Int → Bool → Prop) → Prop := spec_l00Src_one.bd spec_l00Src_pick.wp
noncomputable def spec_l00Src_one.c : Ctr := spec_l00Src_one.g.ctr spec_l00Src_one.wp

-- loop.example/g01247/spec.l04DrawOk
noncomputable def spec_l04DrawOk.g : Sig := ⟨52, [(.v (.a (.one (.pt 0 0))))], [(.box 117 [(.sl 1), (.int .i64), (.int .u64)]), (.rd (.I .u8))], [.int, .int, .li], [(.v (.a (.agg [(.int .i64), (.int .i64), (.sl 2)])))], [(.box 117 [(.sl 1), (.int .i64), (.int .u64)]), .keep, (.row 2 (.I .i64))], [.int, .int, .li, .int, .int]⟩
noncomputable def spec_l04DrawOk.ib (w_spec_l00Src_pick : Int → Int → List Int → Int → (Int → Int → Int → Prop) → Prop) (w_spec_l04New : Int → Int → (List Int → Int → Int → Prop) → Prop) (w_spec_l00Src_one : Int → Int → List Int → Int → (Int → Int → Bool → Prop) → Prop) : FnI := ⟨Try.prog, [], [spec_l00Src_pick.g.ctr w_spec_l00Src_pick, spec_l04New.g.ctr w_spec_l04New, spec_l00Src_one.g.ctr w_spec_l00Src_one], 41, [.cell 2 26], bodyOf Try.f52, (.seq .leaf (.seq .leaf (.seq .leaf (.seq .leaf (.seq (.seq .leaf (.block (.loop ⟨[2, 4, 5, 6], [.int, .int, .int, .int, .int, .int, .li, .li, .int, .int], [(.v (.a (.one (.pt 2 0)))), (.v (.a (.one (.pt 3 0)))), (.v (.a (.one (.int .i64)))), (.v (.a (.one (.int .i64))))], [(.box 117 [(.sl 1), (.int .i64), (.int .u64)]), .keep, (.box 26 [(.int .i64), (.int .i64), (.sl 4)]), (.box 26 [(.int .i64), (.int .i64), (.sl 5)]), (.row 2 (.I .i64)), (.row 2 (.I .i64))]⟩ .leaf))) .leaf))))), []⟩
noncomputable def spec_l04DrawOk.i : FnI := spec_l04DrawOk.ib spec_l00Src_pick.wp spec_l04New.wp spec_l00Src_one.wp
noncomputable def spec_l04DrawOk.bd (w_spec_l00Src_pick : Int → Int → List Int → Int → (Int → Int → Int → Prop) → Prop) (w_spec_l04New : Int → Int → (List Int → Int → Int → Prop) → Prop) (w_spec_l00Src_one : Int → Int → List Int → Int → (Int → Int → Bool → Prop) → Prop) : Int → Int → List Int → (Int → Int → List Int → Int → Int → Prop) → Prop := (spec_l04DrawOk.ib w_spec_l00Src_pick w_spec_l04New w_spec_l00Src_one).W spec_l04DrawOk.g
noncomputable def spec_l04DrawOk.wp : Int → Int → List Int → (Int → Int → List Int → Int → Int → Prop) → Prop := spec_l04DrawOk.bd spec_l00Src_pick.wp spec_l04New.wp spec_l00Src_one.wp
noncomputable def spec_l04DrawOk.c : Ctr := spec_l04DrawOk.g.ctr spec_l04DrawOk.wp

-- loop.example/g01247/spec.R8Grains
noncomputable def spec_R8Grains.g : Sig := ⟨11, [(.v (.a (.one (.sl 0))))], [(.rd (.I .u8))], [.li], [(.v (.a (.agg [(.int .i64), (.int .i64), (.sl 1)])))], [.keep, (.row 2 (.I .i64))], [.li, .int, .int]⟩
noncomputable def spec_R8Grains.ib (w_spec_l00From : List Int → (Int → Int → Prop) → Prop) (w_spec_l04DrawOk : Int → Int → List Int → (Int → Int → List Int → Int → Int → Prop) → Prop) : FnI := ⟨Try.prog, [], [spec_l00From.g.ctr w_spec_l00From, spec_l04DrawOk.g.ctr w_spec_l04DrawOk], 8, [.cell 2 26], bodyOf Try.f11, .leaf, []⟩
noncomputable def spec_R8Grains.i : FnI := spec_R8Grains.ib spec_l00From.wp spec_l04DrawOk.wp
noncomputable def spec_R8Grains.bd (w_spec_l00From : List Int → (Int → Int → Prop) → Prop) (w_spec_l04DrawOk : Int → Int → List Int → (Int → Int → List Int → Int → Int → Prop) → Prop) : List Int → (List Int → Int → Int → Prop) → Prop := (spec_R8Grains.ib w_spec_l00From w_spec_l04DrawOk).W spec_R8Grains.g
noncomputable def spec_R8Grains.wp : List Int → (List Int → Int → Int → Prop) → Prop := spec_R8Grains.bd spec_l00From.wp spec_l04DrawOk.wp
noncomputable def spec_R8Grains.c : Ctr := spec_R8Grains.g.ctr spec_R8Grains.wp

-- loop.example/g01247/laws.r8At
noncomputable def laws_r8At.g : Sig := ⟨12, [(.v (.a (.one (.sl 0)))), (.v (.a (.one (.int .i64)))), (.v (.a (.one (.int .i64))))], [(.rd (.I .u8))], [.li, .int, .int], [(.v (.a (.one (.int .i64))))], [.keep], [.int]⟩
noncomputable def laws_r8At.ib  : FnI := ⟨Try.prog, [], [], 22, [.tmp 6], bodyOf Try.f12, .leaf, []⟩
noncomputable def laws_r8At.i : FnI := laws_r8At.ib 
noncomputable def laws_r8At.bd  : List Int → Int → Int → (Int → Prop) → Prop := (laws_r8At.ib ).W laws_r8At.g
noncomputable def laws_r8At.wp : List Int → Int → Int → (Int → Prop) → Prop := laws_r8At.bd 
noncomputable def laws_r8At.c : Ctr := laws_r8At.g.ctr laws_r8At.wp

-- loop.example/g01247/impl.within
noncomputable def impl_within.g : Sig := ⟨76, [(.v (.a (.one (.int .i64)))), (.v (.a (.one (.int .i64)))), (.v (.a (.one (.int .i64))))], [], [.int, .int, .int], [(.v (.a (.one .bool)))], [], [.bool]⟩
noncomputable def impl_within.ib  : FnI := ⟨Try.prog, [], [], 15, [.tmp 6], bodyOf Try.f76, .leaf, []⟩
noncomputable def impl_within.i : FnI := impl_within.ib 
noncomputable def impl_within.bd  : Int → Int → Int → (Bool → Prop) → Prop := (impl_within.ib ).W impl_within.g
noncomputable def impl_within.wp : Int → Int → Int → (Bool → Prop) → Prop := impl_within.bd 
noncomputable def impl_within.c : Ctr := impl_within.g.ctr impl_within.wp

-- loop.example/g01247/impl.areWithin$1
noncomputable def impl_areWithin_1.g : Sig := ⟨106, [(.v (.a (.one (.int .i64)))), (.v (.a (.one (.pt 0 0)))), (.v (.a (.one (.pt 1 0))))], [(.rdb [(.int .i64)]), (.rdb [(.int .i64)])], [.int, .int, .int], [(.v (.a (.one .bool)))], [.keep, .keep], [.bool]⟩
noncomputable def impl_areWithin_1.ib (w_impl_within : Int → Int → Int → (Bool → Prop) → Prop) : FnI := ⟨Try.prog, [], [impl_within.g.ctr w_impl_within], 10, [.tmp 4], bodyOf Try.f106, .leaf, []⟩
noncomputable def impl_areWithin_1.i : FnI := impl_areWithin_1.ib impl_within.wp
noncomputable def impl_areWithin_1.bd (w_impl_within : Int → Int → Int → (Bool → Prop) → Prop) : Int → Int → Int → (Bool → Prop) → Prop := (impl_areWithin_1.ib w_impl_within).W impl_areWithin_1.g
noncomputable def impl_areWithin_1.wp : Int → Int → Int → (Bool → Prop) → Prop := impl_areWithin_1.bd impl_within.wp
noncomputable def impl_areWithin_1.c : Ctr := impl_areWithin_1.g.ctr impl_areWithin_1.wp

-- slices.IndexFunc[[]int64,int64]
noncomputable def slices_IndexFunc_int64_int64__areWithin_1.g : Sig := ⟨124, [(.v (.a (.one (.sl 0)))), (.v (.fn 106 [] [(.one (.pt 1 0)), (.one (.pt 2 0))]))], [(.rd (.I .i64)), (.rdb [(.int .i64)]), (.rdb [(.int .i64)])], [.li, .int, .int], [(.v (.a (.one (.int .i64))))], [.keep, .keep, .keep], [.int]⟩
noncomputable def slices_IndexFunc_int64_int64__areWithin_1.ib (w_impl_areWithin_1 : Int → Int → Int → (Bool → Prop) → Prop) : FnI := ⟨Try.prog, [], [impl_areWithin_1.g.ctr w_impl_areWithin_1], 19, [.tmp 4], bodyOf Try.f124, (.seq .leaf (.seq (.seq .leaf (.block (.loop ⟨[7, 8], [.int, .int], [(.v (.a (.one (.int .i64)))), (.v (.a (.one (.int .i64))))], [.keep, .keep, .keep]⟩ .leaf))) .leaf)), []⟩
noncomputable def slices_IndexFunc_int64_int64__areWithin_1.i : FnI := slices_IndexFunc_int64_int64__areWithin_1.ib impl_areWithin_1.wp
noncomputable def slices_IndexFunc_int64_int64__areWithin_1.bd (w_impl_areWithin_1 : Int → Int → Int → (Bool → Prop) → Prop) : List Int → Int → Int → (Int → Prop) → Prop := (slices_IndexFunc_int64_int64__areWithin_1.ib w_impl_areWithin_1).W slices_IndexFunc_int64_int64__areWithin_1.g
noncomputable def slices_IndexFunc_int64_int64__areWithin_1.wp : List Int → Int → Int → (Int → Prop) → Prop := slices_IndexFunc_int64_int64__areWithin_1.bd impl_areWithin_1.wp
noncomputable def slices_IndexFunc_int64_int64__areWithin_1.c : Ctr := slices_IndexFunc_int64_int64__areWithin_1.g.ctr slices_IndexFunc_int64_int64__areWithin_1.wp

-- slices.ContainsFunc[[]int64,int64]
noncomputable def slices_ContainsFunc_int64_int64__areWithin_1.g : Sig := ⟨105, [(.v (.a (.one (.sl 0)))), (.v (.fn 106 [] [(.one (.pt 1 0)), (.one (.pt 2 0))]))], [(.rd (.I .i64)), (.rdb [(.int .i64)]), (.rdb [(.int .i64)])], [.li, .int, .int], [(.v (.a (.one .bool)))], [.keep, .keep, .keep], [.bool]⟩
noncomputable def slices_ContainsFunc_int64_int64__areWithin_1.ib (w_slices_IndexFunc_int64_int64__areWithin_1 : List Int → Int → Int → (Int → Prop) → Prop) : FnI := ⟨Try.prog, [], [slices_IndexFunc_int64_int64__areWithin_1.g.ctr w_slices_IndexFunc_int64_int64__areWithin_1], 9, [.tmp 4], bodyOf Try.f105, .leaf, []⟩
noncomputable def slices_ContainsFunc_int64_int64__areWithin_1.i : FnI := slices_ContainsFunc_int64_int64__areWithin_1.ib slices_IndexFunc_int64_int64__areWithin_1.wp
noncomputable def slices_ContainsFunc_int64_int64__areWithin_1.bd (w_slices_IndexFunc_int64_int64__areWithin_1 : List Int → Int → Int → (Int → Prop) → Prop) : List Int → Int → Int → (Bool → Prop) → Prop := (slices_ContainsFunc_int64_int64__areWithin_1.ib w_slices_IndexFunc_int64_int64__areWithin_1).W slices_ContainsFunc_int64_int64__areWithin_1.g
noncomputable def slices_ContainsFunc_int64_int64__areWithin_1.wp : List Int → Int → Int → (Bool → Prop) → Prop := slices_ContainsFunc_int64_int64__areWithin_1.bd slices_IndexFunc_int64_int64__areWithin_1.wp
noncomputable def slices_ContainsFunc_int64_int64__areWithin_1.c : Ctr := slices_ContainsFunc_int64_int64__areWithin_1.g.ctr slices_ContainsFunc_int64_int64__areWithin_1.wp

-- loop.example/g01247/impl.areWithin
noncomputable def impl_areWithin.g : Sig := ⟨53, [(.v (.a (.one (.int .i64)))), (.v (.a (.one (.int .i64)))), (.v (.a (.one (.sl 0))))], [(.rd (.I .i64))], [.li, .int, .int], [(.v (.a (.one .bool)))], [.keep], [.bool]⟩
noncomputable def impl_areWithin.ib (w_slices_ContainsFunc_int64_int64__areWithin_1 : List Int → Int → Int → (Bool → Prop) → Prop) : FnI := ⟨Try.prog, [], [slices_ContainsFunc_int64_int64__areWithin_1.g.ctr w_slices_ContainsFunc_int64_int64__areWithin_1], 11, [.tmp 6], bodyOf Try.f53, .leaf, []⟩
noncomputable def impl_areWithin.i : FnI := impl_areWithin.ib slices_ContainsFunc_int64_int64__areWithin_1.wp
noncomputable def impl_areWithin.bd (w_slices_ContainsFunc_int64_int64__areWithin_1 : List Int → Int → Int → (Bool → Prop) → Prop) : List Int → Int → Int → (Bool → Prop) → Prop := (impl_areWithin.ib w_slices_ContainsFunc_int64_int64__areWithin_1).W impl_areWithin.g
noncomputable def impl_areWithin.wp : List Int → Int → Int → (Bool → Prop) → Prop := impl_areWithin.bd slices_ContainsFunc_int64_int64__areWithin_1.wp
noncomputable def impl_areWithin.c : Ctr := impl_areWithin.g.ctr impl_areWithin.wp

-- loop.example/g01247/impl.ValidGrains
noncomputable def impl_ValidGrains.g : Sig := ⟨35, [(.v (.a (.agg [(.int .i64), (.int .i64), (.sl 0)])))], [(.rd (.I .i64))], [.li, .int, .int], [(.v (.a (.one .bool)))], [.keep], [.bool]⟩
noncomputable def impl_ValidGrains.ib (w_impl_areWithin : List Int → Int → Int → (Bool → Prop) → Prop) : FnI := ⟨Try.prog, [], [impl_areWithin.g.ctr w_impl_areWithin], 25, [.tmp 2], bodyOf Try.f35, .leaf, []⟩
noncomputable def impl_ValidGrains.i : FnI := impl_ValidGrains.ib impl_areWithin.wp
noncomputable def impl_ValidGrains.bd (w_impl_areWithin : List Int → Int → Int → (Bool → Prop) → Prop) : List Int → Int → Int → (Bool → Prop) → Prop := (impl_ValidGrains.ib w_impl_areWithin).W impl_ValidGrains.g
noncomputable def impl_ValidGrains.wp : List Int → Int → Int → (Bool → Prop) → Prop := impl_ValidGrains.bd impl_areWithin.wp
noncomputable def impl_ValidGrains.c : Ctr := impl_ValidGrains.g.ctr impl_ValidGrains.wp

-- slices.Clone[[]int64,int64]
noncomputable def slices_Clone_int64_int64.g : Sig := ⟨57, [(.v (.a (.one (.sl 0))))], [(.rd (.I .i64))], [.li], [(.v (.a (.one (.sl 1))))], [.keep, (.row 2 (.I .i64))], [.li]⟩
noncomputable def slices_Clone_int64_int64.ib  : FnI := ⟨Try.prog, [], [], 8, [.tmp 2], bodyOf Try.f57, .leaf, []⟩
noncomputable def slices_Clone_int64_int64.i : FnI := slices_Clone_int64_int64.ib 
noncomputable def slices_Clone_int64_int64.bd  : List Int → (List Int → Prop) → Prop := (slices_Clone_int64_int64.ib ).W slices_Clone_int64_int64.g
noncomputable def slices_Clone_int64_int64.wp : List Int → (List Int → Prop) → Prop := slices_Clone_int64_int64.bd 
noncomputable def slices_Clone_int64_int64.c : Ctr := slices_Clone_int64_int64.g.ctr slices_Clone_int64_int64.wp

-- loop.example/g01247/impl.place
noncomputable def impl_place.g : Sig := ⟨107, [(.v (.a (.one (.int .i64)))), (.v (.a (.one (.int .i64)))), (.v (.a (.one .bool)))], [], [.int, .int, .bool], [(.v (.a (.one (.int .i64))))], [], [.int]⟩
noncomputable def impl_place.ib  : FnI := ⟨Try.prog, [], [], 20, [.tmp 6], bodyOf Try.f107, .leaf, []⟩
noncomputable def impl_place.i : FnI := impl_place.ib 
noncomputable def impl_place.bd  : Int → Int → Bool → (Int → Prop) → Prop := (impl_place.ib ).W impl_place.g
noncomputable def impl_place.wp : Int → Int → Bool → (Int → Prop) → Prop := impl_place.bd 
noncomputable def impl_place.c : Ctr := impl_place.g.ctr impl_place.wp

-- (loop.example/g01247/impl.Grains).cell
noncomputable def impl_Grains_cell.g : Sig := ⟨58, [(.v (.a (.agg [(.int .i64), (.int .i64), (.sl 0)]))), (.v (.a (.one (.int .i64)))), (.v (.a (.one (.int .i64))))], [(.rd (.I .i64))], [.li, .int, .int, .int, .int], [(.v (.a (.one (.int .i64))))], [.keep], [.int]⟩
noncomputable def impl_Grains_cell.ib (w_impl_place : Int → Int → Bool → (Int → Prop) → Prop) : FnI := ⟨Try.prog, [], [impl_place.g.ctr w_impl_place], 19, [.tmp 6], bodyOf Try.f58, .leaf, []⟩
noncomputable def impl_Grains_cell.i : FnI := impl_Grains_cell.ib impl_place.wp
noncomputable def impl_Grains_cell.bd (w_impl_place : Int → Int → Bool → (Int → Prop) → Prop) : List Int → Int → Int → Int → Int → (Int → Prop) → Prop := (impl_Grains_cell.ib w_impl_place).W impl_Grains_cell.g
noncomputable def impl_Grains_cell.wp : List Int → Int → Int → Int → Int → (Int → Prop) → Prop := impl_Grains_cell.bd impl_place.wp
noncomputable def impl_Grains_cell.c : Ctr := impl_Grains_cell.g.ctr impl_Grains_cell.wp

-- (loop.example/g01247/impl.Grains).about
noncomputable def impl_Grains_about.g : Sig := ⟨54, [(.v (.a (.agg [(.int .i64), (.int .i64), (.sl 0)]))), (.v (.a (.one (.int .i64)))), (.v (.a (.one (.int .i64))))], [(.rd (.I .i64))], [.li, .int, .int, .int, .int], [(.v (.a (.one (.int .i64))))], [.keep], [.int]⟩
noncomputable def impl_Grains_about.ib (w_impl_Grains_cell : List Int → Int → Int → Int → Int → (Int → Prop) → Prop) : FnI := ⟨Try.prog, [], [impl_Grains_cell.g.ctr w_impl_Grains_cell], 15, [.tmp 6], bodyOf Try.f54, .leaf, []⟩
noncomputable def impl_Grains_about.i : FnI := impl_Grains_about.ib impl_Grains_cell.wp
noncomputable def impl_Grains_about.bd (w_impl_Grains_cell : List Int → Int → Int → Int → Int → (Int → Prop) → Prop) : List Int → Int → Int → Int → Int → (Int → Prop) → Prop := (impl_Grains_about.ib w_impl_Grains_cell).W impl_Grains_about.g
noncomputable def impl_Grains_about.wp : List Int → Int → Int → Int → Int → (Int → Prop) → Prop := impl_Grains_about.bd impl_Grains_cell.wp
noncomputable def impl_Grains_about.c : Ctr := impl_Grains_about.g.ctr impl_Grains_about.wp

-- (loop.example/g01247/impl.Grains).around
noncomputable def impl_Grains_around.g : Sig := ⟨83, [(.v (.a (.agg [(.int .i64), (.int .i64), (.sl 0)]))), (.v (.a (.one (.int .i64)))), (.v (.a (.one (.int .i64))))], [(.rd (.I .i64))], [.li, .int, .int, .int, .int], [(.v (.a (.one (.sl 1))))], [.keep, (.row 2 (.I .i64))], [.li]⟩
noncomputable def impl_Grains_around.ib (w_impl_Grains_about : List Int → Int → Int → Int → Int → (Int → Prop) → Prop) : FnI := ⟨Try.prog, [], [impl_Grains_about.g.ctr w_impl_Grains_about], 38, [.tmp 6], bodyOf Try.f83, (.seq .leaf (.seq .leaf (.seq (.seq .leaf (.block (.loop ⟨[3, 7, 19, 20], [.int, .int, .li, .int, .int, .int, .int, .int, .int, .int, .int, .int, .int, .int, .int, .int, .int, .int, .int, .int], [(.v (.a (.one (.pt 1 0)))), (.v (.a (.one (.sl 2)))), (.v (.a (.agg [(.int .i64), (.int .i64), (.int .i64), (.int .i64), (.int .i64), (.int .i64), (.int .i64), (.int .i64), (.int .i64), (.int .i64), (.int .i64), (.int .i64), (.int .i64), (.int .i64), (.int .i64), (.int .i64)]))), (.v (.a (.one (.int .i64))))], [.keep, (.box 26 [(.int .i64), (.int .i64), (.sl 0)]), (.row 2 (.I .i64))]⟩ .leaf))) .leaf))), []⟩
noncomputable def impl_Grains_around.i : FnI := impl_Grains_around.ib impl_Grains_about.wp
noncomputable def impl_Grains_around.bd (w_impl_Grains_about : List Int → Int → Int → Int → Int → (Int → Prop) → Prop) : List Int → Int → Int → Int → Int → (List Int → Prop) → Prop := (impl_Grains_around.ib w_impl_Grains_about).W impl_Grains_around.g
noncomputable def impl_Grains_around.wp : List Int → Int → Int → Int → Int → (List Int → Prop) → Prop := impl_Grains_around.bd impl_Grains_about.wp
noncomputable def impl_Grains_around.c : Ctr := impl_Grains_around.g.ctr impl_Grains_around.wp

-- (loop.example/g01247/impl.Grains).majority
noncomputable def impl_Grains_majority.g : Sig := ⟨77, [(.v (.a (.agg [(.int .i64), (.int .i64), (.sl 0)]))), (.v (.a (.one (.int .i64)))), (.v (.a (.one (.int .i64))))], [(.rd (.I .i64))], [.li, .int, .int, .int, .int], [(.v (.a (.one (.int .i64))))], [.keep], [.int]⟩
noncomputable def impl_Grains_majority.ib (w_impl_Grains_about : List Int → Int → Int → Int → Int → (Int → Prop) → Prop) (w_impl_Grains_around : List Int → Int → Int → Int → Int → (List Int → Prop) → Prop) : FnI := ⟨Try.prog, [], [impl_Grains_about.g.ctr w_impl_Grains_about, impl_Grains_around.g.ctr w_impl_Grains_around], 51, [.tmp 6], bodyOf Try.f77, (.seq .leaf (.seq .leaf (.seq .leaf (.seq (.seq .leaf (.block (.loop ⟨[7, 8, 25, 26, 27], [.li, .li, .int, .int, .int], [(.v (.a (.one (.int .i64)))), (.v (.a (.one (.pt 1 0)))), (.v (.a (.one (.sl 2)))), (.v (.a (.one (.int .i64)))), (.v (.a (.one (.int .i64))))], [.keep, (.arr 124 (.I .i64)), (.row 2 (.I .i64))]⟩ .leaf))) (.seq .leaf (.seq (.seq .leaf (.block (.loop ⟨[8, 11, 38, 39], [.li, .li, .int, .int], [(.v (.a (.one (.pt 1 0)))), (.v (.a (.one (.int .i64)))), (.v (.a (.one (.mp 2)))), (.v (.a (.one (.int .i64))))], [.keep, (.arr 124 (.I .i64)), (.snap (.I .i64))]⟩ .leaf))) .leaf)))))), []⟩
noncomputable def impl_Grains_majority.i : FnI := impl_Grains_majority.ib impl_Grains_about.wp impl_Grains_around.wp
noncomputable def impl_Grains_majority.bd (w_impl_Grains_about : List Int → Int → Int → Int → Int → (Int → Prop) → Prop) (w_impl_Grains_around : List Int → Int → Int → Int → Int → (List Int → Prop) → Prop) : List Int → Int → Int → Int → Int → (Int → Prop) → Prop := (impl_Grains_majority.ib w_impl_Grains_about w_impl_Grains_around).W impl_Grains_majority.g
noncomputable def impl_Grains_majority.wp : List Int → Int → Int → Int → Int → (Int → Prop) → Prop := impl_Grains_majority.bd impl_Grains_about.wp impl_Grains_around.wp
noncomputable def impl_Grains_majority.c : Ctr := impl_Grains_majority.g.ctr impl_Grains_majority.wp

-- loop.example/g01247/impl.grown
noncomputable def impl_grown__Grains_majority.g : Sig := ⟨60, [(.v (.a (.one (.int .i64)))), (.v (.a (.one (.int .i64)))), (.v (.fn 77 [(.agg [(.int .i64), (.int .i64), (.sl 0)])] []))], [(.rd (.I .i64))], [.li, .int, .int, .int, .int], [(.v (.a (.agg [(.int .i64), (.int .i64), (.sl 1)])))], [.keep, (.row 2 (.I .i64))], [.li, .int, .int]⟩
noncomputable def impl_grown__Grains_majority.ib (w_impl_Grains_majority : List Int → Int → Int → Int → Int → (Int → Prop) → Prop) : FnI := ⟨Try.prog, [], [impl_Grains_majority.g.ctr w_impl_Grains_majority], 34, [.cell 6 26], bodyOf Try.f60, (.seq .leaf (.seq .leaf (.seq (.seq .leaf (.block (.loop ⟨[6, 7, 14, 15], [.int, .int, .int, .int, .li, .li, .int, .int], [(.v (.a (.one (.pt 1 0)))), (.v (.a (.one (.pt 2 0)))), (.v (.a (.one (.int .i64)))), (.v (.a (.one (.int .i64))))], [.keep, (.box 26 [(.int .i64), (.int .i64), (.sl 3)]), (.box 26 [(.int .i64), (.int .i64), (.sl 4)]), (.row 2 (.I .i64)), (.row 2 (.I .i64))]⟩ (.seq .leaf (.seq .leaf (.seq (.block (.seq .leaf (.seq .leaf (.block (.loop ⟨[6, 7, 8, 14, 15, 18, 19], [.int, .int, .int, .int, .li, .li, .int, .int, .int, .int, .int], [(.v (.a (.one (.pt 1 0)))), (.v (.a (.one (.pt 2 0)))), (.v (.a (.one (.int .i64)))), (.v (.a (.one (.int .i64)))), (.v (.a (.one (.int .i64)))), (.v (.a (.one (.int .i64)))), (.v (.a (.one (.int .i64))))], [.keep, (.box 26 [(.int .i64), (.int .i64), (.sl 3)]), (.box 26 [(.int .i64), (.int .i64), (.sl 4)]), (.row 2 (.I .i64)), (.row 2 (.I .i64))]⟩ .leaf))))) .leaf)))))) .leaf))), []⟩
noncomputable def impl_grown__Grains_majority.i : FnI := impl_grown__Grains_majority.ib impl_Grains_majority.wp
noncomputable def impl_grown__Grains_majority.bd (w_impl_Grains_majority : List Int → Int → Int → Int → Int → (Int → Prop) → Prop) : List Int → Int → Int → Int → Int → (List Int → Int → Int → Prop) → Prop := (impl_grown__Grains_majority.ib w_impl_Grains_majority).W impl_grown__Grains_majority.g
noncomputable def impl_grown__Grains_majority.wp : List Int → Int → Int → Int → Int → (List Int → Int → Int → Prop) → Prop := impl_grown__Grains_majority.bd impl_Grains_majority.wp
noncomputable def impl_grown__Grains_majority.c : Ctr := impl_grown__Grains_majority.g.ctr impl_grown__Grains_majority.wp

-- slices.Equal[[]int64,int64]
noncomputable def slices_Equal_int64_int64.g : Sig := ⟨79, [(.v (.a (.one (.sl 0)))), (.v (.a (.one (.sl 1))))], [(.rd (.I .i64)), (.rd (.I .i64))], [.li, .li], [(.v (.a (.one .bool)))], [.keep, .keep], [.bool]⟩
noncomputable def slices_Equal_int64_int64.ib  : FnI := ⟨Try.prog, [], [], 26, [.tmp 4], bodyOf Try.f79, (.seq .leaf (.seq .leaf (.seq (.seq .leaf (.block (.loop ⟨[12, 13], [.int, .int], [(.v (.a (.one (.int .i64)))), (.v (.a (.one (.int .i64))))], [.keep, .keep]⟩ .leaf))) .leaf))), []⟩
noncomputable def slices_Equal_int64_int64.i : FnI := slices_Equal_int64_int64.ib 
noncomputable def slices_Equal_int64_int64.bd  : List Int → List Int → (Bool → Prop) → Prop := (slices_Equal_int64_int64.ib ).W slices_Equal_int64_int64.g
noncomputable def slices_Equal_int64_int64.wp : List Int → List Int → (Bool → Prop) → Prop := slices_Equal_int64_int64.bd 
noncomputable def slices_Equal_int64_int64.c : Ctr := slices_Equal_int64_int64.g.ctr slices_Equal_int64_int64.wp

-- loop.example/g01247/impl.SameGrains
noncomputable def impl_SameGrains.g : Sig := ⟨31, [(.v (.a (.agg [(.int .i64), (.int .i64), (.sl 0)]))), (.v (.a (.agg [(.int .i64), (.int .i64), (.sl 1)])))], [(.rd (.I .i64)), (.rd (.I .i64))], [.li, .li, .int, .int, .int, .int], [(.v (.a (.one .bool)))], [.keep, .keep], [.bool]⟩
noncomputable def impl_SameGrains.ib (w_slices_Equal_int64_int64 : List Int → List Int → (Bool → Prop) → Prop) : FnI := ⟨Try.prog, [], [slices_Equal_int64_int64.g.ctr w_slices_Equal_int64_int64], 24, [.tmp 4], bodyOf Try.f31, .leaf, []⟩
noncomputable def impl_SameGrains.i : FnI := impl_SameGrains.ib slices_Equal_int64_int64.wp
noncomputable def impl_SameGrains.bd (w_slices_Equal_int64_int64 : List Int → List Int → (Bool → Prop) → Prop) : List Int → List Int → Int → Int → Int → Int → (Bool → Prop) → Prop := (impl_SameGrains.ib w_slices_Equal_int64_int64).W impl_SameGrains.g
noncomputable def impl_SameGrains.wp : List Int → List Int → Int → Int → Int → Int → (Bool → Prop) → Prop := impl_SameGrains.bd slices_Equal_int64_int64.wp
noncomputable def impl_SameGrains.c : Ctr := impl_SameGrains.g.ctr impl_SameGrains.wp

-- loop.example/g01247/impl.MajorityGrains
noncomputable def impl_MajorityGrains.g : Sig := ⟨26, [(.v (.a (.agg [(.int .i64), (.int .i64), (.sl 0)]))), (.v (.a (.one (.int .i64))))], [(.rd (.I .i64))], [.li, .int, .int, .int], [(.tup [(.a (.agg [(.int .i64), (.int .i64), (.sl 1)])), (.a (.one (.int .i64))), (.a (.one .bool))])], [.keep, (.row 2 (.I .i64))], [.li, .int, .int, .int, .bool]⟩
noncomputable def impl_MajorityGrains.ib (w_impl_ValidGrains : List Int → Int → Int → (Bool → Prop) → Prop) (w_impl_within : Int → Int → Int → (Bool → Prop) → Prop) (w_slices_Clone_int64_int64 : List Int → (List Int → Prop) → Prop) (w_impl_grown__Grains_majority : List Int → Int → Int → Int → Int → (List Int → Int → Int → Prop) → Prop) (w_impl_SameGrains : List Int → List Int → Int → Int → Int → Int → (Bool → Prop) → Prop) : FnI := ⟨Try.prog, [], [impl_ValidGrains.g.ctr w_impl_ValidGrains, impl_within.g.ctr w_impl_within, slices_Clone_int64_int64.g.ctr w_slices_Clone_int64_int64, impl_grown__Grains_majority.g.ctr w_impl_grown__Grains_majority, impl_SameGrains.g.ctr w_impl_SameGrains], 41, [.cell 4 26, .tmp 5, .tmp 6], bodyOf Try.f26, (.seq .leaf (.seq .leaf (.seq .leaf (.seq .leaf (.seq (.seq .leaf (.block (.loop ⟨[2, 4, 7, 22, 23], [.int, .int, .int, .int, .li, .li, .int, .int, .int], [(.v (.a (.one (.pt 1 0)))), (.v (.a (.one (.pt 2 0)))), (.v (.a (.one (.int .i64)))), (.v (.a (.one (.int .i64)))), (.v (.a (.one (.int .i64))))], [.keep, (.box 26 [(.int .i64), (.int .i64), (.sl 3)]), (.box 26 [(.int .i64), (.int .i64), (.sl 4)]), (.row 2 (.I .i64)), (.row 2 (.I .i64))]⟩ .leaf))) .leaf))))), []⟩
noncomputable def impl_MajorityGrains.i : FnI := impl_MajorityGrains.ib impl_ValidGrains.wp impl_within.wp slices_Clone_int64_int64.wp impl_grown__Grains_majority.wp impl_SameGrains.wp
noncomputable def impl_MajorityGrains.bd (w_impl_ValidGrains : List Int → Int → Int → (Bool → Prop) → Prop) (w_impl_within : Int → Int → Int → (Bool → Prop) → Prop) (w_slices_Clone_int64_int64 : List Int → (List Int → Prop) → Prop) (w_impl_grown__Grains_majority : List Int → Int → Int → Int → Int → (List Int → Int → Int → Prop) → Prop) (w_impl_SameGrains : List Int → List Int → Int → Int → Int → Int → (Bool → Prop) → Prop) : List Int → Int → Int → Int → (List Int → Int → Int → Int → Bool → Prop) → Prop := (impl_MajorityGrains.ib w_impl_ValidGrains w_impl_within w_slices_Clone_int64_int64 w_impl_grown__Grains_majority w_impl_SameGrains).W impl_MajorityGrains.g
noncomputable def impl_MajorityGrains.wp : List Int → Int → Int → Int → (List Int → Int → Int → Int → Bool → Prop) → Prop := impl_MajorityGrains.bd impl_ValidGrains.wp impl_within.wp slices_Clone_int64_int64.wp impl_grown__Grains_majority.wp impl_SameGrains.wp
noncomputable def impl_MajorityGrains.c : Ctr := impl_MajorityGrains.g.ctr impl_MajorityGrains.wp

-- loop.example/g01247/impl.isLabel
noncomputable def impl_isLabel.g : Sig := ⟨56, [(.v (.a (.one (.int .i64))))], [], [.int], [(.v (.a (.one .bool)))], [], [.bool]⟩
noncomputable def impl_isLabel.ib (w_impl_within : Int → Int → Int → (Bool → Prop) → Prop) : FnI := ⟨Try.prog, [], [impl_within.g.ctr w_impl_within], 5, [.tmp 2], bodyOf Try.f56, .leaf, []⟩
noncomputable def impl_isLabel.i : FnI := impl_isLabel.ib impl_within.wp
noncomputable def impl_isLabel.bd (w_impl_within : Int → Int → Int → (Bool → Prop) → Prop) : Int → (Bool → Prop) → Prop := (impl_isLabel.ib w_impl_within).W impl_isLabel.g
noncomputable def impl_isLabel.wp : Int → (Bool → Prop) → Prop := impl_isLabel.bd impl_within.wp
noncomputable def impl_isLabel.c : Ctr := impl_isLabel.g.ctr impl_isLabel.wp

-- loop.example/g01247/impl.FlatGrains$1
noncomputable def impl_FlatGrains_1.g : Sig := ⟨80, [(.v (.a (.one (.int .i64)))), (.v (.a (.one (.int .i64)))), (.v (.a (.one (.pt 0 0))))], [(.rdb [(.int .i64)])], [.int, .int, .int], [(.v (.a (.one (.int .i64))))], [.keep], [.int]⟩
noncomputable def impl_FlatGrains_1.ib  : FnI := ⟨Try.prog, [], [], 7, [.tmp 5], bodyOf Try.f80, .leaf, []⟩
noncomputable def impl_FlatGrains_1.i : FnI := impl_FlatGrains_1.ib 
noncomputable def impl_FlatGrains_1.bd  : Int → Int → Int → (Int → Prop) → Prop := (impl_FlatGrains_1.ib ).W impl_FlatGrains_1.g
noncomputable def impl_FlatGrains_1.wp : Int → Int → Int → (Int → Prop) → Prop := impl_FlatGrains_1.bd 
noncomputable def impl_FlatGrains_1.c : Ctr := impl_FlatGrains_1.g.ctr impl_FlatGrains_1.wp

-- loop.example/g01247/impl.grown
noncomputable def impl_grown__FlatGrains_1.g : Sig := ⟨60, [(.v (.a (.one (.int .i64)))), (.v (.a (.one (.int .i64)))), (.v (.fn 80 [] [(.one (.pt 0 0))]))], [(.rdb [(.int .i64)])], [.int, .int, .int], [(.v (.a (.agg [(.int .i64), (.int .i64), (.sl 1)])))], [.keep, (.row 2 (.I .i64))], [.li, .int, .int]⟩
noncomputable def impl_grown__FlatGrains_1.ib (w_impl_FlatGrains_1 : Int → Int → Int → (Int → Prop) → Prop) : FnI := ⟨Try.prog, [], [impl_FlatGrains_1.g.ctr w_impl_FlatGrains_1], 34, [.cell 6 26], bodyOf Try.f60, (.seq .leaf (.seq .leaf (.seq (.seq .leaf (.block (.loop ⟨[6, 7, 14, 15], [.int, .int, .int, .int, .li, .li, .int, .int], [(.v (.a (.one (.pt 1 0)))), (.v (.a (.one (.pt 2 0)))), (.v (.a (.one (.int .i64)))), (.v (.a (.one (.int .i64))))], [.keep, (.box 26 [(.int .i64), (.int .i64), (.sl 3)]), (.box 26 [(.int .i64), (.int .i64), (.sl 4)]), (.row 2 (.I .i64)), (.row 2 (.I .i64))]⟩ (.seq .leaf (.seq .leaf (.seq (.block (.seq .leaf (.seq .leaf (.block (.loop ⟨[6, 7, 8, 14, 15, 18, 19], [.int, .int, .int, .int, .li, .li, .int, .int, .int, .int, .int], [(.v (.a (.one (.pt 1 0)))), (.v (.a (.one (.pt 2 0)))), (.v (.a (.one (.int .i64)))), (.v (.a (.one (.int .i64)))), (.v (.a (.one (.int .i64)))), (.v (.a (.one (.int .i64)))), (.v (.a (.one (.int .i64))))], [.keep, (.box 26 [(.int .i64), (.int .i64), (.sl 3)]), (.box 26 [(.int .i64), (.int .i64), (.sl 4)]), (.row 2 (.I .i64)), (.row 2 (.I .i64))]⟩ .leaf))))) .leaf)))))) .leaf))), []⟩
noncomputable def impl_grown__FlatGrains_1.i : FnI := impl_grown__FlatGrains_1.ib impl_FlatGrains_1.wp
noncomputable def impl_grown__FlatGrains_1.bd (w_impl_FlatGrains_1 : Int → Int → Int → (Int → Prop) → Prop) : Int → Int → Int → (List Int → Int → Int → Prop) → Prop := (impl_grown__FlatGrains_1.ib w_impl_FlatGrains_1).W impl_grown__FlatGrains_1.g
noncomputable def impl_grown__FlatGrains_1.wp : Int → Int → Int → (List Int → Int → Int → Prop) → Prop := impl_grown__FlatGrains_1.bd impl_FlatGrains_1.wp
noncomputable def impl_grown__FlatGrains_1.c : Ctr := impl_grown__FlatGrains_1.g.ctr impl_grown__FlatGrains_1.wp

-- loop.example/g01247/impl.FlatGrains
noncomputable def impl_FlatGrains.g : Sig := ⟨32, [(.v (.a (.one (.int .i64)))), (.v (.a (.one (.int .i64)))), (.v (.a (.one (.int .i64))))], [], [.int, .int, .int], [(.tup [(.a (.agg [(.int .i64), (.int .i64), (.sl 0)])), (.a (.one .bool))])], [(.row 2 (.I .i64))], [.li, .int, .int, .bool]⟩
noncomputable def impl_FlatGrains.ib (w_impl_areWithin : List Int → Int → Int → (Bool → Prop) → Prop) (w_impl_isLabel : Int → (Bool → Prop) → Prop) (w_impl_grown__FlatGrains_1 : Int → Int → Int → (List Int → Int → Int → Prop) → Prop) : FnI := ⟨Try.prog, [], [impl_areWithin.g.ctr w_impl_areWithin, impl_isLabel.g.ctr w_impl_isLabel, impl_grown__FlatGrains_1.g.ctr w_impl_grown__FlatGrains_1], 23, [.cell 6 26, .tmp 7], bodyOf Try.f32, .leaf, []⟩
noncomputable def impl_FlatGrains.i : FnI := impl_FlatGrains.ib impl_areWithin.wp impl_isLabel.wp impl_grown__FlatGrains_1.wp
noncomputable def impl_FlatGrains.bd (w_impl_areWithin : List Int → Int → Int → (Bool → Prop) → Prop) (w_impl_isLabel : Int → (Bool → Prop) → Prop) (w_impl_grown__FlatGrains_1 : Int → Int → Int → (List Int → Int → Int → Prop) → Prop) : Int → Int → Int → (List Int → Int → Int → Bool → Prop) → Prop := (impl_FlatGrains.ib w_impl_areWithin w_impl_isLabel w_impl_grown__FlatGrains_1).W impl_FlatGrains.g
noncomputable def impl_FlatGrains.wp : Int → Int → Int → (List Int → Int → Int → Bool → Prop) → Prop := impl_FlatGrains.bd impl_areWithin.wp impl_isLabel.wp impl_grown__FlatGrains_1.wp
noncomputable def impl_FlatGrains.c : Ctr := impl_FlatGrains.g.ctr impl_FlatGrains.wp

-- slices.Sort[[]int64,int64]
noncomputable def slices_Sort_int64_int64.g : Sig := ⟨109, [(.v (.a (.one (.sl 0))))], [(.row 2 (.I .i64))], [.li], [(.tup [])], [(.row 2 (.I .i64))], [.li]⟩
noncomputable def slices_Sort_int64_int64.wp : List Int → (List Int → Prop) → Prop := fun l K => l.length ≤ 1099511627776 ∧ K (sortZ l)
noncomputable def slices_Sort_int64_int64.c : Ctr := slices_Sort_int64_int64.g.ctr slices_Sort_int64_int64.wp

-- slices.Compact[[]int64,int64]
noncomputable def slices_Compact_int64_int64.g : Sig := ⟨110, [(.v (.a (.one (.sl 0))))], [(.row 2 (.I .i64))], [.li], [(.v (.a (.one (.sl 1))))], [.dead, (.row 2 (.I .i64))], [.li]⟩
noncomputable def slices_Compact_int64_int64.wp : List Int → (List Int → Prop) → Prop := fun l K => l.length ≤ 1099511627776 ∧ K (compZ l)
noncomputable def slices_Compact_int64_int64.c : Ctr := slices_Compact_int64_int64.g.ctr slices_Compact_int64_int64.wp

-- loop.example/g01247/impl.set
noncomputable def impl_set.g : Sig := ⟨65, [(.v (.a (.one (.sl 0))))], [(.rd (.I .i64))], [.li], [(.v (.a (.one (.sl 1))))], [.keep, (.row 2 (.I .i64))], [.li]⟩
noncomputable def impl_set.ib (w_slices_Sort_int64_int64 : List Int → (List Int → Prop) → Prop) (w_slices_Compact_int64_int64 : List Int → (List Int → Prop) → Prop) : FnI := ⟨Try.prog, [], [slices_Sort_int64_int64.g.ctr w_slices_Sort_int64_int64, slices_Compact_int64_int64.g.ctr w_slices_Compact_int64_int64], 11, [.tmp 2], bodyOf Try.f65, .leaf, []⟩
noncomputable def impl_set.i : FnI := impl_set.ib slices_Sort_int64_int64.wp slices_Compact_int64_int64.wp
noncomputable def impl_set.bd (w_slices_Sort_int64_int64 : List Int → (List Int → Prop) → Prop) (w_slices_Compact_int64_int64 : List Int → (List Int → Prop) → Prop) : List Int → (List Int → Prop) → Prop := (impl_set.ib w_slices_Sort_int64_int64 w_slices_Compact_int64_int64).W impl_set.g
noncomputable def impl_set.wp : List Int → (List Int → Prop) → Prop := impl_set.bd slices_Sort_int64_int64.wp slices_Compact_int64_int64.wp
noncomputable def impl_set.c : Ctr := impl_set.g.ctr impl_set.wp

-- loop.example/g01247/impl.LabelsOf
noncomputable def impl_LabelsOf.g : Sig := ⟨33, [(.v (.a (.agg [(.int .i64), (.int .i64), (.sl 0)])))], [(.rd (.I .i64))], [.li, .int, .int], [(.tup [(.a (.one (.sl 1))), (.a (.one .bool))])], [.keep, (.row 2 (.I .i64))], [.li, .bool]⟩
noncomputable def impl_LabelsOf.ib (w_impl_ValidGrains : List Int → Int → Int → (Bool → Prop) → Prop) (w_impl_set : List Int → (List Int → Prop) → Prop) : FnI := ⟨Try.prog, [], [impl_ValidGrains.g.ctr w_impl_ValidGrains, impl_set.g.ctr w_impl_set], 10, [.tmp 2, .tmp 3], bodyOf Try.f33, .leaf, []⟩
noncomputable def impl_LabelsOf.i : FnI := impl_LabelsOf.ib impl_ValidGrains.wp impl_set.wp
noncomputable def impl_LabelsOf.bd (w_impl_ValidGrains : List Int → Int → Int → (Bool → Prop) → Prop) (w_impl_set : List Int → (List Int → Prop) → Prop) : List Int → Int → Int → (List Int → Bool → Prop) → Prop := (impl_LabelsOf.ib w_impl_ValidGrains w_impl_set).W impl_LabelsOf.g
noncomputable def impl_LabelsOf.wp : List Int → Int → Int → (List Int → Bool → Prop) → Prop := impl_LabelsOf.bd impl_ValidGrains.wp impl_set.wp
noncomputable def impl_LabelsOf.c : Ctr := impl_LabelsOf.g.ctr impl_LabelsOf.wp

-- loop.example/g01247/laws.FnMajorities
noncomputable def laws_FnMajorities.g : Sig := ⟨6, [(.v (.a (.one (.sl 0)))), (.v (.a (.one (.sl 1))))], [(.rd (.I .u8)), (.rd (.I .u8))], [.li, .li], [(.v (.a (.one .bool)))], [.keep, .keep], [.bool]⟩
noncomputable def laws_FnMajorities.ib (w_laws_r8Long : List Int → List Int → (Bool → Prop) → Prop) (w_spec_R8Grains : List Int → (List Int → Int → Int → Prop) → Prop) (w_laws_r8At : List Int → Int → Int → (Int → Prop) → Prop) (w_impl_MajorityGrains : List Int → Int → Int → Int → (List Int → Int → Int → Int → Bool → Prop) → Prop) (w_impl_SameGrains : List Int → List Int → Int → Int → Int → Int → (Bool → Prop) → Prop) (w_impl_FlatGrains : Int → Int → Int → (List Int → Int → Int → Bool → Prop) → Prop) (w_impl_LabelsOf : List Int → Int → Int → (List Int → Bool → Prop) → Prop) : FnI := ⟨Try.prog, [], [laws_r8Long.g.ctr w_laws_r8Long, spec_R8Grains.g.ctr w_spec_R8Grains, laws_r8At.g.ctr w_laws_r8At, impl_MajorityGrains.g.ctr w_impl_MajorityGrains, impl_SameGrains.g.ctr w_impl_SameGrains, impl_FlatGrains.g.ctr w_impl_FlatGrains, impl_LabelsOf.g.ctr w_impl_LabelsOf], 215, [.tmp 4], bodyOf Try.f6, (.seq .leaf (.seq .leaf (.seq .leaf (.seq .leaf (.seq .leaf (.seq .leaf (.seq .leaf (.seq .leaf (.seq .leaf (.seq .leaf (.seq .leaf (.seq .leaf (.seq .leaf (.seq .leaf (.seq .leaf (.seq .leaf (.seq (.seq .leaf (.block (.loop ⟨[27, 29, 31], [.li, .li, .int], [(.v (.a (.one (.sl 2)))), (.v (.a (.one (.sl 3)))), (.v (.a (.one (.int .i64))))], [.keep, .keep, (.row 2 (.I .i64)), (.row 2 (.I .i64))]⟩ (.seq .leaf (.seq (.block (.seq .leaf (.seq (.seq .leaf (.block (.loop ⟨[27, 29, 31, 32, 33], [.li, .li, .int, .bool, .int], [(.v (.a (.one (.sl 2)))), (.v (.a (.one (.sl 3)))), (.v (.a (.one (.int .i64)))), (.v (.a (.one .bool))), (.v (.a (.one (.int .i64))))], [.keep, .keep, (.row 2 (.I .i64)), (.row 2 (.I .i64))]⟩ .leaf))) .leaf))) .leaf))))) .leaf))))))))))))))))), []⟩
noncomputable def laws_FnMajorities.i : FnI := laws_FnMajorities.ib laws_r8Long.wp spec_R8Grains.wp laws_r8At.wp impl_MajorityGrains.wp impl_SameGrains.wp impl_FlatGrains.wp impl_LabelsOf.wp
noncomputable def laws_FnMajorities.bd (w_laws_r8Long : List Int → List Int → (Bool → Prop) → Prop) (w_spec_R8Grains : List Int → (List Int → Int → Int → Prop) → Prop) (w_laws_r8At : List Int → Int → Int → (Int → Prop) → Prop) (w_impl_MajorityGrains : List Int → Int → Int → Int → (List Int → Int → Int → Int → Bool → Prop) → Prop) (w_impl_SameGrains : List Int → List Int → Int → Int → Int → Int → (Bool → Prop) → Prop) (w_impl_FlatGrains : Int → Int → Int → (List Int → Int → Int → Bool → Prop) → Prop) (w_impl_LabelsOf : List Int → Int → Int → (List Int → Bool → Prop) → Prop) : List Int → List Int → (Bool → Prop) → Prop := (laws_FnMajorities.ib w_laws_r8Long w_spec_R8Grains w_laws_r8At w_impl_MajorityGrains w_impl_SameGrains w_impl_FlatGrains w_impl_LabelsOf).W laws_FnMajorities.g
noncomputable def laws_FnMajorities.wp : List Int → List Int → (Bool → Prop) → Prop := laws_FnMajorities.bd laws_r8Long.wp spec_R8Grains.wp laws_r8At.wp impl_MajorityGrains.wp impl_SameGrains.wp impl_FlatGrains.wp impl_LabelsOf.wp
noncomputable def laws_FnMajorities.c : Ctr := laws_FnMajorities.g.ctr laws_FnMajorities.wp

-- loop.example/g01247/impl.isSeed
noncomputable def impl_isSeed.g : Sig := ⟨81, [(.v (.a (.one (.int .i64))))], [], [.int], [(.v (.a (.one .bool)))], [], [.bool]⟩
noncomputable def impl_isSeed.ib (w_impl_within : Int → Int → Int → (Bool → Prop) → Prop) : FnI := ⟨Try.prog, [], [impl_within.g.ctr w_impl_within], 5, [.tmp 2], bodyOf Try.f81, .leaf, []⟩
noncomputable def impl_isSeed.i : FnI := impl_isSeed.ib impl_within.wp
noncomputable def impl_isSeed.bd (w_impl_within : Int → Int → Int → (Bool → Prop) → Prop) : Int → (Bool → Prop) → Prop := (impl_isSeed.ib w_impl_within).W impl_isSeed.g
noncomputable def impl_isSeed.wp : Int → (Bool → Prop) → Prop := impl_isSeed.bd impl_within.wp
noncomputable def impl_isSeed.c : Ctr := impl_isSeed.g.ctr impl_isSeed.wp

-- loop.example/g01247/impl.draw
noncomputable def impl_draw.g : Sig := ⟨82, [(.v (.a (.one (.int .i64))))], [], [.int], [(.tup [(.a (.one (.int .i64))), (.a (.one (.int .i64)))])], [], [.int, .int]⟩
noncomputable def impl_draw.ib  : FnI := ⟨Try.prog, [], [], 11, [.tmp 2, .tmp 3], bodyOf Try.f82, .leaf, [0]⟩
noncomputable def impl_draw.i : FnI := impl_draw.ib 
noncomputable def impl_draw.bd  : Int → (Int → Int → Prop) → Prop := (impl_draw.ib ).W impl_draw.g
noncomputable def impl_draw.wp : Int → (Int → Int → Prop) → Prop := impl_draw.bd 
noncomputable def impl_draw.c : Ctr := impl_draw.g.ctr impl_draw.wp

-- (loop.example/g01247/impl.Grains).unlike
noncomputable def impl_Grains_unlike.g : Sig := ⟨59, [(.v (.a (.agg [(.int .i64), (.int .i64), (.sl 0)]))), (.v (.a (.one (.int .i64)))), (.v (.a (.one (.int .i64)))), (.v (.a (.one (.int .i64))))], [(.rd (.I .i64))], [.li, .int, .int, .int, .int, .int], [(.v (.a (.one (.int .i64))))], [.keep], [.int]⟩
noncomputable def impl_Grains_unlike.ib (w_impl_Grains_around : List Int → Int → Int → Int → Int → (List Int → Prop) → Prop) : FnI := ⟨Try.prog, [], [impl_Grains_around.g.ctr w_impl_Grains_around], 28, [.tmp 8], bodyOf Try.f59, (.seq .leaf (.seq .leaf (.seq (.seq .leaf (.block (.loop ⟨[9, 15, 16, 17], [.li, .int, .int, .int], [(.v (.a (.one (.int .i64)))), (.v (.a (.one (.sl 1)))), (.v (.a (.one (.int .i64)))), (.v (.a (.one (.int .i64))))], [.keep, (.row 2 (.I .i64))]⟩ .leaf))) .leaf))), []⟩
noncomputable def impl_Grains_unlike.i : FnI := impl_Grains_unlike.ib impl_Grains_around.wp
noncomputable def impl_Grains_unlike.bd (w_impl_Grains_around : List Int → Int → Int → Int → Int → (List Int → Prop) → Prop) : List Int → Int → Int → Int → Int → Int → (Int → Prop) → Prop := (impl_Grains_unlike.ib w_impl_Grains_around).W impl_Grains_unlike.g
noncomputable def impl_Grains_unlike.wp : List Int → Int → Int → Int → Int → Int → (Int → Prop) → Prop := impl_Grains_unlike.bd impl_Grains_around.wp
noncomputable def impl_Grains_unlike.c : Ctr := impl_Grains_unlike.g.ctr impl_Grains_unlike.wp

-- loop.example/g01247/impl.FlipGrains
noncomputable def impl_FlipGrains.g : Sig := ⟨34, [(.v (.a (.agg [(.int .i64), (.int .i64), (.sl 0)]))), (.v (.a (.one (.int .i64)))), (.v (.a (.one (.flt .f32)))), (.v (.a (.one (.int .i64))))], [(.rd (.I .i64))], [.li, .int, .int, .int, .flt, .int], [(.tup [(.a (.agg [(.int .i64), (.int .i64), (.sl 1)])), (.a (.one (.int .i64))), (.a (.one (.int .i64))), (.a (.one .bool))])], [.keep, (.row 2 (.I .i64))], [.li, .int, .int, .int, .int, .bool]⟩
noncomputable def impl_FlipGrains.ib (w_impl_ValidGrains : List Int → Int → Int → (Bool → Prop) → Prop) (w_impl_isSeed : Int → (Bool → Prop) → Prop) (w_impl_within : Int → Int → Int → (Bool → Prop) → Prop) (w_slices_Clone_int64_int64 : List Int → (List Int → Prop) → Prop) (w_impl_draw : Int → (Int → Int → Prop) → Prop) (w_impl_Grains_around : List Int → Int → Int → Int → Int → (List Int → Prop) → Prop) (w_impl_Grains_about : List Int → Int → Int → Int → Int → (Int → Prop) → Prop) (w_impl_Grains_unlike : List Int → Int → Int → Int → Int → Int → (Int → Prop) → Prop) (w_impl_Grains_cell : List Int → Int → Int → Int → Int → (Int → Prop) → Prop) : FnI := ⟨Try.prog, [], [impl_ValidGrains.g.ctr w_impl_ValidGrains, impl_isSeed.g.ctr w_impl_isSeed, impl_within.g.ctr w_impl_within, slices_Clone_int64_int64.g.ctr w_slices_Clone_int64_int64, impl_draw.g.ctr w_impl_draw, impl_Grains_around.g.ctr w_impl_Grains_around, impl_Grains_about.g.ctr w_impl_Grains_about, impl_Grains_unlike.g.ctr w_impl_Grains_unlike, impl_Grains_cell.g.ctr w_impl_Grains_cell], 129, [.cell 8 26, .tmp 9, .tmp 10, .tmp 11], bodyOf Try.f34, (.seq .leaf (.seq .leaf (.seq .leaf (.seq .leaf (.seq .leaf (.seq (.seq .leaf (.block (.loop ⟨[1, 4, 8, 13, 39, 40], [.int, .int, .int, .int, .li, .li, .int, .int, .int, .int], [(.v (.a (.one (.int .i64)))), (.v (.a (.one (.pt 1 0)))), (.v (.a (.one (.pt 2 0)))), (.v (.a (.one (.int .i64)))), (.v (.a (.one (.int .i64)))), (.v (.a (.one (.int .i64))))], [.keep, (.box 26 [(.int .i64), (.int .i64), (.sl 3)]), (.box 26 [(.int .i64), (.int .i64), (.sl 4)]), (.row 2 (.I .i64)), (.row 2 (.I .i64))]⟩ (.seq .leaf (.seq .leaf (.seq (.block (.seq .leaf (.seq .leaf (.seq .leaf (.seq .leaf (.seq .leaf (.seq .leaf (.seq .leaf (.seq .leaf (.seq (.seq .leaf (.condJ ⟨[1, 4, 8, 13, 14, 15, 16, 17, 19, 39, 40], [.int, .int, .int, .int, .li, .li, .int, .int, .int, .int, .int, .int, .bool, .int, .int], [(.v (.a (.one (.int .i64)))), (.v (.a (.one (.pt 1 0)))), (.v (.a (.one (.pt 2 0)))), (.v (.a (.one (.int .i64)))), (.v (.a (.one (.int .i64)))), (.v (.a (.one (.int .i64)))), (.v (.a (.one (.int .i64)))), (.v (.a (.one (.int .i64)))), (.v (.a (.one .bool))), (.v (.a (.one (.int .i64)))), (.v (.a (.one (.int .i64))))], [.keep, (.box 26 [(.int .i64), (.int .i64), (.sl 3)]), (.box 26 [(.int .i64), (.int .i64), (.sl 4)]), (.row 2 (.I .i64)), (.row 2 (.I .i64))]⟩ (.seq .leaf (.seq .leaf (.seq (.seq .leaf (.block (.loop ⟨[1, 4, 8, 12, 13, 14, 15, 16, 17, 20, 39, 40, 97, 98], [.int, .int, .int, .int, .li, .li, .int, .int, .int, .int, .int, .int, .int, .flt, .int, .int, .int, .int], [(.v (.a (.one (.int .i64)))), (.v (.a (.one (.pt 1 0)))), (.v (.a (.one (.pt 2 0)))), (.v (.a (.one (.int .i64)))), (.v (.a (.one (.int .i64)))), (.v (.a (.one (.int .i64)))), (.v (.a (.one (.int .i64)))), (.v (.a (.one (.int .i64)))), (.v (.a (.one (.int .i64)))), (.v (.a (.one (.flt .f32)))), (.v (.a (.one (.int .i64)))), (.v (.a (.one (.int .i64)))), (.v (.a (.one (.int .i64)))), (.v (.a (.one (.int .i64))))], [.keep, (.box 26 [(.int .i64), (.int .i64), (.sl 3)]), (.box 26 [(.int .i64), (.int .i64), (.sl 4)]), (.row 2 (.I .i64)), (.row 2 (.I .i64))]⟩ .leaf))) .leaf))) .leaf)) .leaf)))))))))) .leaf)))))) .leaf)))))), [1]⟩
noncomputable def impl_FlipGrains.i : FnI := impl_FlipGrains.ib impl_ValidGrains.wp impl_isSeed.wp impl_within.wp slices_Clone_int64_int64.wp impl_draw.wp impl_Grains_around.wp impl_Grains_about.wp impl_Grains_unlike.wp impl_Grains_cell.wp
noncomputable def impl_FlipGrains.bd (w_impl_ValidGrains : List Int → Int → Int → (Bool → Prop) → Prop) (w_impl_isSeed : Int → (Bool → Prop) → Prop) (w_impl_within : Int → Int → Int → (Bool → Prop) → Prop) (w_slices_Clone_int64_int64 : List Int → (List Int → Prop) → Prop) (w_impl_draw : Int → (Int → Int → Prop) → Prop) (w_impl_Grains_around : List Int → Int → Int → Int → Int → (List Int → Prop) → Prop) (w_impl_Grains_about : List Int → Int → Int → Int → Int → (Int → Prop) → Prop) (w_impl_Grains_unlike : List Int → Int → Int → Int → Int → Int → (Int → Prop) → Prop) (w_impl_Grains_cell : List Int → Int → Int → Int → Int → (Int → Prop) → Prop) : List Int → Int → Int → Int → Nat → Int → (List Int → Int → Int → Int → Int → Bool → Prop) → Prop := (impl_FlipGrains.ib w_impl_ValidGrains w_impl_isSeed w_impl_within w_slices_Clone_int64_int64 w_impl_draw w_impl_Grains_around w_impl_Grains_about w_impl_Grains_unlike w_impl_Grains_cell).W impl_FlipGrains.g
noncomputable def impl_FlipGrains.wp : List Int → Int → Int → Int → Nat → Int → (List Int → Int → Int → Int → Int → Bool → Prop) → Prop := impl_FlipGrains.bd impl_ValidGrains.wp impl_isSeed.wp impl_within.wp slices_Clone_int64_int64.wp impl_draw.wp impl_Grains_around.wp impl_Grains_about.wp impl_Grains_unlike.wp impl_Grains_cell.wp
noncomputable def impl_FlipGrains.c : Ctr := impl_FlipGrains.g.ctr impl_FlipGrains.wp

-- loop.example/g01247/impl.UnlikePairs
noncomputable def impl_UnlikePairs.g : Sig := ⟨16, [(.v (.a (.agg [(.int .i64), (.int .i64), (.sl 0)])))], [(.rd (.I .i64))], [.li, .int, .int], [(.tup [(.a (.one (.int .i64))), (.a (.one .bool))])], [.keep], [.int, .bool]⟩
noncomputable def impl_UnlikePairs.ib (w_impl_ValidGrains : List Int → Int → Int → (Bool → Prop) → Prop) (w_impl_Grains_unlike : List Int → Int → Int → Int → Int → Int → (Int → Prop) → Prop) : FnI := ⟨Try.prog, [], [impl_ValidGrains.g.ctr w_impl_ValidGrains, impl_Grains_unlike.g.ctr w_impl_Grains_unlike], 34, [.tmp 2, .tmp 3], bodyOf Try.f16, (.seq .leaf (.seq .leaf (.seq .leaf (.seq (.seq .leaf (.block (.loop ⟨[1, 4, 11, 12, 13], [.int, .int, .int, .int, .int], [(.v (.a (.one (.pt 1 0)))), (.v (.a (.one (.int .i64)))), (.v (.a (.one (.sl 0)))), (.v (.a (.one (.int .i64)))), (.v (.a (.one (.int .i64))))], [.keep, (.box 26 [(.int .i64), (.int .i64), (.sl 0)])]⟩ .leaf))) .leaf)))), []⟩
noncomputable def impl_UnlikePairs.i : FnI := impl_UnlikePairs.ib impl_ValidGrains.wp impl_Grains_unlike.wp
noncomputable def impl_UnlikePairs.bd (w_impl_ValidGrains : List Int → Int → Int → (Bool → Prop) → Prop) (w_impl_Grains_unlike : List Int → Int → Int → Int → Int → Int → (Int → Prop) → Prop) : List Int → Int → Int → (Int → Bool → Prop) → Prop := (impl_UnlikePairs.ib w_impl_ValidGrains w_impl_Grains_unlike).W impl_UnlikePairs.g
noncomputable def impl_UnlikePairs.wp : List Int → Int → Int → (Int → Bool → Prop) → Prop := impl_UnlikePairs.bd impl_ValidGrains.wp impl_Grains_unlike.wp
noncomputable def impl_UnlikePairs.c : Ctr := impl_UnlikePairs.g.ctr impl_UnlikePairs.wp

-- loop.example/g01247/impl.CountOfLabel
noncomputable def impl_CountOfLabel.g : Sig := ⟨36, [(.v (.a (.agg [(.int .i64), (.int .i64), (.sl 0)]))), (.v (.a (.one (.int .i64))))], [(.rd (.I .i64))], [.li, .int, .int, .int], [(.tup [(.a (.one (.int .i64))), (.a (.one .bool))])], [.keep], [.int, .bool]⟩
noncomputable def impl_CountOfLabel.ib (w_impl_ValidGrains : List Int → Int → Int → (Bool → Prop) → Prop) (w_impl_isLabel : Int → (Bool → Prop) → Prop) : FnI := ⟨Try.prog, [], [impl_ValidGrains.g.ctr w_impl_ValidGrains, impl_isLabel.g.ctr w_impl_isLabel], 31, [.tmp 4, .tmp 5], bodyOf Try.f36, (.seq .leaf (.seq .leaf (.seq .leaf (.seq (.seq .leaf (.block (.loop ⟨[6, 18, 19, 20], [.int, .int, .int], [(.v (.a (.one (.int .i64)))), (.v (.a (.one (.sl 0)))), (.v (.a (.one (.int .i64)))), (.v (.a (.one (.int .i64))))], [.keep]⟩ .leaf))) .leaf)))), []⟩
noncomputable def impl_CountOfLabel.i : FnI := impl_CountOfLabel.ib impl_ValidGrains.wp impl_isLabel.wp
noncomputable def impl_CountOfLabel.bd (w_impl_ValidGrains : List Int → Int → Int → (Bool → Prop) → Prop) (w_impl_isLabel : Int → (Bool → Prop) → Prop) : List Int → Int → Int → Int → (Int → Bool → Prop) → Prop := (impl_CountOfLabel.ib w_impl_ValidGrains w_impl_isLabel).W impl_CountOfLabel.g
noncomputable def impl_CountOfLabel.wp : List Int → Int → Int → Int → (Int → Bool → Prop) → Prop := impl_CountOfLabel.bd impl_ValidGrains.wp impl_isLabel.wp
noncomputable def impl_CountOfLabel.c : Ctr := impl_CountOfLabel.g.ctr impl_CountOfLabel.wp

-- loop.example/g01247/laws.FnFlips
noncomputable def laws_FnFlips.g : Sig := ⟨7, [(.v (.a (.one (.sl 0)))), (.v (.a (.one (.sl 1))))], [(.rd (.I .u8)), (.rd (.I .u8))], [.li, .li], [(.v (.a (.one .bool)))], [.keep, .keep], [.bool]⟩
noncomputable def laws_FnFlips.ib (w_laws_r8Long : List Int → List Int → (Bool → Prop) → Prop) (w_spec_R8Grains : List Int → (List Int → Int → Int → Prop) → Prop) (w_laws_r8At : List Int → Int → Int → (Int → Prop) → Prop) (w_impl_FlipGrains : List Int → Int → Int → Int → Nat → Int → (List Int → Int → Int → Int → Int → Bool → Prop) → Prop) (w_impl_UnlikePairs : List Int → Int → Int → (Int → Bool → Prop) → Prop) (w_impl_SameGrains : List Int → List Int → Int → Int → Int → Int → (Bool → Prop) → Prop) (w_impl_ValidGrains : List Int → Int → Int → (Bool → Prop) → Prop) (w_impl_LabelsOf : List Int → Int → Int → (List Int → Bool → Prop) → Prop) (w_impl_CountOfLabel : List Int → Int → Int → Int → (Int → Bool → Prop) → Prop) : FnI := ⟨Try.prog, [], [laws_r8Long.g.ctr w_laws_r8Long, spec_R8Grains.g.ctr w_spec_R8Grains, laws_r8At.g.ctr w_laws_r8At, impl_FlipGrains.g.ctr w_impl_FlipGrains, impl_UnlikePairs.g.ctr w_impl_UnlikePairs, impl_SameGrains.g.ctr w_impl_SameGrains, impl_ValidGrains.g.ctr w_impl_ValidGrains, impl_LabelsOf.g.ctr w_impl_LabelsOf, impl_CountOfLabel.g.ctr w_impl_CountOfLabel], 242, [.tmp 4], bodyOf Try.f7, (.seq .leaf (.seq .leaf (.seq .leaf (.seq .leaf (.seq .leaf (.seq .leaf (.seq .leaf (.seq .leaf (.seq .leaf (.seq .leaf (.seq .leaf (.seq .leaf (.seq .leaf (.seq .leaf (.seq (.seq .leaf (.block (.loop ⟨[5, 25, 27, 29, 30], [.int, .int, .int, .int, .li, .li, .int, .int, .int], [(.v (.a (.one (.pt 2 0)))), (.v (.a (.one (.pt 3 0)))), (.v (.a (.one (.int .i64)))), (.v (.a (.one (.int .i64)))), (.v (.a (.one (.int .i64))))], [.keep, .keep, (.box 26 [(.int .i64), (.int .i64), (.sl 4)]), (.box 26 [(.int .i64), (.int .i64), (.sl 5)]), (.row 2 (.I .i64)), (.row 2 (.I .i64))]⟩ .leaf))) (.seq .leaf (.seq .leaf (.seq .leaf (.seq .leaf (.seq (.seq .leaf (.block (.loop ⟨[5, 25, 31, 33, 35, 36], [.int, .int, .int, .int, .li, .li, .li, .li, .int, .int], [(.v (.a (.one (.pt 2 0)))), (.v (.a (.one (.pt 3 0)))), (.v (.a (.one (.sl 4)))), (.v (.a (.one (.sl 5)))), (.v (.a (.one (.int .i64)))), (.v (.a (.one (.int .i64))))], [.keep, .keep, (.box 26 [(.int .i64), (.int .i64), (.sl 6)]), (.box 26 [(.int .i64), (.int .i64), (.sl 7)]), (.row 2 (.I .i64)), (.row 2 (.I .i64)), (.row 2 (.I .i64)), (.row 2 (.I .i64))]⟩ (.seq .leaf (.seq (.block (.seq .leaf (.seq (.seq .leaf (.block (.loop ⟨[5, 25, 31, 33, 35, 36, 37, 38], [.int, .int, .int, .int, .li, .li, .li, .li, .int, .int, .bool, .int], [(.v (.a (.one (.pt 2 0)))), (.v (.a (.one (.pt 3 0)))), (.v (.a (.one (.sl 4)))), (.v (.a (.one (.sl 5)))), (.v (.a (.one (.int .i64)))), (.v (.a (.one (.int .i64)))), (.v (.a (.one .bool))), (.v (.a (.one (.int .i64))))], [.keep, .keep, (.box 26 [(.int .i64), (.int .i64), (.sl 6)]), (.box 26 [(.int .i64), (.int .i64), (.sl 7)]), (.row 2 (.I .i64)), (.row 2 (.I .i64)), (.row 2 (.I .i64)), (.row 2 (.I .i64))]⟩ .leaf))) .leaf))) .leaf))))) .leaf)))))))))))))))))))), []⟩
noncomputable def laws_FnFlips.i : FnI := laws_FnFlips.ib laws_r8Long.wp spec_R8Grains.wp laws_r8At.wp impl_FlipGrains.wp impl_UnlikePairs.wp impl_SameGrains.wp impl_ValidGrains.wp impl_LabelsOf.wp impl_CountOfLabel.wp
noncomputable def laws_FnFlips.bd (w_laws_r8Long : List Int → List Int → (Bool → Prop) → Prop) (w_spec_R8Grains : List Int → (List Int → Int → Int → Prop) → Prop) (w_laws_r8At : List Int → Int → Int → (Int → Prop) → Prop) (w_impl_FlipGrains : List Int → Int → Int → Int → Nat → Int → (List Int → Int → Int → Int → Int → Bool → Prop) → Prop) (w_impl_UnlikePairs : List Int → Int → Int → (Int → Bool → Prop) → Prop) (w_impl_SameGrains : List Int → List Int → Int → Int → Int → Int → (Bool → Prop) → Prop) (w_impl_ValidGrains : List Int → Int → Int → (Bool → Prop) → Prop) (w_impl_LabelsOf : List Int → Int → Int → (List Int → Bool → Prop) → Prop) (w_impl_CountOfLabel : List Int → Int → Int → Int → (Int → Bool → Prop) → Prop) : List Int → List Int → (Bool → Prop) → Prop := (laws_FnFlips.ib w_laws_r8Long w_spec_R8Grains w_laws_r8At w_impl_FlipGrains w_impl_UnlikePairs w_impl_SameGrains w_impl_ValidGrains w_impl_LabelsOf w_impl_CountOfLabel).W laws_FnFlips.g
noncomputable def laws_FnFlips.wp : List Int → List Int → (Bool → Prop) → Prop := laws_FnFlips.bd laws_r8Long.wp spec_R8Grains.wp laws_r8At.wp impl_FlipGrains.wp impl_UnlikePairs.wp impl_SameGrains.wp impl_ValidGrains.wp impl_LabelsOf.wp impl_CountOfLabel.wp
noncomputable def laws_FnFlips.c : Ctr := laws_FnFlips.g.ctr laws_FnFlips.wp
end Go.K.grains
