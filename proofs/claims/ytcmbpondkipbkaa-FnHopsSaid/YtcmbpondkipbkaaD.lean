import Derived.Test.YtcmbpondkipbkaaK22
import Derived.Test.YtcmbpondkipbkaaProg
set_option maxRecDepth 100000
namespace Go.K.heights
open Go.Proofs

noncomputable def bodyOf (f : Func) : Code := match f.body with
  | some c => c
  | none => .skip
-- loop.example/g01247/laws.b10Long
noncomputable def laws_b10Long.g : Sig := ⟨17, [(.v (.a (.one (.sl 0)))), (.v (.a (.one (.sl 1))))], [(.rd (.I .u8)), (.rd (.I .u8))], [.li, .li], [(.v (.a (.one .bool)))], [.keep, .keep], [.bool]⟩
noncomputable def laws_b10Long.ib  : FnI := ⟨Try.prog, [], [], 13, [.tmp 4], bodyOf Try.f17, .leaf, []⟩
noncomputable def laws_b10Long.i : FnI := laws_b10Long.ib 
noncomputable def laws_b10Long.bd  : List Int → List Int → (Bool → Prop) → Prop := (laws_b10Long.ib ).W laws_b10Long.g
noncomputable def laws_b10Long.wp : List Int → List Int → (Bool → Prop) → Prop := laws_b10Long.bd 
noncomputable def laws_b10Long.c : Ctr := laws_b10Long.g.ctr laws_b10Long.wp

-- loop.example/g01247/spec.l00From
noncomputable def spec_l00From.g : Sig := ⟨57, [(.v (.a (.one (.sl 0))))], [(.rd (.I .u8))], [.li], [(.v (.a (.one (.pt 1 0))))], [.keep, (.box 103 [(.sl 0), (.int .i64), (.int .u64)])], [.int, .int]⟩
noncomputable def spec_l00From.ib  : FnI := ⟨Try.prog, [], [], 6, [.tmp 2], bodyOf Try.f57, .leaf, []⟩
noncomputable def spec_l00From.i : FnI := spec_l00From.ib 
noncomputable def spec_l00From.bd  : List Int → (Int → Int → Prop) → Prop := (spec_l00From.ib ).W spec_l00From.g
noncomputable def spec_l00From.wp : List Int → (Int → Int → Prop) → Prop := spec_l00From.bd 
noncomputable def spec_l00From.c : Ctr := spec_l00From.g.ctr spec_l00From.wp

-- (*loop.example/g01247/spec.l00Src).next
noncomputable def spec_l00Src_next.g : Sig := ⟨108, [(.v (.a (.one (.pt 0 0))))], [(.box 103 [(.sl 1), (.int .i64), (.int .u64)]), (.rd (.I .u8))], [.int, .int, .li], [(.v (.a (.one (.int .i64))))], [(.box 103 [(.sl 1), (.int .i64), (.int .u64)]), .keep], [.int, .int, .int]⟩
noncomputable def spec_l00Src_next.ib  : FnI := ⟨Try.prog, [], [], 62, [.tmp 2], bodyOf Try.f108, (.seq .leaf (.seq .leaf (.seq (.seq .leaf (.condJ ⟨[3], [.int, .int, .int], [(.v (.a (.one (.int .i64))))], [(.box 103 [(.sl 1), (.int .i64), (.int .u64)]), .keep]⟩ .leaf .leaf)) .leaf))), []⟩
noncomputable def spec_l00Src_next.i : FnI := spec_l00Src_next.ib 
noncomputable def spec_l00Src_next.bd  : Int → Int → List Int → (Int → Int → Int → Prop) → Prop := (spec_l00Src_next.ib ).W spec_l00Src_next.g
noncomputable def spec_l00Src_next.wp : Int → Int → List Int → (Int → Int → Int → Prop) → Prop := spec_l00Src_next.bd 
noncomputable def spec_l00Src_next.c : Ctr := spec_l00Src_next.g.ctr spec_l00Src_next.wp

-- (*loop.example/g01247/spec.l00Src).pick
noncomputable def spec_l00Src_pick.g : Sig := ⟨70, [(.v (.a (.one (.pt 0 0)))), (.v (.a (.one (.int .i64))))], [(.box 103 [(.sl 1), (.int .i64), (.int .u64)]), (.rd (.I .u8))], [.int, .int, .li, .int], [(.v (.a (.one (.int .i64))))], [(.box 103 [(.sl 1), (.int .i64), (.int .u64)]), .keep], [.int, .int, .int]⟩
noncomputable def spec_l00Src_pick.ib (w_spec_l00Src_next : Int → Int → List Int → (Int → Int → Int → Prop) → Prop) : FnI := ⟨Try.prog, [], [spec_l00Src_next.g.ctr w_spec_l00Src_next], 20, [.tmp 4], bodyOf Try.f70, .leaf, []⟩
noncomputable def spec_l00Src_pick.i : FnI := spec_l00Src_pick.ib spec_l00Src_next.wp
noncomputable def spec_l00Src_pick.bd (w_spec_l00Src_next : Int → Int → List Int → (Int → Int → Int → Prop) → Prop) : Int → Int → List Int → Int → (Int → Int → Int → Prop) → Prop := (spec_l00Src_pick.ib w_spec_l00Src_next).W spec_l00Src_pick.g
noncomputable def spec_l00Src_pick.wp : Int → Int → List Int → Int → (Int → Int → Int → Prop) → Prop := spec_l00Src_pick.bd spec_l00Src_next.wp
noncomputable def spec_l00Src_pick.c : Ctr := spec_l00Src_pick.g.ctr spec_l00Src_pick.wp

-- loop.example/g01247/spec.l05DrawOk
noncomputable def spec_l05DrawOk.g : Sig := ⟨58, [(.v (.a (.one (.pt 0 0))))], [(.box 103 [(.sl 1), (.int .i64), (.int .u64)]), (.rd (.I .u8))], [.int, .int, .li], [(.v (.a (.agg [(.int .i64), (.int .i64), (.sl 2)])))], [(.box 103 [(.sl 1), (.int .i64), (.int .u64)]), .keep, (.row 2 (.I .i64))], [.int, .int, .li, .int, .int]⟩
noncomputable def spec_l05DrawOk.ib (w_spec_l00Src_pick : Int → Int → List Int → Int → (Int → Int → Int → Prop) → Prop) : FnI := ⟨Try.prog, [], [spec_l00Src_pick.g.ctr w_spec_l00Src_pick], 39, [.cell 2 28], bodyOf Try.f58, (.seq .leaf (.seq .leaf (.seq .leaf (.seq .leaf (.seq (.seq .leaf (.block (.loop ⟨[2, 3, 4, 5], [.int, .int, .int, .int, .int, .int, .li, .li, .int, .int], [(.v (.a (.one (.pt 2 0)))), (.v (.a (.one (.pt 3 0)))), (.v (.a (.one (.int .i64)))), (.v (.a (.one (.int .i64))))], [(.box 103 [(.sl 1), (.int .i64), (.int .u64)]), .keep, (.box 28 [(.int .i64), (.int .i64), (.sl 4)]), (.box 28 [(.int .i64), (.int .i64), (.sl 5)]), (.row 2 (.I .i64)), (.row 2 (.I .i64))]⟩ .leaf))) .leaf))))), []⟩
noncomputable def spec_l05DrawOk.i : FnI := spec_l05DrawOk.ib spec_l00Src_pick.wp
noncomputable def spec_l05DrawOk.bd (w_spec_l00Src_pick : Int → Int → List Int → Int → (Int → Int → Int → Prop) → Prop) : Int → Int → List Int → (Int → Int → List Int → Int → Int → Prop) → Prop := (spec_l05DrawOk.ib w_spec_l00Src_pick).W spec_l05DrawOk.g
noncomputable def spec_l05DrawOk.wp : Int → Int → List Int → (Int → Int → List Int → Int → Int → Prop) → Prop := spec_l05DrawOk.bd spec_l00Src_pick.wp
noncomputable def spec_l05DrawOk.c : Ctr := spec_l05DrawOk.g.ctr spec_l05DrawOk.wp

-- loop.example/g01247/spec.B10Heights
noncomputable def spec_B10Heights.g : Sig := ⟨18, [(.v (.a (.one (.sl 0))))], [(.rd (.I .u8))], [.li], [(.v (.a (.agg [(.int .i64), (.int .i64), (.sl 1)])))], [.keep, (.row 2 (.I .i64))], [.li, .int, .int]⟩
noncomputable def spec_B10Heights.ib (w_spec_l00From : List Int → (Int → Int → Prop) → Prop) (w_spec_l05DrawOk : Int → Int → List Int → (Int → Int → List Int → Int → Int → Prop) → Prop) : FnI := ⟨Try.prog, [], [spec_l00From.g.ctr w_spec_l00From, spec_l05DrawOk.g.ctr w_spec_l05DrawOk], 8, [.cell 2 28], bodyOf Try.f18, .leaf, []⟩
noncomputable def spec_B10Heights.i : FnI := spec_B10Heights.ib spec_l00From.wp spec_l05DrawOk.wp
noncomputable def spec_B10Heights.bd (w_spec_l00From : List Int → (Int → Int → Prop) → Prop) (w_spec_l05DrawOk : Int → Int → List Int → (Int → Int → List Int → Int → Int → Prop) → Prop) : List Int → (List Int → Int → Int → Prop) → Prop := (spec_B10Heights.ib w_spec_l00From w_spec_l05DrawOk).W spec_B10Heights.g
noncomputable def spec_B10Heights.wp : List Int → (List Int → Int → Int → Prop) → Prop := spec_B10Heights.bd spec_l00From.wp spec_l05DrawOk.wp
noncomputable def spec_B10Heights.c : Ctr := spec_B10Heights.g.ctr spec_B10Heights.wp

-- loop.example/g01247/laws.b10At
noncomputable def laws_b10At.g : Sig := ⟨19, [(.v (.a (.one (.sl 0)))), (.v (.a (.one (.int .i64)))), (.v (.a (.one (.int .i64))))], [(.rd (.I .u8))], [.li, .int, .int], [(.v (.a (.one (.int .i64))))], [.keep], [.int]⟩
noncomputable def laws_b10At.ib  : FnI := ⟨Try.prog, [], [], 25, [.tmp 6], bodyOf Try.f19, .leaf, []⟩
noncomputable def laws_b10At.i : FnI := laws_b10At.ib 
noncomputable def laws_b10At.bd  : List Int → Int → Int → (Int → Prop) → Prop := (laws_b10At.ib ).W laws_b10At.g
noncomputable def laws_b10At.wp : List Int → Int → Int → (Int → Prop) → Prop := laws_b10At.bd 
noncomputable def laws_b10At.c : Ctr := laws_b10At.g.ctr laws_b10At.wp

-- loop.example/g01247/impl.within
noncomputable def impl_within.g : Sig := ⟨63, [(.v (.a (.one (.int .i64)))), (.v (.a (.one (.int .i64)))), (.v (.a (.one (.int .i64))))], [], [.int, .int, .int], [(.v (.a (.one .bool)))], [], [.bool]⟩
noncomputable def impl_within.ib  : FnI := ⟨Try.prog, [], [], 15, [.tmp 6], bodyOf Try.f63, .leaf, []⟩
noncomputable def impl_within.i : FnI := impl_within.ib 
noncomputable def impl_within.bd  : Int → Int → Int → (Bool → Prop) → Prop := (impl_within.ib ).W impl_within.g
noncomputable def impl_within.wp : Int → Int → Int → (Bool → Prop) → Prop := impl_within.bd 
noncomputable def impl_within.c : Ctr := impl_within.g.ctr impl_within.wp

-- loop.example/g01247/impl.areWithin$1
noncomputable def impl_areWithin_1.g : Sig := ⟨107, [(.v (.a (.one (.int .i64)))), (.v (.a (.one (.pt 0 0)))), (.v (.a (.one (.pt 1 0))))], [(.rdb [(.int .i64)]), (.rdb [(.int .i64)])], [.int, .int, .int], [(.v (.a (.one .bool)))], [.keep, .keep], [.bool]⟩
noncomputable def impl_areWithin_1.ib (w_impl_within : Int → Int → Int → (Bool → Prop) → Prop) : FnI := ⟨Try.prog, [], [impl_within.g.ctr w_impl_within], 10, [.tmp 4], bodyOf Try.f107, .leaf, []⟩
noncomputable def impl_areWithin_1.i : FnI := impl_areWithin_1.ib impl_within.wp
noncomputable def impl_areWithin_1.bd (w_impl_within : Int → Int → Int → (Bool → Prop) → Prop) : Int → Int → Int → (Bool → Prop) → Prop := (impl_areWithin_1.ib w_impl_within).W impl_areWithin_1.g
noncomputable def impl_areWithin_1.wp : Int → Int → Int → (Bool → Prop) → Prop := impl_areWithin_1.bd impl_within.wp
noncomputable def impl_areWithin_1.c : Ctr := impl_areWithin_1.g.ctr impl_areWithin_1.wp

-- slices.IndexFunc[[]int64,int64]
noncomputable def slices_IndexFunc_int64_int64__areWithin_1.g : Sig := ⟨121, [(.v (.a (.one (.sl 0)))), (.v (.fn 107 [] [(.one (.pt 1 0)), (.one (.pt 2 0))]))], [(.rd (.I .i64)), (.rdb [(.int .i64)]), (.rdb [(.int .i64)])], [.li, .int, .int], [(.v (.a (.one (.int .i64))))], [.keep, .keep, .keep], [.int]⟩
noncomputable def slices_IndexFunc_int64_int64__areWithin_1.ib (w_impl_areWithin_1 : Int → Int → Int → (Bool → Prop) → Prop) : FnI := ⟨Try.prog, [], [impl_areWithin_1.g.ctr w_impl_areWithin_1], 19, [.tmp 4], bodyOf Try.f121, (.seq .leaf (.seq (.seq .leaf (.block (.loop ⟨[7, 8], [.int, .int], [(.v (.a (.one (.int .i64)))), (.v (.a (.one (.int .i64))))], [.keep, .keep, .keep]⟩ .leaf))) .leaf)), []⟩
noncomputable def slices_IndexFunc_int64_int64__areWithin_1.i : FnI := slices_IndexFunc_int64_int64__areWithin_1.ib impl_areWithin_1.wp
noncomputable def slices_IndexFunc_int64_int64__areWithin_1.bd (w_impl_areWithin_1 : Int → Int → Int → (Bool → Prop) → Prop) : List Int → Int → Int → (Int → Prop) → Prop := (slices_IndexFunc_int64_int64__areWithin_1.ib w_impl_areWithin_1).W slices_IndexFunc_int64_int64__areWithin_1.g
noncomputable def slices_IndexFunc_int64_int64__areWithin_1.wp : List Int → Int → Int → (Int → Prop) → Prop := slices_IndexFunc_int64_int64__areWithin_1.bd impl_areWithin_1.wp
noncomputable def slices_IndexFunc_int64_int64__areWithin_1.c : Ctr := slices_IndexFunc_int64_int64__areWithin_1.g.ctr slices_IndexFunc_int64_int64__areWithin_1.wp

-- slices.ContainsFunc[[]int64,int64]
noncomputable def slices_ContainsFunc_int64_int64__areWithin_1.g : Sig := ⟨106, [(.v (.a (.one (.sl 0)))), (.v (.fn 107 [] [(.one (.pt 1 0)), (.one (.pt 2 0))]))], [(.rd (.I .i64)), (.rdb [(.int .i64)]), (.rdb [(.int .i64)])], [.li, .int, .int], [(.v (.a (.one .bool)))], [.keep, .keep, .keep], [.bool]⟩
noncomputable def slices_ContainsFunc_int64_int64__areWithin_1.ib (w_slices_IndexFunc_int64_int64__areWithin_1 : List Int → Int → Int → (Int → Prop) → Prop) : FnI := ⟨Try.prog, [], [slices_IndexFunc_int64_int64__areWithin_1.g.ctr w_slices_IndexFunc_int64_int64__areWithin_1], 9, [.tmp 4], bodyOf Try.f106, .leaf, []⟩
noncomputable def slices_ContainsFunc_int64_int64__areWithin_1.i : FnI := slices_ContainsFunc_int64_int64__areWithin_1.ib slices_IndexFunc_int64_int64__areWithin_1.wp
noncomputable def slices_ContainsFunc_int64_int64__areWithin_1.bd (w_slices_IndexFunc_int64_int64__areWithin_1 : List Int → Int → Int → (Int → Prop) → Prop) : List Int → Int → Int → (Bool → Prop) → Prop := (slices_ContainsFunc_int64_int64__areWithin_1.ib w_slices_IndexFunc_int64_int64__areWithin_1).W slices_ContainsFunc_int64_int64__areWithin_1.g
noncomputable def slices_ContainsFunc_int64_int64__areWithin_1.wp : List Int → Int → Int → (Bool → Prop) → Prop := slices_ContainsFunc_int64_int64__areWithin_1.bd slices_IndexFunc_int64_int64__areWithin_1.wp
noncomputable def slices_ContainsFunc_int64_int64__areWithin_1.c : Ctr := slices_ContainsFunc_int64_int64__areWithin_1.g.ctr slices_ContainsFunc_int64_int64__areWithin_1.wp

-- loop.example/g01247/impl.areWithin
noncomputable def impl_areWithin.g : Sig := ⟨68, [(.v (.a (.one (.int .i64)))), (.v (.a (.one (.int .i64)))), (.v (.a (.one (.sl 0))))], [(.rd (.I .i64))], [.li, .int, .int], [(.v (.a (.one .bool)))], [.keep], [.bool]⟩
noncomputable def impl_areWithin.ib (w_slices_ContainsFunc_int64_int64__areWithin_1 : List Int → Int → Int → (Bool → Prop) → Prop) : FnI := ⟨Try.prog, [], [slices_ContainsFunc_int64_int64__areWithin_1.g.ctr w_slices_ContainsFunc_int64_int64__areWithin_1], 11, [.tmp 6], bodyOf Try.f68, .leaf, []⟩
noncomputable def impl_areWithin.i : FnI := impl_areWithin.ib slices_ContainsFunc_int64_int64__areWithin_1.wp
noncomputable def impl_areWithin.bd (w_slices_ContainsFunc_int64_int64__areWithin_1 : List Int → Int → Int → (Bool → Prop) → Prop) : List Int → Int → Int → (Bool → Prop) → Prop := (impl_areWithin.ib w_slices_ContainsFunc_int64_int64__areWithin_1).W impl_areWithin.g
noncomputable def impl_areWithin.wp : List Int → Int → Int → (Bool → Prop) → Prop := impl_areWithin.bd slices_ContainsFunc_int64_int64__areWithin_1.wp
noncomputable def impl_areWithin.c : Ctr := impl_areWithin.g.ctr impl_areWithin.wp

-- loop.example/g01247/impl.ValidHeights
noncomputable def impl_ValidHeights.g : Sig := ⟨32, [(.v (.a (.agg [(.int .i64), (.int .i64), (.sl 0)])))], [(.rd (.I .i64))], [.li, .int, .int], [(.v (.a (.one .bool)))], [.keep], [.bool]⟩
noncomputable def impl_ValidHeights.ib (w_impl_areWithin : List Int → Int → Int → (Bool → Prop) → Prop) : FnI := ⟨Try.prog, [], [impl_areWithin.g.ctr w_impl_areWithin], 25, [.tmp 2], bodyOf Try.f32, .leaf, []⟩
noncomputable def impl_ValidHeights.i : FnI := impl_ValidHeights.ib impl_areWithin.wp
noncomputable def impl_ValidHeights.bd (w_impl_areWithin : List Int → Int → Int → (Bool → Prop) → Prop) : List Int → Int → Int → (Bool → Prop) → Prop := (impl_ValidHeights.ib w_impl_areWithin).W impl_ValidHeights.g
noncomputable def impl_ValidHeights.wp : List Int → Int → Int → (Bool → Prop) → Prop := impl_ValidHeights.bd impl_areWithin.wp
noncomputable def impl_ValidHeights.c : Ctr := impl_ValidHeights.g.ctr impl_ValidHeights.wp

-- (loop.example/g01247/impl.Heights).atoms
noncomputable def impl_Heights_atoms.g : Sig := ⟨59, [(.v (.a (.agg [(.int .i64), (.int .i64), (.sl 0)])))], [(.rd (.I .i64))], [.li, .int, .int], [(.v (.a (.one (.int .i64))))], [.keep], [.int]⟩
noncomputable def impl_Heights_atoms.ib  : FnI := ⟨Try.prog, [], [], 18, [.tmp 2], bodyOf Try.f59, (.seq .leaf (.seq .leaf (.seq (.seq .leaf (.block (.loop ⟨[3, 7, 8, 9], [.int, .int, .int], [(.v (.a (.one (.int .i64)))), (.v (.a (.one (.sl 0)))), (.v (.a (.one (.int .i64)))), (.v (.a (.one (.int .i64))))], [.keep]⟩ .leaf))) .leaf))), []⟩
noncomputable def impl_Heights_atoms.i : FnI := impl_Heights_atoms.ib 
noncomputable def impl_Heights_atoms.bd  : List Int → Int → Int → (Int → Prop) → Prop := (impl_Heights_atoms.ib ).W impl_Heights_atoms.g
noncomputable def impl_Heights_atoms.wp : List Int → Int → Int → (Int → Prop) → Prop := impl_Heights_atoms.bd 
noncomputable def impl_Heights_atoms.c : Ctr := impl_Heights_atoms.g.ctr impl_Heights_atoms.wp

-- loop.example/g01247/impl.AtomsIn
noncomputable def impl_AtomsIn.g : Sig := ⟨20, [(.v (.a (.agg [(.int .i64), (.int .i64), (.sl 0)])))], [(.rd (.I .i64))], [.li, .int, .int], [(.tup [(.a (.one (.int .i64))), (.a (.one .bool))])], [.keep], [.int, .bool]⟩
noncomputable def impl_AtomsIn.ib (w_impl_ValidHeights : List Int → Int → Int → (Bool → Prop) → Prop) (w_impl_Heights_atoms : List Int → Int → Int → (Int → Prop) → Prop) : FnI := ⟨Try.prog, [], [impl_ValidHeights.g.ctr w_impl_ValidHeights, impl_Heights_atoms.g.ctr w_impl_Heights_atoms], 9, [.tmp 2, .tmp 3], bodyOf Try.f20, .leaf, []⟩
noncomputable def impl_AtomsIn.i : FnI := impl_AtomsIn.ib impl_ValidHeights.wp impl_Heights_atoms.wp
noncomputable def impl_AtomsIn.bd (w_impl_ValidHeights : List Int → Int → Int → (Bool → Prop) → Prop) (w_impl_Heights_atoms : List Int → Int → Int → (Int → Prop) → Prop) : List Int → Int → Int → (Int → Bool → Prop) → Prop := (impl_AtomsIn.ib w_impl_ValidHeights w_impl_Heights_atoms).W impl_AtomsIn.g
noncomputable def impl_AtomsIn.wp : List Int → Int → Int → (Int → Bool → Prop) → Prop := impl_AtomsIn.bd impl_ValidHeights.wp impl_Heights_atoms.wp
noncomputable def impl_AtomsIn.c : Ctr := impl_AtomsIn.g.ctr impl_AtomsIn.wp

-- loop.example/g01247/impl.place
noncomputable def impl_place.g : Sig := ⟨104, [(.v (.a (.one (.int .i64)))), (.v (.a (.one (.int .i64)))), (.v (.a (.one .bool)))], [], [.int, .int, .bool], [(.v (.a (.one (.int .i64))))], [], [.int]⟩
noncomputable def impl_place.ib  : FnI := ⟨Try.prog, [], [], 20, [.tmp 6], bodyOf Try.f104, .leaf, []⟩
noncomputable def impl_place.i : FnI := impl_place.ib 
noncomputable def impl_place.bd  : Int → Int → Bool → (Int → Prop) → Prop := (impl_place.ib ).W impl_place.g
noncomputable def impl_place.wp : Int → Int → Bool → (Int → Prop) → Prop := impl_place.bd 
noncomputable def impl_place.c : Ctr := impl_place.g.ctr impl_place.wp

-- (loop.example/g01247/impl.Heights).cell
noncomputable def impl_Heights_cell.g : Sig := ⟨65, [(.v (.a (.agg [(.int .i64), (.int .i64), (.sl 0)]))), (.v (.a (.one (.int .i64)))), (.v (.a (.one (.int .i64))))], [(.rd (.I .i64))], [.li, .int, .int, .int, .int], [(.v (.a (.one (.int .i64))))], [.keep], [.int]⟩
noncomputable def impl_Heights_cell.ib (w_impl_place : Int → Int → Bool → (Int → Prop) → Prop) : FnI := ⟨Try.prog, [], [impl_place.g.ctr w_impl_place], 19, [.tmp 6], bodyOf Try.f65, .leaf, []⟩
noncomputable def impl_Heights_cell.i : FnI := impl_Heights_cell.ib impl_place.wp
noncomputable def impl_Heights_cell.bd (w_impl_place : Int → Int → Bool → (Int → Prop) → Prop) : List Int → Int → Int → Int → Int → (Int → Prop) → Prop := (impl_Heights_cell.ib w_impl_place).W impl_Heights_cell.g
noncomputable def impl_Heights_cell.wp : List Int → Int → Int → Int → Int → (Int → Prop) → Prop := impl_Heights_cell.bd impl_place.wp
noncomputable def impl_Heights_cell.c : Ctr := impl_Heights_cell.g.ctr impl_Heights_cell.wp

-- (loop.example/g01247/impl.Heights).top
noncomputable def impl_Heights_top.g : Sig := ⟨55, [(.v (.a (.agg [(.int .i64), (.int .i64), (.sl 0)]))), (.v (.a (.one (.int .i64)))), (.v (.a (.one (.int .i64))))], [(.rd (.I .i64))], [.li, .int, .int, .int, .int], [(.v (.a (.one (.int .i64))))], [.keep], [.int]⟩
noncomputable def impl_Heights_top.ib (w_impl_Heights_cell : List Int → Int → Int → Int → Int → (Int → Prop) → Prop) : FnI := ⟨Try.prog, [], [impl_Heights_cell.g.ctr w_impl_Heights_cell], 15, [.tmp 6], bodyOf Try.f55, .leaf, []⟩
noncomputable def impl_Heights_top.i : FnI := impl_Heights_top.ib impl_Heights_cell.wp
noncomputable def impl_Heights_top.bd (w_impl_Heights_cell : List Int → Int → Int → Int → Int → (Int → Prop) → Prop) : List Int → Int → Int → Int → Int → (Int → Prop) → Prop := (impl_Heights_top.ib w_impl_Heights_cell).W impl_Heights_top.g
noncomputable def impl_Heights_top.wp : List Int → Int → Int → Int → Int → (Int → Prop) → Prop := impl_Heights_top.bd impl_Heights_cell.wp
noncomputable def impl_Heights_top.c : Ctr := impl_Heights_top.g.ctr impl_Heights_top.wp

-- (loop.example/g01247/impl.Heights).bonds$1
noncomputable def impl_Heights_bonds_1.g : Sig := ⟨102, [(.v (.a (.one (.int .i64)))), (.v (.a (.one (.int .i64))))], [], [.int, .int], [(.v (.a (.one (.int .i64))))], [], [.int]⟩
noncomputable def impl_Heights_bonds_1.ib  : FnI := ⟨Try.prog, [], [], 8, [.tmp 4], bodyOf Try.f102, .leaf, []⟩
noncomputable def impl_Heights_bonds_1.i : FnI := impl_Heights_bonds_1.ib 
noncomputable def impl_Heights_bonds_1.bd  : Int → Int → (Int → Prop) → Prop := (impl_Heights_bonds_1.ib ).W impl_Heights_bonds_1.g
noncomputable def impl_Heights_bonds_1.wp : Int → Int → (Int → Prop) → Prop := impl_Heights_bonds_1.bd 
noncomputable def impl_Heights_bonds_1.c : Ctr := impl_Heights_bonds_1.g.ctr impl_Heights_bonds_1.wp

-- (loop.example/g01247/impl.Heights).pairs
noncomputable def impl_Heights_pairs__Heights_bonds_1.g : Sig := ⟨61, [(.v (.a (.agg [(.int .i64), (.int .i64), (.sl 0)]))), (.v (.fn 102 [] []))], [(.rd (.I .i64))], [.li, .int, .int], [(.v (.a (.one (.int .i64))))], [.keep], [.int]⟩
noncomputable def impl_Heights_pairs__Heights_bonds_1.ib (w_impl_Heights_top : List Int → Int → Int → Int → Int → (Int → Prop) → Prop) (w_impl_Heights_bonds_1 : Int → Int → (Int → Prop) → Prop) : FnI := ⟨Try.prog, [], [impl_Heights_top.g.ctr w_impl_Heights_top, impl_Heights_bonds_1.g.ctr w_impl_Heights_bonds_1], 47, [.tmp 4], bodyOf Try.f61, (.seq .leaf (.seq .leaf (.seq (.seq .leaf (.block (.loop ⟨[2, 5, 11, 12, 13], [.int, .int, .int, .int, .int], [(.v (.a (.one (.pt 1 0)))), (.v (.a (.one (.int .i64)))), (.v (.a (.one (.sl 0)))), (.v (.a (.one (.int .i64)))), (.v (.a (.one (.int .i64))))], [.keep, (.box 28 [(.int .i64), (.int .i64), (.sl 0)])]⟩ .leaf))) .leaf))), []⟩
noncomputable def impl_Heights_pairs__Heights_bonds_1.i : FnI := impl_Heights_pairs__Heights_bonds_1.ib impl_Heights_top.wp impl_Heights_bonds_1.wp
noncomputable def impl_Heights_pairs__Heights_bonds_1.bd (w_impl_Heights_top : List Int → Int → Int → Int → Int → (Int → Prop) → Prop) (w_impl_Heights_bonds_1 : Int → Int → (Int → Prop) → Prop) : List Int → Int → Int → (Int → Prop) → Prop := (impl_Heights_pairs__Heights_bonds_1.ib w_impl_Heights_top w_impl_Heights_bonds_1).W impl_Heights_pairs__Heights_bonds_1.g
noncomputable def impl_Heights_pairs__Heights_bonds_1.wp : List Int → Int → Int → (Int → Prop) → Prop := impl_Heights_pairs__Heights_bonds_1.bd impl_Heights_top.wp impl_Heights_bonds_1.wp
noncomputable def impl_Heights_pairs__Heights_bonds_1.c : Ctr := impl_Heights_pairs__Heights_bonds_1.g.ctr impl_Heights_pairs__Heights_bonds_1.wp

-- (loop.example/g01247/impl.Heights).bonds
noncomputable def impl_Heights_bonds.g : Sig := ⟨60, [(.v (.a (.agg [(.int .i64), (.int .i64), (.sl 0)])))], [(.rd (.I .i64))], [.li, .int, .int], [(.v (.a (.one (.int .i64))))], [.keep], [.int]⟩
noncomputable def impl_Heights_bonds.ib (w_impl_Heights_pairs__Heights_bonds_1 : List Int → Int → Int → (Int → Prop) → Prop) : FnI := ⟨Try.prog, [], [impl_Heights_pairs__Heights_bonds_1.g.ctr w_impl_Heights_pairs__Heights_bonds_1], 5, [.tmp 2], bodyOf Try.f60, .leaf, []⟩
noncomputable def impl_Heights_bonds.i : FnI := impl_Heights_bonds.ib impl_Heights_pairs__Heights_bonds_1.wp
noncomputable def impl_Heights_bonds.bd (w_impl_Heights_pairs__Heights_bonds_1 : List Int → Int → Int → (Int → Prop) → Prop) : List Int → Int → Int → (Int → Prop) → Prop := (impl_Heights_bonds.ib w_impl_Heights_pairs__Heights_bonds_1).W impl_Heights_bonds.g
noncomputable def impl_Heights_bonds.wp : List Int → Int → Int → (Int → Prop) → Prop := impl_Heights_bonds.bd impl_Heights_pairs__Heights_bonds_1.wp
noncomputable def impl_Heights_bonds.c : Ctr := impl_Heights_bonds.g.ctr impl_Heights_bonds.wp

-- loop.example/g01247/impl.BondsIn
noncomputable def impl_BondsIn.g : Sig := ⟨21, [(.v (.a (.agg [(.int .i64), (.int .i64), (.sl 0)])))], [(.rd (.I .i64))], [.li, .int, .int], [(.tup [(.a (.one (.int .i64))), (.a (.one .bool))])], [.keep], [.int, .bool]⟩
noncomputable def impl_BondsIn.ib (w_impl_ValidHeights : List Int → Int → Int → (Bool → Prop) → Prop) (w_impl_Heights_bonds : List Int → Int → Int → (Int → Prop) → Prop) : FnI := ⟨Try.prog, [], [impl_ValidHeights.g.ctr w_impl_ValidHeights, impl_Heights_bonds.g.ctr w_impl_Heights_bonds], 9, [.tmp 2, .tmp 3], bodyOf Try.f21, .leaf, []⟩
noncomputable def impl_BondsIn.i : FnI := impl_BondsIn.ib impl_ValidHeights.wp impl_Heights_bonds.wp
noncomputable def impl_BondsIn.bd (w_impl_ValidHeights : List Int → Int → Int → (Bool → Prop) → Prop) (w_impl_Heights_bonds : List Int → Int → Int → (Int → Prop) → Prop) : List Int → Int → Int → (Int → Bool → Prop) → Prop := (impl_BondsIn.ib w_impl_ValidHeights w_impl_Heights_bonds).W impl_BondsIn.g
noncomputable def impl_BondsIn.wp : List Int → Int → Int → (Int → Bool → Prop) → Prop := impl_BondsIn.bd impl_ValidHeights.wp impl_Heights_bonds.wp
noncomputable def impl_BondsIn.c : Ctr := impl_BondsIn.g.ctr impl_BondsIn.wp

-- loop.example/g01247/impl.StepsIn$1
noncomputable def impl_StepsIn_1.g : Sig := ⟨62, [(.v (.a (.one (.int .i64)))), (.v (.a (.one (.int .i64))))], [], [.int, .int], [(.v (.a (.one (.int .i64))))], [], [.int]⟩
noncomputable def impl_StepsIn_1.ib  : FnI := ⟨Try.prog, [], [], 12, [.tmp 4], bodyOf Try.f62, .leaf, []⟩
noncomputable def impl_StepsIn_1.i : FnI := impl_StepsIn_1.ib 
noncomputable def impl_StepsIn_1.bd  : Int → Int → (Int → Prop) → Prop := (impl_StepsIn_1.ib ).W impl_StepsIn_1.g
noncomputable def impl_StepsIn_1.wp : Int → Int → (Int → Prop) → Prop := impl_StepsIn_1.bd 
noncomputable def impl_StepsIn_1.c : Ctr := impl_StepsIn_1.g.ctr impl_StepsIn_1.wp

-- (loop.example/g01247/impl.Heights).pairs
noncomputable def impl_Heights_pairs__StepsIn_1.g : Sig := ⟨61, [(.v (.a (.agg [(.int .i64), (.int .i64), (.sl 0)]))), (.v (.fn 62 [] []))], [(.rd (.I .i64))], [.li, .int, .int], [(.v (.a (.one (.int .i64))))], [.keep], [.int]⟩
noncomputable def impl_Heights_pairs__StepsIn_1.ib (w_impl_Heights_top : List Int → Int → Int → Int → Int → (Int → Prop) → Prop) (w_impl_StepsIn_1 : Int → Int → (Int → Prop) → Prop) : FnI := ⟨Try.prog, [], [impl_Heights_top.g.ctr w_impl_Heights_top, impl_StepsIn_1.g.ctr w_impl_StepsIn_1], 47, [.tmp 4], bodyOf Try.f61, (.seq .leaf (.seq .leaf (.seq (.seq .leaf (.block (.loop ⟨[2, 5, 11, 12, 13], [.int, .int, .int, .int, .int], [(.v (.a (.one (.pt 1 0)))), (.v (.a (.one (.int .i64)))), (.v (.a (.one (.sl 0)))), (.v (.a (.one (.int .i64)))), (.v (.a (.one (.int .i64))))], [.keep, (.box 28 [(.int .i64), (.int .i64), (.sl 0)])]⟩ .leaf))) .leaf))), []⟩
noncomputable def impl_Heights_pairs__StepsIn_1.i : FnI := impl_Heights_pairs__StepsIn_1.ib impl_Heights_top.wp impl_StepsIn_1.wp
noncomputable def impl_Heights_pairs__StepsIn_1.bd (w_impl_Heights_top : List Int → Int → Int → Int → Int → (Int → Prop) → Prop) (w_impl_StepsIn_1 : Int → Int → (Int → Prop) → Prop) : List Int → Int → Int → (Int → Prop) → Prop := (impl_Heights_pairs__StepsIn_1.ib w_impl_Heights_top w_impl_StepsIn_1).W impl_Heights_pairs__StepsIn_1.g
noncomputable def impl_Heights_pairs__StepsIn_1.wp : List Int → Int → Int → (Int → Prop) → Prop := impl_Heights_pairs__StepsIn_1.bd impl_Heights_top.wp impl_StepsIn_1.wp
noncomputable def impl_Heights_pairs__StepsIn_1.c : Ctr := impl_Heights_pairs__StepsIn_1.g.ctr impl_Heights_pairs__StepsIn_1.wp

-- loop.example/g01247/impl.StepsIn
noncomputable def impl_StepsIn.g : Sig := ⟨22, [(.v (.a (.agg [(.int .i64), (.int .i64), (.sl 0)])))], [(.rd (.I .i64))], [.li, .int, .int], [(.tup [(.a (.one (.int .i64))), (.a (.one .bool))])], [.keep], [.int, .bool]⟩
noncomputable def impl_StepsIn.ib (w_impl_ValidHeights : List Int → Int → Int → (Bool → Prop) → Prop) (w_impl_Heights_pairs__StepsIn_1 : List Int → Int → Int → (Int → Prop) → Prop) : FnI := ⟨Try.prog, [], [impl_ValidHeights.g.ctr w_impl_ValidHeights, impl_Heights_pairs__StepsIn_1.g.ctr w_impl_Heights_pairs__StepsIn_1], 9, [.tmp 2, .tmp 3], bodyOf Try.f22, .leaf, []⟩
noncomputable def impl_StepsIn.i : FnI := impl_StepsIn.ib impl_ValidHeights.wp impl_Heights_pairs__StepsIn_1.wp
noncomputable def impl_StepsIn.bd (w_impl_ValidHeights : List Int → Int → Int → (Bool → Prop) → Prop) (w_impl_Heights_pairs__StepsIn_1 : List Int → Int → Int → (Int → Prop) → Prop) : List Int → Int → Int → (Int → Bool → Prop) → Prop := (impl_StepsIn.ib w_impl_ValidHeights w_impl_Heights_pairs__StepsIn_1).W impl_StepsIn.g
noncomputable def impl_StepsIn.wp : List Int → Int → Int → (Int → Bool → Prop) → Prop := impl_StepsIn.bd impl_ValidHeights.wp impl_Heights_pairs__StepsIn_1.wp
noncomputable def impl_StepsIn.c : Ctr := impl_StepsIn.g.ctr impl_StepsIn.wp

-- (loop.example/g01247/impl.Heights).has
noncomputable def impl_Heights_has.g : Sig := ⟨52, [(.v (.a (.agg [(.int .i64), (.int .i64), (.sl 0)]))), (.v (.a (.one (.int .i64)))), (.v (.a (.one (.int .i64))))], [(.rd (.I .i64))], [.li, .int, .int, .int, .int], [(.v (.a (.one .bool)))], [.keep], [.bool]⟩
noncomputable def impl_Heights_has.ib (w_impl_ValidHeights : List Int → Int → Int → (Bool → Prop) → Prop) (w_impl_within : Int → Int → Int → (Bool → Prop) → Prop) : FnI := ⟨Try.prog, [], [impl_ValidHeights.g.ctr w_impl_ValidHeights, impl_within.g.ctr w_impl_within], 23, [.tmp 6], bodyOf Try.f52, .leaf, []⟩
noncomputable def impl_Heights_has.i : FnI := impl_Heights_has.ib impl_ValidHeights.wp impl_within.wp
noncomputable def impl_Heights_has.bd (w_impl_ValidHeights : List Int → Int → Int → (Bool → Prop) → Prop) (w_impl_within : Int → Int → Int → (Bool → Prop) → Prop) : List Int → Int → Int → Int → Int → (Bool → Prop) → Prop := (impl_Heights_has.ib w_impl_ValidHeights w_impl_within).W impl_Heights_has.g
noncomputable def impl_Heights_has.wp : List Int → Int → Int → Int → Int → (Bool → Prop) → Prop := impl_Heights_has.bd impl_ValidHeights.wp impl_within.wp
noncomputable def impl_Heights_has.c : Ctr := impl_Heights_has.g.ctr impl_Heights_has.wp

-- slices.Clone[[]int64,int64]
noncomputable def slices_Clone_int64_int64.g : Sig := ⟨103, [(.v (.a (.one (.sl 0))))], [(.rd (.I .i64))], [.li], [(.v (.a (.one (.sl 1))))], [.keep, (.row 2 (.I .i64))], [.li]⟩
noncomputable def slices_Clone_int64_int64.ib  : FnI := ⟨Try.prog, [], [], 8, [.tmp 2], bodyOf Try.f103, .leaf, []⟩
noncomputable def slices_Clone_int64_int64.i : FnI := slices_Clone_int64_int64.ib 
noncomputable def slices_Clone_int64_int64.bd  : List Int → (List Int → Prop) → Prop := (slices_Clone_int64_int64.ib ).W slices_Clone_int64_int64.g
noncomputable def slices_Clone_int64_int64.wp : List Int → (List Int → Prop) → Prop := slices_Clone_int64_int64.bd 
noncomputable def slices_Clone_int64_int64.c : Ctr := slices_Clone_int64_int64.g.ctr slices_Clone_int64_int64.wp

-- (loop.example/g01247/impl.Heights).cloned
noncomputable def impl_Heights_cloned.g : Sig := ⟨64, [(.v (.a (.agg [(.int .i64), (.int .i64), (.sl 0)])))], [(.rd (.I .i64))], [.li, .int, .int], [(.v (.a (.agg [(.int .i64), (.int .i64), (.sl 1)])))], [.keep, (.row 2 (.I .i64))], [.li, .int, .int]⟩
noncomputable def impl_Heights_cloned.ib (w_slices_Clone_int64_int64 : List Int → (List Int → Prop) → Prop) : FnI := ⟨Try.prog, [], [slices_Clone_int64_int64.g.ctr w_slices_Clone_int64_int64], 8, [.cell 2 28], bodyOf Try.f64, .leaf, []⟩
noncomputable def impl_Heights_cloned.i : FnI := impl_Heights_cloned.ib slices_Clone_int64_int64.wp
noncomputable def impl_Heights_cloned.bd (w_slices_Clone_int64_int64 : List Int → (List Int → Prop) → Prop) : List Int → Int → Int → (List Int → Int → Int → Prop) → Prop := (impl_Heights_cloned.ib w_slices_Clone_int64_int64).W impl_Heights_cloned.g
noncomputable def impl_Heights_cloned.wp : List Int → Int → Int → (List Int → Int → Int → Prop) → Prop := impl_Heights_cloned.bd slices_Clone_int64_int64.wp
noncomputable def impl_Heights_cloned.c : Ctr := impl_Heights_cloned.g.ctr impl_Heights_cloned.wp

-- loop.example/g01247/impl.steps4
noncomputable def impl_steps4.g : Sig := ⟨105, [], [], [], [(.v (.a (.agg [(.int .i64), (.int .i64), (.int .i64), (.int .i64), (.int .i64), (.int .i64), (.int .i64), (.int .i64)])))], [], [.int, .int, .int, .int, .int, .int, .int, .int]⟩
noncomputable def impl_steps4.ib  : FnI := ⟨Try.prog, [], [], 6, [.cell 0 106], bodyOf Try.f105, .leaf, []⟩
noncomputable def impl_steps4.i : FnI := impl_steps4.ib 
noncomputable def impl_steps4.bd  : (Int → Int → Int → Int → Int → Int → Int → Int → Prop) → Prop := (impl_steps4.ib ).W impl_steps4.g
noncomputable def impl_steps4.wp : (Int → Int → Int → Int → Int → Int → Int → Int → Prop) → Prop := impl_steps4.bd 
noncomputable def impl_steps4.c : Ctr := impl_steps4.g.ctr impl_steps4.wp

-- (loop.example/g01247/impl.Heights).beside
noncomputable def impl_Heights_beside.g : Sig := ⟨66, [(.v (.a (.agg [(.int .i64), (.int .i64), (.sl 0)]))), (.v (.a (.one (.int .i64)))), (.v (.a (.one (.int .i64))))], [(.rd (.I .i64))], [.li, .int, .int, .int, .int], [(.v (.a (.one (.sl 1))))], [.keep, (.row 2 (.I .i64))], [.li]⟩
noncomputable def impl_Heights_beside.ib (w_impl_steps4 : (Int → Int → Int → Int → Int → Int → Int → Int → Prop) → Prop) (w_impl_Heights_cell : List Int → Int → Int → Int → Int → (Int → Prop) → Prop) : FnI := ⟨Try.prog, [], [impl_steps4.g.ctr w_impl_steps4, impl_Heights_cell.g.ctr w_impl_Heights_cell], 30, [.tmp 6], bodyOf Try.f66, (.seq .leaf (.seq .leaf (.seq (.seq .leaf (.block (.loop ⟨[3, 7, 11, 12], [.int, .int, .li, .int, .int, .int, .int, .int, .int, .int, .int, .int], [(.v (.a (.one (.pt 1 0)))), (.v (.a (.one (.sl 2)))), (.v (.a (.agg [(.int .i64), (.int .i64), (.int .i64), (.int .i64), (.int .i64), (.int .i64), (.int .i64), (.int .i64)]))), (.v (.a (.one (.int .i64))))], [.keep, (.box 28 [(.int .i64), (.int .i64), (.sl 0)]), (.row 2 (.I .i64))]⟩ .leaf))) .leaf))), []⟩
noncomputable def impl_Heights_beside.i : FnI := impl_Heights_beside.ib impl_steps4.wp impl_Heights_cell.wp
noncomputable def impl_Heights_beside.bd (w_impl_steps4 : (Int → Int → Int → Int → Int → Int → Int → Int → Prop) → Prop) (w_impl_Heights_cell : List Int → Int → Int → Int → Int → (Int → Prop) → Prop) : List Int → Int → Int → Int → Int → (List Int → Prop) → Prop := (impl_Heights_beside.ib w_impl_steps4 w_impl_Heights_cell).W impl_Heights_beside.g
noncomputable def impl_Heights_beside.wp : List Int → Int → Int → Int → Int → (List Int → Prop) → Prop := impl_Heights_beside.bd impl_steps4.wp impl_Heights_cell.wp
noncomputable def impl_Heights_beside.c : Ctr := impl_Heights_beside.g.ctr impl_Heights_beside.wp

-- loop.example/g01247/impl.HopTo
noncomputable def impl_HopTo.g : Sig := ⟨23, [(.v (.a (.agg [(.int .i64), (.int .i64), (.sl 0)]))), (.v (.a (.one (.int .i64)))), (.v (.a (.one (.int .i64)))), (.v (.a (.one (.int .i64))))], [(.rd (.I .i64))], [.li, .int, .int, .int, .int, .int], [(.tup [(.a (.agg [(.int .i64), (.int .i64), (.sl 1)])), (.a (.one (.int .i64))), (.a (.one .bool))])], [.keep, (.row 2 (.I .i64))], [.li, .int, .int, .int, .bool]⟩
noncomputable def impl_HopTo.ib (w_impl_Heights_has : List Int → Int → Int → Int → Int → (Bool → Prop) → Prop) (w_impl_within : Int → Int → Int → (Bool → Prop) → Prop) (w_impl_Heights_top : List Int → Int → Int → Int → Int → (Int → Prop) → Prop) (w_impl_Heights_cloned : List Int → Int → Int → (List Int → Int → Int → Prop) → Prop) (w_impl_Heights_cell : List Int → Int → Int → Int → Int → (Int → Prop) → Prop) (w_impl_Heights_beside : List Int → Int → Int → Int → Int → (List Int → Prop) → Prop) (w_impl_ValidHeights : List Int → Int → Int → (Bool → Prop) → Prop) (w_impl_Heights_bonds : List Int → Int → Int → (Int → Prop) → Prop) : FnI := ⟨Try.prog, [], [impl_Heights_has.g.ctr w_impl_Heights_has, impl_within.g.ctr w_impl_within, impl_Heights_top.g.ctr w_impl_Heights_top, impl_Heights_cloned.g.ctr w_impl_Heights_cloned, impl_Heights_cell.g.ctr w_impl_Heights_cell, impl_Heights_beside.g.ctr w_impl_Heights_beside, impl_ValidHeights.g.ctr w_impl_ValidHeights, impl_Heights_bonds.g.ctr w_impl_Heights_bonds], 65, [.cell 8 28, .tmp 9, .tmp 10], bodyOf Try.f23, .leaf, []⟩
noncomputable def impl_HopTo.i : FnI := impl_HopTo.ib impl_Heights_has.wp impl_within.wp impl_Heights_top.wp impl_Heights_cloned.wp impl_Heights_cell.wp impl_Heights_beside.wp impl_ValidHeights.wp impl_Heights_bonds.wp
noncomputable def impl_HopTo.bd (w_impl_Heights_has : List Int → Int → Int → Int → Int → (Bool → Prop) → Prop) (w_impl_within : Int → Int → Int → (Bool → Prop) → Prop) (w_impl_Heights_top : List Int → Int → Int → Int → Int → (Int → Prop) → Prop) (w_impl_Heights_cloned : List Int → Int → Int → (List Int → Int → Int → Prop) → Prop) (w_impl_Heights_cell : List Int → Int → Int → Int → Int → (Int → Prop) → Prop) (w_impl_Heights_beside : List Int → Int → Int → Int → Int → (List Int → Prop) → Prop) (w_impl_ValidHeights : List Int → Int → Int → (Bool → Prop) → Prop) (w_impl_Heights_bonds : List Int → Int → Int → (Int → Prop) → Prop) : List Int → Int → Int → Int → Int → Int → (List Int → Int → Int → Int → Bool → Prop) → Prop := (impl_HopTo.ib w_impl_Heights_has w_impl_within w_impl_Heights_top w_impl_Heights_cloned w_impl_Heights_cell w_impl_Heights_beside w_impl_ValidHeights w_impl_Heights_bonds).W impl_HopTo.g
noncomputable def impl_HopTo.wp : List Int → Int → Int → Int → Int → Int → (List Int → Int → Int → Int → Bool → Prop) → Prop := impl_HopTo.bd impl_Heights_has.wp impl_within.wp impl_Heights_top.wp impl_Heights_cloned.wp impl_Heights_cell.wp impl_Heights_beside.wp impl_ValidHeights.wp impl_Heights_bonds.wp
noncomputable def impl_HopTo.c : Ctr := impl_HopTo.g.ctr impl_HopTo.wp

-- loop.example/g01247/spec.B10Seed
noncomputable def spec_B10Seed.g : Sig := ⟨25, [(.v (.a (.one (.sl 0))))], [(.rd (.I .u8))], [.li], [(.v (.a (.one (.int .i64))))], [.keep], [.int]⟩
noncomputable def spec_B10Seed.ib (w_spec_l00From : List Int → (Int → Int → Prop) → Prop) (w_spec_l00Src_pick : Int → Int → List Int → Int → (Int → Int → Int → Prop) → Prop) : FnI := ⟨Try.prog, [], [spec_l00From.g.ctr w_spec_l00From, spec_l00Src_pick.g.ctr w_spec_l00Src_pick], 14, [.tmp 2], bodyOf Try.f25, .leaf, []⟩
noncomputable def spec_B10Seed.i : FnI := spec_B10Seed.ib spec_l00From.wp spec_l00Src_pick.wp
noncomputable def spec_B10Seed.bd (w_spec_l00From : List Int → (Int → Int → Prop) → Prop) (w_spec_l00Src_pick : Int → Int → List Int → Int → (Int → Int → Int → Prop) → Prop) : List Int → (Int → Prop) → Prop := (spec_B10Seed.ib w_spec_l00From w_spec_l00Src_pick).W spec_B10Seed.g
noncomputable def spec_B10Seed.wp : List Int → (Int → Prop) → Prop := spec_B10Seed.bd spec_l00From.wp spec_l00Src_pick.wp
noncomputable def spec_B10Seed.c : Ctr := spec_B10Seed.g.ctr spec_B10Seed.wp

-- loop.example/g01247/impl.isSeed
noncomputable def impl_isSeed.g : Sig := ⟨67, [(.v (.a (.one (.int .i64))))], [], [.int], [(.v (.a (.one .bool)))], [], [.bool]⟩
noncomputable def impl_isSeed.ib (w_impl_within : Int → Int → Int → (Bool → Prop) → Prop) : FnI := ⟨Try.prog, [], [impl_within.g.ctr w_impl_within], 5, [.tmp 2], bodyOf Try.f67, .leaf, []⟩
noncomputable def impl_isSeed.i : FnI := impl_isSeed.ib impl_within.wp
noncomputable def impl_isSeed.bd (w_impl_within : Int → Int → Int → (Bool → Prop) → Prop) : Int → (Bool → Prop) → Prop := (impl_isSeed.ib w_impl_within).W impl_isSeed.g
noncomputable def impl_isSeed.wp : Int → (Bool → Prop) → Prop := impl_isSeed.bd impl_within.wp
noncomputable def impl_isSeed.c : Ctr := impl_isSeed.g.ctr impl_isSeed.wp

-- loop.example/g01247/impl.draw
noncomputable def impl_draw.g : Sig := ⟨80, [(.v (.a (.one (.int .i64))))], [], [.int], [(.tup [(.a (.one (.int .i64))), (.a (.one (.int .i64)))])], [], [.int, .int]⟩
noncomputable def impl_draw.ib  : FnI := ⟨Try.prog, [], [], 11, [.tmp 2, .tmp 3], bodyOf Try.f80, .leaf, [0]⟩
noncomputable def impl_draw.i : FnI := impl_draw.ib 
noncomputable def impl_draw.bd  : Int → (Int → Int → Prop) → Prop := (impl_draw.ib ).W impl_draw.g
noncomputable def impl_draw.wp : Int → (Int → Int → Prop) → Prop := impl_draw.bd 
noncomputable def impl_draw.c : Ctr := impl_draw.g.ctr impl_draw.wp

-- loop.example/g01247/impl.use
noncomputable def impl_use.g : Sig := ⟨69, [(.v (.a (.one (.pt 0 0)))), (.v (.a (.one (.int .i64))))], [(.box 2 [(.int .i64)])], [.int, .int], [(.v (.a (.one (.int .i64))))], [(.box 2 [(.int .i64)])], [.int, .int]⟩
noncomputable def impl_use.ib (w_impl_draw : Int → (Int → Int → Prop) → Prop) : FnI := ⟨Try.prog, [], [impl_draw.g.ctr w_impl_draw], 20, [.tmp 4], bodyOf Try.f69, .leaf, []⟩
noncomputable def impl_use.i : FnI := impl_use.ib impl_draw.wp
noncomputable def impl_use.bd (w_impl_draw : Int → (Int → Int → Prop) → Prop) : Int → Int → (Int → Int → Prop) → Prop := (impl_use.ib w_impl_draw).W impl_use.g
noncomputable def impl_use.wp : Int → Int → (Int → Int → Prop) → Prop := impl_use.bd impl_draw.wp
noncomputable def impl_use.c : Ctr := impl_use.g.ctr impl_use.wp

-- loop.example/g01247/impl.HopSome
noncomputable def impl_HopSome.g : Sig := ⟨24, [(.v (.a (.agg [(.int .i64), (.int .i64), (.sl 0)]))), (.v (.a (.one (.int .i64)))), (.v (.a (.one (.int .i64)))), (.v (.a (.one (.sl 1))))], [(.rd (.I .i64)), (.rd (.I .i64))], [.li, .li, .int, .int, .int, .int], [(.tup [(.a (.agg [(.int .i64), (.int .i64), (.sl 2)])), (.a (.one (.int .i64))), (.a (.one (.int .i64))), (.a (.one .bool))])], [.keep, .keep, (.row 2 (.I .i64))], [.li, .int, .int, .int, .int, .bool]⟩
noncomputable def impl_HopSome.ib (w_impl_ValidHeights : List Int → Int → Int → (Bool → Prop) → Prop) (w_impl_within : Int → Int → Int → (Bool → Prop) → Prop) (w_impl_isSeed : Int → (Bool → Prop) → Prop) (w_impl_areWithin : List Int → Int → Int → (Bool → Prop) → Prop) (w_impl_Heights_cloned : List Int → Int → Int → (List Int → Int → Int → Prop) → Prop) (w_impl_use : Int → Int → (Int → Int → Prop) → Prop) (w_impl_HopTo : List Int → Int → Int → Int → Int → Int → (List Int → Int → Int → Int → Bool → Prop) → Prop) : FnI := ⟨Try.prog, [], [impl_ValidHeights.g.ctr w_impl_ValidHeights, impl_within.g.ctr w_impl_within, impl_isSeed.g.ctr w_impl_isSeed, impl_areWithin.g.ctr w_impl_areWithin, impl_Heights_cloned.g.ctr w_impl_Heights_cloned, impl_use.g.ctr w_impl_use, impl_HopTo.g.ctr w_impl_HopTo], 93, [.cell 8 28, .tmp 9, .tmp 10, .tmp 11], bodyOf Try.f24, (.seq .leaf (.seq .leaf (.seq .leaf (.seq .leaf (.seq (.seq .leaf (.block (.loop ⟨[4, 6, 8, 12, 46, 47], [.int, .int, .int, .int, .int, .li, .li, .int, .int, .int], [(.v (.a (.one (.pt 2 0)))), (.v (.a (.one (.pt 3 0)))), (.v (.a (.one (.pt 4 0)))), (.v (.a (.one (.int .i64)))), (.v (.a (.one (.int .i64)))), (.v (.a (.one (.int .i64))))], [.keep, .keep, (.box 28 [(.int .i64), (.int .i64), (.sl 5)]), (.box 2 [(.int .i64)]), (.box 28 [(.int .i64), (.int .i64), (.sl 6)]), (.row 2 (.I .i64)), (.row 2 (.I .i64))]⟩ .leaf))) .leaf))))), []⟩
noncomputable def impl_HopSome.i : FnI := impl_HopSome.ib impl_ValidHeights.wp impl_within.wp impl_isSeed.wp impl_areWithin.wp impl_Heights_cloned.wp impl_use.wp impl_HopTo.wp
noncomputable def impl_HopSome.bd (w_impl_ValidHeights : List Int → Int → Int → (Bool → Prop) → Prop) (w_impl_within : Int → Int → Int → (Bool → Prop) → Prop) (w_impl_isSeed : Int → (Bool → Prop) → Prop) (w_impl_areWithin : List Int → Int → Int → (Bool → Prop) → Prop) (w_impl_Heights_cloned : List Int → Int → Int → (List Int → Int → Int → Prop) → Prop) (w_impl_use : Int → Int → (Int → Int → Prop) → Prop) (w_impl_HopTo : List Int → Int → Int → Int → Int → Int → (List Int → Int → Int → Int → Bool → Prop) → Prop) : List Int → List Int → Int → Int → Int → Int → (List Int → Int → Int → Int → Int → Bool → Prop) → Prop := (impl_HopSome.ib w_impl_ValidHeights w_impl_within w_impl_isSeed w_impl_areWithin w_impl_Heights_cloned w_impl_use w_impl_HopTo).W impl_HopSome.g
noncomputable def impl_HopSome.wp : List Int → List Int → Int → Int → Int → Int → (List Int → Int → Int → Int → Int → Bool → Prop) → Prop := impl_HopSome.bd impl_ValidHeights.wp impl_within.wp impl_isSeed.wp impl_areWithin.wp impl_Heights_cloned.wp impl_use.wp impl_HopTo.wp
noncomputable def impl_HopSome.c : Ctr := impl_HopSome.g.ctr impl_HopSome.wp

-- loop.example/g01247/laws.FnHops
noncomputable def laws_FnHops.g : Sig := ⟨4, [(.v (.a (.one (.sl 0)))), (.v (.a (.one (.sl 1))))], [(.rd (.I .u8)), (.rd (.I .u8))], [.li, .li], [(.v (.a (.one .bool)))], [.keep, .keep], [.bool]⟩
noncomputable def laws_FnHops.ib (w_laws_b10Long : List Int → List Int → (Bool → Prop) → Prop) (w_spec_B10Heights : List Int → (List Int → Int → Int → Prop) → Prop) (w_laws_b10At : List Int → Int → Int → (Int → Prop) → Prop) (w_impl_AtomsIn : List Int → Int → Int → (Int → Bool → Prop) → Prop) (w_impl_BondsIn : List Int → Int → Int → (Int → Bool → Prop) → Prop) (w_impl_StepsIn : List Int → Int → Int → (Int → Bool → Prop) → Prop) (w_impl_HopTo : List Int → Int → Int → Int → Int → Int → (List Int → Int → Int → Int → Bool → Prop) → Prop) (w_spec_B10Seed : List Int → (Int → Prop) → Prop) (w_impl_HopSome : List Int → List Int → Int → Int → Int → Int → (List Int → Int → Int → Int → Int → Bool → Prop) → Prop) : FnI := ⟨Try.prog, [], [laws_b10Long.g.ctr w_laws_b10Long, spec_B10Heights.g.ctr w_spec_B10Heights, laws_b10At.g.ctr w_laws_b10At, impl_AtomsIn.g.ctr w_impl_AtomsIn, impl_BondsIn.g.ctr w_impl_BondsIn, impl_StepsIn.g.ctr w_impl_StepsIn, impl_HopTo.g.ctr w_impl_HopTo, spec_B10Seed.g.ctr w_spec_B10Seed, impl_HopSome.g.ctr w_impl_HopSome], 179, [.tmp 4], bodyOf Try.f4, (.seq .leaf (.seq .leaf (.seq .leaf (.seq .leaf (.seq .leaf (.seq .leaf (.seq .leaf (.seq .leaf (.seq .leaf (.seq .leaf (.seq (.seq .leaf (.condJ ⟨[5, 8, 10], [.int, .int, .li, .int, .int], [(.v (.a (.one (.pt 2 0)))), (.v (.a (.one (.int .i64)))), (.v (.a (.one (.int .i64))))], [.keep, .keep, (.box 28 [(.int .i64), (.int .i64), (.sl 3)]), (.row 2 (.I .i64))]⟩ .leaf .leaf)) .leaf))))))))))), []⟩
noncomputable def laws_FnHops.i : FnI := laws_FnHops.ib laws_b10Long.wp spec_B10Heights.wp laws_b10At.wp impl_AtomsIn.wp impl_BondsIn.wp impl_StepsIn.wp impl_HopTo.wp spec_B10Seed.wp impl_HopSome.wp
noncomputable def laws_FnHops.bd (w_laws_b10Long : List Int → List Int → (Bool → Prop) → Prop) (w_spec_B10Heights : List Int → (List Int → Int → Int → Prop) → Prop) (w_laws_b10At : List Int → Int → Int → (Int → Prop) → Prop) (w_impl_AtomsIn : List Int → Int → Int → (Int → Bool → Prop) → Prop) (w_impl_BondsIn : List Int → Int → Int → (Int → Bool → Prop) → Prop) (w_impl_StepsIn : List Int → Int → Int → (Int → Bool → Prop) → Prop) (w_impl_HopTo : List Int → Int → Int → Int → Int → Int → (List Int → Int → Int → Int → Bool → Prop) → Prop) (w_spec_B10Seed : List Int → (Int → Prop) → Prop) (w_impl_HopSome : List Int → List Int → Int → Int → Int → Int → (List Int → Int → Int → Int → Int → Bool → Prop) → Prop) : List Int → List Int → (Bool → Prop) → Prop := (laws_FnHops.ib w_laws_b10Long w_spec_B10Heights w_laws_b10At w_impl_AtomsIn w_impl_BondsIn w_impl_StepsIn w_impl_HopTo w_spec_B10Seed w_impl_HopSome).W laws_FnHops.g
noncomputable def laws_FnHops.wp : List Int → List Int → (Bool → Prop) → Prop := laws_FnHops.bd laws_b10Long.wp spec_B10Heights.wp laws_b10At.wp impl_AtomsIn.wp impl_BondsIn.wp impl_StepsIn.wp impl_HopTo.wp spec_B10Seed.wp impl_HopSome.wp
noncomputable def laws_FnHops.c : Ctr := laws_FnHops.g.ctr laws_FnHops.wp
end Go.K.heights
