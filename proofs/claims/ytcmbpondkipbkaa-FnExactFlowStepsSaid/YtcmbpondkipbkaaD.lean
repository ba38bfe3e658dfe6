import Derived.Test.YtcmbpondkipbkaaK20
import Derived.Test.YtcmbpondkipbkaaProg
set_option maxRecDepth 100000
namespace Go.K.heights
open Go.Proofs

noncomputable def bodyOf (f : Func) : Code := match f.body with
  | some c => c
  | none => .skip
-- loop.example/g01247/laws.szInt64S
noncomputable def laws_szInt64S.g : Sig := ⟨48, [(.v (.a (.one (.sl 0)))), (.v (.a (.one (.int .i64))))], [(.rd (.I .i64))], [.li, .int], [(.v (.a (.one (.int .i64))))], [.keep], [.int]⟩
noncomputable def laws_szInt64S.ib  : FnI := ⟨Try.prog, [], [], 12, [.tmp 4], bodyOf Try.f48, .leaf, [1]⟩
noncomputable def laws_szInt64S.i : FnI := laws_szInt64S.ib 
noncomputable def laws_szInt64S.bd  : List Int → Int → (Int → Prop) → Prop := (laws_szInt64S.ib ).W laws_szInt64S.g
noncomputable def laws_szInt64S.wp : List Int → Int → (Int → Prop) → Prop := laws_szInt64S.bd 
noncomputable def laws_szInt64S.c : Ctr := laws_szInt64S.g.ctr laws_szInt64S.wp

-- loop.example/g01247/laws.szHeights
noncomputable def laws_szHeights.g : Sig := ⟨12, [(.v (.a (.agg [(.int .i64), (.int .i64), (.sl 0)]))), (.v (.a (.one (.int .i64))))], [(.rd (.I .i64))], [.li, .int, .int, .int], [(.v (.a (.one (.int .i64))))], [.keep], [.int]⟩
noncomputable def laws_szHeights.ib (w_laws_szInt64S : List Int → Int → (Int → Prop) → Prop) : FnI := ⟨Try.prog, [], [laws_szInt64S.g.ctr w_laws_szInt64S], 12, [.tmp 4], bodyOf Try.f12, .leaf, [1]⟩
noncomputable def laws_szHeights.i : FnI := laws_szHeights.ib laws_szInt64S.wp
noncomputable def laws_szHeights.bd (w_laws_szInt64S : List Int → Int → (Int → Prop) → Prop) : List Int → Int → Int → Int → (Int → Prop) → Prop := (laws_szHeights.ib w_laws_szInt64S).W laws_szHeights.g
noncomputable def laws_szHeights.wp : List Int → Int → Int → Int → (Int → Prop) → Prop := laws_szHeights.bd laws_szInt64S.wp
noncomputable def laws_szHeights.c : Ctr := laws_szHeights.g.ctr laws_szHeights.wp

-- loop.example/g01247/laws.toInt64S
noncomputable def laws_toInt64S.g : Sig := ⟨51, [(.v (.a (.one (.sl 0))))], [(.rd (.I .i64))], [.li], [(.v (.a (.one (.sl 1))))], [.keep, (.row 2 (.I .i64))], [.li]⟩
noncomputable def laws_toInt64S.ib  : FnI := ⟨Try.prog, [], [], 22, [.tmp 2], bodyOf Try.f51, (.seq .leaf (.seq .leaf (.seq (.seq .leaf (.block (.loop ⟨[3, 4], [.li, .int], [(.v (.a (.one (.sl 1)))), (.v (.a (.one (.int .i64))))], [.keep, (.row 2 (.I .i64))]⟩ .leaf))) .leaf))), []⟩
noncomputable def laws_toInt64S.i : FnI := laws_toInt64S.ib 
noncomputable def laws_toInt64S.bd  : List Int → (List Int → Prop) → Prop := (laws_toInt64S.ib ).W laws_toInt64S.g
noncomputable def laws_toInt64S.wp : List Int → (List Int → Prop) → Prop := laws_toInt64S.bd 
noncomputable def laws_toInt64S.c : Ctr := laws_toInt64S.g.ctr laws_toInt64S.wp

-- loop.example/g01247/laws.toHeights
noncomputable def laws_toHeights.g : Sig := ⟨14, [(.v (.a (.agg [(.int .i64), (.int .i64), (.sl 0)])))], [(.rd (.I .i64))], [.li, .int, .int], [(.v (.a (.agg [(.int .i64), (.int .i64), (.sl 1)])))], [.keep, (.row 2 (.I .i64))], [.li, .int, .int]⟩
noncomputable def laws_toHeights.ib (w_laws_toInt64S : List Int → (List Int → Prop) → Prop) : FnI := ⟨Try.prog, [], [laws_toInt64S.g.ctr w_laws_toInt64S], 15, [.cell 2 28], bodyOf Try.f14, .leaf, []⟩
noncomputable def laws_toHeights.i : FnI := laws_toHeights.ib laws_toInt64S.wp
noncomputable def laws_toHeights.bd (w_laws_toInt64S : List Int → (List Int → Prop) → Prop) : List Int → Int → Int → (List Int → Int → Int → Prop) → Prop := (laws_toHeights.ib w_laws_toInt64S).W laws_toHeights.g
noncomputable def laws_toHeights.wp : List Int → Int → Int → (List Int → Int → Int → Prop) → Prop := laws_toHeights.bd laws_toInt64S.wp
noncomputable def laws_toHeights.c : Ctr := laws_toHeights.g.ctr laws_toHeights.wp

-- loop.example/g01247/spec.l00In
noncomputable def spec_l00In.g : Sig := ⟨71, [(.v (.a (.one (.int .i64)))), (.v (.a (.one (.int .i64)))), (.v (.a (.one (.int .i64))))], [], [.int, .int, .int], [(.v (.a (.one .bool)))], [], [.bool]⟩
noncomputable def spec_l00In.ib  : FnI := ⟨Try.prog, [], [], 15, [.tmp 6], bodyOf Try.f71, .leaf, []⟩
noncomputable def spec_l00In.i : FnI := spec_l00In.ib 
noncomputable def spec_l00In.bd  : Int → Int → Int → (Bool → Prop) → Prop := (spec_l00In.ib ).W spec_l00In.g
noncomputable def spec_l00In.wp : Int → Int → Int → (Bool → Prop) → Prop := spec_l00In.bd 
noncomputable def spec_l00In.c : Ctr := spec_l00In.g.ctr spec_l00In.wp

-- loop.example/g01247/spec.l05Size
noncomputable def spec_l05Size.g : Sig := ⟨93, [(.v (.a (.one (.int .i64)))), (.v (.a (.one (.int .i64))))], [], [.int, .int], [(.v (.a (.one .bool)))], [], [.bool]⟩
noncomputable def spec_l05Size.ib (w_spec_l00In : Int → Int → Int → (Bool → Prop) → Prop) : FnI := ⟨Try.prog, [], [spec_l00In.g.ctr w_spec_l00In], 11, [.tmp 4], bodyOf Try.f93, .leaf, []⟩
noncomputable def spec_l05Size.i : FnI := spec_l05Size.ib spec_l00In.wp
noncomputable def spec_l05Size.bd (w_spec_l00In : Int → Int → Int → (Bool → Prop) → Prop) : Int → Int → (Bool → Prop) → Prop := (spec_l05Size.ib w_spec_l00In).W spec_l05Size.g
noncomputable def spec_l05Size.wp : Int → Int → (Bool → Prop) → Prop := spec_l05Size.bd spec_l00In.wp
noncomputable def spec_l05Size.c : Ctr := spec_l05Size.g.ctr spec_l05Size.wp

-- loop.example/g01247/spec.l05Is
noncomputable def spec_l05Is.g : Sig := ⟨86, [(.v (.a (.one (.pt 0 0))))], [(.rdb [(.int .i64), (.int .i64), (.sl 1)]), (.rd (.I .i64))], [.int, .int, .li], [(.v (.a (.one .bool)))], [.keep, .keep], [.bool]⟩
noncomputable def spec_l05Is.ib (w_spec_l00In : Int → Int → Int → (Bool → Prop) → Prop) (w_spec_l05Size : Int → Int → (Bool → Prop) → Prop) : FnI := ⟨Try.prog, [], [spec_l00In.g.ctr w_spec_l00In, spec_l05Size.g.ctr w_spec_l05Size], 48, [.tmp 2], bodyOf Try.f86, (.seq .leaf (.seq (.seq .leaf (.block (.loop ⟨[8, 9], [.int, .int], [(.v (.a (.one (.int .i64)))), (.v (.a (.one (.int .i64))))], [.keep, .keep]⟩ .leaf))) .leaf)), []⟩
noncomputable def spec_l05Is.i : FnI := spec_l05Is.ib spec_l00In.wp spec_l05Size.wp
noncomputable def spec_l05Is.bd (w_spec_l00In : Int → Int → Int → (Bool → Prop) → Prop) (w_spec_l05Size : Int → Int → (Bool → Prop) → Prop) : Int → Int → List Int → (Bool → Prop) → Prop := (spec_l05Is.ib w_spec_l00In w_spec_l05Size).W spec_l05Is.g
noncomputable def spec_l05Is.wp : Int → Int → List Int → (Bool → Prop) → Prop := spec_l05Is.bd spec_l00In.wp spec_l05Size.wp
noncomputable def spec_l05Is.c : Ctr := spec_l05Is.g.ctr spec_l05Is.wp

-- loop.example/g01247/spec.l05Cell
noncomputable def spec_l05Cell.g : Sig := ⟨49, [(.v (.a (.one (.pt 0 0)))), (.v (.a (.one (.int .i64)))), (.v (.a (.one (.int .i64))))], [(.rdb [(.int .i64), (.int .i64), (.sl 1)]), (.rd (.I .i64))], [.int, .int, .li, .int, .int], [(.v (.a (.one .bool)))], [.keep, .keep], [.bool]⟩
noncomputable def spec_l05Cell.ib (w_spec_l05Is : Int → Int → List Int → (Bool → Prop) → Prop) (w_spec_l00In : Int → Int → Int → (Bool → Prop) → Prop) : FnI := ⟨Try.prog, [], [spec_l05Is.g.ctr w_spec_l05Is, spec_l00In.g.ctr w_spec_l00In], 27, [.tmp 6], bodyOf Try.f49, .leaf, []⟩
noncomputable def spec_l05Cell.i : FnI := spec_l05Cell.ib spec_l05Is.wp spec_l00In.wp
noncomputable def spec_l05Cell.bd (w_spec_l05Is : Int → Int → List Int → (Bool → Prop) → Prop) (w_spec_l00In : Int → Int → Int → (Bool → Prop) → Prop) : Int → Int → List Int → Int → Int → (Bool → Prop) → Prop := (spec_l05Cell.ib w_spec_l05Is w_spec_l00In).W spec_l05Cell.g
noncomputable def spec_l05Cell.wp : Int → Int → List Int → Int → Int → (Bool → Prop) → Prop := spec_l05Cell.bd spec_l05Is.wp spec_l00In.wp
noncomputable def spec_l05Cell.c : Ctr := spec_l05Cell.g.ctr spec_l05Cell.wp

-- loop.example/g01247/spec.l05Index
noncomputable def spec_l05Index.g : Sig := ⟨101, [(.v (.a (.one (.pt 0 0)))), (.v (.a (.one (.int .i64)))), (.v (.a (.one (.int .i64))))], [(.rdb [(.int .i64), (.int .i64), (.sl 1)]), (.rd (.I .i64))], [.int, .int, .li, .int, .int], [(.v (.a (.one (.int .i64))))], [.keep, .keep], [.int]⟩
noncomputable def spec_l05Index.ib  : FnI := ⟨Try.prog, [], [], 47, [.tmp 6], bodyOf Try.f101, .leaf, [1, 2]⟩
noncomputable def spec_l05Index.i : FnI := spec_l05Index.ib 
noncomputable def spec_l05Index.bd  : Int → Int → List Int → Int → Int → (Int → Prop) → Prop := (spec_l05Index.ib ).W spec_l05Index.g
noncomputable def spec_l05Index.wp : Int → Int → List Int → Int → Int → (Int → Prop) → Prop := spec_l05Index.bd 
noncomputable def spec_l05Index.c : Ctr := spec_l05Index.g.ctr spec_l05Index.wp

-- loop.example/g01247/spec.l05Near
noncomputable def spec_l05Near.g : Sig := ⟨50, [(.v (.a (.one (.pt 0 0)))), (.v (.a (.one (.int .i64))))], [(.rdb [(.int .i64), (.int .i64), (.sl 1)]), (.rd (.I .i64))], [.int, .int, .li, .int], [(.v (.a (.one (.sl 2))))], [.keep, .keep, (.row 2 (.I .i64))], [.li]⟩
noncomputable def spec_l05Near.ib (w_spec_l05Index : Int → Int → List Int → Int → Int → (Int → Prop) → Prop) : FnI := ⟨Try.prog, [], [spec_l05Index.g.ctr w_spec_l05Index], 40, [.tmp 4], bodyOf Try.f50, .leaf, []⟩
noncomputable def spec_l05Near.i : FnI := spec_l05Near.ib spec_l05Index.wp
noncomputable def spec_l05Near.bd (w_spec_l05Index : Int → Int → List Int → Int → Int → (Int → Prop) → Prop) : Int → Int → List Int → Int → (List Int → Prop) → Prop := (spec_l05Near.ib w_spec_l05Index).W spec_l05Near.g
noncomputable def spec_l05Near.wp : Int → Int → List Int → Int → (List Int → Prop) → Prop := spec_l05Near.bd spec_l05Index.wp
noncomputable def spec_l05Near.c : Ctr := spec_l05Near.g.ctr spec_l05Near.wp

-- loop.example/g01247/spec.BondsAt
noncomputable def spec_BondsAt.g : Sig := ⟨13, [(.v (.a (.agg [(.int .i64), (.int .i64), (.sl 0)]))), (.v (.a (.one (.int .i64)))), (.v (.a (.one (.int .i64))))], [(.rd (.I .i64))], [.li, .int, .int, .int, .int], [(.tup [(.a (.one (.int .i64))), (.a (.one .bool))])], [.keep], [.int, .bool]⟩
noncomputable def spec_BondsAt.ib (w_spec_l05Cell : Int → Int → List Int → Int → Int → (Bool → Prop) → Prop) (w_spec_l05Near : Int → Int → List Int → Int → (List Int → Prop) → Prop) : FnI := ⟨Try.prog, [], [spec_l05Cell.g.ctr w_spec_l05Cell, spec_l05Near.g.ctr w_spec_l05Near], 47, [.tmp 6, .tmp 7], bodyOf Try.f13, (.seq .leaf (.seq .leaf (.seq .leaf (.seq .leaf (.seq .leaf (.seq (.seq .leaf (.block (.loop ⟨[3, 8, 9, 10, 25, 26], [.int, .int, .li, .int, .int, .int, .int], [(.v (.a (.one (.pt 1 0)))), (.v (.a (.one (.int .i64)))), (.v (.a (.one (.sl 2)))), (.v (.a (.one (.int .i64)))), (.v (.a (.one (.int .i64)))), (.v (.a (.one (.int .i64))))], [.keep, (.box 28 [(.int .i64), (.int .i64), (.sl 0)]), (.row 2 (.I .i64))]⟩ .leaf))) .leaf)))))), []⟩
noncomputable def spec_BondsAt.i : FnI := spec_BondsAt.ib spec_l05Cell.wp spec_l05Near.wp
noncomputable def spec_BondsAt.bd (w_spec_l05Cell : Int → Int → List Int → Int → Int → (Bool → Prop) → Prop) (w_spec_l05Near : Int → Int → List Int → Int → (List Int → Prop) → Prop) : List Int → Int → Int → Int → Int → (Int → Bool → Prop) → Prop := (spec_BondsAt.ib w_spec_l05Cell w_spec_l05Near).W spec_BondsAt.g
noncomputable def spec_BondsAt.wp : List Int → Int → Int → Int → Int → (Int → Bool → Prop) → Prop := spec_BondsAt.bd spec_l05Cell.wp spec_l05Near.wp
noncomputable def spec_BondsAt.c : Ctr := spec_BondsAt.g.ctr spec_BondsAt.wp

-- loop.example/g01247/impl.within
noncomputable def impl_within.g : Sig := ⟨63, [(.v (.a (.one (.int .i64)))), (.v (.a (.one (.int .i64)))), (.v (.a (.one (.int .i64))))], [], [.int, .int, .int], [(.v (.a (.one .bool)))], [], [.bool]⟩
noncomputable def impl_within.ib  : FnI := ⟨Try.prog, [], [], 15, [.tmp 6], bodyOf Try.f63, .leaf, []⟩
noncomputable def impl_within.i : FnI := impl_within.ib 
noncomputable def impl_within.bd  : Int → Int → Int → (Bool → Prop) → Prop := (impl_within.ib ).W impl_within.g
noncomputable def impl_within.wp : Int → Int → Int → (Bool → Prop) → Prop := impl_within.bd 
noncomputable def impl_within.c : Ctr := impl_within.g.ctr impl_within.wp

-- loop.example/g01247/impl.areWithin$1
noncomputable def impl_areWithin_1.g : Sig := ⟨107, [(.v (.a (.one (.int .i64)))), (.v (.a (.one (.pt 0 0)))), (.v (.a (.one (.pt 1 0))))], [(.rdb [(.int .i64)]), (.rdb [(.int .i64)])], [.int, .int, .int], [(.v (.a (.one .bool)))], [.keep, .keep], [.bool]⟩
noncomputable def impl_areWithin_1.ib (w_impl_within : Int → Int → Int → (Bool → Prop) → Prop) : FnI := ⟨Try.prog, [], [impl_within.g.ctr w_impl_within], 10, [.tmp 4], bodyOf Try.f107, .leaf, []⟩
noncomputable def impl_areWithin_1.i : FnI := impl_areWithin_1.ib impl_within.wp
noncomputable def impl_areWithin_1.bd (w_impl_within : Int → Int → Int → (Bool → Prop) → Prop) : Int → Int → Int → (Bool → Prop) → Prop := (impl_areWithin_1.ib w_impl_within).W impl_areWithin_1.g
noncomputable def impl_areWithin_1.wp : Int → Int → Int → (Bool → Prop) → Prop := impl_areWithin_1.bd impl_within.wp
noncomputable def impl_areWithin_1.c : Ctr := impl_areWithin_1.g.ctr impl_areWithin_1.wp

-- slices.IndexFunc[[]int64,int64]
noncomputable def slices_IndexFunc_int64_int64__areWithin_1.g : Sig := ⟨121, [(.v (.a (.one (.sl 0)))), (.v (.fn 107 [] [(.one (.pt 1 0)), (.one (.pt 2 0))]))], [(.rd (.I .i64)), (.rdb [(.int .i64)]), (.rdb [(.int .i64)])], [.li, .int, .int], [(.v (.a (.one (.int .i64))))], [.keep, .keep, .keep], [.int]⟩
noncomputable def slices_IndexFunc_int64_int64__areWithin_1.ib (w_impl_areWithin_1 : Int → Int → Int → (Bool → Prop) → Prop) : FnI := ⟨Try.prog, [], [impl_areWithin_1.g.ctr w_impl_areWithin_1], 19, [.tmp 4], bodyOf Try.f121, (.seq .leaf (.seq (.seq .leaf (.block (.loop ⟨[7, 8], [.int, .int], [(.v (.a (.one (.int .i64)))), (.v (.a (.one (.int .i64))))], [.keep, .keep, .keep]⟩ .leaf))) .leaf)), []⟩
noncomputable def slices_IndexFunc_int64_int64__areWithin_1.i : FnI := slices_IndexFunc_int64_int64__areWithin_1.ib impl_areWithin_1.wp
noncomputable def slices_IndexFunc_int64_int64__areWithin_1.bd (w_impl_areWithin_1 : Int → Int → Int → (Bool → Prop) → Prop) : List Int → Int → Int → (Int → Prop) → Prop := (slices_IndexFunc_int64_int64__areWithin_1.ib w_impl_areWithin_1).W slices_IndexFunc_int64_int64__areWithin_1.g
noncomputable def slices_IndexFunc_int64_int64__areWithin_1.wp : List Int → Int → Int → (Int → Prop) → Prop := slices_IndexFunc_int64_int64__areWithin_1.bd impl_areWithin_1.wp
noncomputable def slices_IndexFunc_int64_int64__areWithin_1.c : Ctr := slices_IndexFunc_int64_int64__areWithin_1.g.ctr slices_IndexFunc_int64_int64__areWithin_1.wp

-- slices.ContainsFunc[[]int64,int64]
noncomputable def slices_ContainsFunc_int64_int64__areWithin_1.g : Sig := ⟨106, [(.v (.a (.one (.sl 0)))), (.v (.fn 107 [] [(.one (.pt 1 0)), (.one (.pt 2 0))]))], [(.rd (.I .i64)), (.rdb [(.int .i64)]), (.rdb [(.int .i64)])], [.li, .int, .int], [(.v (.a (.one .bool)))], [.keep, .keep, .keep], [.bool]⟩
noncomputable def slices_ContainsFunc_int64_int64__areWithin_1.ib (w_slices_IndexFunc_int64_int64__areWithin_1 : List Int → Int → Int → (Int → Prop) → Prop) : FnI := ⟨Try.prog, [], [slices_IndexFunc_int64_int64__areWithin_1.g.ctr w_slices_IndexFunc_int64_int64__areWithin_1], 9, [.tmp 4], bodyOf Try.f106, .leaf, []⟩
noncomputable def slices_ContainsFunc_int64_int64__areWithin_1.i : FnI := slices_ContainsFunc_int64_int64__areWithin_1.ib slices_IndexFunc_int64_int64__areWithin_1.wp
noncomputable def slices_ContainsFunc_int64_int64__areWithin_1.bd (w_slices_IndexFunc_int64_int64__areWithin_1 : List Int → Int → Int → (Int → Prop) → Prop) : List Int → Int → Int → (Bool → Prop) → Prop := (slices_ContainsFunc_int64_int64__areWithin_1.ib w_slices_IndexFunc_int64_int64__areWithin_1).W slices_ContainsFunc_int64_int64__areWithin_1.g
noncomputable def slices_ContainsFunc_int64_int64__areWithin_1.wp : List Int → Int → Int → (Bool → Prop) → Prop := slices_ContainsFunc_int64_int64__areWithin_1.bd slices_IndexFunc_int64_int64__areWithin_1.wp
noncomputable def slices_ContainsFunc_int64_int64__areWithin_1.c : Ctr := slices_ContainsFunc_int64_int64__areWithin_1.g.ctr slices_ContainsFunc_int64_int64__areWithin_1.wp

-- loop.example/g01247/impl.areWithin
noncomputable def impl_areWithin.g : Sig := ⟨68, [(.v (.a (.one (.int .i64)))), (.v (.a (.one (.int .i64)))), (.v (.a (.one (.sl 0))))], [(.rd (.I .i64))], [.li, .int, .int], [(.v (.a (.one .bool)))], [.keep], [.bool]⟩
noncomputable def impl_areWithin.ib (w_slices_ContainsFunc_int64_int64__areWithin_1 : List Int → Int → Int → (Bool → Prop) → Prop) : FnI := ⟨Try.prog, [], [slices_ContainsFunc_int64_int64__areWithin_1.g.ctr w_slices_ContainsFunc_int64_int64__areWithin_1], 11, [.tmp 6], bodyOf Try.f68, .leaf, []⟩
noncomputable def impl_areWithin.i : FnI := impl_areWithin.ib slices_ContainsFunc_int64_int64__areWithin_1.wp
noncomputable def impl_areWithin.bd (w_slices_ContainsFunc_int64_int64__areWithin_1 : List Int → Int → Int → (Bool → Prop) → Prop) : List Int → Int → Int → (Bool → Prop) → Prop := (impl_areWithin.ib w_slices_ContainsFunc_int64_int64__areWithin_1).W impl_areWithin.g
noncomputable def impl_areWithin.wp : List Int → Int → Int → (Bool → Prop) → Prop := impl_areWithin.bd slices_ContainsFunc_int64_int64__areWithin_1.wp
noncomputable def impl_areWithin.c : Ctr := impl_areWithin.g.ctr impl_areWithin.wp

-- loop.example/g01247/impl.ValidHeights
noncomputable def impl_ValidHeights.g : Sig := ⟨32, [(.v (.a (.agg [(.int .i64), (.int .i64), (.sl 0)])))], [(.rd (.I .i64))], [.li, .int, .int], [(.v (.a (.one .bool)))], [.keep], [.bool]⟩
noncomputable def impl_ValidHeights.ib (w_impl_areWithin : List Int → Int → Int → (Bool → Prop) → Prop) : FnI := ⟨Try.prog, [], [impl_areWithin.g.ctr w_impl_areWithin], 25, [.tmp 2], bodyOf Try.f32, .leaf, []⟩
noncomputable def impl_ValidHeights.i : FnI := impl_ValidHeights.ib impl_areWithin.wp
noncomputable def impl_ValidHeights.bd (w_impl_areWithin : List Int → Int → Int → (Bool → Prop) → Prop) : List Int → Int → Int → (Bool → Prop) → Prop := (impl_ValidHeights.ib w_impl_areWithin).W impl_ValidHeights.g
noncomputable def impl_ValidHeights.wp : List Int → Int → Int → (Bool → Prop) → Prop := impl_ValidHeights.bd impl_areWithin.wp
noncomputable def impl_ValidHeights.c : Ctr := impl_ValidHeights.g.ctr impl_ValidHeights.wp

-- (loop.example/g01247/impl.Heights).has
noncomputable def impl_Heights_has.g : Sig := ⟨52, [(.v (.a (.agg [(.int .i64), (.int .i64), (.sl 0)]))), (.v (.a (.one (.int .i64)))), (.v (.a (.one (.int .i64))))], [(.rd (.I .i64))], [.li, .int, .int, .int, .int], [(.v (.a (.one .bool)))], [.keep], [.bool]⟩
noncomputable def impl_Heights_has.ib (w_impl_ValidHeights : List Int → Int → Int → (Bool → Prop) → Prop) (w_impl_within : Int → Int → Int → (Bool → Prop) → Prop) : FnI := ⟨Try.prog, [], [impl_ValidHeights.g.ctr w_impl_ValidHeights, impl_within.g.ctr w_impl_within], 23, [.tmp 6], bodyOf Try.f52, .leaf, []⟩
noncomputable def impl_Heights_has.i : FnI := impl_Heights_has.ib impl_ValidHeights.wp impl_within.wp
noncomputable def impl_Heights_has.bd (w_impl_ValidHeights : List Int → Int → Int → (Bool → Prop) → Prop) (w_impl_within : Int → Int → Int → (Bool → Prop) → Prop) : List Int → Int → Int → Int → Int → (Bool → Prop) → Prop := (impl_Heights_has.ib w_impl_ValidHeights w_impl_within).W impl_Heights_has.g
noncomputable def impl_Heights_has.wp : List Int → Int → Int → Int → Int → (Bool → Prop) → Prop := impl_Heights_has.bd impl_ValidHeights.wp impl_within.wp
noncomputable def impl_Heights_has.c : Ctr := impl_Heights_has.g.ctr impl_Heights_has.wp

-- loop.example/g01247/impl.steps4
noncomputable def impl_steps4.g : Sig := ⟨105, [], [], [], [(.v (.a (.agg [(.int .i64), (.int .i64), (.int .i64), (.int .i64), (.int .i64), (.int .i64), (.int .i64), (.int .i64)])))], [], [.int, .int, .int, .int, .int, .int, .int, .int]⟩
noncomputable def impl_steps4.ib  : FnI := ⟨Try.prog, [], [], 6, [.cell 0 106], bodyOf Try.f105, .leaf, []⟩
noncomputable def impl_steps4.i : FnI := impl_steps4.ib 
noncomputable def impl_steps4.bd  : (Int → Int → Int → Int → Int → Int → Int → Int → Prop) → Prop := (impl_steps4.ib ).W impl_steps4.g
noncomputable def impl_steps4.wp : (Int → Int → Int → Int → Int → Int → Int → Int → Prop) → Prop := impl_steps4.bd 
noncomputable def impl_steps4.c : Ctr := impl_steps4.g.ctr impl_steps4.wp

-- loop.example/g01247/impl.place
noncomputable def impl_place.g : Sig := ⟨104, [(.v (.a (.one (.int .i64)))), (.v (.a (.one (.int .i64)))), (.v (.a (.one .bool)))], [], [.int, .int, .bool], [(.v (.a (.one (.int .i64))))], [], [.int]⟩
noncomputable def impl_place.ib  : FnI := ⟨Try.prog, [], [], 20, [.tmp 6], bodyOf Try.f104, .leaf, []⟩
noncomputable def impl_place.i : FnI := impl_place.ib 
noncomputable def impl_place.bd  : Int → Int → Bool → (Int → Prop) → Prop := (impl_place.ib ).W impl_place.g
noncomputable def impl_place.wp : Int → Int → Bool → (Int → Prop) → Prop := impl_place.bd 
noncomputable def impl_place.c : Ctr := impl_place.g.ctr impl_place.wp

-- (loop.example/g01247/impl.Heights).cell
noncomputable def impl_Heights_cell.g : Sig := ⟨65, [(.v (.a (.agg [(.int .i64), (.int .i64), (.sl 0)]))), (.v (.a (.one (.int .i64)))), (.v (.a (.one (.int .i64))))], [(.rd (.I .i64))], [.li, .int, .int, .int, .int], [(.v (.a (.one (.int .i64))))], [.keep], [.int]⟩
noncomputable def impl_Heights_cell.ib (w_impl_place : Int → Int → Bool → (Int → Prop) → Prop) : FnI := ⟨Try.prog, [], [impl_place.g.ctr w_impl_place], 19, [.tmp 6], bodyOf Try.f65, .leaf, []⟩
noncomputable def impl_Heights_cell.i : FnI := impl_Heights_cell.ib impl_place.wp
noncomputable def impl_Heights_cell.bd (w_impl_place : Int → Int → Bool → (Int → Prop) → Prop) : List Int → Int → Int → Int → Int → (Int → Prop) → Prop := (impl_Heights_cell.ib w_impl_place).W impl_Heights_cell.g
noncomputable def impl_Heights_cell.wp : List Int → Int → Int → Int → Int → (Int → Prop) → Prop := impl_Heights_cell.bd impl_place.wp
noncomputable def impl_Heights_cell.c : Ctr := impl_Heights_cell.g.ctr impl_Heights_cell.wp

-- (loop.example/g01247/impl.Heights).beside
noncomputable def impl_Heights_beside.g : Sig := ⟨66, [(.v (.a (.agg [(.int .i64), (.int .i64), (.sl 0)]))), (.v (.a (.one (.int .i64)))), (.v (.a (.one (.int .i64))))], [(.rd (.I .i64))], [.li, .int, .int, .int, .int], [(.v (.a (.one (.sl 1))))], [.keep, (.row 2 (.I .i64))], [.li]⟩
noncomputable def impl_Heights_beside.ib (w_impl_steps4 : (Int → Int → Int → Int → Int → Int → Int → Int → Prop) → Prop) (w_impl_Heights_cell : List Int → Int → Int → Int → Int → (Int → Prop) → Prop) : FnI := ⟨Try.prog, [], [impl_steps4.g.ctr w_impl_steps4, impl_Heights_cell.g.ctr w_impl_Heights_cell], 30, [.tmp 6], bodyOf Try.f66, (.seq .leaf (.seq .leaf (.seq (.seq .leaf (.block (.loop ⟨[3, 7, 11, 12], [.int, .int, .li, .int, .int, .int, .int, .int, .int, .int, .int, .int], [(.v (.a (.one (.pt 1 0)))), (.v (.a (.one (.sl 2)))), (.v (.a (.agg [(.int .i64), (.int .i64), (.int .i64), (.int .i64), (.int .i64), (.int .i64), (.int .i64), (.int .i64)]))), (.v (.a (.one (.int .i64))))], [.keep, (.box 28 [(.int .i64), (.int .i64), (.sl 0)]), (.row 2 (.I .i64))]⟩ .leaf))) .leaf))), []⟩
noncomputable def impl_Heights_beside.i : FnI := impl_Heights_beside.ib impl_steps4.wp impl_Heights_cell.wp
noncomputable def impl_Heights_beside.bd (w_impl_steps4 : (Int → Int → Int → Int → Int → Int → Int → Int → Prop) → Prop) (w_impl_Heights_cell : List Int → Int → Int → Int → Int → (Int → Prop) → Prop) : List Int → Int → Int → Int → Int → (List Int → Prop) → Prop := (impl_Heights_beside.ib w_impl_steps4 w_impl_Heights_cell).W impl_Heights_beside.g
noncomputable def impl_Heights_beside.wp : List Int → Int → Int → Int → Int → (List Int → Prop) → Prop := impl_Heights_beside.bd impl_steps4.wp impl_Heights_cell.wp
noncomputable def impl_Heights_beside.c : Ctr := impl_Heights_beside.g.ctr impl_Heights_beside.wp

-- (loop.example/g01247/impl.Heights).top
noncomputable def impl_Heights_top.g : Sig := ⟨55, [(.v (.a (.agg [(.int .i64), (.int .i64), (.sl 0)]))), (.v (.a (.one (.int .i64)))), (.v (.a (.one (.int .i64))))], [(.rd (.I .i64))], [.li, .int, .int, .int, .int], [(.v (.a (.one (.int .i64))))], [.keep], [.int]⟩
noncomputable def impl_Heights_top.ib (w_impl_Heights_cell : List Int → Int → Int → Int → Int → (Int → Prop) → Prop) : FnI := ⟨Try.prog, [], [impl_Heights_cell.g.ctr w_impl_Heights_cell], 15, [.tmp 6], bodyOf Try.f55, .leaf, []⟩
noncomputable def impl_Heights_top.i : FnI := impl_Heights_top.ib impl_Heights_cell.wp
noncomputable def impl_Heights_top.bd (w_impl_Heights_cell : List Int → Int → Int → Int → Int → (Int → Prop) → Prop) : List Int → Int → Int → Int → Int → (Int → Prop) → Prop := (impl_Heights_top.ib w_impl_Heights_cell).W impl_Heights_top.g
noncomputable def impl_Heights_top.wp : List Int → Int → Int → Int → Int → (Int → Prop) → Prop := impl_Heights_top.bd impl_Heights_cell.wp
noncomputable def impl_Heights_top.c : Ctr := impl_Heights_top.g.ctr impl_Heights_top.wp

-- loop.example/g01247/impl.BondsAt$1
noncomputable def impl_BondsAt_1.g : Sig := ⟨54, [(.v (.a (.one (.int .i64)))), (.v (.a (.one (.pt 0 0)))), (.v (.a (.one (.pt 2 0)))), (.v (.a (.one (.pt 3 0))))], [(.rdb [(.int .i64), (.int .i64), (.sl 1)]), (.rd (.I .i64)), (.rdb [(.int .i64)]), (.rdb [(.int .i64)])], [.int, .int, .li, .int, .int, .int], [(.v (.a (.one .bool)))], [.keep, .keep, .keep, .keep], [.bool]⟩
noncomputable def impl_BondsAt_1.ib (w_impl_Heights_top : List Int → Int → Int → Int → Int → (Int → Prop) → Prop) : FnI := ⟨Try.prog, [], [impl_Heights_top.g.ctr w_impl_Heights_top], 12, [.tmp 5], bodyOf Try.f54, .leaf, []⟩
noncomputable def impl_BondsAt_1.i : FnI := impl_BondsAt_1.ib impl_Heights_top.wp
noncomputable def impl_BondsAt_1.bd (w_impl_Heights_top : List Int → Int → Int → Int → Int → (Int → Prop) → Prop) : Int → Int → List Int → Int → Int → Int → (Bool → Prop) → Prop := (impl_BondsAt_1.ib w_impl_Heights_top).W impl_BondsAt_1.g
noncomputable def impl_BondsAt_1.wp : Int → Int → List Int → Int → Int → Int → (Bool → Prop) → Prop := impl_BondsAt_1.bd impl_Heights_top.wp
noncomputable def impl_BondsAt_1.c : Ctr := impl_BondsAt_1.g.ctr impl_BondsAt_1.wp

-- (loop.example/g01247/impl.Heights).count
noncomputable def impl_Heights_count__BondsAt_1.g : Sig := ⟨53, [(.v (.a (.agg [(.int .i64), (.int .i64), (.sl 0)]))), (.v (.a (.one (.int .i64)))), (.v (.a (.one (.int .i64)))), (.v (.fn 54 [] [(.one (.pt 1 0)), (.one (.pt 3 0)), (.one (.pt 4 0))]))], [(.rd (.I .i64)), (.rdb [(.int .i64), (.int .i64), (.sl 2)]), (.rd (.I .i64)), (.rdb [(.int .i64)]), (.rdb [(.int .i64)])], [.li, .int, .int, .li, .int, .int, .int, .int, .int, .int], [(.v (.a (.one (.int .i64))))], [.keep, .keep, .keep, .keep, .keep], [.int]⟩
noncomputable def impl_Heights_count__BondsAt_1.ib (w_impl_Heights_beside : List Int → Int → Int → Int → Int → (List Int → Prop) → Prop) (w_impl_BondsAt_1 : Int → Int → List Int → Int → Int → Int → (Bool → Prop) → Prop) : FnI := ⟨Try.prog, [], [impl_Heights_beside.g.ctr w_impl_Heights_beside, impl_BondsAt_1.g.ctr w_impl_BondsAt_1], 32, [.tmp 8], bodyOf Try.f53, (.seq .leaf (.seq .leaf (.seq (.seq .leaf (.block (.loop ⟨[4, 9, 15, 16, 17], [.int, .int, .li, .int, .int, .int], [(.v (.a (.one (.pt 5 0)))), (.v (.a (.one (.int .i64)))), (.v (.a (.one (.sl 6)))), (.v (.a (.one (.int .i64)))), (.v (.a (.one (.int .i64))))], [.keep, .keep, .keep, .keep, .keep, (.box 28 [(.int .i64), (.int .i64), (.sl 0)]), (.row 2 (.I .i64))]⟩ .leaf))) .leaf))), []⟩
noncomputable def impl_Heights_count__BondsAt_1.i : FnI := impl_Heights_count__BondsAt_1.ib impl_Heights_beside.wp impl_BondsAt_1.wp
noncomputable def impl_Heights_count__BondsAt_1.bd (w_impl_Heights_beside : List Int → Int → Int → Int → Int → (List Int → Prop) → Prop) (w_impl_BondsAt_1 : Int → Int → List Int → Int → Int → Int → (Bool → Prop) → Prop) : List Int → Int → Int → List Int → Int → Int → Int → Int → Int → Int → (Int → Prop) → Prop := (impl_Heights_count__BondsAt_1.ib w_impl_Heights_beside w_impl_BondsAt_1).W impl_Heights_count__BondsAt_1.g
noncomputable def impl_Heights_count__BondsAt_1.wp : List Int → Int → Int → List Int → Int → Int → Int → Int → Int → Int → (Int → Prop) → Prop := impl_Heights_count__BondsAt_1.bd impl_Heights_beside.wp impl_BondsAt_1.wp
noncomputable def impl_Heights_count__BondsAt_1.c : Ctr := impl_Heights_count__BondsAt_1.g.ctr impl_Heights_count__BondsAt_1.wp

-- loop.example/g01247/impl.BondsAt
noncomputable def impl_BondsAt.g : Sig := ⟨15, [(.v (.a (.agg [(.int .i64), (.int .i64), (.sl 0)]))), (.v (.a (.one (.int .i64)))), (.v (.a (.one (.int .i64))))], [(.rd (.I .i64))], [.li, .int, .int, .int, .int], [(.tup [(.a (.one (.int .i64))), (.a (.one .bool))])], [.keep], [.int, .bool]⟩
noncomputable def impl_BondsAt.ib (w_impl_Heights_has : List Int → Int → Int → Int → Int → (Bool → Prop) → Prop) (w_impl_Heights_count__BondsAt_1 : List Int → Int → Int → List Int → Int → Int → Int → Int → Int → Int → (Int → Prop) → Prop) : FnI := ⟨Try.prog, [], [impl_Heights_has.g.ctr w_impl_Heights_has, impl_Heights_count__BondsAt_1.g.ctr w_impl_Heights_count__BondsAt_1], 18, [.tmp 6, .tmp 7], bodyOf Try.f15, .leaf, []⟩
noncomputable def impl_BondsAt.i : FnI := impl_BondsAt.ib impl_Heights_has.wp impl_Heights_count__BondsAt_1.wp
noncomputable def impl_BondsAt.bd (w_impl_Heights_has : List Int → Int → Int → Int → Int → (Bool → Prop) → Prop) (w_impl_Heights_count__BondsAt_1 : List Int → Int → Int → List Int → Int → Int → Int → Int → Int → Int → (Int → Prop) → Prop) : List Int → Int → Int → Int → Int → (Int → Bool → Prop) → Prop := (impl_BondsAt.ib w_impl_Heights_has w_impl_Heights_count__BondsAt_1).W impl_BondsAt.g
noncomputable def impl_BondsAt.wp : List Int → Int → Int → Int → Int → (Int → Bool → Prop) → Prop := impl_BondsAt.bd impl_Heights_has.wp impl_Heights_count__BondsAt_1.wp
noncomputable def impl_BondsAt.c : Ctr := impl_BondsAt.g.ctr impl_BondsAt.wp

-- loop.example/g01247/laws.eqInt64S
noncomputable def laws_eqInt64S.g : Sig := ⟨56, [(.v (.a (.one (.sl 0)))), (.v (.a (.one (.sl 1))))], [(.rd (.I .i64)), (.rd (.I .i64))], [.li, .li], [(.v (.a (.one .bool)))], [.keep, .keep], [.bool]⟩
noncomputable def laws_eqInt64S.ib  : FnI := ⟨Try.prog, [], [], 26, [.tmp 4], bodyOf Try.f56, (.seq .leaf (.seq .leaf (.seq (.seq .leaf (.block (.loop ⟨[5], [.int], [(.v (.a (.one (.int .i64))))], [.keep, .keep]⟩ .leaf))) .leaf))), []⟩
noncomputable def laws_eqInt64S.i : FnI := laws_eqInt64S.ib 
noncomputable def laws_eqInt64S.bd  : List Int → List Int → (Bool → Prop) → Prop := (laws_eqInt64S.ib ).W laws_eqInt64S.g
noncomputable def laws_eqInt64S.wp : List Int → List Int → (Bool → Prop) → Prop := laws_eqInt64S.bd 
noncomputable def laws_eqInt64S.c : Ctr := laws_eqInt64S.g.ctr laws_eqInt64S.wp

-- loop.example/g01247/laws.eqHeights
noncomputable def laws_eqHeights.g : Sig := ⟨16, [(.v (.a (.agg [(.int .i64), (.int .i64), (.sl 0)]))), (.v (.a (.agg [(.int .i64), (.int .i64), (.sl 1)])))], [(.rd (.I .i64)), (.rd (.I .i64))], [.li, .li, .int, .int, .int, .int], [(.v (.a (.one .bool)))], [.keep, .keep], [.bool]⟩
noncomputable def laws_eqHeights.ib (w_laws_eqInt64S : List Int → List Int → (Bool → Prop) → Prop) : FnI := ⟨Try.prog, [], [laws_eqInt64S.g.ctr w_laws_eqInt64S], 21, [.tmp 4], bodyOf Try.f16, .leaf, []⟩
noncomputable def laws_eqHeights.i : FnI := laws_eqHeights.ib laws_eqInt64S.wp
noncomputable def laws_eqHeights.bd (w_laws_eqInt64S : List Int → List Int → (Bool → Prop) → Prop) : List Int → List Int → Int → Int → Int → Int → (Bool → Prop) → Prop := (laws_eqHeights.ib w_laws_eqInt64S).W laws_eqHeights.g
noncomputable def laws_eqHeights.wp : List Int → List Int → Int → Int → Int → Int → (Bool → Prop) → Prop := laws_eqHeights.bd laws_eqInt64S.wp
noncomputable def laws_eqHeights.c : Ctr := laws_eqHeights.g.ctr laws_eqHeights.wp

-- loop.example/g01247/laws.FnExactBondsAt
noncomputable def laws_FnExactBondsAt.g : Sig := ⟨3, [(.v (.a (.agg [(.int .i64), (.int .i64), (.sl 0)]))), (.v (.a (.one (.int .i64)))), (.v (.a (.one (.int .i64))))], [(.rd (.I .i64))], [.li, .int, .int, .int, .int], [(.v (.a (.one .bool)))], [.keep], [.bool]⟩
noncomputable def laws_FnExactBondsAt.ib (w_laws_szHeights : List Int → Int → Int → Int → (Int → Prop) → Prop) (w_laws_toHeights : List Int → Int → Int → (List Int → Int → Int → Prop) → Prop) (w_spec_BondsAt : List Int → Int → Int → Int → Int → (Int → Bool → Prop) → Prop) (w_impl_BondsAt : List Int → Int → Int → Int → Int → (Int → Bool → Prop) → Prop) (w_laws_eqHeights : List Int → List Int → Int → Int → Int → Int → (Bool → Prop) → Prop) : FnI := ⟨Try.prog, [], [laws_szHeights.g.ctr w_laws_szHeights, laws_toHeights.g.ctr w_laws_toHeights, spec_BondsAt.g.ctr w_spec_BondsAt, impl_BondsAt.g.ctr w_impl_BondsAt, laws_eqHeights.g.ctr w_laws_eqHeights], 48, [.tmp 6], bodyOf Try.f3, .leaf, []⟩
noncomputable def laws_FnExactBondsAt.i : FnI := laws_FnExactBondsAt.ib laws_szHeights.wp laws_toHeights.wp spec_BondsAt.wp impl_BondsAt.wp laws_eqHeights.wp
noncomputable def laws_FnExactBondsAt.bd (w_laws_szHeights : List Int → Int → Int → Int → (Int → Prop) → Prop) (w_laws_toHeights : List Int → Int → Int → (List Int → Int → Int → Prop) → Prop) (w_spec_BondsAt : List Int → Int → Int → Int → Int → (Int → Bool → Prop) → Prop) (w_impl_BondsAt : List Int → Int → Int → Int → Int → (Int → Bool → Prop) → Prop) (w_laws_eqHeights : List Int → List Int → Int → Int → Int → Int → (Bool → Prop) → Prop) : List Int → Int → Int → Int → Int → (Bool → Prop) → Prop := (laws_FnExactBondsAt.ib w_laws_szHeights w_laws_toHeights w_spec_BondsAt w_impl_BondsAt w_laws_eqHeights).W laws_FnExactBondsAt.g
noncomputable def laws_FnExactBondsAt.wp : List Int → Int → Int → Int → Int → (Bool → Prop) → Prop := laws_FnExactBondsAt.bd laws_szHeights.wp laws_toHeights.wp spec_BondsAt.wp impl_BondsAt.wp laws_eqHeights.wp
noncomputable def laws_FnExactBondsAt.c : Ctr := laws_FnExactBondsAt.g.ctr laws_FnExactBondsAt.wp

-- loop.example/g01247/laws.b10Long
noncomputable def laws_b10Long.g : Sig := ⟨17, [(.v (.a (.one (.sl 0)))), (.v (.a (.one (.sl 1))))], [(.rd (.I .u8)), (.rd (.I .u8))], [.li, .li], [(.v (.a (.one .bool)))], [.keep, .keep], [.bool]⟩
noncomputable def laws_b10Long.ib  : FnI := ⟨Try.prog, [], [], 13, [.tmp 4], bodyOf Try.f17, .leaf, []⟩
noncomputable def laws_b10Long.i : FnI := laws_b10Long.ib 
noncomputable def laws_b10Long.bd  : List Int → List Int → (Bool → Prop) → Prop := (laws_b10Long.ib ).W laws_b10Long.g
noncomputable def laws_b10Long.wp : List Int → List Int → (Bool → Prop) → Prop := laws_b10Long.bd 
noncomputable def laws_b10Long.c : Ctr := laws_b10Long.g.ctr laws_b10Long.wp

-- loop.example/g01247/spec.l00From
noncomputable def spec_l00From.g : Sig := ⟨57, [(.v (.a (.one (.sl 0))))], [(.rd (.I .u8))], [.li], [(.v (.a (.one (.pt 1 0))))], [.keep, (.box 103 [(.sl 0), (.int .i64), (.int .u64)])], [.int, .int]⟩
noncomputable def spec_l00From.ib  : FnI := ⟨Try.prog, [], [], 6, [.tmp 2], bodyOf Try.f57, .leaf, []⟩
noncomputable def spec_l00From.i : FnI := spec_l00From.ib 
noncomputable def spec_l00From.bd  : List Int → (Int → Int → Prop) → Prop := (spec_l00From.ib ).W spec_l00From.g
noncomputable def spec_l00From.wp : List Int → (Int → Int → Prop) → Prop := spec_l00From.bd 
noncomputable def spec_l00From.c : Ctr := spec_l00From.g.ctr spec_l00From.wp

-- (*loop.example/g01247/spec.l00Src).next
noncomputable def spec_l00Src_next.g : Sig := ⟨108, [(.v (.a (.one (.pt 0 0))))], [(.box 103 [(.sl 1), (.int .i64), (.int .u64)]), (.rd (.I .u8))], [.int, .int, .li], [(.v (.a (.one (.int .i64))))], [(.box 103 [(.sl 1), (.int .i64), (.int .u64)]), .keep], [.int, .int, .int]⟩
noncomputable def spec_l00Src_next.ib  : FnI := ⟨Try.prog, [], [], 62, [.tmp 2], bodyOf Try.f108, (.seq .leaf (.seq .leaf (.seq (.seq .leaf (.condJ ⟨[3], [.int, .int, .int], [(.v (.a (.one (.int .i64))))], [(.box 103 [(.sl 1), (.int .i64), (.int .u64)]), .keep]⟩ .leaf .leaf)) .leaf))), []⟩
noncomputable def spec_l00Src_next.i : FnI := spec_l00Src_next.ib 
noncomputable def spec_l00Src_next.bd  : Int → Int → List Int → (Int → Int → Int → Prop) → Prop := (spec_l00Src_next.ib ).W spec_l00Src_next.g
noncomputable def spec_l00Src_next.wp : Int → Int → List Int → (Int → Int → Int → Prop) → Prop := spec_l00Src_next.bd 
noncomputable def spec_l00Src_next.c : Ctr := spec_l00Src_next.g.ctr spec_l00Src_next.wp

-- (*loop.example/g01247/spec.l00Src).pick
noncomputable def spec_l00Src_pick.g : Sig := ⟨70, [(.v (.a (.one (.pt 0 0)))), (.v (.a (.one (.int .i64))))], [(.box 103 [(.sl 1), (.int .i64), (.int .u64)]), (.rd (.I .u8))], [.int, .int, .li, .int], [(.v (.a (.one (.int .i64))))], [(.box 103 [(.sl 1), (.int .i64), (.int .u64)]), .keep], [.int, .int, .int]⟩
noncomputable def spec_l00Src_pick.ib (w_spec_l00Src_next : Int → Int → List Int → (Int → Int → Int → Prop) → Prop) : FnI := ⟨Try.prog, [], [spec_l00Src_next.g.ctr w_spec_l00Src_next], 20, [.tmp 4], bodyOf Try.f70, .leaf, []⟩
noncomputable def spec_l00Src_pick.i : FnI := spec_l00Src_pick.ib spec_l00Src_next.wp
noncomputable def spec_l00Src_pick.bd (w_spec_l00Src_next : Int → Int → List Int → (Int → Int → Int → Prop) → Prop) : Int → Int → List Int → Int → (Int → Int → Int → Prop) → Prop := (spec_l00Src_pick.ib w_spec_l00Src_next).W spec_l00Src_pick.g
noncomputable def spec_l00Src_pick.wp : Int → Int → List Int → Int → (Int → Int → Int → Prop) → Prop := spec_l00Src_pick.bd spec_l00Src_next.wp
noncomputable def spec_l00Src_pick.c : Ctr := spec_l00Src_pick.g.ctr spec_l00Src_pick.wp

-- loop.example/g01247/spec.l05DrawOk
noncomputable def spec_l05DrawOk.g : Sig := ⟨58, [(.v (.a (.one (.pt 0 0))))], [(.box 103 [(.sl 1), (.int .i64), (.int .u64)]), (.rd (.I .u8))], [.int, .int, .li], [(.v (.a (.agg [(.int .i64), (.int .i64), (.sl 2)])))], [(.box 103 [(.sl 1), (.int .i64), (.int .u64)]), .keep, (.row 2 (.I .i64))], [.int, .int, .li, .int, .int]⟩
noncomputable def spec_l05DrawOk.ib (w_spec_l00Src_pick : Int → Int → List Int → Int → (Int → Int → Int → Prop) → Prop) : FnI := ⟨Try.prog, [], [spec_l00Src_pick.g.ctr w_spec_l00Src_pick], 39, [.cell 2 28], bodyOf Try.f58, (.seq .leaf (.seq .leaf (.seq .leaf (.seq .leaf (.seq (.seq .leaf (.block (.loop ⟨[2, 3, 4, 5], [.int, .int, .int, .int, .int, .int, .li, .li, .int, .int], [(.v (.a (.one (.pt 2 0)))), (.v (.a (.one (.pt 3 0)))), (.v (.a (.one (.int .i64)))), (.v (.a (.one (.int .i64))))], [(.box 103 [(.sl 1), (.int .i64), (.int .u64)]), .keep, (.box 28 [(.int .i64), (.int .i64), (.sl 4)]), (.box 28 [(.int .i64), (.int .i64), (.sl 5)]), (.row 2 (.I .i64)), (.row 2 (.I .i64))]⟩ .leaf))) .leaf))))), []⟩
noncomputable def spec_l05DrawOk.i : FnI := spec_l05DrawOk.ib spec_l00Src_pick.wp
noncomputable def spec_l05DrawOk.bd (w_spec_l00Src_pick : Int → Int → List Int → Int → (Int → Int → Int → Prop) → Prop) : Int → Int → List Int → (Int → Int → List Int → Int → Int → Prop) → Prop := (spec_l05DrawOk.ib w_spec_l00Src_pick).W spec_l05DrawOk.g
noncomputable def spec_l05DrawOk.wp : Int → Int → List Int → (Int → Int → List Int → Int → Int → Prop) → Prop := spec_l05DrawOk.bd spec_l00Src_pick.wp
noncomputable def spec_l05DrawOk.c : Ctr := spec_l05DrawOk.g.ctr spec_l05DrawOk.wp

-- loop.example/g01247/spec.B10Heights
noncomputable def spec_B10Heights.g : Sig := ⟨18, [(.v (.a (.one (.sl 0))))], [(.rd (.I .u8))], [.li], [(.v (.a (.agg [(.int .i64), (.int .i64), (.sl 1)])))], [.keep, (.row 2 (.I .i64))], [.li, .int, .int]⟩
noncomputable def spec_B10Heights.ib (w_spec_l00From : List Int → (Int → Int → Prop) → Prop) (w_spec_l05DrawOk : Int → Int → List Int → (Int → Int → List Int → Int → Int → Prop) → Prop) : FnI := ⟨Try.prog, [], [spec_l00From.g.ctr w_spec_l00From, spec_l05DrawOk.g.ctr w_spec_l05DrawOk], 8, [.cell 2 28], bodyOf Try.f18, .leaf, []⟩
noncomputable def spec_B10Heights.i : FnI := spec_B10Heights.ib spec_l00From.wp spec_l05DrawOk.wp
noncomputable def spec_B10Heights.bd (w_spec_l00From : List Int → (Int → Int → Prop) → Prop) (w_spec_l05DrawOk : Int → Int → List Int → (Int → Int → List Int → Int → Int → Prop) → Prop) : List Int → (List Int → Int → Int → Prop) → Prop := (spec_B10Heights.ib w_spec_l00From w_spec_l05DrawOk).W spec_B10Heights.g
noncomputable def spec_B10Heights.wp : List Int → (List Int → Int → Int → Prop) → Prop := spec_B10Heights.bd spec_l00From.wp spec_l05DrawOk.wp
noncomputable def spec_B10Heights.c : Ctr := spec_B10Heights.g.ctr spec_B10Heights.wp

-- loop.example/g01247/laws.b10At
noncomputable def laws_b10At.g : Sig := ⟨19, [(.v (.a (.one (.sl 0)))), (.v (.a (.one (.int .i64)))), (.v (.a (.one (.int .i64))))], [(.rd (.I .u8))], [.li, .int, .int], [(.v (.a (.one (.int .i64))))], [.keep], [.int]⟩
noncomputable def laws_b10At.ib  : FnI := ⟨Try.prog, [], [], 25, [.tmp 6], bodyOf Try.f19, .leaf, []⟩
noncomputable def laws_b10At.i : FnI := laws_b10At.ib 
noncomputable def laws_b10At.bd  : List Int → Int → Int → (Int → Prop) → Prop := (laws_b10At.ib ).W laws_b10At.g
noncomputable def laws_b10At.wp : List Int → Int → Int → (Int → Prop) → Prop := laws_b10At.bd 
noncomputable def laws_b10At.c : Ctr := laws_b10At.g.ctr laws_b10At.wp

-- (loop.example/g01247/impl.Heights).atoms
noncomputable def impl_Heights_atoms.g : Sig := ⟨59, [(.v (.a (.agg [(.int .i64), (.int .i64), (.sl 0)])))], [(.rd (.I .i64))], [.li, .int, .int], [(.v (.a (.one (.int .i64))))], [.keep], [.int]⟩
noncomputable def impl_Heights_atoms.ib  : FnI := ⟨Try.prog, [], [], 18, [.tmp 2], bodyOf Try.f59, (.seq .leaf (.seq .leaf (.seq (.seq .leaf (.block (.loop ⟨[3, 7, 8, 9], [.int, .int, .int], [(.v (.a (.one (.int .i64)))), (.v (.a (.one (.sl 0)))), (.v (.a (.one (.int .i64)))), (.v (.a (.one (.int .i64))))], [.keep]⟩ .leaf))) .leaf))), []⟩
noncomputable def impl_Heights_atoms.i : FnI := impl_Heights_atoms.ib 
noncomputable def impl_Heights_atoms.bd  : List Int → Int → Int → (Int → Prop) → Prop := (impl_Heights_atoms.ib ).W impl_Heights_atoms.g
noncomputable def impl_Heights_atoms.wp : List Int → Int → Int → (Int → Prop) → Prop := impl_Heights_atoms.bd 
noncomputable def impl_Heights_atoms.c : Ctr := impl_Heights_atoms.g.ctr impl_Heights_atoms.wp

-- loop.example/g01247/impl.AtomsIn
noncomputable def impl_AtomsIn.g : Sig := ⟨20, [(.v (.a (.agg [(.int .i64), (.int .i64), (.sl 0)])))], [(.rd (.I .i64))], [.li, .int, .int], [(.tup [(.a (.one (.int .i64))), (.a (.one .bool))])], [.keep], [.int, .bool]⟩
noncomputable def impl_AtomsIn.ib (w_impl_ValidHeights : List Int → Int → Int → (Bool → Prop) → Prop) (w_impl_Heights_atoms : List Int → Int → Int → (Int → Prop) → Prop) : FnI := ⟨Try.prog, [], [impl_ValidHeights.g.ctr w_impl_ValidHeights, impl_Heights_atoms.g.ctr w_impl_Heights_atoms], 9, [.tmp 2, .tmp 3], bodyOf Try.f20, .leaf, []⟩
noncomputable def impl_AtomsIn.i : FnI := impl_AtomsIn.ib impl_ValidHeights.wp impl_Heights_atoms.wp
noncomputable def impl_AtomsIn.bd (w_impl_ValidHeights : List Int → Int → Int → (Bool → Prop) → Prop) (w_impl_Heights_atoms : List Int → Int → Int → (Int → Prop) → Prop) : List Int → Int → Int → (Int → Bool → Prop) → Prop := (impl_AtomsIn.ib w_impl_ValidHeights w_impl_Heights_atoms).W impl_AtomsIn.g
noncomputable def impl_AtomsIn.wp : List Int → Int → Int → (Int → Bool → Prop) → Prop := impl_AtomsIn.bd impl_ValidHeights.wp impl_Heights_atoms.wp
noncomputable def impl_AtomsIn.c : Ctr := impl_AtomsIn.g.ctr impl_AtomsIn.wp

-- (loop.example/g01247/impl.Heights).bonds$1
noncomputable def impl_Heights_bonds_1.g : Sig := ⟨102, [(.v (.a (.one (.int .i64)))), (.v (.a (.one (.int .i64))))], [], [.int, .int], [(.v (.a (.one (.int .i64))))], [], [.int]⟩
noncomputable def impl_Heights_bonds_1.ib  : FnI := ⟨Try.prog, [], [], 8, [.tmp 4], bodyOf Try.f102, .leaf, []⟩
noncomputable def impl_Heights_bonds_1.i : FnI := impl_Heights_bonds_1.ib 
noncomputable def impl_Heights_bonds_1.bd  : Int → Int → (Int → Prop) → Prop := (impl_Heights_bonds_1.ib ).W impl_Heights_bonds_1.g
noncomputable def impl_Heights_bonds_1.wp : Int → Int → (Int → Prop) → Prop := impl_Heights_bonds_1.bd 
noncomputable def impl_Heights_bonds_1.c : Ctr := impl_Heights_bonds_1.g.ctr impl_Heights_bonds_1.wp

-- (loop.example/g01247/impl.Heights).pairs
noncomputable def impl_Heights_pairs__Heights_bonds_1.g : Sig := ⟨61, [(.v (.a (.agg [(.int .i64), (.int .i64), (.sl 0)]))), (.v (.fn 102 [] []))], [(.rd (.I .i64))], [.li, .int, .int], [(.v (.a (.one (.int .i64))))], [.keep], [.int]⟩
noncomputable def impl_Heights_pairs__Heights_bonds_1.ib (w_impl_Heights_top : List Int → Int → Int → Int → Int → (Int → Prop) → Prop) (w_impl_Heights_bonds_1 : Int → Int → (Int → Prop) → Prop) : FnI := ⟨Try.prog, [], [impl_Heights_top.g.ctr w_impl_Heights_top, impl_Heights_bonds_1.g.ctr w_impl_Heights_bonds_1], 47, [.tmp 4], bodyOf Try.f61, (.seq .leaf (.seq .leaf (.seq (.seq .leaf (.block (.loop ⟨[2, 5, 11, 12, 13], [.int, .int, .int, .int, .int], [(.v (.a (.one (.pt 1 0)))), (.v (.a (.one (.int .i64)))), (.v (.a (.one (.sl 0)))), (.v (.a (.one (.int .i64)))), (.v (.a (.one (.int .i64))))], [.keep, (.box 28 [(.int .i64), (.int .i64), (.sl 0)])]⟩ .leaf))) .leaf))), []⟩
noncomputable def impl_Heights_pairs__Heights_bonds_1.i : FnI := impl_Heights_pairs__Heights_bonds_1.ib impl_Heights_top.wp impl_Heights_bonds_1.wp
noncomputable def impl_Heights_pairs__Heights_bonds_1.bd (w_impl_Heights_top : List Int → Int → Int → Int → Int → (Int → Prop) → Prop) (w_impl_Heights_bonds_1 : Int → Int → (Int → Prop) → Prop) : List Int → Int → Int → (Int → Prop) → Prop := (impl_Heights_pairs__Heights_bonds_1.ib w_impl_Heights_top w_impl_Heights_bonds_1).W impl_Heights_pairs__Heights_bonds_1.g
noncomputable def impl_Heights_pairs__Heights_bonds_1.wp : List Int → Int → Int → (Int → Prop) → Prop := impl_Heights_pairs__Heights_bonds_1.bd impl_Heights_top.wp impl_Heights_bonds_1.wp
noncomputable def impl_Heights_pairs__Heights_bonds_1.c : Ctr := impl_Heights_pairs__Heights_bonds_1.g.ctr impl_Heights_pairs__Heights_bonds_1.wp

-- (loop.example/g01247/impl.Heights).bonds
noncomputable def impl_Heights_bonds.g : Sig := ⟨60, [(.v (.a (.agg [(.int .i64), (.int .i64), (.sl 0)])))], [(.rd (.I .i64))], [.li, .int, .int], [(.v (.a (.one (.int .i64))))], [.keep], [.int]⟩
noncomputable def impl_Heights_bonds.ib (w_impl_Heights_pairs__Heights_bonds_1 : List Int → Int → Int → (Int → Prop) → Prop) : FnI := ⟨Try.prog, [], [impl_Heights_pairs__Heights_bonds_1.g.ctr w_impl_Heights_pairs__Heights_bonds_1], 5, [.tmp 2], bodyOf Try.f60, .leaf, []⟩
noncomputable def impl_Heights_bonds.i : FnI := impl_Heights_bonds.ib impl_Heights_pairs__Heights_bonds_1.wp
noncomputable def impl_Heights_bonds.bd (w_impl_Heights_pairs__Heights_bonds_1 : List Int → Int → Int → (Int → Prop) → Prop) : List Int → Int → Int → (Int → Prop) → Prop := (impl_Heights_bonds.ib w_impl_Heights_pairs__Heights_bonds_1).W impl_Heights_bonds.g
noncomputable def impl_Heights_bonds.wp : List Int → Int → Int → (Int → Prop) → Prop := impl_Heights_bonds.bd impl_Heights_pairs__Heights_bonds_1.wp
noncomputable def impl_Heights_bonds.c : Ctr := impl_Heights_bonds.g.ctr impl_Heights_bonds.wp

-- loop.example/g01247/impl.BondsIn
noncomputable def impl_BondsIn.g : Sig := ⟨21, [(.v (.a (.agg [(.int .i64), (.int .i64), (.sl 0)])))], [(.rd (.I .i64))], [.li, .int, .int], [(.tup [(.a (.one (.int .i64))), (.a (.one .bool))])], [.keep], [.int, .bool]⟩
noncomputable def impl_BondsIn.ib (w_impl_ValidHeights : List Int → Int → Int → (Bool → Prop) → Prop) (w_impl_Heights_bonds : List Int → Int → Int → (Int → Prop) → Prop) : FnI := ⟨Try.prog, [], [impl_ValidHeights.g.ctr w_impl_ValidHeights, impl_Heights_bonds.g.ctr w_impl_Heights_bonds], 9, [.tmp 2, .tmp 3], bodyOf Try.f21, .leaf, []⟩
noncomputable def impl_BondsIn.i : FnI := impl_BondsIn.ib impl_ValidHeights.wp impl_Heights_bonds.wp
noncomputable def impl_BondsIn.bd (w_impl_ValidHeights : List Int → Int → Int → (Bool → Prop) → Prop) (w_impl_Heights_bonds : List Int → Int → Int → (Int → Prop) → Prop) : List Int → Int → Int → (Int → Bool → Prop) → Prop := (impl_BondsIn.ib w_impl_ValidHeights w_impl_Heights_bonds).W impl_BondsIn.g
noncomputable def impl_BondsIn.wp : List Int → Int → Int → (Int → Bool → Prop) → Prop := impl_BondsIn.bd impl_ValidHeights.wp impl_Heights_bonds.wp
noncomputable def impl_BondsIn.c : Ctr := impl_BondsIn.g.ctr impl_BondsIn.wp

-- loop.example/g01247/impl.StepsIn$1
noncomputable def impl_StepsIn_1.g : Sig := ⟨62, [(.v (.a (.one (.int .i64)))), (.v (.a (.one (.int .i64))))], [], [.int, .int], [(.v (.a (.one (.int .i64))))], [], [.int]⟩
noncomputable def impl_StepsIn_1.ib  : FnI := ⟨Try.prog, [], [], 12, [.tmp 4], bodyOf Try.f62, .leaf, []⟩
noncomputable def impl_StepsIn_1.i : FnI := impl_StepsIn_1.ib 
noncomputable def impl_StepsIn_1.bd  : Int → Int → (Int → Prop) → Prop := (impl_StepsIn_1.ib ).W impl_StepsIn_1.g
noncomputable def impl_StepsIn_1.wp : Int → Int → (Int → Prop) → Prop := impl_StepsIn_1.bd 
noncomputable def impl_StepsIn_1.c : Ctr := impl_StepsIn_1.g.ctr impl_StepsIn_1.wp

-- (loop.example/g01247/impl.Heights).pairs
noncomputable def impl_Heights_pairs__StepsIn_1.g : Sig := ⟨61, [(.v (.a (.agg [(.int .i64), (.int .i64), (.sl 0)]))), (.v (.fn 62 [] []))], [(.rd (.I .i64))], [.li, .int, .int], [(.v (.a (.one (.int .i64))))], [.keep], [.int]⟩
noncomputable def impl_Heights_pairs__StepsIn_1.ib (w_impl_Heights_top : List Int → Int → Int → Int → Int → (Int → Prop) → Prop) (w_impl_StepsIn_1 : Int → Int → (Int → Prop) → Prop) : FnI := ⟨Try.prog, [], [impl_Heights_top.g.ctr w_impl_Heights_top, impl_StepsIn_1.g.ctr w_impl_StepsIn_1], 47, [.tmp 4], bodyOf Try.f61, (.seq .leaf (.seq .leaf (.seq (.seq .leaf (.block (.loop ⟨[2, 5, 11, 12, 13], [.int, .int, .int, .int, .int], [(.v (.a (.one (.pt 1 0)))), (.v (.a (.one (.int .i64)))), (.v (.a (.one (.sl 0)))), (.v (.a (.one (.int .i64)))), (.v (.a (.one (.int .i64))))], [.keep, (.box 28 [(.int .i64), (.int .i64), (.sl 0)])]⟩ .leaf))) .leaf))), []⟩
noncomputable def impl_Heights_pairs__StepsIn_1.i : FnI := impl_Heights_pairs__StepsIn_1.ib impl_Heights_top.wp impl_StepsIn_1.wp
noncomputable def impl_Heights_pairs__StepsIn_1.bd (w_impl_Heights_top : List Int → Int → Int → Int → Int → (Int → Prop) → Prop) (w_impl_StepsIn_1 : Int → Int → (Int → Prop) → Prop) : List Int → Int → Int → (Int → Prop) → Prop := (impl_Heights_pairs__StepsIn_1.ib w_impl_Heights_top w_impl_StepsIn_1).W impl_Heights_pairs__StepsIn_1.g
noncomputable def impl_Heights_pairs__StepsIn_1.wp : List Int → Int → Int → (Int → Prop) → Prop := impl_Heights_pairs__StepsIn_1.bd impl_Heights_top.wp impl_StepsIn_1.wp
noncomputable def impl_Heights_pairs__StepsIn_1.c : Ctr := impl_Heights_pairs__StepsIn_1.g.ctr impl_Heights_pairs__StepsIn_1.wp

-- loop.example/g01247/impl.StepsIn
noncomputable def impl_StepsIn.g : Sig := ⟨22, [(.v (.a (.agg [(.int .i64), (.int .i64), (.sl 0)])))], [(.rd (.I .i64))], [.li, .int, .int], [(.tup [(.a (.one (.int .i64))), (.a (.one .bool))])], [.keep], [.int, .bool]⟩
noncomputable def impl_StepsIn.ib (w_impl_ValidHeights : List Int → Int → Int → (Bool → Prop) → Prop) (w_impl_Heights_pairs__StepsIn_1 : List Int → Int → Int → (Int → Prop) → Prop) : FnI := ⟨Try.prog, [], [impl_ValidHeights.g.ctr w_impl_ValidHeights, impl_Heights_pairs__StepsIn_1.g.ctr w_impl_Heights_pairs__StepsIn_1], 9, [.tmp 2, .tmp 3], bodyOf Try.f22, .leaf, []⟩
noncomputable def impl_StepsIn.i : FnI := impl_StepsIn.ib impl_ValidHeights.wp impl_Heights_pairs__StepsIn_1.wp
noncomputable def impl_StepsIn.bd (w_impl_ValidHeights : List Int → Int → Int → (Bool → Prop) → Prop) (w_impl_Heights_pairs__StepsIn_1 : List Int → Int → Int → (Int → Prop) → Prop) : List Int → Int → Int → (Int → Bool → Prop) → Prop := (impl_StepsIn.ib w_impl_ValidHeights w_impl_Heights_pairs__StepsIn_1).W impl_StepsIn.g
noncomputable def impl_StepsIn.wp : List Int → Int → Int → (Int → Bool → Prop) → Prop := impl_StepsIn.bd impl_ValidHeights.wp impl_Heights_pairs__StepsIn_1.wp
noncomputable def impl_StepsIn.c : Ctr := impl_StepsIn.g.ctr impl_StepsIn.wp

-- slices.Clone[[]int64,int64]
noncomputable def slices_Clone_int64_int64.g : Sig := ⟨103, [(.v (.a (.one (.sl 0))))], [(.rd (.I .i64))], [.li], [(.v (.a (.one (.sl 1))))], [.keep, (.row 2 (.I .i64))], [.li]⟩
noncomputable def slices_Clone_int64_int64.ib  : FnI := ⟨Try.prog, [], [], 8, [.tmp 2], bodyOf Try.f103, .leaf, []⟩
noncomputable def slices_Clone_int64_int64.i : FnI := slices_Clone_int64_int64.ib 
noncomputable def slices_Clone_int64_int64.bd  : List Int → (List Int → Prop) → Prop := (slices_Clone_int64_int64.ib ).W slices_Clone_int64_int64.g
noncomputable def slices_Clone_int64_int64.wp : List Int → (List Int → Prop) → Prop := slices_Clone_int64_int64.bd 
noncomputable def slices_Clone_int64_int64.c : Ctr := slices_Clone_int64_int64.g.ctr slices_Clone_int64_int64.wp

-- (loop.example/g01247/impl.Heights).cloned
noncomputable def impl_Heights_cloned.g : Sig := ⟨64, [(.v (.a (.agg [(.int .i64), (.int .i64), (.sl 0)])))], [(.rd (.I .i64))], [.li, .int, .int], [(.v (.a (.agg [(.int .i64), (.int .i64), (.sl 1)])))], [.keep, (.row 2 (.I .i64))], [.li, .int, .int]⟩
noncomputable def impl_Heights_cloned.ib (w_slices_Clone_int64_int64 : List Int → (List Int → Prop) → Prop) : FnI := ⟨Try.prog, [], [slices_Clone_int64_int64.g.ctr w_slices_Clone_int64_int64], 8, [.cell 2 28], bodyOf Try.f64, .leaf, []⟩
noncomputable def impl_Heights_cloned.i : FnI := impl_Heights_cloned.ib slices_Clone_int64_int64.wp
noncomputable def impl_Heights_cloned.bd (w_slices_Clone_int64_int64 : List Int → (List Int → Prop) → Prop) : List Int → Int → Int → (List Int → Int → Int → Prop) → Prop := (impl_Heights_cloned.ib w_slices_Clone_int64_int64).W impl_Heights_cloned.g
noncomputable def impl_Heights_cloned.wp : List Int → Int → Int → (List Int → Int → Int → Prop) → Prop := impl_Heights_cloned.bd slices_Clone_int64_int64.wp
noncomputable def impl_Heights_cloned.c : Ctr := impl_Heights_cloned.g.ctr impl_Heights_cloned.wp

-- loop.example/g01247/impl.HopTo
noncomputable def impl_HopTo.g : Sig := ⟨23, [(.v (.a (.agg [(.int .i64), (.int .i64), (.sl 0)]))), (.v (.a (.one (.int .i64)))), (.v (.a (.one (.int .i64)))), (.v (.a (.one (.int .i64))))], [(.rd (.I .i64))], [.li, .int, .int, .int, .int, .int], [(.tup [(.a (.agg [(.int .i64), (.int .i64), (.sl 1)])), (.a (.one (.int .i64))), (.a (.one .bool))])], [.keep, (.row 2 (.I .i64))], [.li, .int, .int, .int, .bool]⟩
noncomputable def impl_HopTo.ib (w_impl_Heights_has : List Int → Int → Int → Int → Int → (Bool → Prop) → Prop) (w_impl_within : Int → Int → Int → (Bool → Prop) → Prop) (w_impl_Heights_top : List Int → Int → Int → Int → Int → (Int → Prop) → Prop) (w_impl_Heights_cloned : List Int → Int → Int → (List Int → Int → Int → Prop) → Prop) (w_impl_Heights_cell : List Int → Int → Int → Int → Int → (Int → Prop) → Prop) (w_impl_Heights_beside : List Int → Int → Int → Int → Int → (List Int → Prop) → Prop) (w_impl_ValidHeights : List Int → Int → Int → (Bool → Prop) → Prop) (w_impl_Heights_bonds : List Int → Int → Int → (Int → Prop) → Prop) : FnI := ⟨Try.prog, [], [impl_Heights_has.g.ctr w_impl_Heights_has, impl_within.g.ctr w_impl_within, impl_Heights_top.g.ctr w_impl_Heights_top, impl_Heights_cloned.g.ctr w_impl_Heights_cloned, impl_Heights_cell.g.ctr w_impl_Heights_cell, impl_Heights_beside.g.ctr w_impl_Heights_beside, impl_ValidHeights.g.ctr w_impl_ValidHeights, impl_Heights_bonds.g.ctr w_impl_Heights_bonds], 65, [.cell 8 28, .tmp 9, .tmp 10], bodyOf Try.f23, .leaf, []⟩
noncomputable def impl_HopTo.i : FnI := impl_HopTo.ib impl_Heights_has.wp impl_within.wp impl_Heights_top.wp impl_Heights_cloned.wp impl_Heights_cell.wp impl_Heights_beside.wp impl_ValidHeights.wp impl_Heights_bonds.wp
noncomputable def impl_HopTo.bd (w_impl_Heights_has : List Int → Int → Int → Int → Int → (Bool → Prop) → Prop) (w_impl_within : Int → Int → Int → (Bool → Prop) → Prop) (w_impl_Heights_top : List Int → Int → Int → Int → Int → (Int → Prop) → Prop) (w_impl_Heights_cloned : List Int → Int → Int → (List Int → Int → Int → Prop) → Prop) (w_impl_Heights_cell : List Int → Int → Int → Int → Int → (Int → Prop) → Prop) (w_impl_Heights_beside : List Int → Int → Int → Int → Int → (List Int → Prop) → Prop) (w_impl_ValidHeights : List Int → Int → Int → (Bool → Prop) → Prop) (w_impl_Heights_bonds : List Int → Int → Int → (Int → Prop) → Prop) : List Int → Int → Int → Int → Int → Int → (List Int → Int → Int → Int → Bool → Prop) → Prop := (impl_HopTo.ib w_impl_Heights_has w_impl_within w_impl_Heights_top w_impl_Heights_cloned w_impl_Heights_cell w_impl_Heights_beside w_impl_ValidHeights w_impl_Heights_bonds).W impl_HopTo.g
noncomputable def impl_HopTo.wp : List Int → Int → Int → Int → Int → Int → (List Int → Int → Int → Int → Bool → Prop) → Prop := impl_HopTo.bd impl_Heights_has.wp impl_within.wp impl_Heights_top.wp impl_Heights_cloned.wp impl_Heights_cell.wp impl_Heights_beside.wp impl_ValidHeights.wp impl_Heights_bonds.wp
noncomputable def impl_HopTo.c : Ctr := impl_HopTo.g.ctr impl_HopTo.wp

-- loop.example/g01247/spec.B10Seed
noncomputable def spec_B10Seed.g : Sig := ⟨25, [(.v (.a (.one (.sl 0))))], [(.rd (.I .u8))], [.li], [(.v (.a (.one (.int .i64))))], [.keep], [.int]⟩
noncomputable def spec_B10Seed.ib (w_spec_l00From : List Int → (Int → Int → Prop) → Prop) (w_spec_l00Src_pick : Int → Int → List Int → Int → (Int → Int → Int → Prop) → Prop) : FnI := ⟨Try.prog, [], [spec_l00From.g.ctr w_spec_l00From, spec_l00Src_pick.g.ctr w_spec_l00Src_pick], 14, [.tmp 2], bodyOf Try.f25, .leaf, []⟩
noncomputable def spec_B10Seed.i : FnI := spec_B10Seed.ib spec_l00From.wp spec_l00Src_pick.wp
noncomputable def spec_B10Seed.bd (w_spec_l00From : List Int → (Int → Int → Prop) → Prop) (w_spec_l00Src_pick : Int → Int → List Int → Int → (Int → Int → Int → Prop) → Prop) : List Int → (Int → Prop) → Prop := (spec_B10Seed.ib w_spec_l00From w_spec_l00Src_pick).W spec_B10Seed.g
noncomputable def spec_B10Seed.wp : List Int → (Int → Prop) → Prop := spec_B10Seed.bd spec_l00From.wp spec_l00Src_pick.wp
noncomputable def spec_B10Seed.c : Ctr := spec_B10Seed.g.ctr spec_B10Seed.wp

-- loop.example/g01247/impl.isSeed
noncomputable def impl_isSeed.g : Sig := ⟨67, [(.v (.a (.one (.int .i64))))], [], [.int], [(.v (.a (.one .bool)))], [], [.bool]⟩
noncomputable def impl_isSeed.ib (w_impl_within : Int → Int → Int → (Bool → Prop) → Prop) : FnI := ⟨Try.prog, [], [impl_within.g.ctr w_impl_within], 5, [.tmp 2], bodyOf Try.f67, .leaf, []⟩
noncomputable def impl_isSeed.i : FnI := impl_isSeed.ib impl_within.wp
noncomputable def impl_isSeed.bd (w_impl_within : Int → Int → Int → (Bool → Prop) → Prop) : Int → (Bool → Prop) → Prop := (impl_isSeed.ib w_impl_within).W impl_isSeed.g
noncomputable def impl_isSeed.wp : Int → (Bool → Prop) → Prop := impl_isSeed.bd impl_within.wp
noncomputable def impl_isSeed.c : Ctr := impl_isSeed.g.ctr impl_isSeed.wp

-- loop.example/g01247/impl.draw
noncomputable def impl_draw.g : Sig := ⟨80, [(.v (.a (.one (.int .i64))))], [], [.int], [(.tup [(.a (.one (.int .i64))), (.a (.one (.int .i64)))])], [], [.int, .int]⟩
noncomputable def impl_draw.ib  : FnI := ⟨Try.prog, [], [], 11, [.tmp 2, .tmp 3], bodyOf Try.f80, .leaf, [0]⟩
noncomputable def impl_draw.i : FnI := impl_draw.ib 
noncomputable def impl_draw.bd  : Int → (Int → Int → Prop) → Prop := (impl_draw.ib ).W impl_draw.g
noncomputable def impl_draw.wp : Int → (Int → Int → Prop) → Prop := impl_draw.bd 
noncomputable def impl_draw.c : Ctr := impl_draw.g.ctr impl_draw.wp

-- loop.example/g01247/impl.use
noncomputable def impl_use.g : Sig := ⟨69, [(.v (.a (.one (.pt 0 0)))), (.v (.a (.one (.int .i64))))], [(.box 2 [(.int .i64)])], [.int, .int], [(.v (.a (.one (.int .i64))))], [(.box 2 [(.int .i64)])], [.int, .int]⟩
noncomputable def impl_use.ib (w_impl_draw : Int → (Int → Int → Prop) → Prop) : FnI := ⟨Try.prog, [], [impl_draw.g.ctr w_impl_draw], 20, [.tmp 4], bodyOf Try.f69, .leaf, []⟩
noncomputable def impl_use.i : FnI := impl_use.ib impl_draw.wp
noncomputable def impl_use.bd (w_impl_draw : Int → (Int → Int → Prop) → Prop) : Int → Int → (Int → Int → Prop) → Prop := (impl_use.ib w_impl_draw).W impl_use.g
noncomputable def impl_use.wp : Int → Int → (Int → Int → Prop) → Prop := impl_use.bd impl_draw.wp
noncomputable def impl_use.c : Ctr := impl_use.g.ctr impl_use.wp

-- loop.example/g01247/impl.HopSome
noncomputable def impl_HopSome.g : Sig := ⟨24, [(.v (.a (.agg [(.int .i64), (.int .i64), (.sl 0)]))), (.v (.a (.one (.int .i64)))), (.v (.a (.one (.int .i64)))), (.v (.a (.one (.sl 1))))], [(.rd (.I .i64)), (.rd (.I .i64))], [.li, .li, .int, .int, .int, .int], [(.tup [(.a (.agg [(.int .i64), (.int .i64), (.sl 2)])), (.a (.one (.int .i64))), (.a (.one (.int .i64))), (.a (.one .bool))])], [.keep, .keep, (.row 2 (.I .i64))], [.li, .int, .int, .int, .int, .bool]⟩
noncomputable def impl_HopSome.ib (w_impl_ValidHeights : List Int → Int → Int → (Bool → Prop) → Prop) (w_impl_within : Int → Int → Int → (Bool → Prop) → Prop) (w_impl_isSeed : Int → (Bool → Prop) → Prop) (w_impl_areWithin : List Int → Int → Int → (Bool → Prop) → Prop) (w_impl_Heights_cloned : List Int → Int → Int → (List Int → Int → Int → Prop) → Prop) (w_impl_use : Int → Int → (Int → Int → Prop) → Prop) (w_impl_HopTo : List Int → Int → Int → Int → Int → Int → (List Int → Int → Int → Int → Bool → Prop) → Prop) : FnI := ⟨Try.prog, [], [impl_ValidHeights.g.ctr w_impl_ValidHeights, impl_within.g.ctr w_impl_within, impl_isSeed.g.ctr w_impl_isSeed, impl_areWithin.g.ctr w_impl_areWithin, impl_Heights_cloned.g.ctr w_impl_Heights_cloned, impl_use.g.ctr w_impl_use, impl_HopTo.g.ctr w_impl_HopTo], 93, [.cell 8 28, .tmp 9, .tmp 10, .tmp 11], bodyOf Try.f24, (.seq .leaf (.seq .leaf (.seq .leaf (.seq .leaf (.seq (.seq .leaf (.block (.loop ⟨[4, 6, 8, 12, 46, 47], [.int, .int, .int, .int, .int, .li, .li, .int, .int, .int], [(.v (.a (.one (.pt 2 0)))), (.v (.a (.one (.pt 3 0)))), (.v (.a (.one (.pt 4 0)))), (.v (.a (.one (.int .i64)))), (.v (.a (.one (.int .i64)))), (.v (.a (.one (.int .i64))))], [.keep, .keep, (.box 28 [(.int .i64), (.int .i64), (.sl 5)]), (.box 2 [(.int .i64)]), (.box 28 [(.int .i64), (.int .i64), (.sl 6)]), (.row 2 (.I .i64)), (.row 2 (.I .i64))]⟩ .leaf))) .leaf))))), []⟩
noncomputable def impl_HopSome.i : FnI := impl_HopSome.ib impl_ValidHeights.wp impl_within.wp impl_isSeed.wp impl_areWithin.wp impl_Heights_cloned.wp impl_use.wp impl_HopTo.wp
noncomputable def impl_HopSome.bd (w_impl_ValidHeights : List Int → Int → Int → (Bool → Prop) → Prop) (w_impl_within : Int → Int → Int → (Bool → Prop) → Prop) (w_impl_isSeed : Int → (Bool → Prop) → Prop) (w_impl_areWithin : List Int → Int → Int → (Bool → Prop) → Prop) (w_impl_Heights_cloned : List Int → Int → Int → (List Int → Int → Int → Prop) → Prop) (w_impl_use : Int → Int → (Int → Int → Prop) → Prop) (w_impl_HopTo : List Int → Int → Int → Int → Int → Int → (List Int → Int → Int → Int → Bool → Prop) → Prop) : List Int → List Int → Int → Int → Int → Int → (List Int → Int → Int → Int → Int → Bool → Prop) → Prop := (impl_HopSome.ib w_impl_ValidHeights w_impl_within w_impl_isSeed w_impl_areWithin w_impl_Heights_cloned w_impl_use w_impl_HopTo).W impl_HopSome.g
noncomputable def impl_HopSome.wp : List Int → List Int → Int → Int → Int → Int → (List Int → Int → Int → Int → Int → Bool → Prop) → Prop := impl_HopSome.bd impl_ValidHeights.wp impl_within.wp impl_isSeed.wp impl_areWithin.wp impl_Heights_cloned.wp impl_use.wp impl_HopTo.wp
noncomputable def impl_HopSome.c : Ctr := impl_HopSome.g.ctr impl_HopSome.wp

-- loop.example/g01247/laws.FnHops
noncomputable def laws_FnHops.g : Sig := ⟨4, [(.v (.a (.one (.sl 0)))), (.v (.a (.one (.sl 1))))], [(.rd (.I .u8)), (.rd (.I .u8))], [.li, .li], [(.v (.a (.one .bool)))], [.keep, .keep], [.bool]⟩
noncomputable def laws_FnHops.ib (w_laws_b10Long : List Int → List Int → (Bool → Prop) → Prop) (w_spec_B10Heights : List Int → (List Int → Int → Int → Prop) → Prop) (w_laws_b10At : List Int → Int → Int → (Int → Prop) → Prop) (w_impl_AtomsIn : List Int → Int → Int → (Int → Bool → Prop) → Prop) (w_impl_BondsIn : List Int → Int → Int → (Int → Bool → Prop) → Prop) (w_impl_StepsIn : List Int → Int → Int → (Int → Bool → Prop) → Prop) (w_impl_HopTo : List Int → Int → Int → Int → Int → Int → (List Int → Int → Int → Int → Bool → Prop) → Prop) (w_spec_B10Seed : List Int → (Int → Prop) → Prop) (w_impl_HopSome : List Int → List Int → Int → Int → Int → Int → (List Int → Int → Int → Int → Int → Bool → Prop) → Prop) : FnI := ⟨Try.prog, [], [laws_b10Long.g.ctr w_laws_b10Long, spec_B10Heights.g.ctr w_spec_B10Heights, laws_b10At.g.ctr w_laws_b10At, impl_AtomsIn.g.ctr w_impl_AtomsIn, impl_BondsIn.g.ctr w_impl_BondsIn, impl_StepsIn.g.ctr w_impl_StepsIn, impl_HopTo.g.ctr w_impl_HopTo, spec_B10Seed.g.ctr w_spec_B10Seed, impl_HopSome.g.ctr w_impl_HopSome], 179, [.tmp 4], bodyOf Try.f4, (.seq .leaf (.seq .leaf (.seq .leaf (.seq .leaf (.seq .leaf (.seq .leaf (.seq .leaf (.seq .leaf (.seq .leaf (.seq .leaf (.seq (.seq .leaf (.condJ ⟨[5, 8, 10], [.int, .int, .li, .int, .int], [(.v (.a (.one (.pt 2 0)))), (.v (.a (.one (.int .i64)))), (.v (.a (.one (.int .i64))))], [.keep, .keep, (.box 28 [(.int .i64), (.int .i64), (.sl 3)]), (.row 2 (.I .i64))]⟩ .leaf .leaf)) .leaf))))))))))), []⟩
noncomputable def laws_FnHops.i : FnI := laws_FnHops.ib laws_b10Long.wp spec_B10Heights.wp laws_b10At.wp impl_AtomsIn.wp impl_BondsIn.wp impl_StepsIn.wp impl_HopTo.wp spec_B10Seed.wp impl_HopSome.wp
noncomputable def laws_FnHops.bd (w_laws_b10Long : List Int → List Int → (Bool → Prop) → Prop) (w_spec_B10Heights : List Int → (List Int → Int → Int → Prop) → Prop) (w_laws_b10At : List Int → Int → Int → (Int → Prop) → Prop) (w_impl_AtomsIn : List Int → Int → Int → (Int → Bool → Prop) → Prop) (w_impl_BondsIn : List Int → Int → Int → (Int → Bool → Prop) → Prop) (w_impl_StepsIn : List Int → Int → Int → (Int → Bool → Prop) → Prop) (w_impl_HopTo : List Int → Int → Int → Int → Int → Int → (List Int → Int → Int → Int → Bool → Prop) → Prop) (w_spec_B10Seed : List Int → (Int → Prop) → Prop) (w_impl_HopSome : List Int → List Int → Int → Int → Int → Int → (List Int → Int → Int → Int → Int → Bool → Prop) → Prop) : List Int → List Int → (Bool → Prop) → Prop := (laws_FnHops.ib w_laws_b10Long w_spec_B10Heights w_laws_b10At w_impl_AtomsIn w_impl_BondsIn w_impl_StepsIn w_impl_HopTo w_spec_B10Seed w_impl_HopSome).W laws_FnHops.g
noncomputable def laws_FnHops.wp : List Int → List Int → (Bool → Prop) → Prop := laws_FnHops.bd laws_b10Long.wp spec_B10Heights.wp laws_b10At.wp impl_AtomsIn.wp impl_BondsIn.wp impl_StepsIn.wp impl_HopTo.wp spec_B10Seed.wp impl_HopSome.wp
noncomputable def laws_FnHops.c : Ctr := laws_FnHops.g.ctr laws_FnHops.wp

-- loop.example/g01247/spec.l05Own
noncomputable def spec_l05Own.g : Sig := ⟨83, [(.v (.a (.one (.pt 0 0))))], [(.rdb [(.int .i64), (.int .i64), (.sl 1)]), (.rd (.I .i64))], [.int, .int, .li], [(.v (.a (.agg [(.int .i64), (.int .i64), (.sl 2)])))], [.keep, .keep, (.row 2 (.I .i64))], [.li, .int, .int]⟩
noncomputable def spec_l05Own.ib  : FnI := ⟨Try.prog, [], [], 18, [.cell 2 28], bodyOf Try.f83, .leaf, []⟩
noncomputable def spec_l05Own.i : FnI := spec_l05Own.ib 
noncomputable def spec_l05Own.bd  : Int → Int → List Int → (List Int → Int → Int → Prop) → Prop := (spec_l05Own.ib ).W spec_l05Own.g
noncomputable def spec_l05Own.wp : Int → Int → List Int → (List Int → Int → Int → Prop) → Prop := spec_l05Own.bd 
noncomputable def spec_l05Own.c : Ctr := spec_l05Own.g.ctr spec_l05Own.wp

-- loop.example/g01247/spec.l00Min
noncomputable def spec_l00Min.g : Sig := ⟨122, [(.v (.a (.one (.int .i64)))), (.v (.a (.one (.int .i64))))], [], [.int, .int], [(.v (.a (.one (.int .i64))))], [], [.int]⟩
noncomputable def spec_l00Min.ib  : FnI := ⟨Try.prog, [], [], 10, [.tmp 4], bodyOf Try.f122, .leaf, []⟩
noncomputable def spec_l00Min.i : FnI := spec_l00Min.ib 
noncomputable def spec_l00Min.bd  : Int → Int → (Int → Prop) → Prop := (spec_l00Min.ib ).W spec_l00Min.g
noncomputable def spec_l00Min.wp : Int → Int → (Int → Prop) → Prop := spec_l00Min.bd 
noncomputable def spec_l00Min.c : Ctr := spec_l00Min.g.ctr spec_l00Min.wp

-- loop.example/g01247/spec.l05Bonds
noncomputable def spec_l05Bonds.g : Sig := ⟨109, [(.v (.a (.one (.pt 0 0))))], [(.rdb [(.int .i64), (.int .i64), (.sl 1)]), (.rd (.I .i64))], [.int, .int, .li], [(.v (.a (.one (.int .i64))))], [.keep, .keep], [.int]⟩
noncomputable def spec_l05Bonds.ib (w_spec_l05Near : Int → Int → List Int → Int → (List Int → Prop) → Prop) (w_spec_l00Min : Int → Int → (Int → Prop) → Prop) : FnI := ⟨Try.prog, [], [spec_l05Near.g.ctr w_spec_l05Near, spec_l00Min.g.ctr w_spec_l00Min], 56, [.tmp 2], bodyOf Try.f109, (.seq .leaf (.seq .leaf (.seq (.seq .leaf (.block (.loop ⟨[3, 10, 11], [.int, .int, .int], [(.v (.a (.one (.int .i64)))), (.v (.a (.one (.int .i64)))), (.v (.a (.one (.int .i64))))], [.keep, .keep]⟩ .leaf))) .leaf))), []⟩
noncomputable def spec_l05Bonds.i : FnI := spec_l05Bonds.ib spec_l05Near.wp spec_l00Min.wp
noncomputable def spec_l05Bonds.bd (w_spec_l05Near : Int → Int → List Int → Int → (List Int → Prop) → Prop) (w_spec_l00Min : Int → Int → (Int → Prop) → Prop) : Int → Int → List Int → (Int → Prop) → Prop := (spec_l05Bonds.ib w_spec_l05Near w_spec_l00Min).W spec_l05Bonds.g
noncomputable def spec_l05Bonds.wp : Int → Int → List Int → (Int → Prop) → Prop := spec_l05Bonds.bd spec_l05Near.wp spec_l00Min.wp
noncomputable def spec_l05Bonds.c : Ctr := spec_l05Bonds.g.ctr spec_l05Bonds.wp

-- loop.example/g01247/spec.l05Hop
noncomputable def spec_l05Hop.g : Sig := ⟨72, [(.v (.a (.one (.pt 0 0)))), (.v (.a (.one (.int .i64)))), (.v (.a (.one (.int .i64))))], [(.rdb [(.int .i64), (.int .i64), (.sl 1)]), (.rd (.I .i64))], [.int, .int, .li, .int, .int], [(.tup [(.a (.agg [(.int .i64), (.int .i64), (.sl 2)])), (.a (.one (.int .i64))), (.a (.one .bool))])], [.keep, .keep, (.row 2 (.I .i64))], [.li, .int, .int, .int, .bool]⟩
noncomputable def spec_l05Hop.ib (w_spec_l05Own : Int → Int → List Int → (List Int → Int → Int → Prop) → Prop) (w_spec_l05Near : Int → Int → List Int → Int → (List Int → Prop) → Prop) (w_spec_l05Is : Int → Int → List Int → (Bool → Prop) → Prop) (w_spec_l05Bonds : Int → Int → List Int → (Int → Prop) → Prop) : FnI := ⟨Try.prog, [], [spec_l05Own.g.ctr w_spec_l05Own, spec_l05Near.g.ctr w_spec_l05Near, spec_l05Is.g.ctr w_spec_l05Is, spec_l05Bonds.g.ctr w_spec_l05Bonds], 48, [.cell 6 28, .tmp 7, .tmp 8], bodyOf Try.f72, .leaf, []⟩
noncomputable def spec_l05Hop.i : FnI := spec_l05Hop.ib spec_l05Own.wp spec_l05Near.wp spec_l05Is.wp spec_l05Bonds.wp
noncomputable def spec_l05Hop.bd (w_spec_l05Own : Int → Int → List Int → (List Int → Int → Int → Prop) → Prop) (w_spec_l05Near : Int → Int → List Int → Int → (List Int → Prop) → Prop) (w_spec_l05Is : Int → Int → List Int → (Bool → Prop) → Prop) (w_spec_l05Bonds : Int → Int → List Int → (Int → Prop) → Prop) : Int → Int → List Int → Int → Int → (List Int → Int → Int → Int → Bool → Prop) → Prop := (spec_l05Hop.ib w_spec_l05Own w_spec_l05Near w_spec_l05Is w_spec_l05Bonds).W spec_l05Hop.g
noncomputable def spec_l05Hop.wp : Int → Int → List Int → Int → Int → (List Int → Int → Int → Int → Bool → Prop) → Prop := spec_l05Hop.bd spec_l05Own.wp spec_l05Near.wp spec_l05Is.wp spec_l05Bonds.wp
noncomputable def spec_l05Hop.c : Ctr := spec_l05Hop.g.ctr spec_l05Hop.wp

-- loop.example/g01247/spec.HopTo
noncomputable def spec_HopTo.g : Sig := ⟨26, [(.v (.a (.agg [(.int .i64), (.int .i64), (.sl 0)]))), (.v (.a (.one (.int .i64)))), (.v (.a (.one (.int .i64)))), (.v (.a (.one (.int .i64))))], [(.rd (.I .i64))], [.li, .int, .int, .int, .int, .int], [(.tup [(.a (.agg [(.int .i64), (.int .i64), (.sl 1)])), (.a (.one (.int .i64))), (.a (.one .bool))])], [.keep, (.row 2 (.I .i64))], [.li, .int, .int, .int, .bool]⟩
noncomputable def spec_HopTo.ib (w_spec_l05Cell : Int → Int → List Int → Int → Int → (Bool → Prop) → Prop) (w_spec_l00In : Int → Int → Int → (Bool → Prop) → Prop) (w_spec_l05Hop : Int → Int → List Int → Int → Int → (List Int → Int → Int → Int → Bool → Prop) → Prop) : FnI := ⟨Try.prog, [], [spec_l05Cell.g.ctr w_spec_l05Cell, spec_l00In.g.ctr w_spec_l00In, spec_l05Hop.g.ctr w_spec_l05Hop], 32, [.cell 8 28, .tmp 9, .tmp 10], bodyOf Try.f26, .leaf, []⟩
noncomputable def spec_HopTo.i : FnI := spec_HopTo.ib spec_l05Cell.wp spec_l00In.wp spec_l05Hop.wp
noncomputable def spec_HopTo.bd (w_spec_l05Cell : Int → Int → List Int → Int → Int → (Bool → Prop) → Prop) (w_spec_l00In : Int → Int → Int → (Bool → Prop) → Prop) (w_spec_l05Hop : Int → Int → List Int → Int → Int → (List Int → Int → Int → Int → Bool → Prop) → Prop) : List Int → Int → Int → Int → Int → Int → (List Int → Int → Int → Int → Bool → Prop) → Prop := (spec_HopTo.ib w_spec_l05Cell w_spec_l00In w_spec_l05Hop).W spec_HopTo.g
noncomputable def spec_HopTo.wp : List Int → Int → Int → Int → Int → Int → (List Int → Int → Int → Int → Bool → Prop) → Prop := spec_HopTo.bd spec_l05Cell.wp spec_l00In.wp spec_l05Hop.wp
noncomputable def spec_HopTo.c : Ctr := spec_HopTo.g.ctr spec_HopTo.wp

-- loop.example/g01247/laws.markInt64S
noncomputable def laws_markInt64S.g : Sig := ⟨73, [(.v (.a (.one (.sl 0)))), (.v (.a (.one (.int .i64))))], [(.row 2 (.I .i64))], [.li, .int], [(.v (.a (.one (.int .i64))))], [(.row 2 (.I .i64))], [.li, .int]⟩
noncomputable def laws_markInt64S.ib  : FnI := ⟨Try.prog, [], [], 19, [.tmp 4], bodyOf Try.f73, (.seq .leaf (.seq (.seq .leaf (.block (.loop ⟨[1, 5], [.li, .int, .int], [(.v (.a (.one (.int .i64)))), (.v (.a (.one (.int .i64))))], [(.row 2 (.I .i64))]⟩ .leaf))) .leaf)), [1]⟩
noncomputable def laws_markInt64S.i : FnI := laws_markInt64S.ib 
noncomputable def laws_markInt64S.bd  : List Int → Int → (List Int → Int → Prop) → Prop := (laws_markInt64S.ib ).W laws_markInt64S.g
noncomputable def laws_markInt64S.wp : List Int → Int → (List Int → Int → Prop) → Prop := laws_markInt64S.bd 
noncomputable def laws_markInt64S.c : Ctr := laws_markInt64S.g.ctr laws_markInt64S.wp

-- loop.example/g01247/laws.markHeights
noncomputable def laws_markHeights.g : Sig := ⟨27, [(.v (.a (.agg [(.int .i64), (.int .i64), (.sl 0)]))), (.v (.a (.one (.int .i64))))], [(.row 2 (.I .i64))], [.li, .int, .int, .int], [(.v (.a (.one (.int .i64))))], [(.row 2 (.I .i64))], [.li, .int]⟩
noncomputable def laws_markHeights.ib (w_laws_markInt64S : List Int → Int → (List Int → Int → Prop) → Prop) : FnI := ⟨Try.prog, [], [laws_markInt64S.g.ctr w_laws_markInt64S], 10, [.tmp 4], bodyOf Try.f27, .leaf, [1]⟩
noncomputable def laws_markHeights.i : FnI := laws_markHeights.ib laws_markInt64S.wp
noncomputable def laws_markHeights.bd (w_laws_markInt64S : List Int → Int → (List Int → Int → Prop) → Prop) : List Int → Int → Int → Int → (List Int → Int → Prop) → Prop := (laws_markHeights.ib w_laws_markInt64S).W laws_markHeights.g
noncomputable def laws_markHeights.wp : List Int → Int → Int → Int → (List Int → Int → Prop) → Prop := laws_markHeights.bd laws_markInt64S.wp
noncomputable def laws_markHeights.c : Ctr := laws_markHeights.g.ctr laws_markHeights.wp

-- loop.example/g01247/laws.heldInt64S
noncomputable def laws_heldInt64S.g : Sig := ⟨74, [(.v (.a (.one (.sl 0)))), (.v (.a (.one (.int .i64))))], [(.rd (.I .i64))], [.li, .int], [(.v (.a (.one (.int .i64))))], [.keep], [.int]⟩
noncomputable def laws_heldInt64S.ib  : FnI := ⟨Try.prog, [], [], 21, [.tmp 4], bodyOf Try.f74, (.seq .leaf (.seq (.seq .leaf (.block (.loop ⟨[1, 5], [.int, .int], [(.v (.a (.one (.int .i64)))), (.v (.a (.one (.int .i64))))], [.keep]⟩ .leaf))) .leaf)), [1]⟩
noncomputable def laws_heldInt64S.i : FnI := laws_heldInt64S.ib 
noncomputable def laws_heldInt64S.bd  : List Int → Int → (Int → Prop) → Prop := (laws_heldInt64S.ib ).W laws_heldInt64S.g
noncomputable def laws_heldInt64S.wp : List Int → Int → (Int → Prop) → Prop := laws_heldInt64S.bd 
noncomputable def laws_heldInt64S.c : Ctr := laws_heldInt64S.g.ctr laws_heldInt64S.wp

-- loop.example/g01247/laws.heldHeights
noncomputable def laws_heldHeights.g : Sig := ⟨28, [(.v (.a (.agg [(.int .i64), (.int .i64), (.sl 0)]))), (.v (.a (.one (.int .i64))))], [(.rd (.I .i64))], [.li, .int, .int, .int], [(.v (.a (.one (.int .i64))))], [.keep], [.int]⟩
noncomputable def laws_heldHeights.ib (w_laws_heldInt64S : List Int → Int → (Int → Prop) → Prop) : FnI := ⟨Try.prog, [], [laws_heldInt64S.g.ctr w_laws_heldInt64S], 12, [.tmp 4], bodyOf Try.f28, .leaf, [1]⟩
noncomputable def laws_heldHeights.i : FnI := laws_heldHeights.ib laws_heldInt64S.wp
noncomputable def laws_heldHeights.bd (w_laws_heldInt64S : List Int → Int → (Int → Prop) → Prop) : List Int → Int → Int → Int → (Int → Prop) → Prop := (laws_heldHeights.ib w_laws_heldInt64S).W laws_heldHeights.g
noncomputable def laws_heldHeights.wp : List Int → Int → Int → Int → (Int → Prop) → Prop := laws_heldHeights.bd laws_heldInt64S.wp
noncomputable def laws_heldHeights.c : Ctr := laws_heldHeights.g.ctr laws_heldHeights.wp

-- loop.example/g01247/laws.FnExactHopTo
noncomputable def laws_FnExactHopTo.g : Sig := ⟨5, [(.v (.a (.agg [(.int .i64), (.int .i64), (.sl 0)]))), (.v (.a (.one (.int .i64)))), (.v (.a (.one (.int .i64)))), (.v (.a (.one (.int .i64))))], [(.rd (.I .i64))], [.li, .int, .int, .int, .int, .int], [(.v (.a (.one .bool)))], [.keep], [.bool]⟩
noncomputable def laws_FnExactHopTo.ib (w_laws_szHeights : List Int → Int → Int → Int → (Int → Prop) → Prop) (w_laws_toHeights : List Int → Int → Int → (List Int → Int → Int → Prop) → Prop) (w_spec_HopTo : List Int → Int → Int → Int → Int → Int → (List Int → Int → Int → Int → Bool → Prop) → Prop) (w_impl_HopTo : List Int → Int → Int → Int → Int → Int → (List Int → Int → Int → Int → Bool → Prop) → Prop) (w_laws_eqHeights : List Int → List Int → Int → Int → Int → Int → (Bool → Prop) → Prop) (w_laws_markHeights : List Int → Int → Int → Int → (List Int → Int → Prop) → Prop) (w_laws_heldHeights : List Int → Int → Int → Int → (Int → Prop) → Prop) : FnI := ⟨Try.prog, [], [laws_szHeights.g.ctr w_laws_szHeights, laws_toHeights.g.ctr w_laws_toHeights, spec_HopTo.g.ctr w_spec_HopTo, impl_HopTo.g.ctr w_impl_HopTo, laws_eqHeights.g.ctr w_laws_eqHeights, laws_markHeights.g.ctr w_laws_markHeights, laws_heldHeights.g.ctr w_laws_heldHeights], 132, [.tmp 8], bodyOf Try.f5, .leaf, []⟩
noncomputable def laws_FnExactHopTo.i : FnI := laws_FnExactHopTo.ib laws_szHeights.wp laws_toHeights.wp spec_HopTo.wp impl_HopTo.wp laws_eqHeights.wp laws_markHeights.wp laws_heldHeights.wp
noncomputable def laws_FnExactHopTo.bd (w_laws_szHeights : List Int → Int → Int → Int → (Int → Prop) → Prop) (w_laws_toHeights : List Int → Int → Int → (List Int → Int → Int → Prop) → Prop) (w_spec_HopTo : List Int → Int → Int → Int → Int → Int → (List Int → Int → Int → Int → Bool → Prop) → Prop) (w_impl_HopTo : List Int → Int → Int → Int → Int → Int → (List Int → Int → Int → Int → Bool → Prop) → Prop) (w_laws_eqHeights : List Int → List Int → Int → Int → Int → Int → (Bool → Prop) → Prop) (w_laws_markHeights : List Int → Int → Int → Int → (List Int → Int → Prop) → Prop) (w_laws_heldHeights : List Int → Int → Int → Int → (Int → Prop) → Prop) : List Int → Int → Int → Int → Int → Int → (Bool → Prop) → Prop := (laws_FnExactHopTo.ib w_laws_szHeights w_laws_toHeights w_spec_HopTo w_impl_HopTo w_laws_eqHeights w_laws_markHeights w_laws_heldHeights).W laws_FnExactHopTo.g
noncomputable def laws_FnExactHopTo.wp : List Int → Int → Int → Int → Int → Int → (Bool → Prop) → Prop := laws_FnExactHopTo.bd laws_szHeights.wp laws_toHeights.wp spec_HopTo.wp impl_HopTo.wp laws_eqHeights.wp laws_markHeights.wp laws_heldHeights.wp
noncomputable def laws_FnExactHopTo.c : Ctr := laws_FnExactHopTo.g.ctr laws_FnExactHopTo.wp

-- (loop.example/g01247/impl.Heights).fell
noncomputable def impl_Heights_fell.g : Sig := ⟨75, [(.v (.a (.agg [(.int .i64), (.int .i64), (.sl 0)]))), (.v (.a (.one (.int .i64)))), (.v (.a (.one (.int .i64)))), (.v (.a (.one (.int .i64))))], [(.row 2 (.I .i64))], [.li, .int, .int, .int, .int, .int], [(.tup [])], [(.row 2 (.I .i64))], [.li]⟩
noncomputable def impl_Heights_fell.ib (w_impl_Heights_cell : List Int → Int → Int → Int → Int → (Int → Prop) → Prop) (w_impl_Heights_beside : List Int → Int → Int → Int → Int → (List Int → Prop) → Prop) : FnI := ⟨Try.prog, [], [impl_Heights_cell.g.ctr w_impl_Heights_cell, impl_Heights_beside.g.ctr w_impl_Heights_beside], 90, [], bodyOf Try.f75, (.seq .leaf (.seq .leaf (.seq .leaf (.block (.seq .leaf (.cond .leaf (.seq .leaf (.cond (.seq (.seq .leaf (.block (.loop ⟨[4, 8, 64, 65, 66], [.li, .int, .int, .li, .int, .int, .int], [(.v (.a (.one (.pt 1 0)))), (.v (.a (.one (.int .i64)))), (.v (.a (.one (.sl 2)))), (.v (.a (.one (.int .i64)))), (.v (.a (.one (.int .i64))))], [(.row 2 (.I .i64)), (.box 28 [(.int .i64), (.int .i64), (.sl 0)]), (.row 2 (.I .i64))]⟩ .leaf))) .leaf) (.seq .leaf (.seq .leaf (.block (.loop ⟨[4, 8, 28, 29, 30], [.li, .int, .int, .li, .int, .int, .int], [(.v (.a (.one (.pt 1 0)))), (.v (.a (.one (.int .i64)))), (.v (.a (.one (.sl 2)))), (.v (.a (.one (.int .i64)))), (.v (.a (.one (.int .i64))))], [(.row 2 (.I .i64)), (.box 28 [(.int .i64), (.int .i64), (.sl 0)]), (.row 2 (.I .i64))]⟩ .leaf)))))))))))), []⟩
noncomputable def impl_Heights_fell.i : FnI := impl_Heights_fell.ib impl_Heights_cell.wp impl_Heights_beside.wp
noncomputable def impl_Heights_fell.bd (w_impl_Heights_cell : List Int → Int → Int → Int → Int → (Int → Prop) → Prop) (w_impl_Heights_beside : List Int → Int → Int → Int → Int → (List Int → Prop) → Prop) : List Int → Int → Int → Int → Int → Int → (List Int → Prop) → Prop := (impl_Heights_fell.ib w_impl_Heights_cell w_impl_Heights_beside).W impl_Heights_fell.g
noncomputable def impl_Heights_fell.wp : List Int → Int → Int → Int → Int → Int → (List Int → Prop) → Prop := impl_Heights_fell.bd impl_Heights_cell.wp impl_Heights_beside.wp
noncomputable def impl_Heights_fell.c : Ctr := impl_Heights_fell.g.ctr impl_Heights_fell.wp

-- loop.example/g01247/impl.RainOn
noncomputable def impl_RainOn.g : Sig := ⟨29, [(.v (.a (.agg [(.int .i64), (.int .i64), (.sl 0)]))), (.v (.a (.one (.int .i64)))), (.v (.a (.one (.int .i64)))), (.v (.a (.one (.int .i64))))], [(.rd (.I .i64))], [.li, .int, .int, .int, .int, .int], [(.tup [(.a (.agg [(.int .i64), (.int .i64), (.sl 1)])), (.a (.one (.int .i64))), (.a (.one .bool))])], [.keep, (.row 2 (.I .i64))], [.li, .int, .int, .int, .bool]⟩
noncomputable def impl_RainOn.ib (w_impl_ValidHeights : List Int → Int → Int → (Bool → Prop) → Prop) (w_impl_within : Int → Int → Int → (Bool → Prop) → Prop) (w_impl_isSeed : Int → (Bool → Prop) → Prop) (w_impl_Heights_cloned : List Int → Int → Int → (List Int → Int → Int → Prop) → Prop) (w_impl_use : Int → Int → (Int → Int → Prop) → Prop) (w_impl_Heights_fell : List Int → Int → Int → Int → Int → Int → (List Int → Prop) → Prop) : FnI := ⟨Try.prog, [], [impl_ValidHeights.g.ctr w_impl_ValidHeights, impl_within.g.ctr w_impl_within, impl_isSeed.g.ctr w_impl_isSeed, impl_Heights_cloned.g.ctr w_impl_Heights_cloned, impl_use.g.ctr w_impl_use, impl_Heights_fell.g.ctr w_impl_Heights_fell], 53, [.cell 8 28, .tmp 9, .tmp 10], bodyOf Try.f29, (.seq .leaf (.seq .leaf (.seq .leaf (.seq (.seq .leaf (.block (.loop ⟨[4, 7, 8, 33, 34], [.int, .int, .int, .int, .int, .li, .li, .int, .int], [(.v (.a (.one (.pt 1 0)))), (.v (.a (.one (.pt 2 0)))), (.v (.a (.one (.pt 3 0)))), (.v (.a (.one (.int .i64)))), (.v (.a (.one (.int .i64))))], [.keep, (.box 28 [(.int .i64), (.int .i64), (.sl 4)]), (.box 2 [(.int .i64)]), (.box 28 [(.int .i64), (.int .i64), (.sl 5)]), (.row 2 (.I .i64)), (.row 2 (.I .i64))]⟩ .leaf))) .leaf)))), []⟩
noncomputable def impl_RainOn.i : FnI := impl_RainOn.ib impl_ValidHeights.wp impl_within.wp impl_isSeed.wp impl_Heights_cloned.wp impl_use.wp impl_Heights_fell.wp
noncomputable def impl_RainOn.bd (w_impl_ValidHeights : List Int → Int → Int → (Bool → Prop) → Prop) (w_impl_within : Int → Int → Int → (Bool → Prop) → Prop) (w_impl_isSeed : Int → (Bool → Prop) → Prop) (w_impl_Heights_cloned : List Int → Int → Int → (List Int → Int → Int → Prop) → Prop) (w_impl_use : Int → Int → (Int → Int → Prop) → Prop) (w_impl_Heights_fell : List Int → Int → Int → Int → Int → Int → (List Int → Prop) → Prop) : List Int → Int → Int → Int → Int → Int → (List Int → Int → Int → Int → Bool → Prop) → Prop := (impl_RainOn.ib w_impl_ValidHeights w_impl_within w_impl_isSeed w_impl_Heights_cloned w_impl_use w_impl_Heights_fell).W impl_RainOn.g
noncomputable def impl_RainOn.wp : List Int → Int → Int → Int → Int → Int → (List Int → Int → Int → Int → Bool → Prop) → Prop := impl_RainOn.bd impl_ValidHeights.wp impl_within.wp impl_isSeed.wp impl_Heights_cloned.wp impl_use.wp impl_Heights_fell.wp
noncomputable def impl_RainOn.c : Ctr := impl_RainOn.g.ctr impl_RainOn.wp

-- loop.example/g01247/impl.ShiftHeights$1
noncomputable def impl_ShiftHeights_1.g : Sig := ⟨77, [(.v (.a (.one (.int .i64)))), (.v (.a (.one (.int .i64)))), (.v (.a (.one (.pt 0 0)))), (.v (.a (.one (.pt 2 0)))), (.v (.a (.one (.pt 3 0))))], [(.rdb [(.int .i64), (.int .i64), (.sl 1)]), (.rd (.I .i64)), (.rdb [(.int .i64)]), (.rdb [(.int .i64)])], [.int, .int, .li, .int, .int, .int, .int], [(.v (.a (.one (.int .i64))))], [.keep, .keep, .keep, .keep], [.int]⟩
noncomputable def impl_ShiftHeights_1.ib (w_impl_Heights_top : List Int → Int → Int → Int → Int → (Int → Prop) → Prop) : FnI := ⟨Try.prog, [], [impl_Heights_top.g.ctr w_impl_Heights_top], 16, [.tmp 7], bodyOf Try.f77, .leaf, []⟩
noncomputable def impl_ShiftHeights_1.i : FnI := impl_ShiftHeights_1.ib impl_Heights_top.wp
noncomputable def impl_ShiftHeights_1.bd (w_impl_Heights_top : List Int → Int → Int → Int → Int → (Int → Prop) → Prop) : Int → Int → List Int → Int → Int → Int → Int → (Int → Prop) → Prop := (impl_ShiftHeights_1.ib w_impl_Heights_top).W impl_ShiftHeights_1.g
noncomputable def impl_ShiftHeights_1.wp : Int → Int → List Int → Int → Int → Int → Int → (Int → Prop) → Prop := impl_ShiftHeights_1.bd impl_Heights_top.wp
noncomputable def impl_ShiftHeights_1.c : Ctr := impl_ShiftHeights_1.g.ctr impl_ShiftHeights_1.wp

-- (loop.example/g01247/impl.Heights).told
noncomputable def impl_Heights_told.g : Sig := ⟨79, [(.v (.a (.agg [(.int .i64), (.int .i64), (.sl 0)])))], [(.row 2 (.I .i64))], [.li, .int, .int], [(.tup [(.a (.agg [(.int .i64), (.int .i64), (.sl 1)])), (.a (.one .bool))])], [.dead, (.row 2 (.I .i64))], [.li, .int, .int, .bool]⟩
noncomputable def impl_Heights_told.ib (w_impl_ValidHeights : List Int → Int → Int → (Bool → Prop) → Prop) : FnI := ⟨Try.prog, [], [impl_ValidHeights.g.ctr w_impl_ValidHeights], 9, [.cell 2 28, .tmp 3], bodyOf Try.f79, .leaf, []⟩
noncomputable def impl_Heights_told.i : FnI := impl_Heights_told.ib impl_ValidHeights.wp
noncomputable def impl_Heights_told.bd (w_impl_ValidHeights : List Int → Int → Int → (Bool → Prop) → Prop) : List Int → Int → Int → (List Int → Int → Int → Bool → Prop) → Prop := (impl_Heights_told.ib w_impl_ValidHeights).W impl_Heights_told.g
noncomputable def impl_Heights_told.wp : List Int → Int → Int → (List Int → Int → Int → Bool → Prop) → Prop := impl_Heights_told.bd impl_ValidHeights.wp
noncomputable def impl_Heights_told.c : Ctr := impl_Heights_told.g.ctr impl_Heights_told.wp

-- loop.example/g01247/impl.built
noncomputable def impl_built__ShiftHeights_1.g : Sig := ⟨76, [(.v (.a (.one (.int .i64)))), (.v (.a (.one (.int .i64)))), (.v (.fn 77 [] [(.one (.pt 0 0)), (.one (.pt 2 0)), (.one (.pt 3 0))]))], [(.rdb [(.int .i64), (.int .i64), (.sl 1)]), (.rd (.I .i64)), (.rdb [(.int .i64)]), (.rdb [(.int .i64)])], [.int, .int, .li, .int, .int, .int, .int], [(.tup [(.a (.agg [(.int .i64), (.int .i64), (.sl 4)])), (.a (.one .bool))])], [.keep, .keep, .keep, .keep, (.row 2 (.I .i64))], [.li, .int, .int, .bool]⟩
noncomputable def impl_built__ShiftHeights_1.ib (w_impl_areWithin : List Int → Int → Int → (Bool → Prop) → Prop) (w_impl_ShiftHeights_1 : Int → Int → List Int → Int → Int → Int → Int → (Int → Prop) → Prop) (w_impl_Heights_told : List Int → Int → Int → (List Int → Int → Int → Bool → Prop) → Prop) : FnI := ⟨Try.prog, [], [impl_areWithin.g.ctr w_impl_areWithin, impl_ShiftHeights_1.g.ctr w_impl_ShiftHeights_1, impl_Heights_told.g.ctr w_impl_Heights_told], 43, [.cell 6 28, .tmp 7], bodyOf Try.f76, (.seq .leaf (.seq .leaf (.seq .leaf (.seq (.seq .leaf (.block (.loop ⟨[6, 8, 20, 21], [.int, .int, .int, .int, .li, .li, .int, .int], [(.v (.a (.one (.pt 4 0)))), (.v (.a (.one (.pt 5 0)))), (.v (.a (.one (.int .i64)))), (.v (.a (.one (.int .i64))))], [.keep, .keep, .keep, .keep, (.box 28 [(.int .i64), (.int .i64), (.sl 6)]), (.box 28 [(.int .i64), (.int .i64), (.sl 7)]), (.row 2 (.I .i64)), (.row 2 (.I .i64))]⟩ (.seq .leaf (.seq .leaf (.seq (.block (.seq .leaf (.seq .leaf (.block (.loop ⟨[6, 8, 9, 20, 21, 24, 25], [.int, .int, .int, .int, .li, .li, .int, .int, .int, .int, .int], [(.v (.a (.one (.pt 4 0)))), (.v (.a (.one (.pt 5 0)))), (.v (.a (.one (.int .i64)))), (.v (.a (.one (.int .i64)))), (.v (.a (.one (.int .i64)))), (.v (.a (.one (.int .i64)))), (.v (.a (.one (.int .i64))))], [.keep, .keep, .keep, .keep, (.box 28 [(.int .i64), (.int .i64), (.sl 6)]), (.box 28 [(.int .i64), (.int .i64), (.sl 7)]), (.row 2 (.I .i64)), (.row 2 (.I .i64))]⟩ .leaf))))) .leaf)))))) .leaf)))), []⟩
noncomputable def impl_built__ShiftHeights_1.i : FnI := impl_built__ShiftHeights_1.ib impl_areWithin.wp impl_ShiftHeights_1.wp impl_Heights_told.wp
noncomputable def impl_built__ShiftHeights_1.bd (w_impl_areWithin : List Int → Int → Int → (Bool → Prop) → Prop) (w_impl_ShiftHeights_1 : Int → Int → List Int → Int → Int → Int → Int → (Int → Prop) → Prop) (w_impl_Heights_told : List Int → Int → Int → (List Int → Int → Int → Bool → Prop) → Prop) : Int → Int → List Int → Int → Int → Int → Int → (List Int → Int → Int → Bool → Prop) → Prop := (impl_built__ShiftHeights_1.ib w_impl_areWithin w_impl_ShiftHeights_1 w_impl_Heights_told).W impl_built__ShiftHeights_1.g
noncomputable def impl_built__ShiftHeights_1.wp : Int → Int → List Int → Int → Int → Int → Int → (List Int → Int → Int → Bool → Prop) → Prop := impl_built__ShiftHeights_1.bd impl_areWithin.wp impl_ShiftHeights_1.wp impl_Heights_told.wp
noncomputable def impl_built__ShiftHeights_1.c : Ctr := impl_built__ShiftHeights_1.g.ctr impl_built__ShiftHeights_1.wp

-- loop.example/g01247/impl.ShiftHeights
noncomputable def impl_ShiftHeights.g : Sig := ⟨30, [(.v (.a (.agg [(.int .i64), (.int .i64), (.sl 0)]))), (.v (.a (.one (.int .i64)))), (.v (.a (.one (.int .i64))))], [(.rd (.I .i64))], [.li, .int, .int, .int, .int], [(.tup [(.a (.agg [(.int .i64), (.int .i64), (.sl 1)])), (.a (.one .bool))])], [.keep, (.row 2 (.I .i64))], [.li, .int, .int, .bool]⟩
noncomputable def impl_ShiftHeights.ib (w_impl_ValidHeights : List Int → Int → Int → (Bool → Prop) → Prop) (w_impl_areWithin : List Int → Int → Int → (Bool → Prop) → Prop) (w_impl_built__ShiftHeights_1 : Int → Int → List Int → Int → Int → Int → Int → (List Int → Int → Int → Bool → Prop) → Prop) : FnI := ⟨Try.prog, [], [impl_ValidHeights.g.ctr w_impl_ValidHeights, impl_areWithin.g.ctr w_impl_areWithin, impl_built__ShiftHeights_1.g.ctr w_impl_built__ShiftHeights_1], 27, [.cell 6 28, .tmp 7], bodyOf Try.f30, .leaf, []⟩
noncomputable def impl_ShiftHeights.i : FnI := impl_ShiftHeights.ib impl_ValidHeights.wp impl_areWithin.wp impl_built__ShiftHeights_1.wp
noncomputable def impl_ShiftHeights.bd (w_impl_ValidHeights : List Int → Int → Int → (Bool → Prop) → Prop) (w_impl_areWithin : List Int → Int → Int → (Bool → Prop) → Prop) (w_impl_built__ShiftHeights_1 : Int → Int → List Int → Int → Int → Int → Int → (List Int → Int → Int → Bool → Prop) → Prop) : List Int → Int → Int → Int → Int → (List Int → Int → Int → Bool → Prop) → Prop := (impl_ShiftHeights.ib w_impl_ValidHeights w_impl_areWithin w_impl_built__ShiftHeights_1).W impl_ShiftHeights.g
noncomputable def impl_ShiftHeights.wp : List Int → Int → Int → Int → Int → (List Int → Int → Int → Bool → Prop) → Prop := impl_ShiftHeights.bd impl_ValidHeights.wp impl_areWithin.wp impl_built__ShiftHeights_1.wp
noncomputable def impl_ShiftHeights.c : Ctr := impl_ShiftHeights.g.ctr impl_ShiftHeights.wp

-- loop.example/g01247/impl.AddHeights$1
noncomputable def impl_AddHeights_1.g : Sig := ⟨78, [(.v (.a (.one (.int .i64)))), (.v (.a (.one (.int .i64)))), (.v (.a (.one (.pt 0 0)))), (.v (.a (.one (.pt 2 0))))], [(.rdb [(.int .i64), (.int .i64), (.sl 1)]), (.rd (.I .i64)), (.rdb [(.int .i64), (.int .i64), (.sl 3)]), (.rd (.I .i64))], [.int, .int, .li, .int, .int, .li, .int, .int], [(.v (.a (.one (.int .i64))))], [.keep, .keep, .keep, .keep], [.int]⟩
noncomputable def impl_AddHeights_1.ib (w_impl_Heights_top : List Int → Int → Int → Int → Int → (Int → Prop) → Prop) : FnI := ⟨Try.prog, [], [impl_Heights_top.g.ctr w_impl_Heights_top], 16, [.tmp 6], bodyOf Try.f78, .leaf, []⟩
noncomputable def impl_AddHeights_1.i : FnI := impl_AddHeights_1.ib impl_Heights_top.wp
noncomputable def impl_AddHeights_1.bd (w_impl_Heights_top : List Int → Int → Int → Int → Int → (Int → Prop) → Prop) : Int → Int → List Int → Int → Int → List Int → Int → Int → (Int → Prop) → Prop := (impl_AddHeights_1.ib w_impl_Heights_top).W impl_AddHeights_1.g
noncomputable def impl_AddHeights_1.wp : Int → Int → List Int → Int → Int → List Int → Int → Int → (Int → Prop) → Prop := impl_AddHeights_1.bd impl_Heights_top.wp
noncomputable def impl_AddHeights_1.c : Ctr := impl_AddHeights_1.g.ctr impl_AddHeights_1.wp

-- loop.example/g01247/impl.built
noncomputable def impl_built__AddHeights_1.g : Sig := ⟨76, [(.v (.a (.one (.int .i64)))), (.v (.a (.one (.int .i64)))), (.v (.fn 78 [] [(.one (.pt 0 0)), (.one (.pt 2 0))]))], [(.rdb [(.int .i64), (.int .i64), (.sl 1)]), (.rd (.I .i64)), (.rdb [(.int .i64), (.int .i64), (.sl 3)]), (.rd (.I .i64))], [.int, .int, .li, .int, .int, .li, .int, .int], [(.tup [(.a (.agg [(.int .i64), (.int .i64), (.sl 4)])), (.a (.one .bool))])], [.keep, .keep, .keep, .keep, (.row 2 (.I .i64))], [.li, .int, .int, .bool]⟩
noncomputable def impl_built__AddHeights_1.ib (w_impl_areWithin : List Int → Int → Int → (Bool → Prop) → Prop) (w_impl_AddHeights_1 : Int → Int → List Int → Int → Int → List Int → Int → Int → (Int → Prop) → Prop) (w_impl_Heights_told : List Int → Int → Int → (List Int → Int → Int → Bool → Prop) → Prop) : FnI := ⟨Try.prog, [], [impl_areWithin.g.ctr w_impl_areWithin, impl_AddHeights_1.g.ctr w_impl_AddHeights_1, impl_Heights_told.g.ctr w_impl_Heights_told], 43, [.cell 6 28, .tmp 7], bodyOf Try.f76, (.seq .leaf (.seq .leaf (.seq .leaf (.seq (.seq .leaf (.block (.loop ⟨[6, 8, 20, 21], [.int, .int, .int, .int, .li, .li, .int, .int], [(.v (.a (.one (.pt 4 0)))), (.v (.a (.one (.pt 5 0)))), (.v (.a (.one (.int .i64)))), (.v (.a (.one (.int .i64))))], [.keep, .keep, .keep, .keep, (.box 28 [(.int .i64), (.int .i64), (.sl 6)]), (.box 28 [(.int .i64), (.int .i64), (.sl 7)]), (.row 2 (.I .i64)), (.row 2 (.I .i64))]⟩ (.seq .leaf (.seq .leaf (.seq (.block (.seq .leaf (.seq .leaf (.block (.loop ⟨[6, 8, 9, 20, 21, 24, 25], [.int, .int, .int, .int, .li, .li, .int, .int, .int, .int, .int], [(.v (.a (.one (.pt 4 0)))), (.v (.a (.one (.pt 5 0)))), (.v (.a (.one (.int .i64)))), (.v (.a (.one (.int .i64)))), (.v (.a (.one (.int .i64)))), (.v (.a (.one (.int .i64)))), (.v (.a (.one (.int .i64))))], [.keep, .keep, .keep, .keep, (.box 28 [(.int .i64), (.int .i64), (.sl 6)]), (.box 28 [(.int .i64), (.int .i64), (.sl 7)]), (.row 2 (.I .i64)), (.row 2 (.I .i64))]⟩ .leaf))))) .leaf)))))) .leaf)))), []⟩
noncomputable def impl_built__AddHeights_1.i : FnI := impl_built__AddHeights_1.ib impl_areWithin.wp impl_AddHeights_1.wp impl_Heights_told.wp
noncomputable def impl_built__AddHeights_1.bd (w_impl_areWithin : List Int → Int → Int → (Bool → Prop) → Prop) (w_impl_AddHeights_1 : Int → Int → List Int → Int → Int → List Int → Int → Int → (Int → Prop) → Prop) (w_impl_Heights_told : List Int → Int → Int → (List Int → Int → Int → Bool → Prop) → Prop) : Int → Int → List Int → Int → Int → List Int → Int → Int → (List Int → Int → Int → Bool → Prop) → Prop := (impl_built__AddHeights_1.ib w_impl_areWithin w_impl_AddHeights_1 w_impl_Heights_told).W impl_built__AddHeights_1.g
noncomputable def impl_built__AddHeights_1.wp : Int → Int → List Int → Int → Int → List Int → Int → Int → (List Int → Int → Int → Bool → Prop) → Prop := impl_built__AddHeights_1.bd impl_areWithin.wp impl_AddHeights_1.wp impl_Heights_told.wp
noncomputable def impl_built__AddHeights_1.c : Ctr := impl_built__AddHeights_1.g.ctr impl_built__AddHeights_1.wp

-- loop.example/g01247/impl.AddHeights
noncomputable def impl_AddHeights.g : Sig := ⟨31, [(.v (.a (.agg [(.int .i64), (.int .i64), (.sl 0)]))), (.v (.a (.agg [(.int .i64), (.int .i64), (.sl 1)])))], [(.rd (.I .i64)), (.rd (.I .i64))], [.li, .li, .int, .int, .int, .int], [(.tup [(.a (.agg [(.int .i64), (.int .i64), (.sl 2)])), (.a (.one .bool))])], [.keep, .keep, (.row 2 (.I .i64))], [.li, .int, .int, .bool]⟩
noncomputable def impl_AddHeights.ib (w_impl_ValidHeights : List Int → Int → Int → (Bool → Prop) → Prop) (w_impl_built__AddHeights_1 : Int → Int → List Int → Int → Int → List Int → Int → Int → (List Int → Int → Int → Bool → Prop) → Prop) : FnI := ⟨Try.prog, [], [impl_ValidHeights.g.ctr w_impl_ValidHeights, impl_built__AddHeights_1.g.ctr w_impl_built__AddHeights_1], 37, [.cell 4 28, .tmp 5], bodyOf Try.f31, .leaf, []⟩
noncomputable def impl_AddHeights.i : FnI := impl_AddHeights.ib impl_ValidHeights.wp impl_built__AddHeights_1.wp
noncomputable def impl_AddHeights.bd (w_impl_ValidHeights : List Int → Int → Int → (Bool → Prop) → Prop) (w_impl_built__AddHeights_1 : Int → Int → List Int → Int → Int → List Int → Int → Int → (List Int → Int → Int → Bool → Prop) → Prop) : List Int → List Int → Int → Int → Int → Int → (List Int → Int → Int → Bool → Prop) → Prop := (impl_AddHeights.ib w_impl_ValidHeights w_impl_built__AddHeights_1).W impl_AddHeights.g
noncomputable def impl_AddHeights.wp : List Int → List Int → Int → Int → Int → Int → (List Int → Int → Int → Bool → Prop) → Prop := impl_AddHeights.bd impl_ValidHeights.wp impl_built__AddHeights_1.wp
noncomputable def impl_AddHeights.c : Ctr := impl_AddHeights.g.ctr impl_AddHeights.wp

-- loop.example/g01247/impl.UseSeed
noncomputable def impl_UseSeed.g : Sig := ⟨33, [(.v (.a (.one (.int .i64)))), (.v (.a (.one (.int .i64))))], [], [.int, .int], [(.tup [(.a (.one (.int .i64))), (.a (.one (.int .i64))), (.a (.one .bool))])], [], [.int, .int, .bool]⟩
noncomputable def impl_UseSeed.ib (w_impl_isSeed : Int → (Bool → Prop) → Prop) (w_impl_within : Int → Int → Int → (Bool → Prop) → Prop) (w_impl_use : Int → Int → (Int → Int → Prop) → Prop) : FnI := ⟨Try.prog, [], [impl_isSeed.g.ctr w_impl_isSeed, impl_within.g.ctr w_impl_within, impl_use.g.ctr w_impl_use], 20, [.tmp 4, .tmp 5, .tmp 6], bodyOf Try.f33, .leaf, []⟩
noncomputable def impl_UseSeed.i : FnI := impl_UseSeed.ib impl_isSeed.wp impl_within.wp impl_use.wp
noncomputable def impl_UseSeed.bd (w_impl_isSeed : Int → (Bool → Prop) → Prop) (w_impl_within : Int → Int → Int → (Bool → Prop) → Prop) (w_impl_use : Int → Int → (Int → Int → Prop) → Prop) : Int → Int → (Int → Int → Bool → Prop) → Prop := (impl_UseSeed.ib w_impl_isSeed w_impl_within w_impl_use).W impl_UseSeed.g
noncomputable def impl_UseSeed.wp : Int → Int → (Int → Int → Bool → Prop) → Prop := impl_UseSeed.bd impl_isSeed.wp impl_within.wp impl_use.wp
noncomputable def impl_UseSeed.c : Ctr := impl_UseSeed.g.ctr impl_UseSeed.wp

-- loop.example/g01247/impl.FallAt
noncomputable def impl_FallAt.g : Sig := ⟨34, [(.v (.a (.agg [(.int .i64), (.int .i64), (.sl 0)]))), (.v (.a (.one (.int .i64)))), (.v (.a (.one (.int .i64)))), (.v (.a (.one (.int .i64))))], [(.rd (.I .i64))], [.li, .int, .int, .int, .int, .int], [(.tup [(.a (.agg [(.int .i64), (.int .i64), (.sl 1)])), (.a (.one .bool))])], [.keep, (.row 2 (.I .i64))], [.li, .int, .int, .bool]⟩
noncomputable def impl_FallAt.ib (w_impl_Heights_has : List Int → Int → Int → Int → Int → (Bool → Prop) → Prop) (w_impl_within : Int → Int → Int → (Bool → Prop) → Prop) (w_impl_Heights_cloned : List Int → Int → Int → (List Int → Int → Int → Prop) → Prop) (w_impl_Heights_fell : List Int → Int → Int → Int → Int → Int → (List Int → Prop) → Prop) (w_impl_Heights_told : List Int → Int → Int → (List Int → Int → Int → Bool → Prop) → Prop) : FnI := ⟨Try.prog, [], [impl_Heights_has.g.ctr w_impl_Heights_has, impl_within.g.ctr w_impl_within, impl_Heights_cloned.g.ctr w_impl_Heights_cloned, impl_Heights_fell.g.ctr w_impl_Heights_fell, impl_Heights_told.g.ctr w_impl_Heights_told], 32, [.cell 8 28, .tmp 9], bodyOf Try.f34, .leaf, []⟩
noncomputable def impl_FallAt.i : FnI := impl_FallAt.ib impl_Heights_has.wp impl_within.wp impl_Heights_cloned.wp impl_Heights_fell.wp impl_Heights_told.wp
noncomputable def impl_FallAt.bd (w_impl_Heights_has : List Int → Int → Int → Int → Int → (Bool → Prop) → Prop) (w_impl_within : Int → Int → Int → (Bool → Prop) → Prop) (w_impl_Heights_cloned : List Int → Int → Int → (List Int → Int → Int → Prop) → Prop) (w_impl_Heights_fell : List Int → Int → Int → Int → Int → Int → (List Int → Prop) → Prop) (w_impl_Heights_told : List Int → Int → Int → (List Int → Int → Int → Bool → Prop) → Prop) : List Int → Int → Int → Int → Int → Int → (List Int → Int → Int → Bool → Prop) → Prop := (impl_FallAt.ib w_impl_Heights_has w_impl_within w_impl_Heights_cloned w_impl_Heights_fell w_impl_Heights_told).W impl_FallAt.g
noncomputable def impl_FallAt.wp : List Int → Int → Int → Int → Int → Int → (List Int → Int → Int → Bool → Prop) → Prop := impl_FallAt.bd impl_Heights_has.wp impl_within.wp impl_Heights_cloned.wp impl_Heights_fell.wp impl_Heights_told.wp
noncomputable def impl_FallAt.c : Ctr := impl_FallAt.g.ctr impl_FallAt.wp

-- loop.example/g01247/impl.NextSeed
noncomputable def impl_NextSeed.g : Sig := ⟨35, [(.v (.a (.one (.int .i64))))], [], [.int], [(.tup [(.a (.one (.int .i64))), (.a (.one .bool))])], [], [.int, .bool]⟩
noncomputable def impl_NextSeed.ib (w_impl_isSeed : Int → (Bool → Prop) → Prop) (w_impl_draw : Int → (Int → Int → Prop) → Prop) : FnI := ⟨Try.prog, [], [impl_isSeed.g.ctr w_impl_isSeed, impl_draw.g.ctr w_impl_draw], 15, [.tmp 2, .tmp 3], bodyOf Try.f35, .leaf, []⟩
noncomputable def impl_NextSeed.i : FnI := impl_NextSeed.ib impl_isSeed.wp impl_draw.wp
noncomputable def impl_NextSeed.bd (w_impl_isSeed : Int → (Bool → Prop) → Prop) (w_impl_draw : Int → (Int → Int → Prop) → Prop) : Int → (Int → Bool → Prop) → Prop := (impl_NextSeed.ib w_impl_isSeed w_impl_draw).W impl_NextSeed.g
noncomputable def impl_NextSeed.wp : Int → (Int → Bool → Prop) → Prop := impl_NextSeed.bd impl_isSeed.wp impl_draw.wp
noncomputable def impl_NextSeed.c : Ctr := impl_NextSeed.g.ctr impl_NextSeed.wp

-- loop.example/g01247/spec.l05Rule
noncomputable def spec_l05Rule.g : Sig := ⟨82, [(.v (.a (.one (.int .i64))))], [], [.int], [(.v (.a (.one .bool)))], [], [.bool]⟩
noncomputable def spec_l05Rule.ib (w_spec_l00In : Int → Int → Int → (Bool → Prop) → Prop) : FnI := ⟨Try.prog, [], [spec_l00In.g.ctr w_spec_l00In], 5, [.tmp 2], bodyOf Try.f82, .leaf, []⟩
noncomputable def spec_l05Rule.i : FnI := spec_l05Rule.ib spec_l00In.wp
noncomputable def spec_l05Rule.bd (w_spec_l00In : Int → Int → Int → (Bool → Prop) → Prop) : Int → (Bool → Prop) → Prop := (spec_l05Rule.ib w_spec_l00In).W spec_l05Rule.g
noncomputable def spec_l05Rule.wp : Int → (Bool → Prop) → Prop := spec_l05Rule.bd spec_l00In.wp
noncomputable def spec_l05Rule.c : Ctr := spec_l05Rule.g.ctr spec_l05Rule.wp

-- loop.example/g01247/spec.l00Max
noncomputable def spec_l00Max.g : Sig := ⟨110, [(.v (.a (.one (.int .i64)))), (.v (.a (.one (.int .i64))))], [], [.int, .int], [(.v (.a (.one (.int .i64))))], [], [.int]⟩
noncomputable def spec_l00Max.ib  : FnI := ⟨Try.prog, [], [], 10, [.tmp 4], bodyOf Try.f110, .leaf, []⟩
noncomputable def spec_l00Max.i : FnI := spec_l00Max.ib 
noncomputable def spec_l00Max.bd  : Int → Int → (Int → Prop) → Prop := (spec_l00Max.ib ).W spec_l00Max.g
noncomputable def spec_l00Max.wp : Int → Int → (Int → Prop) → Prop := spec_l00Max.bd 
noncomputable def spec_l00Max.c : Ctr := spec_l00Max.g.ctr spec_l00Max.wp

-- loop.example/g01247/spec.l05Fall
noncomputable def spec_l05Fall.g : Sig := ⟨84, [(.v (.a (.one (.pt 0 0)))), (.v (.a (.one (.int .i64)))), (.v (.a (.one (.int .i64))))], [(.rdb [(.int .i64), (.int .i64), (.sl 1)]), (.row 2 (.I .i64))], [.int, .int, .li, .int, .int], [(.tup [])], [.keep, (.row 2 (.I .i64))], [.li]⟩
noncomputable def spec_l05Fall.ib (w_spec_l05Near : Int → Int → List Int → Int → (List Int → Prop) → Prop) (w_spec_l00Max : Int → Int → (Int → Prop) → Prop) : FnI := ⟨Try.prog, [], [spec_l05Near.g.ctr w_spec_l05Near, spec_l00Max.g.ctr w_spec_l00Max], 99, [], bodyOf Try.f84, (.seq .leaf (.seq .leaf (.block (.seq .leaf (.cond (.seq .leaf (.seq (.seq .leaf (.block (.loop ⟨[6, 7, 28, 29], [.li, .li, .int, .int, .int], [(.v (.a (.one (.sl 2)))), (.v (.a (.one (.int .i64)))), (.v (.a (.one (.int .i64)))), (.v (.a (.one (.int .i64))))], [.keep, (.row 2 (.I .i64)), (.row 2 (.I .i64))]⟩ .leaf))) .leaf)) (.seq .leaf (.cond (.seq .leaf (.seq (.seq .leaf (.block (.loop ⟨[6, 9, 75, 76], [.li, .li, .int, .int, .int], [(.v (.a (.one (.sl 2)))), (.v (.a (.one (.int .i64)))), (.v (.a (.one (.int .i64)))), (.v (.a (.one (.int .i64))))], [.keep, (.row 2 (.I .i64)), (.row 2 (.I .i64))]⟩ .leaf))) .leaf)) .leaf))))))), []⟩
noncomputable def spec_l05Fall.i : FnI := spec_l05Fall.ib spec_l05Near.wp spec_l00Max.wp
noncomputable def spec_l05Fall.bd (w_spec_l05Near : Int → Int → List Int → Int → (List Int → Prop) → Prop) (w_spec_l00Max : Int → Int → (Int → Prop) → Prop) : Int → Int → List Int → Int → Int → (List Int → Prop) → Prop := (spec_l05Fall.ib w_spec_l05Near w_spec_l00Max).W spec_l05Fall.g
noncomputable def spec_l05Fall.wp : Int → Int → List Int → Int → Int → (List Int → Prop) → Prop := spec_l05Fall.bd spec_l05Near.wp spec_l00Max.wp
noncomputable def spec_l05Fall.c : Ctr := spec_l05Fall.g.ctr spec_l05Fall.wp

-- loop.example/g01247/spec.l05Give
noncomputable def spec_l05Give.g : Sig := ⟨85, [(.v (.a (.agg [(.int .i64), (.int .i64), (.sl 0)])))], [(.row 2 (.I .i64))], [.li, .int, .int], [(.tup [(.a (.agg [(.int .i64), (.int .i64), (.sl 1)])), (.a (.one .bool))])], [.dead, (.row 2 (.I .i64))], [.li, .int, .int, .bool]⟩
noncomputable def spec_l05Give.ib (w_spec_l05Is : Int → Int → List Int → (Bool → Prop) → Prop) : FnI := ⟨Try.prog, [], [spec_l05Is.g.ctr w_spec_l05Is], 8, [.cell 2 28, .tmp 3], bodyOf Try.f85, .leaf, []⟩
noncomputable def spec_l05Give.i : FnI := spec_l05Give.ib spec_l05Is.wp
noncomputable def spec_l05Give.bd (w_spec_l05Is : Int → Int → List Int → (Bool → Prop) → Prop) : List Int → Int → Int → (List Int → Int → Int → Bool → Prop) → Prop := (spec_l05Give.ib w_spec_l05Is).W spec_l05Give.g
noncomputable def spec_l05Give.wp : List Int → Int → Int → (List Int → Int → Int → Bool → Prop) → Prop := spec_l05Give.bd spec_l05Is.wp
noncomputable def spec_l05Give.c : Ctr := spec_l05Give.g.ctr spec_l05Give.wp

-- loop.example/g01247/spec.FallAt
noncomputable def spec_FallAt.g : Sig := ⟨37, [(.v (.a (.agg [(.int .i64), (.int .i64), (.sl 0)]))), (.v (.a (.one (.int .i64)))), (.v (.a (.one (.int .i64)))), (.v (.a (.one (.int .i64))))], [(.rd (.I .i64))], [.li, .int, .int, .int, .int, .int], [(.tup [(.a (.agg [(.int .i64), (.int .i64), (.sl 1)])), (.a (.one .bool))])], [.keep, (.row 2 (.I .i64))], [.li, .int, .int, .bool]⟩
noncomputable def spec_FallAt.ib (w_spec_l05Cell : Int → Int → List Int → Int → Int → (Bool → Prop) → Prop) (w_spec_l05Rule : Int → (Bool → Prop) → Prop) (w_spec_l05Own : Int → Int → List Int → (List Int → Int → Int → Prop) → Prop) (w_spec_l05Fall : Int → Int → List Int → Int → Int → (List Int → Prop) → Prop) (w_spec_l05Give : List Int → Int → Int → (List Int → Int → Int → Bool → Prop) → Prop) : FnI := ⟨Try.prog, [], [spec_l05Cell.g.ctr w_spec_l05Cell, spec_l05Rule.g.ctr w_spec_l05Rule, spec_l05Own.g.ctr w_spec_l05Own, spec_l05Fall.g.ctr w_spec_l05Fall, spec_l05Give.g.ctr w_spec_l05Give], 34, [.cell 8 28, .tmp 9], bodyOf Try.f37, .leaf, []⟩
noncomputable def spec_FallAt.i : FnI := spec_FallAt.ib spec_l05Cell.wp spec_l05Rule.wp spec_l05Own.wp spec_l05Fall.wp spec_l05Give.wp
noncomputable def spec_FallAt.bd (w_spec_l05Cell : Int → Int → List Int → Int → Int → (Bool → Prop) → Prop) (w_spec_l05Rule : Int → (Bool → Prop) → Prop) (w_spec_l05Own : Int → Int → List Int → (List Int → Int → Int → Prop) → Prop) (w_spec_l05Fall : Int → Int → List Int → Int → Int → (List Int → Prop) → Prop) (w_spec_l05Give : List Int → Int → Int → (List Int → Int → Int → Bool → Prop) → Prop) : List Int → Int → Int → Int → Int → Int → (List Int → Int → Int → Bool → Prop) → Prop := (spec_FallAt.ib w_spec_l05Cell w_spec_l05Rule w_spec_l05Own w_spec_l05Fall w_spec_l05Give).W spec_FallAt.g
noncomputable def spec_FallAt.wp : List Int → Int → Int → Int → Int → Int → (List Int → Int → Int → Bool → Prop) → Prop := spec_FallAt.bd spec_l05Cell.wp spec_l05Rule.wp spec_l05Own.wp spec_l05Fall.wp spec_l05Give.wp
noncomputable def spec_FallAt.c : Ctr := spec_FallAt.g.ctr spec_FallAt.wp

-- loop.example/g01247/laws.FnExactFallAt
noncomputable def laws_FnExactFallAt.g : Sig := ⟨7, [(.v (.a (.agg [(.int .i64), (.int .i64), (.sl 0)]))), (.v (.a (.one (.int .i64)))), (.v (.a (.one (.int .i64)))), (.v (.a (.one (.int .i64))))], [(.rd (.I .i64))], [.li, .int, .int, .int, .int, .int], [(.v (.a (.one .bool)))], [.keep], [.bool]⟩
noncomputable def laws_FnExactFallAt.ib (w_laws_szHeights : List Int → Int → Int → Int → (Int → Prop) → Prop) (w_laws_toHeights : List Int → Int → Int → (List Int → Int → Int → Prop) → Prop) (w_spec_FallAt : List Int → Int → Int → Int → Int → Int → (List Int → Int → Int → Bool → Prop) → Prop) (w_impl_FallAt : List Int → Int → Int → Int → Int → Int → (List Int → Int → Int → Bool → Prop) → Prop) (w_laws_eqHeights : List Int → List Int → Int → Int → Int → Int → (Bool → Prop) → Prop) (w_laws_markHeights : List Int → Int → Int → Int → (List Int → Int → Prop) → Prop) (w_laws_heldHeights : List Int → Int → Int → Int → (Int → Prop) → Prop) : FnI := ⟨Try.prog, [], [laws_szHeights.g.ctr w_laws_szHeights, laws_toHeights.g.ctr w_laws_toHeights, spec_FallAt.g.ctr w_spec_FallAt, impl_FallAt.g.ctr w_impl_FallAt, laws_eqHeights.g.ctr w_laws_eqHeights, laws_markHeights.g.ctr w_laws_markHeights, laws_heldHeights.g.ctr w_laws_heldHeights], 111, [.tmp 8], bodyOf Try.f7, .leaf, []⟩
noncomputable def laws_FnExactFallAt.i : FnI := laws_FnExactFallAt.ib laws_szHeights.wp laws_toHeights.wp spec_FallAt.wp impl_FallAt.wp laws_eqHeights.wp laws_markHeights.wp laws_heldHeights.wp
noncomputable def laws_FnExactFallAt.bd (w_laws_szHeights : List Int → Int → Int → Int → (Int → Prop) → Prop) (w_laws_toHeights : List Int → Int → Int → (List Int → Int → Int → Prop) → Prop) (w_spec_FallAt : List Int → Int → Int → Int → Int → Int → (List Int → Int → Int → Bool → Prop) → Prop) (w_impl_FallAt : List Int → Int → Int → Int → Int → Int → (List Int → Int → Int → Bool → Prop) → Prop) (w_laws_eqHeights : List Int → List Int → Int → Int → Int → Int → (Bool → Prop) → Prop) (w_laws_markHeights : List Int → Int → Int → Int → (List Int → Int → Prop) → Prop) (w_laws_heldHeights : List Int → Int → Int → Int → (Int → Prop) → Prop) : List Int → Int → Int → Int → Int → Int → (Bool → Prop) → Prop := (laws_FnExactFallAt.ib w_laws_szHeights w_laws_toHeights w_spec_FallAt w_impl_FallAt w_laws_eqHeights w_laws_markHeights w_laws_heldHeights).W laws_FnExactFallAt.g
noncomputable def laws_FnExactFallAt.wp : List Int → Int → Int → Int → Int → Int → (Bool → Prop) → Prop := laws_FnExactFallAt.bd laws_szHeights.wp laws_toHeights.wp spec_FallAt.wp impl_FallAt.wp laws_eqHeights.wp laws_markHeights.wp laws_heldHeights.wp
noncomputable def laws_FnExactFallAt.c : Ctr := laws_FnExactFallAt.g.ctr laws_FnExactFallAt.wp

-- loop.example/g01247/spec.l05Seed
noncomputable def spec_l05Seed.g : Sig := ⟨87, [(.v (.a (.one (.int .i64))))], [], [.int], [(.v (.a (.one .bool)))], [], [.bool]⟩
noncomputable def spec_l05Seed.ib (w_spec_l00In : Int → Int → Int → (Bool → Prop) → Prop) : FnI := ⟨Try.prog, [], [spec_l00In.g.ctr w_spec_l00In], 5, [.tmp 2], bodyOf Try.f87, .leaf, []⟩
noncomputable def spec_l05Seed.i : FnI := spec_l05Seed.ib spec_l00In.wp
noncomputable def spec_l05Seed.bd (w_spec_l00In : Int → Int → Int → (Bool → Prop) → Prop) : Int → (Bool → Prop) → Prop := (spec_l05Seed.ib w_spec_l00In).W spec_l05Seed.g
noncomputable def spec_l05Seed.wp : Int → (Bool → Prop) → Prop := spec_l05Seed.bd spec_l00In.wp
noncomputable def spec_l05Seed.c : Ctr := spec_l05Seed.g.ctr spec_l05Seed.wp

-- loop.example/g01247/spec.l05Next
noncomputable def spec_l05Next.g : Sig := ⟨111, [(.v (.a (.one (.int .i64))))], [], [.int], [(.v (.a (.one (.int .i64))))], [], [.int]⟩
noncomputable def spec_l05Next.ib  : FnI := ⟨Try.prog, [], [], 7, [.tmp 2], bodyOf Try.f111, .leaf, []⟩
noncomputable def spec_l05Next.i : FnI := spec_l05Next.ib 
noncomputable def spec_l05Next.bd  : Int → (Int → Prop) → Prop := (spec_l05Next.ib ).W spec_l05Next.g
noncomputable def spec_l05Next.wp : Int → (Int → Prop) → Prop := spec_l05Next.bd 
noncomputable def spec_l05Next.c : Ctr := spec_l05Next.g.ctr spec_l05Next.wp

-- loop.example/g01247/spec.l05Draw
noncomputable def spec_l05Draw.g : Sig := ⟨88, [(.v (.a (.one (.int .i64)))), (.v (.a (.one (.int .i64))))], [], [.int, .int], [(.tup [(.a (.one (.int .i64))), (.a (.one (.int .i64)))])], [], [.int, .int]⟩
noncomputable def spec_l05Draw.ib (w_spec_l05Next : Int → (Int → Prop) → Prop) : FnI := ⟨Try.prog, [], [spec_l05Next.g.ctr w_spec_l05Next], 14, [.tmp 4, .tmp 5], bodyOf Try.f88, .leaf, []⟩
noncomputable def spec_l05Draw.i : FnI := spec_l05Draw.ib spec_l05Next.wp
noncomputable def spec_l05Draw.bd (w_spec_l05Next : Int → (Int → Prop) → Prop) : Int → Int → (Int → Int → Prop) → Prop := (spec_l05Draw.ib w_spec_l05Next).W spec_l05Draw.g
noncomputable def spec_l05Draw.wp : Int → Int → (Int → Int → Prop) → Prop := spec_l05Draw.bd spec_l05Next.wp
noncomputable def spec_l05Draw.c : Ctr := spec_l05Draw.g.ctr spec_l05Draw.wp

-- loop.example/g01247/spec.RainOn
noncomputable def spec_RainOn.g : Sig := ⟨38, [(.v (.a (.agg [(.int .i64), (.int .i64), (.sl 0)]))), (.v (.a (.one (.int .i64)))), (.v (.a (.one (.int .i64)))), (.v (.a (.one (.int .i64))))], [(.rd (.I .i64))], [.li, .int, .int, .int, .int, .int], [(.tup [(.a (.agg [(.int .i64), (.int .i64), (.sl 1)])), (.a (.one (.int .i64))), (.a (.one .bool))])], [.keep, (.row 2 (.I .i64))], [.li, .int, .int, .int, .bool]⟩
noncomputable def spec_RainOn.ib (w_spec_l05Is : Int → Int → List Int → (Bool → Prop) → Prop) (w_spec_l05Rule : Int → (Bool → Prop) → Prop) (w_spec_l00In : Int → Int → Int → (Bool → Prop) → Prop) (w_spec_l05Seed : Int → (Bool → Prop) → Prop) (w_spec_l05Own : Int → Int → List Int → (List Int → Int → Int → Prop) → Prop) (w_spec_l05Draw : Int → Int → (Int → Int → Prop) → Prop) (w_spec_l05Fall : Int → Int → List Int → Int → Int → (List Int → Prop) → Prop) : FnI := ⟨Try.prog, [], [spec_l05Is.g.ctr w_spec_l05Is, spec_l05Rule.g.ctr w_spec_l05Rule, spec_l00In.g.ctr w_spec_l00In, spec_l05Seed.g.ctr w_spec_l05Seed, spec_l05Own.g.ctr w_spec_l05Own, spec_l05Draw.g.ctr w_spec_l05Draw, spec_l05Fall.g.ctr w_spec_l05Fall], 67, [.cell 8 28, .tmp 9, .tmp 10], bodyOf Try.f38, (.seq .leaf (.seq .leaf (.seq .leaf (.seq (.block (.loop ⟨[2, 3, 4, 8, 11], [.int, .int, .int, .int, .int, .int, .li, .li, .int, .int], [(.v (.a (.one (.int .i64)))), (.v (.a (.one (.int .i64)))), (.v (.a (.one (.pt 1 0)))), (.v (.a (.one (.pt 2 0)))), (.v (.a (.one (.pt 3 0))))], [.keep, (.box 28 [(.int .i64), (.int .i64), (.sl 0)]), (.box 28 [(.int .i64), (.int .i64), (.sl 4)]), (.box 28 [(.int .i64), (.int .i64), (.sl 5)]), (.row 2 (.I .i64)), (.row 2 (.I .i64))]⟩ .leaf)) .leaf)))), [2, 3]⟩
noncomputable def spec_RainOn.i : FnI := spec_RainOn.ib spec_l05Is.wp spec_l05Rule.wp spec_l00In.wp spec_l05Seed.wp spec_l05Own.wp spec_l05Draw.wp spec_l05Fall.wp
noncomputable def spec_RainOn.bd (w_spec_l05Is : Int → Int → List Int → (Bool → Prop) → Prop) (w_spec_l05Rule : Int → (Bool → Prop) → Prop) (w_spec_l00In : Int → Int → Int → (Bool → Prop) → Prop) (w_spec_l05Seed : Int → (Bool → Prop) → Prop) (w_spec_l05Own : Int → Int → List Int → (List Int → Int → Int → Prop) → Prop) (w_spec_l05Draw : Int → Int → (Int → Int → Prop) → Prop) (w_spec_l05Fall : Int → Int → List Int → Int → Int → (List Int → Prop) → Prop) : List Int → Int → Int → Int → Int → Int → (List Int → Int → Int → Int → Bool → Prop) → Prop := (spec_RainOn.ib w_spec_l05Is w_spec_l05Rule w_spec_l00In w_spec_l05Seed w_spec_l05Own w_spec_l05Draw w_spec_l05Fall).W spec_RainOn.g
noncomputable def spec_RainOn.wp : List Int → Int → Int → Int → Int → Int → (List Int → Int → Int → Int → Bool → Prop) → Prop := spec_RainOn.bd spec_l05Is.wp spec_l05Rule.wp spec_l00In.wp spec_l05Seed.wp spec_l05Own.wp spec_l05Draw.wp spec_l05Fall.wp
noncomputable def spec_RainOn.c : Ctr := spec_RainOn.g.ctr spec_RainOn.wp

-- loop.example/g01247/laws.FnExactRainOn
noncomputable def laws_FnExactRainOn.g : Sig := ⟨8, [(.v (.a (.agg [(.int .i64), (.int .i64), (.sl 0)]))), (.v (.a (.one (.int .i64)))), (.v (.a (.one (.int .i64)))), (.v (.a (.one (.int .i64))))], [(.rd (.I .i64))], [.li, .int, .int, .int, .int, .int], [(.v (.a (.one .bool)))], [.keep], [.bool]⟩
noncomputable def laws_FnExactRainOn.ib (w_laws_szHeights : List Int → Int → Int → Int → (Int → Prop) → Prop) (w_laws_toHeights : List Int → Int → Int → (List Int → Int → Int → Prop) → Prop) (w_spec_RainOn : List Int → Int → Int → Int → Int → Int → (List Int → Int → Int → Int → Bool → Prop) → Prop) (w_impl_RainOn : List Int → Int → Int → Int → Int → Int → (List Int → Int → Int → Int → Bool → Prop) → Prop) (w_laws_eqHeights : List Int → List Int → Int → Int → Int → Int → (Bool → Prop) → Prop) (w_laws_markHeights : List Int → Int → Int → Int → (List Int → Int → Prop) → Prop) (w_laws_heldHeights : List Int → Int → Int → Int → (Int → Prop) → Prop) : FnI := ⟨Try.prog, [], [laws_szHeights.g.ctr w_laws_szHeights, laws_toHeights.g.ctr w_laws_toHeights, spec_RainOn.g.ctr w_spec_RainOn, impl_RainOn.g.ctr w_impl_RainOn, laws_eqHeights.g.ctr w_laws_eqHeights, laws_markHeights.g.ctr w_laws_markHeights, laws_heldHeights.g.ctr w_laws_heldHeights], 132, [.tmp 8], bodyOf Try.f8, .leaf, []⟩
noncomputable def laws_FnExactRainOn.i : FnI := laws_FnExactRainOn.ib laws_szHeights.wp laws_toHeights.wp spec_RainOn.wp impl_RainOn.wp laws_eqHeights.wp laws_markHeights.wp laws_heldHeights.wp
noncomputable def laws_FnExactRainOn.bd (w_laws_szHeights : List Int → Int → Int → Int → (Int → Prop) → Prop) (w_laws_toHeights : List Int → Int → Int → (List Int → Int → Int → Prop) → Prop) (w_spec_RainOn : List Int → Int → Int → Int → Int → Int → (List Int → Int → Int → Int → Bool → Prop) → Prop) (w_impl_RainOn : List Int → Int → Int → Int → Int → Int → (List Int → Int → Int → Int → Bool → Prop) → Prop) (w_laws_eqHeights : List Int → List Int → Int → Int → Int → Int → (Bool → Prop) → Prop) (w_laws_markHeights : List Int → Int → Int → Int → (List Int → Int → Prop) → Prop) (w_laws_heldHeights : List Int → Int → Int → Int → (Int → Prop) → Prop) : List Int → Int → Int → Int → Int → Int → (Bool → Prop) → Prop := (laws_FnExactRainOn.ib w_laws_szHeights w_laws_toHeights w_spec_RainOn w_impl_RainOn w_laws_eqHeights w_laws_markHeights w_laws_heldHeights).W laws_FnExactRainOn.g
noncomputable def laws_FnExactRainOn.wp : List Int → Int → Int → Int → Int → Int → (Bool → Prop) → Prop := laws_FnExactRainOn.bd laws_szHeights.wp laws_toHeights.wp spec_RainOn.wp impl_RainOn.wp laws_eqHeights.wp laws_markHeights.wp laws_heldHeights.wp
noncomputable def laws_FnExactRainOn.c : Ctr := laws_FnExactRainOn.g.ctr laws_FnExactRainOn.wp

-- loop.example/g01247/spec.l05Flow
noncomputable def spec_l05Flow.g : Sig := ⟨112, [(.v (.a (.one (.pt 0 0)))), (.v (.a (.one (.int .i64)))), (.v (.a (.one (.int .i64))))], [(.rdb [(.int .i64), (.int .i64), (.sl 1)]), (.rd (.I .i64))], [.int, .int, .li, .int, .int], [(.tup [(.a (.agg [(.int .i64), (.int .i64), (.sl 2)])), (.a (.one .bool))])], [.keep, .keep, (.row 2 (.I .i64))], [.li, .int, .int, .bool]⟩
noncomputable def spec_l05Flow.ib (w_spec_l05Own : Int → Int → List Int → (List Int → Int → Int → Prop) → Prop) (w_spec_l05Near : Int → Int → List Int → Int → (List Int → Prop) → Prop) : FnI := ⟨Try.prog, [], [spec_l05Own.g.ctr w_spec_l05Own, spec_l05Near.g.ctr w_spec_l05Near], 82, [.cell 6 28, .tmp 7], bodyOf Try.f112, (.seq .leaf (.seq .leaf (.seq .leaf (.seq (.seq .leaf (.block (.loop ⟨[6, 8, 9, 20, 21], [.int, .int, .int, .int, .li, .li, .bool, .int, .int], [(.v (.a (.one (.pt 2 0)))), (.v (.a (.one (.pt 3 0)))), (.v (.a (.one .bool))), (.v (.a (.one (.int .i64)))), (.v (.a (.one (.int .i64))))], [.keep, .keep, (.box 28 [(.int .i64), (.int .i64), (.sl 4)]), (.box 28 [(.int .i64), (.int .i64), (.sl 5)]), (.row 2 (.I .i64)), (.row 2 (.I .i64))]⟩ (.seq .leaf (.seq .leaf (.seq (.block (.seq .leaf (.seq .leaf (.seq .leaf (.seq (.seq .leaf (.block (.loop ⟨[6, 8, 9, 10, 11, 12, 20, 21, 28, 29], [.int, .int, .int, .int, .li, .li, .li, .bool, .int, .int, .int, .int, .int, .int], [(.v (.a (.one (.pt 2 0)))), (.v (.a (.one (.pt 3 0)))), (.v (.a (.one .bool))), (.v (.a (.one (.int .i64)))), (.v (.a (.one (.sl 4)))), (.v (.a (.one (.int .i64)))), (.v (.a (.one (.int .i64)))), (.v (.a (.one (.int .i64)))), (.v (.a (.one (.int .i64)))), (.v (.a (.one (.int .i64))))], [.keep, .keep, (.box 28 [(.int .i64), (.int .i64), (.sl 5)]), (.box 28 [(.int .i64), (.int .i64), (.sl 6)]), (.row 2 (.I .i64)), (.row 2 (.I .i64)), (.row 2 (.I .i64))]⟩ .leaf))) .leaf))))) .leaf)))))) .leaf)))), []⟩
noncomputable def spec_l05Flow.i : FnI := spec_l05Flow.ib spec_l05Own.wp spec_l05Near.wp
noncomputable def spec_l05Flow.bd (w_spec_l05Own : Int → Int → List Int → (List Int → Int → Int → Prop) → Prop) (w_spec_l05Near : Int → Int → List Int → Int → (List Int → Prop) → Prop) : Int → Int → List Int → Int → Int → (List Int → Int → Int → Bool → Prop) → Prop := (spec_l05Flow.ib w_spec_l05Own w_spec_l05Near).W spec_l05Flow.g
noncomputable def spec_l05Flow.wp : Int → Int → List Int → Int → Int → (List Int → Int → Int → Bool → Prop) → Prop := spec_l05Flow.bd spec_l05Own.wp spec_l05Near.wp
noncomputable def spec_l05Flow.c : Ctr := spec_l05Flow.g.ctr spec_l05Flow.wp

-- loop.example/g01247/spec.l05Flows
noncomputable def spec_l05Flows.g : Sig := ⟨89, [(.v (.a (.one (.pt 0 0)))), (.v (.a (.one (.int .i64)))), (.v (.a (.one (.int .i64)))), (.v (.a (.one (.int .i64))))], [(.rdb [(.int .i64), (.int .i64), (.sl 1)]), (.rd (.I .i64))], [.int, .int, .li, .int, .int, .int], [(.tup [(.a (.agg [(.int .i64), (.int .i64), (.sl 2)])), (.a (.one .bool))])], [.keep, .keep, (.row 2 (.I .i64))], [.li, .int, .int, .bool]⟩
noncomputable def spec_l05Flows.ib (w_spec_l05Is : Int → Int → List Int → (Bool → Prop) → Prop) (w_spec_l00In : Int → Int → Int → (Bool → Prop) → Prop) (w_spec_l05Own : Int → Int → List Int → (List Int → Int → Int → Prop) → Prop) (w_spec_l05Flow : Int → Int → List Int → Int → Int → (List Int → Int → Int → Bool → Prop) → Prop) (w_spec_l05Give : List Int → Int → Int → (List Int → Int → Int → Bool → Prop) → Prop) : FnI := ⟨Try.prog, [], [spec_l05Is.g.ctr w_spec_l05Is, spec_l00In.g.ctr w_spec_l00In, spec_l05Own.g.ctr w_spec_l05Own, spec_l05Flow.g.ctr w_spec_l05Flow, spec_l05Give.g.ctr w_spec_l05Give], 46, [.cell 8 28, .tmp 9], bodyOf Try.f89, (.seq .leaf (.seq .leaf (.seq .leaf (.seq (.block (.loop ⟨[2, 8, 10], [.int, .int, .int, .int, .li, .li, .int], [(.v (.a (.one (.int .i64)))), (.v (.a (.one (.pt 2 0)))), (.v (.a (.one (.pt 3 0))))], [.keep, .keep, (.box 28 [(.int .i64), (.int .i64), (.sl 4)]), (.box 28 [(.int .i64), (.int .i64), (.sl 5)]), (.row 2 (.I .i64)), (.row 2 (.I .i64))]⟩ .leaf)) .leaf)))), [2]⟩
noncomputable def spec_l05Flows.i : FnI := spec_l05Flows.ib spec_l05Is.wp spec_l00In.wp spec_l05Own.wp spec_l05Flow.wp spec_l05Give.wp
noncomputable def spec_l05Flows.bd (w_spec_l05Is : Int → Int → List Int → (Bool → Prop) → Prop) (w_spec_l00In : Int → Int → Int → (Bool → Prop) → Prop) (w_spec_l05Own : Int → Int → List Int → (List Int → Int → Int → Prop) → Prop) (w_spec_l05Flow : Int → Int → List Int → Int → Int → (List Int → Int → Int → Bool → Prop) → Prop) (w_spec_l05Give : List Int → Int → Int → (List Int → Int → Int → Bool → Prop) → Prop) : Int → Int → List Int → Int → Int → Int → (List Int → Int → Int → Bool → Prop) → Prop := (spec_l05Flows.ib w_spec_l05Is w_spec_l00In w_spec_l05Own w_spec_l05Flow w_spec_l05Give).W spec_l05Flows.g
noncomputable def spec_l05Flows.wp : Int → Int → List Int → Int → Int → Int → (List Int → Int → Int → Bool → Prop) → Prop := spec_l05Flows.bd spec_l05Is.wp spec_l00In.wp spec_l05Own.wp spec_l05Flow.wp spec_l05Give.wp
noncomputable def spec_l05Flows.c : Ctr := spec_l05Flows.g.ctr spec_l05Flows.wp

-- loop.example/g01247/spec.FlowSteps
noncomputable def spec_FlowSteps.g : Sig := ⟨39, [(.v (.a (.agg [(.int .i64), (.int .i64), (.sl 0)]))), (.v (.a (.one (.int .i64)))), (.v (.a (.one (.int .i64))))], [(.rd (.I .i64))], [.li, .int, .int, .int, .int], [(.tup [(.a (.agg [(.int .i64), (.int .i64), (.sl 1)])), (.a (.one .bool))])], [.keep, (.row 2 (.I .i64))], [.li, .int, .int, .bool]⟩
noncomputable def spec_FlowSteps.ib (w_spec_l05Flows : Int → Int → List Int → Int → Int → Int → (List Int → Int → Int → Bool → Prop) → Prop) : FnI := ⟨Try.prog, [], [spec_l05Flows.g.ctr w_spec_l05Flows], 13, [.cell 6 28, .tmp 7], bodyOf Try.f39, .leaf, []⟩
noncomputable def spec_FlowSteps.i : FnI := spec_FlowSteps.ib spec_l05Flows.wp
noncomputable def spec_FlowSteps.bd (w_spec_l05Flows : Int → Int → List Int → Int → Int → Int → (List Int → Int → Int → Bool → Prop) → Prop) : List Int → Int → Int → Int → Int → (List Int → Int → Int → Bool → Prop) → Prop := (spec_FlowSteps.ib w_spec_l05Flows).W spec_FlowSteps.g
noncomputable def spec_FlowSteps.wp : List Int → Int → Int → Int → Int → (List Int → Int → Int → Bool → Prop) → Prop := spec_FlowSteps.bd spec_l05Flows.wp
noncomputable def spec_FlowSteps.c : Ctr := spec_FlowSteps.g.ctr spec_FlowSteps.wp

-- loop.example/g01247/impl.FlowSteps$1$1
noncomputable def impl_FlowSteps_1_1.g : Sig := ⟨92, [(.v (.a (.one (.int .i64)))), (.v (.a (.one (.pt 0 0))))], [(.rdb [(.int .i64)])], [.int, .int], [(.v (.a (.one .bool)))], [.keep], [.bool]⟩
noncomputable def impl_FlowSteps_1_1.ib  : FnI := ⟨Try.prog, [], [], 7, [.tmp 3], bodyOf Try.f92, .leaf, []⟩
noncomputable def impl_FlowSteps_1_1.i : FnI := impl_FlowSteps_1_1.ib 
noncomputable def impl_FlowSteps_1_1.bd  : Int → Int → (Bool → Prop) → Prop := (impl_FlowSteps_1_1.ib ).W impl_FlowSteps_1_1.g
noncomputable def impl_FlowSteps_1_1.wp : Int → Int → (Bool → Prop) → Prop := impl_FlowSteps_1_1.bd 
noncomputable def impl_FlowSteps_1_1.c : Ctr := impl_FlowSteps_1_1.g.ctr impl_FlowSteps_1_1.wp

-- (loop.example/g01247/impl.Heights).count
noncomputable def impl_Heights_count__FlowSteps_1_1.g : Sig := ⟨53, [(.v (.a (.agg [(.int .i64), (.int .i64), (.sl 0)]))), (.v (.a (.one (.int .i64)))), (.v (.a (.one (.int .i64)))), (.v (.fn 92 [] [(.one (.pt 1 0))]))], [(.rd (.I .i64)), (.rdb [(.int .i64)])], [.li, .int, .int, .int, .int, .int], [(.v (.a (.one (.int .i64))))], [.keep, .keep], [.int]⟩
noncomputable def impl_Heights_count__FlowSteps_1_1.ib (w_impl_Heights_beside : List Int → Int → Int → Int → Int → (List Int → Prop) → Prop) (w_impl_FlowSteps_1_1 : Int → Int → (Bool → Prop) → Prop) : FnI := ⟨Try.prog, [], [impl_Heights_beside.g.ctr w_impl_Heights_beside, impl_FlowSteps_1_1.g.ctr w_impl_FlowSteps_1_1], 32, [.tmp 8], bodyOf Try.f53, (.seq .leaf (.seq .leaf (.seq (.seq .leaf (.block (.loop ⟨[4, 9, 15, 16, 17], [.int, .int, .li, .int, .int, .int], [(.v (.a (.one (.pt 2 0)))), (.v (.a (.one (.int .i64)))), (.v (.a (.one (.sl 3)))), (.v (.a (.one (.int .i64)))), (.v (.a (.one (.int .i64))))], [.keep, .keep, (.box 28 [(.int .i64), (.int .i64), (.sl 0)]), (.row 2 (.I .i64))]⟩ .leaf))) .leaf))), []⟩
noncomputable def impl_Heights_count__FlowSteps_1_1.i : FnI := impl_Heights_count__FlowSteps_1_1.ib impl_Heights_beside.wp impl_FlowSteps_1_1.wp
noncomputable def impl_Heights_count__FlowSteps_1_1.bd (w_impl_Heights_beside : List Int → Int → Int → Int → Int → (List Int → Prop) → Prop) (w_impl_FlowSteps_1_1 : Int → Int → (Bool → Prop) → Prop) : List Int → Int → Int → Int → Int → Int → (Int → Prop) → Prop := (impl_Heights_count__FlowSteps_1_1.ib w_impl_Heights_beside w_impl_FlowSteps_1_1).W impl_Heights_count__FlowSteps_1_1.g
noncomputable def impl_Heights_count__FlowSteps_1_1.wp : List Int → Int → Int → Int → Int → Int → (Int → Prop) → Prop := impl_Heights_count__FlowSteps_1_1.bd impl_Heights_beside.wp impl_FlowSteps_1_1.wp
noncomputable def impl_Heights_count__FlowSteps_1_1.c : Ctr := impl_Heights_count__FlowSteps_1_1.g.ctr impl_Heights_count__FlowSteps_1_1.wp

-- loop.example/g01247/impl.FlowSteps$1
noncomputable def impl_FlowSteps_1.g : Sig := ⟨91, [(.v (.a (.agg [(.int .i64), (.int .i64), (.sl 0)]))), (.v (.a (.one (.int .i64)))), (.v (.a (.one (.int .i64)))), (.v (.a (.one (.int .i64))))], [(.rd (.I .i64))], [.li, .int, .int, .int, .int, .int], [(.v (.a (.one (.int .i64))))], [.keep], [.int]⟩
noncomputable def impl_FlowSteps_1.ib (w_impl_Heights_top : List Int → Int → Int → Int → Int → (Int → Prop) → Prop) (w_impl_Heights_count__FlowSteps_1_1 : List Int → Int → Int → Int → Int → Int → (Int → Prop) → Prop) : FnI := ⟨Try.prog, [], [impl_Heights_top.g.ctr w_impl_Heights_top, impl_Heights_count__FlowSteps_1_1.g.ctr w_impl_Heights_count__FlowSteps_1_1], 24, [.tmp 8], bodyOf Try.f91, .leaf, []⟩
noncomputable def impl_FlowSteps_1.i : FnI := impl_FlowSteps_1.ib impl_Heights_top.wp impl_Heights_count__FlowSteps_1_1.wp
noncomputable def impl_FlowSteps_1.bd (w_impl_Heights_top : List Int → Int → Int → Int → Int → (Int → Prop) → Prop) (w_impl_Heights_count__FlowSteps_1_1 : List Int → Int → Int → Int → Int → Int → (Int → Prop) → Prop) : List Int → Int → Int → Int → Int → Int → (Int → Prop) → Prop := (impl_FlowSteps_1.ib w_impl_Heights_top w_impl_Heights_count__FlowSteps_1_1).W impl_FlowSteps_1.g
noncomputable def impl_FlowSteps_1.wp : List Int → Int → Int → Int → Int → Int → (Int → Prop) → Prop := impl_FlowSteps_1.bd impl_Heights_top.wp impl_Heights_count__FlowSteps_1_1.wp
noncomputable def impl_FlowSteps_1.c : Ctr := impl_FlowSteps_1.g.ctr impl_FlowSteps_1.wp

-- slices.Equal[[]int64,int64]
noncomputable def slices_Equal_int64_int64.g : Sig := ⟨81, [(.v (.a (.one (.sl 0)))), (.v (.a (.one (.sl 1))))], [(.rd (.I .i64)), (.rd (.I .i64))], [.li, .li], [(.v (.a (.one .bool)))], [.keep, .keep], [.bool]⟩
noncomputable def slices_Equal_int64_int64.ib  : FnI := ⟨Try.prog, [], [], 26, [.tmp 4], bodyOf Try.f81, (.seq .leaf (.seq .leaf (.seq (.seq .leaf (.block (.loop ⟨[12, 13], [.int, .int], [(.v (.a (.one (.int .i64)))), (.v (.a (.one (.int .i64))))], [.keep, .keep]⟩ .leaf))) .leaf))), []⟩
noncomputable def slices_Equal_int64_int64.i : FnI := slices_Equal_int64_int64.ib 
noncomputable def slices_Equal_int64_int64.bd  : List Int → List Int → (Bool → Prop) → Prop := (slices_Equal_int64_int64.ib ).W slices_Equal_int64_int64.g
noncomputable def slices_Equal_int64_int64.wp : List Int → List Int → (Bool → Prop) → Prop := slices_Equal_int64_int64.bd 
noncomputable def slices_Equal_int64_int64.c : Ctr := slices_Equal_int64_int64.g.ctr slices_Equal_int64_int64.wp

-- loop.example/g01247/impl.SameHeights
noncomputable def impl_SameHeights.g : Sig := ⟨36, [(.v (.a (.agg [(.int .i64), (.int .i64), (.sl 0)]))), (.v (.a (.agg [(.int .i64), (.int .i64), (.sl 1)])))], [(.rd (.I .i64)), (.rd (.I .i64))], [.li, .li, .int, .int, .int, .int], [(.v (.a (.one .bool)))], [.keep, .keep], [.bool]⟩
noncomputable def impl_SameHeights.ib (w_slices_Equal_int64_int64 : List Int → List Int → (Bool → Prop) → Prop) : FnI := ⟨Try.prog, [], [slices_Equal_int64_int64.g.ctr w_slices_Equal_int64_int64], 24, [.tmp 4], bodyOf Try.f36, .leaf, []⟩
noncomputable def impl_SameHeights.i : FnI := impl_SameHeights.ib slices_Equal_int64_int64.wp
noncomputable def impl_SameHeights.bd (w_slices_Equal_int64_int64 : List Int → List Int → (Bool → Prop) → Prop) : List Int → List Int → Int → Int → Int → Int → (Bool → Prop) → Prop := (impl_SameHeights.ib w_slices_Equal_int64_int64).W impl_SameHeights.g
noncomputable def impl_SameHeights.wp : List Int → List Int → Int → Int → Int → Int → (Bool → Prop) → Prop := impl_SameHeights.bd slices_Equal_int64_int64.wp
noncomputable def impl_SameHeights.c : Ctr := impl_SameHeights.g.ctr impl_SameHeights.wp

-- (loop.example/g01247/impl.Heights).turned
noncomputable def impl_Heights_turned__FlowSteps_1.g : Sig := ⟨90, [(.v (.a (.agg [(.int .i64), (.int .i64), (.sl 0)]))), (.v (.a (.one (.int .i64)))), (.v (.a (.one (.int .i64)))), (.v (.fn 91 [] []))], [(.rd (.I .i64))], [.li, .int, .int, .int, .int], [(.tup [(.a (.agg [(.int .i64), (.int .i64), (.sl 1)])), (.a (.one .bool))])], [.keep, (.row 2 (.I .i64))], [.li, .int, .int, .bool]⟩
noncomputable def impl_Heights_turned__FlowSteps_1.ib (w_impl_ValidHeights : List Int → Int → Int → (Bool → Prop) → Prop) (w_impl_within : Int → Int → Int → (Bool → Prop) → Prop) (w_impl_Heights_cloned : List Int → Int → Int → (List Int → Int → Int → Prop) → Prop) (w_impl_FlowSteps_1 : List Int → Int → Int → Int → Int → Int → (Int → Prop) → Prop) (w_impl_SameHeights : List Int → List Int → Int → Int → Int → Int → (Bool → Prop) → Prop) (w_impl_Heights_told : List Int → Int → Int → (List Int → Int → Int → Bool → Prop) → Prop) : FnI := ⟨Try.prog, [], [impl_ValidHeights.g.ctr w_impl_ValidHeights, impl_within.g.ctr w_impl_within, impl_Heights_cloned.g.ctr w_impl_Heights_cloned, impl_FlowSteps_1.g.ctr w_impl_FlowSteps_1, impl_SameHeights.g.ctr w_impl_SameHeights, impl_Heights_told.g.ctr w_impl_Heights_told], 65, [.cell 8 28, .tmp 9], bodyOf Try.f90, (.seq .leaf (.seq .leaf (.seq .leaf (.seq (.seq .leaf (.block (.loop ⟨[4, 8, 28, 29], [.int, .int, .int, .int, .li, .li, .int, .int], [(.v (.a (.one (.pt 1 0)))), (.v (.a (.one (.pt 2 0)))), (.v (.a (.one (.int .i64)))), (.v (.a (.one (.int .i64))))], [.keep, (.box 28 [(.int .i64), (.int .i64), (.sl 3)]), (.box 28 [(.int .i64), (.int .i64), (.sl 4)]), (.row 2 (.I .i64)), (.row 2 (.I .i64))]⟩ (.seq .leaf (.seq .leaf (.seq (.block (.seq .leaf (.seq (.seq .leaf (.block (.loop ⟨[4, 8, 10, 28, 29, 35, 36], [.int, .int, .int, .int, .int, .int, .li, .li, .li, .int, .int, .int, .int], [(.v (.a (.one (.pt 1 0)))), (.v (.a (.one (.pt 2 0)))), (.v (.a (.one (.pt 3 0)))), (.v (.a (.one (.int .i64)))), (.v (.a (.one (.int .i64)))), (.v (.a (.one (.int .i64)))), (.v (.a (.one (.int .i64))))], [.keep, (.box 28 [(.int .i64), (.int .i64), (.sl 4)]), (.box 28 [(.int .i64), (.int .i64), (.sl 5)]), (.box 28 [(.int .i64), (.int .i64), (.sl 6)]), (.row 2 (.I .i64)), (.row 2 (.I .i64)), (.row 2 (.I .i64))]⟩ .leaf))) .leaf))) .leaf)))))) .leaf)))), []⟩
noncomputable def impl_Heights_turned__FlowSteps_1.i : FnI := impl_Heights_turned__FlowSteps_1.ib impl_ValidHeights.wp impl_within.wp impl_Heights_cloned.wp impl_FlowSteps_1.wp impl_SameHeights.wp impl_Heights_told.wp
noncomputable def impl_Heights_turned__FlowSteps_1.bd (w_impl_ValidHeights : List Int → Int → Int → (Bool → Prop) → Prop) (w_impl_within : Int → Int → Int → (Bool → Prop) → Prop) (w_impl_Heights_cloned : List Int → Int → Int → (List Int → Int → Int → Prop) → Prop) (w_impl_FlowSteps_1 : List Int → Int → Int → Int → Int → Int → (Int → Prop) → Prop) (w_impl_SameHeights : List Int → List Int → Int → Int → Int → Int → (Bool → Prop) → Prop) (w_impl_Heights_told : List Int → Int → Int → (List Int → Int → Int → Bool → Prop) → Prop) : List Int → Int → Int → Int → Int → (List Int → Int → Int → Bool → Prop) → Prop := (impl_Heights_turned__FlowSteps_1.ib w_impl_ValidHeights w_impl_within w_impl_Heights_cloned w_impl_FlowSteps_1 w_impl_SameHeights w_impl_Heights_told).W impl_Heights_turned__FlowSteps_1.g
noncomputable def impl_Heights_turned__FlowSteps_1.wp : List Int → Int → Int → Int → Int → (List Int → Int → Int → Bool → Prop) → Prop := impl_Heights_turned__FlowSteps_1.bd impl_ValidHeights.wp impl_within.wp impl_Heights_cloned.wp impl_FlowSteps_1.wp impl_SameHeights.wp impl_Heights_told.wp
noncomputable def impl_Heights_turned__FlowSteps_1.c : Ctr := impl_Heights_turned__FlowSteps_1.g.ctr impl_Heights_turned__FlowSteps_1.wp

-- loop.example/g01247/impl.FlowSteps
noncomputable def impl_FlowSteps.g : Sig := ⟨40, [(.v (.a (.agg [(.int .i64), (.int .i64), (.sl 0)]))), (.v (.a (.one (.int .i64)))), (.v (.a (.one (.int .i64))))], [(.rd (.I .i64))], [.li, .int, .int, .int, .int], [(.tup [(.a (.agg [(.int .i64), (.int .i64), (.sl 1)])), (.a (.one .bool))])], [.keep, (.row 2 (.I .i64))], [.li, .int, .int, .bool]⟩
noncomputable def impl_FlowSteps.ib (w_impl_Heights_turned__FlowSteps_1 : List Int → Int → Int → Int → Int → (List Int → Int → Int → Bool → Prop) → Prop) : FnI := ⟨Try.prog, [], [impl_Heights_turned__FlowSteps_1.g.ctr w_impl_Heights_turned__FlowSteps_1], 14, [.cell 6 28, .tmp 7], bodyOf Try.f40, .leaf, []⟩
noncomputable def impl_FlowSteps.i : FnI := impl_FlowSteps.ib impl_Heights_turned__FlowSteps_1.wp
noncomputable def impl_FlowSteps.bd (w_impl_Heights_turned__FlowSteps_1 : List Int → Int → Int → Int → Int → (List Int → Int → Int → Bool → Prop) → Prop) : List Int → Int → Int → Int → Int → (List Int → Int → Int → Bool → Prop) → Prop := (impl_FlowSteps.ib w_impl_Heights_turned__FlowSteps_1).W impl_FlowSteps.g
noncomputable def impl_FlowSteps.wp : List Int → Int → Int → Int → Int → (List Int → Int → Int → Bool → Prop) → Prop := impl_FlowSteps.bd impl_Heights_turned__FlowSteps_1.wp
noncomputable def impl_FlowSteps.c : Ctr := impl_FlowSteps.g.ctr impl_FlowSteps.wp

-- loop.example/g01247/laws.FnExactFlowSteps
noncomputable def laws_FnExactFlowSteps.g : Sig := ⟨9, [(.v (.a (.agg [(.int .i64), (.int .i64), (.sl 0)]))), (.v (.a (.one (.int .i64)))), (.v (.a (.one (.int .i64))))], [(.rd (.I .i64))], [.li, .int, .int, .int, .int], [(.v (.a (.one .bool)))], [.keep], [.bool]⟩
noncomputable def laws_FnExactFlowSteps.ib (w_laws_szHeights : List Int → Int → Int → Int → (Int → Prop) → Prop) (w_laws_toHeights : List Int → Int → Int → (List Int → Int → Int → Prop) → Prop) (w_spec_FlowSteps : List Int → Int → Int → Int → Int → (List Int → Int → Int → Bool → Prop) → Prop) (w_impl_FlowSteps : List Int → Int → Int → Int → Int → (List Int → Int → Int → Bool → Prop) → Prop) (w_laws_eqHeights : List Int → List Int → Int → Int → Int → Int → (Bool → Prop) → Prop) (w_laws_markHeights : List Int → Int → Int → Int → (List Int → Int → Prop) → Prop) (w_laws_heldHeights : List Int → Int → Int → Int → (Int → Prop) → Prop) : FnI := ⟨Try.prog, [], [laws_szHeights.g.ctr w_laws_szHeights, laws_toHeights.g.ctr w_laws_toHeights, spec_FlowSteps.g.ctr w_spec_FlowSteps, impl_FlowSteps.g.ctr w_impl_FlowSteps, laws_eqHeights.g.ctr w_laws_eqHeights, laws_markHeights.g.ctr w_laws_markHeights, laws_heldHeights.g.ctr w_laws_heldHeights], 106, [.tmp 6], bodyOf Try.f9, .leaf, []⟩
noncomputable def laws_FnExactFlowSteps.i : FnI := laws_FnExactFlowSteps.ib laws_szHeights.wp laws_toHeights.wp spec_FlowSteps.wp impl_FlowSteps.wp laws_eqHeights.wp laws_markHeights.wp laws_heldHeights.wp
noncomputable def laws_FnExactFlowSteps.bd (w_laws_szHeights : List Int → Int → Int → Int → (Int → Prop) → Prop) (w_laws_toHeights : List Int → Int → Int → (List Int → Int → Int → Prop) → Prop) (w_spec_FlowSteps : List Int → Int → Int → Int → Int → (List Int → Int → Int → Bool → Prop) → Prop) (w_impl_FlowSteps : List Int → Int → Int → Int → Int → (List Int → Int → Int → Bool → Prop) → Prop) (w_laws_eqHeights : List Int → List Int → Int → Int → Int → Int → (Bool → Prop) → Prop) (w_laws_markHeights : List Int → Int → Int → Int → (List Int → Int → Prop) → Prop) (w_laws_heldHeights : List Int → Int → Int → Int → (Int → Prop) → Prop) : List Int → Int → Int → Int → Int → (Bool → Prop) → Prop := (laws_FnExactFlowSteps.ib w_laws_szHeights w_laws_toHeights w_spec_FlowSteps w_impl_FlowSteps w_laws_eqHeights w_laws_markHeights w_laws_heldHeights).W laws_FnExactFlowSteps.g
noncomputable def laws_FnExactFlowSteps.wp : List Int → Int → Int → Int → Int → (Bool → Prop) → Prop := laws_FnExactFlowSteps.bd laws_szHeights.wp laws_toHeights.wp spec_FlowSteps.wp impl_FlowSteps.wp laws_eqHeights.wp laws_markHeights.wp laws_heldHeights.wp
noncomputable def laws_FnExactFlowSteps.c : Ctr := laws_FnExactFlowSteps.g.ctr laws_FnExactFlowSteps.wp

-- math.NaN
noncomputable def math_NaN.g : Sig := ⟨118, [], [], [], [(.v (.a (.one (.flt .f64))))], [], [.flt]⟩
noncomputable def math_NaN.ib  : FnI := ⟨Try.prog, [(128, .from64)], [], 2, [.tmp 0], bodyOf Try.f118, .leaf, []⟩
noncomputable def math_NaN.i : FnI := math_NaN.ib 
noncomputable def math_NaN.bd  : (Nat → Prop) → Prop := (math_NaN.ib ).W math_NaN.g
noncomputable def math_NaN.wp : (Nat → Prop) → Prop := math_NaN.bd 
noncomputable def math_NaN.c : Ctr := math_NaN.g.ctr math_NaN.wp

-- math.Abs
noncomputable def math_Abs.g : Sig := ⟨123, [(.v (.a (.one (.flt .f64))))], [], [.flt], [(.v (.a (.one (.flt .f64))))], [], [.flt]⟩
noncomputable def math_Abs.ib  : FnI := ⟨Try.prog, [(128, .from64), (129, .bits64)], [], 7, [.tmp 2], bodyOf Try.f123, .leaf, []⟩
noncomputable def math_Abs.i : FnI := math_Abs.ib 
noncomputable def math_Abs.bd  : Nat → (Nat → Prop) → Prop := (math_Abs.ib ).W math_Abs.g
noncomputable def math_Abs.wp : Nat → (Nat → Prop) → Prop := math_Abs.bd 
noncomputable def math_Abs.c : Ctr := math_Abs.g.ctr math_Abs.wp

-- math.Sqrt
noncomputable def math_Sqrt.g : Sig := ⟨99, [(.v (.a (.one (.flt .f64))))], [], [.flt], [(.v (.a (.one (.flt .f64))))], [], [.flt]⟩
noncomputable def math_Sqrt.ib  : FnI := ⟨Try.prog, [(120, .sqrt)], [], 5, [.tmp 2], bodyOf Try.f99, .leaf, []⟩
noncomputable def math_Sqrt.i : FnI := math_Sqrt.ib 
noncomputable def math_Sqrt.bd  : Nat → (Nat → Prop) → Prop := (math_Sqrt.ib ).W math_Sqrt.g
noncomputable def math_Sqrt.wp : Nat → (Nat → Prop) → Prop := math_Sqrt.bd 
noncomputable def math_Sqrt.c : Ctr := math_Sqrt.g.ctr math_Sqrt.wp

-- loop.example/g01247/spec.l01AngleWide
noncomputable def spec_l01AngleWide.g : Sig := ⟨114, [(.v (.a (.one (.flt .f64)))), (.v (.a (.one (.flt .f64))))], [], [.flt, .flt], [(.v (.a (.one (.flt .f64))))], [], [.flt]⟩
noncomputable def spec_l01AngleWide.ib (w_math_NaN : (Nat → Prop) → Prop) (w_math_Abs : Nat → (Nat → Prop) → Prop) (w_math_Sqrt : Nat → (Nat → Prop) → Prop) : FnI := ⟨Try.prog, [], [math_NaN.g.ctr w_math_NaN, math_Abs.g.ctr w_math_Abs, math_Sqrt.g.ctr w_math_Sqrt], 88, [.tmp 4], bodyOf Try.f114, (.seq .leaf (.seq .leaf (.seq .leaf (.seq .leaf (.seq .leaf (.seq .leaf (.seq .leaf (.seq (.seq .leaf (.condJ ⟨[7, 8], [.bool, .flt], [(.v (.a (.one .bool))), (.v (.a (.one (.flt .f64))))], []⟩ .leaf .leaf)) (.seq (.seq .leaf (.block (.loop ⟨[7, 8, 9], [.bool, .flt, .int], [(.v (.a (.one .bool))), (.v (.a (.one (.flt .f64)))), (.v (.a (.one (.int .i64))))], []⟩ .leaf))) (.seq .leaf (.seq .leaf (.seq (.seq .leaf (.block (.loop ⟨[7, 8, 10, 11, 12], [.bool, .flt, .flt, .flt, .int], [(.v (.a (.one .bool))), (.v (.a (.one (.flt .f64)))), (.v (.a (.one (.flt .f64)))), (.v (.a (.one (.flt .f64)))), (.v (.a (.one (.int .i64))))], []⟩ .leaf))) .leaf)))))))))))), []⟩
noncomputable def spec_l01AngleWide.i : FnI := spec_l01AngleWide.ib math_NaN.wp math_Abs.wp math_Sqrt.wp
noncomputable def spec_l01AngleWide.bd (w_math_NaN : (Nat → Prop) → Prop) (w_math_Abs : Nat → (Nat → Prop) → Prop) (w_math_Sqrt : Nat → (Nat → Prop) → Prop) : Nat → Nat → (Nat → Prop) → Prop := (spec_l01AngleWide.ib w_math_NaN w_math_Abs w_math_Sqrt).W spec_l01AngleWide.g
noncomputable def spec_l01AngleWide.wp : Nat → Nat → (Nat → Prop) → Prop := spec_l01AngleWide.bd math_NaN.wp math_Abs.wp math_Sqrt.wp
noncomputable def spec_l01AngleWide.c : Ctr := spec_l01AngleWide.g.ctr spec_l01AngleWide.wp

-- loop.example/g01247/spec.l01Narrow
noncomputable def spec_l01Narrow.g : Sig := ⟨113, [(.v (.a (.one (.flt .f64))))], [], [.flt], [(.v (.a (.one (.flt .f32))))], [], [.flt]⟩
noncomputable def spec_l01Narrow.ib  : FnI := ⟨Try.prog, [], [], 5, [.tmp 2], bodyOf Try.f113, .leaf, []⟩
noncomputable def spec_l01Narrow.i : FnI := spec_l01Narrow.ib 
noncomputable def spec_l01Narrow.bd  : Nat → (Nat → Prop) → Prop := (spec_l01Narrow.ib ).W spec_l01Narrow.g
noncomputable def spec_l01Narrow.wp : Nat → (Nat → Prop) → Prop := spec_l01Narrow.bd 
noncomputable def spec_l01Narrow.c : Ctr := spec_l01Narrow.g.ctr spec_l01Narrow.wp

-- loop.example/g01247/spec.l01Angle
noncomputable def spec_l01Angle.g : Sig := ⟨94, [(.v (.a (.one (.flt .f32)))), (.v (.a (.one (.flt .f32))))], [], [.flt, .flt], [(.v (.a (.one (.flt .f32))))], [], [.flt]⟩
noncomputable def spec_l01Angle.ib (w_spec_l01AngleWide : Nat → Nat → (Nat → Prop) → Prop) (w_spec_l01Narrow : Nat → (Nat → Prop) → Prop) : FnI := ⟨Try.prog, [], [spec_l01AngleWide.g.ctr w_spec_l01AngleWide, spec_l01Narrow.g.ctr w_spec_l01Narrow], 11, [.tmp 4], bodyOf Try.f94, .leaf, []⟩
noncomputable def spec_l01Angle.i : FnI := spec_l01Angle.ib spec_l01AngleWide.wp spec_l01Narrow.wp
noncomputable def spec_l01Angle.bd (w_spec_l01AngleWide : Nat → Nat → (Nat → Prop) → Prop) (w_spec_l01Narrow : Nat → (Nat → Prop) → Prop) : Nat → Nat → (Nat → Prop) → Prop := (spec_l01Angle.ib w_spec_l01AngleWide w_spec_l01Narrow).W spec_l01Angle.g
noncomputable def spec_l01Angle.wp : Nat → Nat → (Nat → Prop) → Prop := spec_l01Angle.bd spec_l01AngleWide.wp spec_l01Narrow.wp
noncomputable def spec_l01Angle.c : Ctr := spec_l01Angle.g.ctr spec_l01Angle.wp

-- math.IsNaN
noncomputable def math_IsNaN.g : Sig := ⟨124, [(.v (.a (.one (.flt .f64))))], [], [.flt], [(.v (.a (.one .bool)))], [], [.bool]⟩
noncomputable def math_IsNaN.ib  : FnI := ⟨Try.prog, [], [], 6, [.tmp 2], bodyOf Try.f124, .leaf, []⟩
noncomputable def math_IsNaN.i : FnI := math_IsNaN.ib 
noncomputable def math_IsNaN.bd  : Nat → (Bool → Prop) → Prop := (math_IsNaN.ib ).W math_IsNaN.g
noncomputable def math_IsNaN.wp : Nat → (Bool → Prop) → Prop := math_IsNaN.bd 
noncomputable def math_IsNaN.c : Ctr := math_IsNaN.g.ctr math_IsNaN.wp

-- math.IsInf
noncomputable def math_IsInf.g : Sig := ⟨125, [(.v (.a (.one (.flt .f64)))), (.v (.a (.one (.int .i64))))], [], [.flt, .int], [(.v (.a (.one .bool)))], [], [.bool]⟩
noncomputable def math_IsInf.ib (w_math_Abs : Nat → (Nat → Prop) → Prop) : FnI := ⟨Try.prog, [], [math_Abs.g.ctr w_math_Abs], 15, [.tmp 4], bodyOf Try.f125, .leaf, [0]⟩
noncomputable def math_IsInf.i : FnI := math_IsInf.ib math_Abs.wp
noncomputable def math_IsInf.bd (w_math_Abs : Nat → (Nat → Prop) → Prop) : Nat → Int → (Bool → Prop) → Prop := (math_IsInf.ib w_math_Abs).W math_IsInf.g
noncomputable def math_IsInf.wp : Nat → Int → (Bool → Prop) → Prop := math_IsInf.bd math_Abs.wp
noncomputable def math_IsInf.c : Ctr := math_IsInf.g.ctr math_IsInf.wp

-- math.Copysign
noncomputable def math_Copysign.g : Sig := ⟨131, [(.v (.a (.one (.flt .f64)))), (.v (.a (.one (.flt .f64))))], [], [.flt, .flt], [(.v (.a (.one (.flt .f64))))], [], [.flt]⟩
noncomputable def math_Copysign.ib  : FnI := ⟨Try.prog, [(128, .from64), (129, .bits64)], [], 13, [.tmp 4], bodyOf Try.f131, .leaf, []⟩
noncomputable def math_Copysign.i : FnI := math_Copysign.ib 
noncomputable def math_Copysign.bd  : Nat → Nat → (Nat → Prop) → Prop := (math_Copysign.ib ).W math_Copysign.g
noncomputable def math_Copysign.wp : Nat → Nat → (Nat → Prop) → Prop := math_Copysign.bd 
noncomputable def math_Copysign.c : Ctr := math_Copysign.g.ctr math_Copysign.wp

-- math.trunc
noncomputable def math_trunc.g : Sig := ⟨133, [(.v (.a (.one (.flt .f64))))], [], [.flt], [(.v (.a (.one (.flt .f64))))], [], [.flt]⟩
noncomputable def math_trunc.ib (w_math_Abs : Nat → (Nat → Prop) → Prop) (w_math_Copysign : Nat → Nat → (Nat → Prop) → Prop) : FnI := ⟨Try.prog, [(128, .from64), (129, .bits64)], [math_Abs.g.ctr w_math_Abs, math_Copysign.g.ctr w_math_Copysign], 26, [.tmp 2], bodyOf Try.f133, .leaf, []⟩
noncomputable def math_trunc.i : FnI := math_trunc.ib math_Abs.wp math_Copysign.wp
noncomputable def math_trunc.bd (w_math_Abs : Nat → (Nat → Prop) → Prop) (w_math_Copysign : Nat → Nat → (Nat → Prop) → Prop) : Nat → (Nat → Prop) → Prop := (math_trunc.ib w_math_Abs w_math_Copysign).W math_trunc.g
noncomputable def math_trunc.wp : Nat → (Nat → Prop) → Prop := math_trunc.bd math_Abs.wp math_Copysign.wp
noncomputable def math_trunc.c : Ctr := math_trunc.g.ctr math_trunc.wp

-- math.Trunc
noncomputable def math_Trunc.g : Sig := ⟨130, [(.v (.a (.one (.flt .f64))))], [], [.flt], [(.v (.a (.one (.flt .f64))))], [], [.flt]⟩
noncomputable def math_Trunc.ib (w_math_trunc : Nat → (Nat → Prop) → Prop) : FnI := ⟨Try.prog, [(132, .trunc)], [math_trunc.g.ctr w_math_trunc], 7, [.tmp 2], bodyOf Try.f130, .leaf, []⟩
noncomputable def math_Trunc.i : FnI := math_Trunc.ib math_trunc.wp
noncomputable def math_Trunc.bd (w_math_trunc : Nat → (Nat → Prop) → Prop) : Nat → (Nat → Prop) → Prop := (math_Trunc.ib w_math_trunc).W math_Trunc.g
noncomputable def math_Trunc.wp : Nat → (Nat → Prop) → Prop := math_Trunc.bd math_trunc.wp
noncomputable def math_Trunc.c : Ctr := math_Trunc.g.ctr math_Trunc.wp

-- math.Modf
noncomputable def math_Modf.g : Sig := ⟨126, [(.v (.a (.one (.flt .f64))))], [], [.flt], [(.tup [(.a (.one (.flt .f64))), (.a (.one (.flt .f64)))])], [], [.flt, .flt]⟩
noncomputable def math_Modf.ib (w_math_Trunc : Nat → (Nat → Prop) → Prop) (w_math_Copysign : Nat → Nat → (Nat → Prop) → Prop) : FnI := ⟨Try.prog, [], [math_Trunc.g.ctr w_math_Trunc, math_Copysign.g.ctr w_math_Copysign], 11, [.tmp 2, .tmp 3], bodyOf Try.f126, .leaf, []⟩
noncomputable def math_Modf.i : FnI := math_Modf.ib math_Trunc.wp math_Copysign.wp
noncomputable def math_Modf.bd (w_math_Trunc : Nat → (Nat → Prop) → Prop) (w_math_Copysign : Nat → Nat → (Nat → Prop) → Prop) : Nat → (Nat → Nat → Prop) → Prop := (math_Modf.ib w_math_Trunc w_math_Copysign).W math_Modf.g
noncomputable def math_Modf.wp : Nat → (Nat → Nat → Prop) → Prop := math_Modf.bd math_Trunc.wp math_Copysign.wp
noncomputable def math_Modf.c : Ctr := math_Modf.g.ctr math_Modf.wp

-- math.floor
noncomputable def math_floor.g : Sig := ⟨116, [(.v (.a (.one (.flt .f64))))], [], [.flt], [(.v (.a (.one (.flt .f64))))], [], [.flt]⟩
noncomputable def math_floor.ib (w_math_IsNaN : Nat → (Bool → Prop) → Prop) (w_math_IsInf : Nat → Int → (Bool → Prop) → Prop) (w_math_Modf : Nat → (Nat → Nat → Prop) → Prop) : FnI := ⟨Try.prog, [], [math_IsNaN.g.ctr w_math_IsNaN, math_IsInf.g.ctr w_math_IsInf, math_Modf.g.ctr w_math_Modf], 38, [.tmp 2], bodyOf Try.f116, .leaf, []⟩
noncomputable def math_floor.i : FnI := math_floor.ib math_IsNaN.wp math_IsInf.wp math_Modf.wp
noncomputable def math_floor.bd (w_math_IsNaN : Nat → (Bool → Prop) → Prop) (w_math_IsInf : Nat → Int → (Bool → Prop) → Prop) (w_math_Modf : Nat → (Nat → Nat → Prop) → Prop) : Nat → (Nat → Prop) → Prop := (math_floor.ib w_math_IsNaN w_math_IsInf w_math_Modf).W math_floor.g
noncomputable def math_floor.wp : Nat → (Nat → Prop) → Prop := math_floor.bd math_IsNaN.wp math_IsInf.wp math_Modf.wp
noncomputable def math_floor.c : Ctr := math_floor.g.ctr math_floor.wp

-- math.Floor
noncomputable def math_Floor.g : Sig := ⟨95, [(.v (.a (.one (.flt .f64))))], [], [.flt], [(.v (.a (.one (.flt .f64))))], [], [.flt]⟩
noncomputable def math_Floor.ib (w_math_floor : Nat → (Nat → Prop) → Prop) : FnI := ⟨Try.prog, [(115, .floor)], [math_floor.g.ctr w_math_floor], 7, [.tmp 2], bodyOf Try.f95, .leaf, []⟩
noncomputable def math_Floor.i : FnI := math_Floor.ib math_floor.wp
noncomputable def math_Floor.bd (w_math_floor : Nat → (Nat → Prop) → Prop) : Nat → (Nat → Prop) → Prop := (math_Floor.ib w_math_floor).W math_Floor.g
noncomputable def math_Floor.wp : Nat → (Nat → Prop) → Prop := math_Floor.bd math_floor.wp
noncomputable def math_Floor.c : Ctr := math_Floor.g.ctr math_Floor.wp

-- loop.example/g01247/spec.ScrewHeights
noncomputable def spec_ScrewHeights.g : Sig := ⟨41, [(.v (.a (.one (.int .i64)))), (.v (.a (.one (.int .i64)))), (.v (.a (.one (.int .i64)))), (.v (.a (.one (.int .i64)))), (.v (.a (.one (.int .i64))))], [], [.int, .int, .int, .int, .int], [(.tup [(.a (.agg [(.int .i64), (.int .i64), (.sl 0)])), (.a (.one .bool))])], [(.row 2 (.I .i64))], [.li, .int, .int, .bool]⟩
noncomputable def spec_ScrewHeights.ib (w_spec_l05Size : Int → Int → (Bool → Prop) → Prop) (w_spec_l00In : Int → Int → Int → (Bool → Prop) → Prop) (w_spec_l01Angle : Nat → Nat → (Nat → Prop) → Prop) (w_math_Floor : Nat → (Nat → Prop) → Prop) (w_spec_l05Give : List Int → Int → Int → (List Int → Int → Int → Bool → Prop) → Prop) : FnI := ⟨Try.prog, [], [spec_l05Size.g.ctr w_spec_l05Size, spec_l00In.g.ctr w_spec_l00In, spec_l01Angle.g.ctr w_spec_l01Angle, math_Floor.g.ctr w_math_Floor, spec_l05Give.g.ctr w_spec_l05Give], 79, [.cell 10 28, .tmp 11], bodyOf Try.f41, (.seq .leaf (.seq .leaf (.seq .leaf (.seq (.seq .leaf (.block (.loop ⟨[10, 12, 13], [.int, .int, .int, .int, .li, .li, .int], [(.v (.a (.one (.pt 0 0)))), (.v (.a (.one (.pt 1 0)))), (.v (.a (.one (.int .i64))))], [(.box 28 [(.int .i64), (.int .i64), (.sl 2)]), (.box 28 [(.int .i64), (.int .i64), (.sl 3)]), (.row 2 (.I .i64)), (.row 2 (.I .i64))]⟩ (.seq .leaf (.seq (.block (.seq .leaf (.block (.loop ⟨[10, 12, 13, 14], [.int, .int, .int, .int, .li, .li, .int, .int], [(.v (.a (.one (.pt 0 0)))), (.v (.a (.one (.pt 1 0)))), (.v (.a (.one (.int .i64)))), (.v (.a (.one (.int .i64))))], [(.box 28 [(.int .i64), (.int .i64), (.sl 2)]), (.box 28 [(.int .i64), (.int .i64), (.sl 3)]), (.row 2 (.I .i64)), (.row 2 (.I .i64))]⟩ .leaf)))) .leaf))))) .leaf)))), []⟩
noncomputable def spec_ScrewHeights.i : FnI := spec_ScrewHeights.ib spec_l05Size.wp spec_l00In.wp spec_l01Angle.wp math_Floor.wp spec_l05Give.wp
noncomputable def spec_ScrewHeights.bd (w_spec_l05Size : Int → Int → (Bool → Prop) → Prop) (w_spec_l00In : Int → Int → Int → (Bool → Prop) → Prop) (w_spec_l01Angle : Nat → Nat → (Nat → Prop) → Prop) (w_math_Floor : Nat → (Nat → Prop) → Prop) (w_spec_l05Give : List Int → Int → Int → (List Int → Int → Int → Bool → Prop) → Prop) : Int → Int → Int → Int → Int → (List Int → Int → Int → Bool → Prop) → Prop := (spec_ScrewHeights.ib w_spec_l05Size w_spec_l00In w_spec_l01Angle w_math_Floor w_spec_l05Give).W spec_ScrewHeights.g
noncomputable def spec_ScrewHeights.wp : Int → Int → Int → Int → Int → (List Int → Int → Int → Bool → Prop) → Prop := spec_ScrewHeights.bd spec_l05Size.wp spec_l00In.wp spec_l01Angle.wp math_Floor.wp spec_l05Give.wp
noncomputable def spec_ScrewHeights.c : Ctr := spec_ScrewHeights.g.ctr spec_ScrewHeights.wp

-- loop.example/g01247/impl.finite
noncomputable def impl_finite.g : Sig := ⟨127, [(.v (.a (.one (.flt .f64))))], [], [.flt], [(.v (.a (.one .bool)))], [], [.bool]⟩
noncomputable def impl_finite.ib (w_math_IsNaN : Nat → (Bool → Prop) → Prop) (w_math_IsInf : Nat → Int → (Bool → Prop) → Prop) : FnI := ⟨Try.prog, [], [math_IsNaN.g.ctr w_math_IsNaN, math_IsInf.g.ctr w_math_IsInf], 11, [.tmp 2], bodyOf Try.f127, .leaf, []⟩
noncomputable def impl_finite.i : FnI := impl_finite.ib math_IsNaN.wp math_IsInf.wp
noncomputable def impl_finite.bd (w_math_IsNaN : Nat → (Bool → Prop) → Prop) (w_math_IsInf : Nat → Int → (Bool → Prop) → Prop) : Nat → (Bool → Prop) → Prop := (impl_finite.ib w_math_IsNaN w_math_IsInf).W impl_finite.g
noncomputable def impl_finite.wp : Nat → (Bool → Prop) → Prop := impl_finite.bd math_IsNaN.wp math_IsInf.wp
noncomputable def impl_finite.c : Ctr := impl_finite.g.ctr impl_finite.wp

-- loop.example/g01247/impl.IsFinite
noncomputable def impl_IsFinite.g : Sig := ⟨117, [(.v (.a (.one (.flt .f32))))], [], [.flt], [(.v (.a (.one .bool)))], [], [.bool]⟩
noncomputable def impl_IsFinite.ib (w_impl_finite : Nat → (Bool → Prop) → Prop) : FnI := ⟨Try.prog, [], [impl_finite.g.ctr w_impl_finite], 6, [.tmp 2], bodyOf Try.f117, .leaf, []⟩
noncomputable def impl_IsFinite.i : FnI := impl_IsFinite.ib impl_finite.wp
noncomputable def impl_IsFinite.bd (w_impl_finite : Nat → (Bool → Prop) → Prop) : Nat → (Bool → Prop) → Prop := (impl_IsFinite.ib w_impl_finite).W impl_IsFinite.g
noncomputable def impl_IsFinite.wp : Nat → (Bool → Prop) → Prop := impl_IsFinite.bd impl_finite.wp
noncomputable def impl_IsFinite.c : Ctr := impl_IsFinite.g.ctr impl_IsFinite.wp

-- loop.example/g01247/impl.angle
noncomputable def impl_angle.g : Sig := ⟨119, [(.v (.a (.one (.flt .f64)))), (.v (.a (.one (.flt .f64))))], [], [.flt, .flt], [(.v (.a (.one (.flt .f64))))], [], [.flt]⟩
noncomputable def impl_angle.ib (w_math_Abs : Nat → (Nat → Prop) → Prop) (w_math_Sqrt : Nat → (Nat → Prop) → Prop) : FnI := ⟨Try.prog, [], [math_Abs.g.ctr w_math_Abs, math_Sqrt.g.ctr w_math_Sqrt], 69, [.tmp 4], bodyOf Try.f119, (.seq .leaf (.seq .leaf (.seq .leaf (.seq (.seq .leaf (.condJ ⟨[5, 6, 7], [.flt, .flt, .flt], [(.v (.a (.one (.flt .f64)))), (.v (.a (.one (.flt .f64)))), (.v (.a (.one (.flt .f64))))], []⟩ .leaf .leaf)) (.seq (.seq .leaf (.block (.loop ⟨[5, 6, 7, 25], [.flt, .flt, .flt, .int], [(.v (.a (.one (.flt .f64)))), (.v (.a (.one (.flt .f64)))), (.v (.a (.one (.flt .f64)))), (.v (.a (.one (.int .i64))))], []⟩ .leaf))) (.seq .leaf (.seq (.seq .leaf (.block (.loop ⟨[5, 6, 7, 8, 9, 10], [.flt, .flt, .flt, .flt, .flt, .int], [(.v (.a (.one (.flt .f64)))), (.v (.a (.one (.flt .f64)))), (.v (.a (.one (.flt .f64)))), (.v (.a (.one (.flt .f64)))), (.v (.a (.one (.flt .f64)))), (.v (.a (.one (.int .i64))))], []⟩ .leaf))) .leaf))))))), []⟩
noncomputable def impl_angle.i : FnI := impl_angle.ib math_Abs.wp math_Sqrt.wp
noncomputable def impl_angle.bd (w_math_Abs : Nat → (Nat → Prop) → Prop) (w_math_Sqrt : Nat → (Nat → Prop) → Prop) : Nat → Nat → (Nat → Prop) → Prop := (impl_angle.ib w_math_Abs w_math_Sqrt).W impl_angle.g
noncomputable def impl_angle.wp : Nat → Nat → (Nat → Prop) → Prop := impl_angle.bd math_Abs.wp math_Sqrt.wp
noncomputable def impl_angle.c : Ctr := impl_angle.g.ctr impl_angle.wp

-- loop.example/g01247/impl.AngleTurns
noncomputable def impl_AngleTurns.g : Sig := ⟨98, [(.v (.a (.one (.flt .f32)))), (.v (.a (.one (.flt .f32))))], [], [.flt, .flt], [(.v (.a (.one (.flt .f32))))], [], [.flt]⟩
noncomputable def impl_AngleTurns.ib (w_impl_IsFinite : Nat → (Bool → Prop) → Prop) (w_math_NaN : (Nat → Prop) → Prop) (w_impl_angle : Nat → Nat → (Nat → Prop) → Prop) : FnI := ⟨Try.prog, [], [impl_IsFinite.g.ctr w_impl_IsFinite, math_NaN.g.ctr w_math_NaN, impl_angle.g.ctr w_impl_angle], 29, [.tmp 4], bodyOf Try.f98, .leaf, []⟩
noncomputable def impl_AngleTurns.i : FnI := impl_AngleTurns.ib impl_IsFinite.wp math_NaN.wp impl_angle.wp
noncomputable def impl_AngleTurns.bd (w_impl_IsFinite : Nat → (Bool → Prop) → Prop) (w_math_NaN : (Nat → Prop) → Prop) (w_impl_angle : Nat → Nat → (Nat → Prop) → Prop) : Nat → Nat → (Nat → Prop) → Prop := (impl_AngleTurns.ib w_impl_IsFinite w_math_NaN w_impl_angle).W impl_AngleTurns.g
noncomputable def impl_AngleTurns.wp : Nat → Nat → (Nat → Prop) → Prop := impl_AngleTurns.bd impl_IsFinite.wp math_NaN.wp impl_angle.wp
noncomputable def impl_AngleTurns.c : Ctr := impl_AngleTurns.g.ctr impl_AngleTurns.wp

-- loop.example/g01247/impl.floor32
noncomputable def impl_floor32.g : Sig := ⟨97, [(.v (.a (.one (.flt .f32))))], [], [.flt], [(.v (.a (.one (.flt .f32))))], [], [.flt]⟩
noncomputable def impl_floor32.ib (w_math_Floor : Nat → (Nat → Prop) → Prop) : FnI := ⟨Try.prog, [], [math_Floor.g.ctr w_math_Floor], 7, [.tmp 2], bodyOf Try.f97, .leaf, []⟩
noncomputable def impl_floor32.i : FnI := impl_floor32.ib math_Floor.wp
noncomputable def impl_floor32.bd (w_math_Floor : Nat → (Nat → Prop) → Prop) : Nat → (Nat → Prop) → Prop := (impl_floor32.ib w_math_Floor).W impl_floor32.g
noncomputable def impl_floor32.wp : Nat → (Nat → Prop) → Prop := impl_floor32.bd math_Floor.wp
noncomputable def impl_floor32.c : Ctr := impl_floor32.g.ctr impl_floor32.wp

-- loop.example/g01247/impl.ScrewHeights$1
noncomputable def impl_ScrewHeights_1.g : Sig := ⟨96, [(.v (.a (.one (.int .i64)))), (.v (.a (.one (.int .i64)))), (.v (.a (.one (.pt 0 0)))), (.v (.a (.one (.pt 1 0)))), (.v (.a (.one (.pt 2 0))))], [(.rdb [(.int .i64)]), (.rdb [(.int .i64)]), (.rdb [(.int .i64)])], [.int, .int, .int, .int, .int], [(.v (.a (.one (.int .i64))))], [.keep, .keep, .keep], [.int]⟩
noncomputable def impl_ScrewHeights_1.ib (w_impl_AngleTurns : Nat → Nat → (Nat → Prop) → Prop) (w_impl_floor32 : Nat → (Nat → Prop) → Prop) : FnI := ⟨Try.prog, [], [impl_AngleTurns.g.ctr w_impl_AngleTurns, impl_floor32.g.ctr w_impl_floor32], 23, [.tmp 7], bodyOf Try.f96, .leaf, []⟩
noncomputable def impl_ScrewHeights_1.i : FnI := impl_ScrewHeights_1.ib impl_AngleTurns.wp impl_floor32.wp
noncomputable def impl_ScrewHeights_1.bd (w_impl_AngleTurns : Nat → Nat → (Nat → Prop) → Prop) (w_impl_floor32 : Nat → (Nat → Prop) → Prop) : Int → Int → Int → Int → Int → (Int → Prop) → Prop := (impl_ScrewHeights_1.ib w_impl_AngleTurns w_impl_floor32).W impl_ScrewHeights_1.g
noncomputable def impl_ScrewHeights_1.wp : Int → Int → Int → Int → Int → (Int → Prop) → Prop := impl_ScrewHeights_1.bd impl_AngleTurns.wp impl_floor32.wp
noncomputable def impl_ScrewHeights_1.c : Ctr := impl_ScrewHeights_1.g.ctr impl_ScrewHeights_1.wp

-- loop.example/g01247/impl.built
noncomputable def impl_built__ScrewHeights_1.g : Sig := ⟨76, [(.v (.a (.one (.int .i64)))), (.v (.a (.one (.int .i64)))), (.v (.fn 96 [] [(.one (.pt 0 0)), (.one (.pt 1 0)), (.one (.pt 2 0))]))], [(.rdb [(.int .i64)]), (.rdb [(.int .i64)]), (.rdb [(.int .i64)])], [.int, .int, .int, .int, .int], [(.tup [(.a (.agg [(.int .i64), (.int .i64), (.sl 3)])), (.a (.one .bool))])], [.keep, .keep, .keep, (.row 2 (.I .i64))], [.li, .int, .int, .bool]⟩
noncomputable def impl_built__ScrewHeights_1.ib (w_impl_areWithin : List Int → Int → Int → (Bool → Prop) → Prop) (w_impl_ScrewHeights_1 : Int → Int → Int → Int → Int → (Int → Prop) → Prop) (w_impl_Heights_told : List Int → Int → Int → (List Int → Int → Int → Bool → Prop) → Prop) : FnI := ⟨Try.prog, [], [impl_areWithin.g.ctr w_impl_areWithin, impl_ScrewHeights_1.g.ctr w_impl_ScrewHeights_1, impl_Heights_told.g.ctr w_impl_Heights_told], 43, [.cell 6 28, .tmp 7], bodyOf Try.f76, (.seq .leaf (.seq .leaf (.seq .leaf (.seq (.seq .leaf (.block (.loop ⟨[6, 8, 20, 21], [.int, .int, .int, .int, .li, .li, .int, .int], [(.v (.a (.one (.pt 3 0)))), (.v (.a (.one (.pt 4 0)))), (.v (.a (.one (.int .i64)))), (.v (.a (.one (.int .i64))))], [.keep, .keep, .keep, (.box 28 [(.int .i64), (.int .i64), (.sl 5)]), (.box 28 [(.int .i64), (.int .i64), (.sl 6)]), (.row 2 (.I .i64)), (.row 2 (.I .i64))]⟩ (.seq .leaf (.seq .leaf (.seq (.block (.seq .leaf (.seq .leaf (.block (.loop ⟨[6, 8, 9, 20, 21, 24, 25], [.int, .int, .int, .int, .li, .li, .int, .int, .int, .int, .int], [(.v (.a (.one (.pt 3 0)))), (.v (.a (.one (.pt 4 0)))), (.v (.a (.one (.int .i64)))), (.v (.a (.one (.int .i64)))), (.v (.a (.one (.int .i64)))), (.v (.a (.one (.int .i64)))), (.v (.a (.one (.int .i64))))], [.keep, .keep, .keep, (.box 28 [(.int .i64), (.int .i64), (.sl 5)]), (.box 28 [(.int .i64), (.int .i64), (.sl 6)]), (.row 2 (.I .i64)), (.row 2 (.I .i64))]⟩ .leaf))))) .leaf)))))) .leaf)))), []⟩
noncomputable def impl_built__ScrewHeights_1.i : FnI := impl_built__ScrewHeights_1.ib impl_areWithin.wp impl_ScrewHeights_1.wp impl_Heights_told.wp
noncomputable def impl_built__ScrewHeights_1.bd (w_impl_areWithin : List Int → Int → Int → (Bool → Prop) → Prop) (w_impl_ScrewHeights_1 : Int → Int → Int → Int → Int → (Int → Prop) → Prop) (w_impl_Heights_told : List Int → Int → Int → (List Int → Int → Int → Bool → Prop) → Prop) : Int → Int → Int → Int → Int → (List Int → Int → Int → Bool → Prop) → Prop := (impl_built__ScrewHeights_1.ib w_impl_areWithin w_impl_ScrewHeights_1 w_impl_Heights_told).W impl_built__ScrewHeights_1.g
noncomputable def impl_built__ScrewHeights_1.wp : Int → Int → Int → Int → Int → (List Int → Int → Int → Bool → Prop) → Prop := impl_built__ScrewHeights_1.bd impl_areWithin.wp impl_ScrewHeights_1.wp impl_Heights_told.wp
noncomputable def impl_built__ScrewHeights_1.c : Ctr := impl_built__ScrewHeights_1.g.ctr impl_built__ScrewHeights_1.wp

-- loop.example/g01247/impl.ScrewHeights
noncomputable def impl_ScrewHeights.g : Sig := ⟨42, [(.v (.a (.one (.int .i64)))), (.v (.a (.one (.int .i64)))), (.v (.a (.one (.int .i64)))), (.v (.a (.one (.int .i64)))), (.v (.a (.one (.int .i64))))], [], [.int, .int, .int, .int, .int], [(.tup [(.a (.agg [(.int .i64), (.int .i64), (.sl 0)])), (.a (.one .bool))])], [(.row 2 (.I .i64))], [.li, .int, .int, .bool]⟩
noncomputable def impl_ScrewHeights.ib (w_impl_within : Int → Int → Int → (Bool → Prop) → Prop) (w_impl_built__ScrewHeights_1 : Int → Int → Int → Int → Int → (List Int → Int → Int → Bool → Prop) → Prop) : FnI := ⟨Try.prog, [], [impl_within.g.ctr w_impl_within, impl_built__ScrewHeights_1.g.ctr w_impl_built__ScrewHeights_1], 36, [.cell 10 28, .tmp 11], bodyOf Try.f42, .leaf, []⟩
noncomputable def impl_ScrewHeights.i : FnI := impl_ScrewHeights.ib impl_within.wp impl_built__ScrewHeights_1.wp
noncomputable def impl_ScrewHeights.bd (w_impl_within : Int → Int → Int → (Bool → Prop) → Prop) (w_impl_built__ScrewHeights_1 : Int → Int → Int → Int → Int → (List Int → Int → Int → Bool → Prop) → Prop) : Int → Int → Int → Int → Int → (List Int → Int → Int → Bool → Prop) → Prop := (impl_ScrewHeights.ib w_impl_within w_impl_built__ScrewHeights_1).W impl_ScrewHeights.g
noncomputable def impl_ScrewHeights.wp : Int → Int → Int → Int → Int → (List Int → Int → Int → Bool → Prop) → Prop := impl_ScrewHeights.bd impl_within.wp impl_built__ScrewHeights_1.wp
noncomputable def impl_ScrewHeights.c : Ctr := impl_ScrewHeights.g.ctr impl_ScrewHeights.wp

-- loop.example/g01247/laws.FnExactScrewHeights
noncomputable def laws_FnExactScrewHeights.g : Sig := ⟨10, [(.v (.a (.one (.int .i64)))), (.v (.a (.one (.int .i64)))), (.v (.a (.one (.int .i64)))), (.v (.a (.one (.int .i64)))), (.v (.a (.one (.int .i64))))], [], [.int, .int, .int, .int, .int], [(.v (.a (.one .bool)))], [], [.bool]⟩
noncomputable def laws_FnExactScrewHeights.ib (w_spec_ScrewHeights : Int → Int → Int → Int → Int → (List Int → Int → Int → Bool → Prop) → Prop) (w_impl_ScrewHeights : Int → Int → Int → Int → Int → (List Int → Int → Int → Bool → Prop) → Prop) (w_laws_eqHeights : List Int → List Int → Int → Int → Int → Int → (Bool → Prop) → Prop) (w_laws_markHeights : List Int → Int → Int → Int → (List Int → Int → Prop) → Prop) (w_laws_heldHeights : List Int → Int → Int → Int → (Int → Prop) → Prop) : FnI := ⟨Try.prog, [], [spec_ScrewHeights.g.ctr w_spec_ScrewHeights, impl_ScrewHeights.g.ctr w_impl_ScrewHeights, laws_eqHeights.g.ctr w_laws_eqHeights, laws_markHeights.g.ctr w_laws_markHeights, laws_heldHeights.g.ctr w_laws_heldHeights], 83, [.tmp 10], bodyOf Try.f10, .leaf, []⟩
noncomputable def laws_FnExactScrewHeights.i : FnI := laws_FnExactScrewHeights.ib spec_ScrewHeights.wp impl_ScrewHeights.wp laws_eqHeights.wp laws_markHeights.wp laws_heldHeights.wp
noncomputable def laws_FnExactScrewHeights.bd (w_spec_ScrewHeights : Int → Int → Int → Int → Int → (List Int → Int → Int → Bool → Prop) → Prop) (w_impl_ScrewHeights : Int → Int → Int → Int → Int → (List Int → Int → Int → Bool → Prop) → Prop) (w_laws_eqHeights : List Int → List Int → Int → Int → Int → Int → (Bool → Prop) → Prop) (w_laws_markHeights : List Int → Int → Int → Int → (List Int → Int → Prop) → Prop) (w_laws_heldHeights : List Int → Int → Int → Int → (Int → Prop) → Prop) : Int → Int → Int → Int → Int → (Bool → Prop) → Prop := (laws_FnExactScrewHeights.ib w_spec_ScrewHeights w_impl_ScrewHeights w_laws_eqHeights w_laws_markHeights w_laws_heldHeights).W laws_FnExactScrewHeights.g
noncomputable def laws_FnExactScrewHeights.wp : Int → Int → Int → Int → Int → (Bool → Prop) → Prop := laws_FnExactScrewHeights.bd spec_ScrewHeights.wp impl_ScrewHeights.wp laws_eqHeights.wp laws_markHeights.wp laws_heldHeights.wp
noncomputable def laws_FnExactScrewHeights.c : Ctr := laws_FnExactScrewHeights.g.ctr laws_FnExactScrewHeights.wp

-- (loop.example/g01247/impl.Heights).alike
noncomputable def impl_Heights_alike.g : Sig := ⟨100, [(.v (.a (.agg [(.int .i64), (.int .i64), (.sl 0)]))), (.v (.a (.one (.int .i64)))), (.v (.a (.one (.int .i64))))], [(.rd (.I .i64))], [.li, .int, .int, .int, .int], [(.v (.a (.one (.flt .f64))))], [.keep], [.flt]⟩
noncomputable def impl_Heights_alike.ib (w_impl_Heights_atoms : List Int → Int → Int → (Int → Prop) → Prop) (w_impl_Heights_top : List Int → Int → Int → Int → Int → (Int → Prop) → Prop) : FnI := ⟨Try.prog, [], [impl_Heights_atoms.g.ctr w_impl_Heights_atoms, impl_Heights_top.g.ctr w_impl_Heights_top], 59, [.tmp 6], bodyOf Try.f100, (.seq .leaf (.seq .leaf (.seq .leaf (.seq (.seq .leaf (.block (.loop ⟨[3, 7, 8, 9, 23, 24, 25], [.int, .int, .flt, .flt, .flt, .int, .int], [(.v (.a (.one (.pt 1 0)))), (.v (.a (.one (.flt .f64)))), (.v (.a (.one (.flt .f64)))), (.v (.a (.one (.flt .f64)))), (.v (.a (.one (.sl 0)))), (.v (.a (.one (.int .i64)))), (.v (.a (.one (.int .i64))))], [.keep, (.box 28 [(.int .i64), (.int .i64), (.sl 0)])]⟩ .leaf))) .leaf)))), []⟩
noncomputable def impl_Heights_alike.i : FnI := impl_Heights_alike.ib impl_Heights_atoms.wp impl_Heights_top.wp
noncomputable def impl_Heights_alike.bd (w_impl_Heights_atoms : List Int → Int → Int → (Int → Prop) → Prop) (w_impl_Heights_top : List Int → Int → Int → Int → Int → (Int → Prop) → Prop) : List Int → Int → Int → Int → Int → (Nat → Prop) → Prop := (impl_Heights_alike.ib w_impl_Heights_atoms w_impl_Heights_top).W impl_Heights_alike.g
noncomputable def impl_Heights_alike.wp : List Int → Int → Int → Int → Int → (Nat → Prop) → Prop := impl_Heights_alike.bd impl_Heights_atoms.wp impl_Heights_top.wp
noncomputable def impl_Heights_alike.c : Ctr := impl_Heights_alike.g.ctr impl_Heights_alike.wp

-- loop.example/g01247/impl.RoughnessOf
noncomputable def impl_RoughnessOf.g : Sig := ⟨43, [(.v (.a (.agg [(.int .i64), (.int .i64), (.sl 0)])))], [(.rd (.I .i64))], [.li, .int, .int], [(.tup [(.a (.one (.flt .f32))), (.a (.one .bool))])], [.keep], [.flt, .bool]⟩
noncomputable def impl_RoughnessOf.ib (w_impl_ValidHeights : List Int → Int → Int → (Bool → Prop) → Prop) (w_impl_Heights_alike : List Int → Int → Int → Int → Int → (Nat → Prop) → Prop) (w_math_Sqrt : Nat → (Nat → Prop) → Prop) : FnI := ⟨Try.prog, [], [impl_ValidHeights.g.ctr w_impl_ValidHeights, impl_Heights_alike.g.ctr w_impl_Heights_alike, math_Sqrt.g.ctr w_math_Sqrt], 11, [.tmp 2, .tmp 3], bodyOf Try.f43, .leaf, []⟩
noncomputable def impl_RoughnessOf.i : FnI := impl_RoughnessOf.ib impl_ValidHeights.wp impl_Heights_alike.wp math_Sqrt.wp
noncomputable def impl_RoughnessOf.bd (w_impl_ValidHeights : List Int → Int → Int → (Bool → Prop) → Prop) (w_impl_Heights_alike : List Int → Int → Int → Int → Int → (Nat → Prop) → Prop) (w_math_Sqrt : Nat → (Nat → Prop) → Prop) : List Int → Int → Int → (Nat → Bool → Prop) → Prop := (impl_RoughnessOf.ib w_impl_ValidHeights w_impl_Heights_alike w_math_Sqrt).W impl_RoughnessOf.g
noncomputable def impl_RoughnessOf.wp : List Int → Int → Int → (Nat → Bool → Prop) → Prop := impl_RoughnessOf.bd impl_ValidHeights.wp impl_Heights_alike.wp math_Sqrt.wp
noncomputable def impl_RoughnessOf.c : Ctr := impl_RoughnessOf.g.ctr impl_RoughnessOf.wp

-- loop.example/g01247/impl.AlikeAt
noncomputable def impl_AlikeAt.g : Sig := ⟨44, [(.v (.a (.agg [(.int .i64), (.int .i64), (.sl 0)]))), (.v (.a (.one (.int .i64)))), (.v (.a (.one (.int .i64))))], [(.rd (.I .i64))], [.li, .int, .int, .int, .int], [(.tup [(.a (.one (.flt .f32))), (.a (.one .bool))])], [.keep], [.flt, .bool]⟩
noncomputable def impl_AlikeAt.ib (w_impl_ValidHeights : List Int → Int → Int → (Bool → Prop) → Prop) (w_impl_areWithin : List Int → Int → Int → (Bool → Prop) → Prop) (w_impl_Heights_alike : List Int → Int → Int → Int → Int → (Nat → Prop) → Prop) : FnI := ⟨Try.prog, [], [impl_ValidHeights.g.ctr w_impl_ValidHeights, impl_areWithin.g.ctr w_impl_areWithin, impl_Heights_alike.g.ctr w_impl_Heights_alike], 32, [.tmp 6, .tmp 7], bodyOf Try.f44, .leaf, []⟩
noncomputable def impl_AlikeAt.i : FnI := impl_AlikeAt.ib impl_ValidHeights.wp impl_areWithin.wp impl_Heights_alike.wp
noncomputable def impl_AlikeAt.bd (w_impl_ValidHeights : List Int → Int → Int → (Bool → Prop) → Prop) (w_impl_areWithin : List Int → Int → Int → (Bool → Prop) → Prop) (w_impl_Heights_alike : List Int → Int → Int → Int → Int → (Nat → Prop) → Prop) : List Int → Int → Int → Int → Int → (Nat → Bool → Prop) → Prop := (impl_AlikeAt.ib w_impl_ValidHeights w_impl_areWithin w_impl_Heights_alike).W impl_AlikeAt.g
noncomputable def impl_AlikeAt.wp : List Int → Int → Int → Int → Int → (Nat → Bool → Prop) → Prop := impl_AlikeAt.bd impl_ValidHeights.wp impl_areWithin.wp impl_Heights_alike.wp
noncomputable def impl_AlikeAt.c : Ctr := impl_AlikeAt.g.ctr impl_AlikeAt.wp

-- loop.example/g01247/impl.MeanTop
noncomputable def impl_MeanTop.g : Sig := ⟨45, [(.v (.a (.agg [(.int .i64), (.int .i64), (.sl 0)])))], [(.rd (.I .i64))], [.li, .int, .int], [(.tup [(.a (.one (.flt .f32))), (.a (.one .bool))])], [.keep], [.flt, .bool]⟩
noncomputable def impl_MeanTop.ib (w_impl_ValidHeights : List Int → Int → Int → (Bool → Prop) → Prop) (w_impl_Heights_atoms : List Int → Int → Int → (Int → Prop) → Prop) : FnI := ⟨Try.prog, [], [impl_ValidHeights.g.ctr w_impl_ValidHeights, impl_Heights_atoms.g.ctr w_impl_Heights_atoms], 15, [.tmp 2, .tmp 3], bodyOf Try.f45, .leaf, []⟩
noncomputable def impl_MeanTop.i : FnI := impl_MeanTop.ib impl_ValidHeights.wp impl_Heights_atoms.wp
noncomputable def impl_MeanTop.bd (w_impl_ValidHeights : List Int → Int → Int → (Bool → Prop) → Prop) (w_impl_Heights_atoms : List Int → Int → Int → (Int → Prop) → Prop) : List Int → Int → Int → (Nat → Bool → Prop) → Prop := (impl_MeanTop.ib w_impl_ValidHeights w_impl_Heights_atoms).W impl_MeanTop.g
noncomputable def impl_MeanTop.wp : List Int → Int → Int → (Nat → Bool → Prop) → Prop := impl_MeanTop.bd impl_ValidHeights.wp impl_Heights_atoms.wp
noncomputable def impl_MeanTop.c : Ctr := impl_MeanTop.g.ctr impl_MeanTop.wp

-- loop.example/g01247/laws.b10Gap
noncomputable def laws_b10Gap.g : Sig := ⟨46, [(.v (.a (.one (.flt .f64)))), (.v (.a (.one (.flt .f64))))], [], [.flt, .flt], [(.v (.a (.one (.flt .f64))))], [], [.flt]⟩
noncomputable def laws_b10Gap.ib  : FnI := ⟨Try.prog, [], [], 14, [.tmp 4], bodyOf Try.f46, .leaf, []⟩
noncomputable def laws_b10Gap.i : FnI := laws_b10Gap.ib 
noncomputable def laws_b10Gap.bd  : Nat → Nat → (Nat → Prop) → Prop := (laws_b10Gap.ib ).W laws_b10Gap.g
noncomputable def laws_b10Gap.wp : Nat → Nat → (Nat → Prop) → Prop := laws_b10Gap.bd 
noncomputable def laws_b10Gap.c : Ctr := laws_b10Gap.g.ctr laws_b10Gap.wp

-- loop.example/g01247/impl.TopAt
noncomputable def impl_TopAt.g : Sig := ⟨47, [(.v (.a (.agg [(.int .i64), (.int .i64), (.sl 0)]))), (.v (.a (.one (.int .i64)))), (.v (.a (.one (.int .i64))))], [(.rd (.I .i64))], [.li, .int, .int, .int, .int], [(.tup [(.a (.one (.int .i64))), (.a (.one .bool))])], [.keep], [.int, .bool]⟩
noncomputable def impl_TopAt.ib (w_impl_Heights_has : List Int → Int → Int → Int → Int → (Bool → Prop) → Prop) (w_impl_Heights_top : List Int → Int → Int → Int → Int → (Int → Prop) → Prop) : FnI := ⟨Try.prog, [], [impl_Heights_has.g.ctr w_impl_Heights_has, impl_Heights_top.g.ctr w_impl_Heights_top], 17, [.tmp 6, .tmp 7], bodyOf Try.f47, .leaf, []⟩
noncomputable def impl_TopAt.i : FnI := impl_TopAt.ib impl_Heights_has.wp impl_Heights_top.wp
noncomputable def impl_TopAt.bd (w_impl_Heights_has : List Int → Int → Int → Int → Int → (Bool → Prop) → Prop) (w_impl_Heights_top : List Int → Int → Int → Int → Int → (Int → Prop) → Prop) : List Int → Int → Int → Int → Int → (Int → Bool → Prop) → Prop := (impl_TopAt.ib w_impl_Heights_has w_impl_Heights_top).W impl_TopAt.g
noncomputable def impl_TopAt.wp : List Int → Int → Int → Int → Int → (Int → Bool → Prop) → Prop := impl_TopAt.bd impl_Heights_has.wp impl_Heights_top.wp
noncomputable def impl_TopAt.c : Ctr := impl_TopAt.g.ctr impl_TopAt.wp

-- loop.example/g01247/laws.FnRough
noncomputable def laws_FnRough.g : Sig := ⟨11, [(.v (.a (.one (.sl 0)))), (.v (.a (.one (.sl 1))))], [(.rd (.I .u8)), (.rd (.I .u8))], [.li, .li], [(.v (.a (.one .bool)))], [.keep, .keep], [.bool]⟩
noncomputable def laws_FnRough.ib (w_laws_b10Long : List Int → List Int → (Bool → Prop) → Prop) (w_spec_B10Heights : List Int → (List Int → Int → Int → Prop) → Prop) (w_laws_b10At : List Int → Int → Int → (Int → Prop) → Prop) (w_impl_ShiftHeights : List Int → Int → Int → Int → Int → (List Int → Int → Int → Bool → Prop) → Prop) (w_impl_RoughnessOf : List Int → Int → Int → (Nat → Bool → Prop) → Prop) (w_impl_StepsIn : List Int → Int → Int → (Int → Bool → Prop) → Prop) (w_impl_AlikeAt : List Int → Int → Int → Int → Int → (Nat → Bool → Prop) → Prop) (w_impl_MeanTop : List Int → Int → Int → (Nat → Bool → Prop) → Prop) (w_impl_AtomsIn : List Int → Int → Int → (Int → Bool → Prop) → Prop) (w_laws_b10Gap : Nat → Nat → (Nat → Prop) → Prop) (w_impl_ScrewHeights : Int → Int → Int → Int → Int → (List Int → Int → Int → Bool → Prop) → Prop) (w_impl_ValidHeights : List Int → Int → Int → (Bool → Prop) → Prop) (w_impl_TopAt : List Int → Int → Int → Int → Int → (Int → Bool → Prop) → Prop) : FnI := ⟨Try.prog, [], [laws_b10Long.g.ctr w_laws_b10Long, spec_B10Heights.g.ctr w_spec_B10Heights, laws_b10At.g.ctr w_laws_b10At, impl_ShiftHeights.g.ctr w_impl_ShiftHeights, impl_RoughnessOf.g.ctr w_impl_RoughnessOf, impl_StepsIn.g.ctr w_impl_StepsIn, impl_AlikeAt.g.ctr w_impl_AlikeAt, impl_MeanTop.g.ctr w_impl_MeanTop, impl_AtomsIn.g.ctr w_impl_AtomsIn, laws_b10Gap.g.ctr w_laws_b10Gap, impl_ScrewHeights.g.ctr w_impl_ScrewHeights, impl_ValidHeights.g.ctr w_impl_ValidHeights, impl_TopAt.g.ctr w_impl_TopAt], 208, [.tmp 4], bodyOf Try.f11, (.seq .leaf (.seq .leaf (.seq .leaf (.seq .leaf (.seq .leaf (.seq .leaf (.seq .leaf (.seq .leaf (.seq .leaf (.seq .leaf (.seq .leaf (.seq .leaf (.seq .leaf (.seq .leaf (.seq .leaf (.seq .leaf (.seq (.seq .leaf (.block (.loop ⟨[22, 23, 176, 177], [.int, .int, .li, .int, .int, .int], [(.v (.a (.one (.int .i64)))), (.v (.a (.one (.pt 2 0)))), (.v (.a (.one (.int .i64)))), (.v (.a (.one (.int .i64))))], [.keep, .keep, (.box 28 [(.int .i64), (.int .i64), (.sl 3)]), (.row 2 (.I .i64))]⟩ .leaf))) .leaf))))))))))))))))), []⟩
noncomputable def laws_FnRough.i : FnI := laws_FnRough.ib laws_b10Long.wp spec_B10Heights.wp laws_b10At.wp impl_ShiftHeights.wp impl_RoughnessOf.wp impl_StepsIn.wp impl_AlikeAt.wp impl_MeanTop.wp impl_AtomsIn.wp laws_b10Gap.wp impl_ScrewHeights.wp impl_ValidHeights.wp impl_TopAt.wp
noncomputable def laws_FnRough.bd (w_laws_b10Long : List Int → List Int → (Bool → Prop) → Prop) (w_spec_B10Heights : List Int → (List Int → Int → Int → Prop) → Prop) (w_laws_b10At : List Int → Int → Int → (Int → Prop) → Prop) (w_impl_ShiftHeights : List Int → Int → Int → Int → Int → (List Int → Int → Int → Bool → Prop) → Prop) (w_impl_RoughnessOf : List Int → Int → Int → (Nat → Bool → Prop) → Prop) (w_impl_StepsIn : List Int → Int → Int → (Int → Bool → Prop) → Prop) (w_impl_AlikeAt : List Int → Int → Int → Int → Int → (Nat → Bool → Prop) → Prop) (w_impl_MeanTop : List Int → Int → Int → (Nat → Bool → Prop) → Prop) (w_impl_AtomsIn : List Int → Int → Int → (Int → Bool → Prop) → Prop) (w_laws_b10Gap : Nat → Nat → (Nat → Prop) → Prop) (w_impl_ScrewHeights : Int → Int → Int → Int → Int → (List Int → Int → Int → Bool → Prop) → Prop) (w_impl_ValidHeights : List Int → Int → Int → (Bool → Prop) → Prop) (w_impl_TopAt : List Int → Int → Int → Int → Int → (Int → Bool → Prop) → Prop) : List Int → List Int → (Bool → Prop) → Prop := (laws_FnRough.ib w_laws_b10Long w_spec_B10Heights w_laws_b10At w_impl_ShiftHeights w_impl_RoughnessOf w_impl_StepsIn w_impl_AlikeAt w_impl_MeanTop w_impl_AtomsIn w_laws_b10Gap w_impl_ScrewHeights w_impl_ValidHeights w_impl_TopAt).W laws_FnRough.g
noncomputable def laws_FnRough.wp : List Int → List Int → (Bool → Prop) → Prop := laws_FnRough.bd laws_b10Long.wp spec_B10Heights.wp laws_b10At.wp impl_ShiftHeights.wp impl_RoughnessOf.wp impl_StepsIn.wp impl_AlikeAt.wp impl_MeanTop.wp impl_AtomsIn.wp laws_b10Gap.wp impl_ScrewHeights.wp impl_ValidHeights.wp impl_TopAt.wp
noncomputable def laws_FnRough.c : Ctr := laws_FnRough.g.ctr laws_FnRough.wp
end Go.K.heights
