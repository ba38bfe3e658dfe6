import Derived.Test.YtcmbpondkipbkaaK20
import Derived.Test.YtcmbpondkipbkaaProg
set_option maxRecDepth 100000
namespace Go.K.heights
open Go.Proofs

noncomputable def bodyOf (f : Func) : Code := match f.body with
  | some c => c
  | none => .skip
-- loop.example/g01247/spec.l00In
noncomputable def spec_l00In.g : Sig := ⟨71, [(.v (.a (.one (.int .i64)))), (.v (.a (.one (.int .i64)))), (.v (.a (.one (.int .i64))))], [], [.int, .int, .int], [(.v (.a (.one .bool)))], [], [.bool]⟩
noncomputable def spec_l00In.ib  : FnI := ⟨Try.prog, [], [], 15, [.tmp 6], bodyOf Try.f71, .leaf, []⟩
noncomputable def spec_l00In.i : FnI := spec_l00In.ib 
noncomputable def spec_l00In.bd  : Int → Int → Int → (Bool → Prop) → Prop := (spec_l00In.ib ).W spec_l00In.g
noncomputable def spec_l00In.wp : Int → Int → Int → (Bool → Prop) → Prop := spec_l00In.bd 
noncomputable def spec_l00In.c : Ctr := spec_l00In.g.ctr spec_l00In.wp

-- loop.example/g01247/spec.l05Size
noncomputable def spec_l05Size.g : Sig := ⟨93, [(.v (.a (.one (.int .i64)))), (.v (.a (.one (.int .i64))))], [], [.int, .int], [(.v (.a (.one .bool)))], [], [.bool]⟩
noncomputable def spec_l05Size.ib (w_spec_l00In : Int → Int → Int → (Bool → Prop) → Prop) : FnI := ⟨Try.prog, [], [spec_l00In.g.ctr w_spec_l00In], 11, [.tmp 4], bodyOf Try.f93, .leaf, []⟩
noncomputable def spec_l05Size.i : FnI := spec_l05Size.ib spec_l00In.wp
noncomputable def spec_l05Size.bd (w_spec_l00In : Int → Int → Int → (Bool → Prop) → Prop) : Int → Int → (Bool → Prop) → Prop := (spec_l05Size.ib w_spec_l00In).W spec_l05Size.g
noncomputable def spec_l05Size.wp : Int → Int → (Bool → Prop) → Prop := spec_l05Size.bd spec_l00In.wp
noncomputable def spec_l05Size.c : Ctr := spec_l05Size.g.ctr spec_l05Size.wp

-- math.NaN
noncomputable def math_NaN.g : Sig := ⟨118, [], [], [], [(.v (.a (.one (.flt .f64))))], [], [.flt]⟩
noncomputable def math_NaN.ib  : FnI := ⟨Try.prog, [(128, .from64)], [], 2, [.tmp 0], bodyOf Try.f118, .leaf, []⟩
noncomputable def math_NaN.i : FnI := math_NaN.ib 
noncomputable def math_NaN.bd  : (Nat → Prop) → Prop := (math_NaN.ib ).W math_NaN.g
noncomputable def math_NaN.wp : (Nat → Prop) → Prop := math_NaN.bd 
noncomputable def math_NaN.c : Ctr := math_NaN.g.ctr math_NaN.wp

-- math.Abs
noncomputable def math_Abs.g : Sig := ⟨123, [(.v (.a (.one (.flt .f64))))], [], [.flt], [(.v (.a (.one (.flt .f64))))], [], [.flt]⟩
noncomputable def math_Abs.ib  : FnI := ⟨Try.prog, [(128, .from64), (129, .bits64)], [], 7, [.tmp 2], bodyOf Try.f123, .leaf, []⟩
noncomputable def math_Abs.i : FnI := math_Abs.ib 
noncomputable def math_Abs.bd  : Nat → (Nat → Prop) → Prop := (math_Abs.ib ).W math_Abs.g
noncomputable def math_Abs.wp : Nat → (Nat → Prop) → Prop := math_Abs.bd 
noncomputable def math_Abs.c : Ctr := math_Abs.g.ctr math_Abs.wp

-- math.Sqrt
noncomputable def math_Sqrt.g : Sig := ⟨99, [(.v (.a (.one (.flt .f64))))], [], [.flt], [(.v (.a (.one (.flt .f64))))], [], [.flt]⟩
noncomputable def math_Sqrt.ib  : FnI := ⟨Try.prog, [(120, .sqrt)], [], 5, [.tmp 2], bodyOf Try.f99, .leaf, []⟩
noncomputable def math_Sqrt.i : FnI := math_Sqrt.ib 
noncomputable def math_Sqrt.bd  : Nat → (Nat → Prop) → Prop := (math_Sqrt.ib ).W math_Sqrt.g
noncomputable def math_Sqrt.wp : Nat → (Nat → Prop) → Prop := math_Sqrt.bd 
noncomputable def math_Sqrt.c : Ctr := math_Sqrt.g.ctr math_Sqrt.wp

-- loop.example/g01247/spec.l01AngleWide
noncomputable def spec_l01AngleWide.g : Sig := ⟨114, [(.v (.a (.one (.flt .f64)))), (.v (.a (.one (.flt .f64))))], [], [.flt, .flt], [(.v (.a (.one (.flt .f64))))], [], [.flt]⟩
noncomputable def spec_l01AngleWide.ib (w_math_NaN : (Nat → Prop) → Prop) (w_math_Abs : Nat → (Nat → Prop) → Prop) (w_math_Sqrt : Nat → (Nat → Prop) → Prop) : FnI := ⟨Try.prog, [], [math_NaN.g.ctr w_math_NaN, math_Abs.g.ctr w_math_Abs, math_Sqrt.g.ctr w_math_Sqrt], 88, [.tmp 4], bodyOf Try.f114, (.seq .leaf (.seq .leaf (.seq .leaf (.seq .leaf (.seq .leaf (.seq .leaf (.seq .leaf (.seq (.seq .leaf (.condJ ⟨[7, 8], [.bool, .flt], [(.v (.a (.one .bool))), (.v (.a (.one (.flt .f64))))], []⟩ .leaf .leaf)) (.seq (.seq .leaf (.block (.loop ⟨[7, 8, 9], [.bool, .flt, .int], [(.v (.a (.one .bool))), (.v (.a (.one (.flt .f64)))), (.v (.a (.one (.int .i64))))], []⟩ .leaf))) (.seq .leaf (.seq .leaf (.seq (.seq .leaf (.block (.loop ⟨[7, 8, 10, 11, 12], [.bool, .flt, .flt, .flt, .int], [(.v (.a (.one .bool))), (.v (.a (.one (.flt .f64)))), (.v (.a (.one (.flt .f64)))), (.v (.a (.one (.flt .f64)))), (.v (.a (.one (.int .i64))))], []⟩ .leaf))) .leaf)))))))))))), []⟩
noncomputable def spec_l01AngleWide.i : FnI := spec_l01AngleWide.ib math_NaN.wp math_Abs.wp math_Sqrt.wp
noncomputable def spec_l01AngleWide.bd (w_math_NaN : (Nat → Prop) → Prop) (w_math_Abs : Nat → (Nat → Prop) → Prop) (w_math_Sqrt : Nat → (Nat → Prop) → Prop) : Nat → Nat → (Nat → Prop) → Prop := (spec_l01AngleWide.ib w_math_NaN w_math_Abs w_math_Sqrt).W spec_l01AngleWide.g
noncomputable def spec_l01AngleWide.wp : Nat → Nat → (Nat → Prop) → Prop := spec_l01AngleWide.bd math_NaN.wp math_Abs.wp math_Sqrt.wp
noncomputable def spec_l01AngleWide.c : Ctr := spec_l01AngleWide.g.ctr spec_l01AngleWide.wp

-- loop.example/g01247/spec.l01Narrow
noncomputable def spec_l01Narrow.g : Sig := ⟨113, [(.v (.a (.one (.flt .f64))))], [], [.flt], [(.v (.a (.one (.flt .f32))))], [], [.flt]⟩
noncomputable def spec_l01Narrow.ib  : FnI := ⟨Try.prog, [], [], 5, [.tmp 2], bodyOf Try.f113, .leaf, []⟩
noncomputable def spec_l01Narrow.i : FnI := spec_l01Narrow.ib 
noncomputable def spec_l01Narrow.bd  : Nat → (Nat → Prop) → Prop := (spec_l01Narrow.ib ).W spec_l01Narrow.g
noncomputable def spec_l01Narrow.wp : Nat → (Nat → Prop) → Prop := spec_l01Narrow.bd 
noncomputable def spec_l01Narrow.c : Ctr := spec_l01Narrow.g.ctr spec_l01Narrow.wp

-- loop.example/g01247/spec.l01Angle
noncomputable def spec_l01Angle.g : Sig := ⟨94, [(.v (.a (.one (.flt .f32)))), (.v (.a (.one (.flt .f32))))], [], [.flt, .flt], [(.v (.a (.one (.flt .f32))))], [], [.flt]⟩
noncomputable def spec_l01Angle.ib (w_spec_l01AngleWide : Nat → Nat → (Nat → Prop) → Prop) (w_spec_l01Narrow : Nat → (Nat → Prop) → Prop) : FnI := ⟨Try.prog, [], [spec_l01AngleWide.g.ctr w_spec_l01AngleWide, spec_l01Narrow.g.ctr w_spec_l01Narrow], 11, [.tmp 4], bodyOf Try.f94, .leaf, []⟩
noncomputable def spec_l01Angle.i : FnI := spec_l01Angle.ib spec_l01AngleWide.wp spec_l01Narrow.wp
noncomputable def spec_l01Angle.bd (w_spec_l01AngleWide : Nat → Nat → (Nat → Prop) → Prop) (w_spec_l01Narrow : Nat → (Nat → Prop) → Prop) : Nat → Nat → (Nat → Prop) → Prop := (spec_l01Angle.ib w_spec_l01AngleWide w_spec_l01Narrow).W spec_l01Angle.g
noncomputable def spec_l01Angle.wp : Nat → Nat → (Nat → Prop) → Prop := spec_l01Angle.bd spec_l01AngleWide.wp spec_l01Narrow.wp
noncomputable def spec_l01Angle.c : Ctr := spec_l01Angle.g.ctr spec_l01Angle.wp

-- math.IsNaN
noncomputable def math_IsNaN.g : Sig := ⟨124, [(.v (.a (.one (.flt .f64))))], [], [.flt], [(.v (.a (.one .bool)))], [], [.bool]⟩
noncomputable def math_IsNaN.ib  : FnI := ⟨Try.prog, [], [], 6, [.tmp 2], bodyOf Try.f124, .leaf, []⟩
noncomputable def math_IsNaN.i : FnI := math_IsNaN.ib 
noncomputable def math_IsNaN.bd  : Nat → (Bool → Prop) → Prop := (math_IsNaN.ib ).W math_IsNaN.g
noncomputable def math_IsNaN.wp : Nat → (Bool → Prop) → Prop := math_IsNaN.bd 
noncomputable def math_IsNaN.c : Ctr := math_IsNaN.g.ctr math_IsNaN.wp

-- math.IsInf
noncomputable def math_IsInf.g : Sig := ⟨125, [(.v (.a (.one (.flt .f64)))), (.v (.a (.one (.int .i64))))], [], [.flt, .int], [(.v (.a (.one .bool)))], [], [.bool]⟩
noncomputable def math_IsInf.ib (w_math_Abs : Nat → (Nat → Prop) → Prop) : FnI := ⟨Try.prog, [], [math_Abs.g.ctr w_math_Abs], 15, [.tmp 4], bodyOf Try.f125, .leaf, [0]⟩
noncomputable def math_IsInf.i : FnI := math_IsInf.ib math_Abs.wp
noncomputable def math_IsInf.bd (w_math_Abs : Nat → (Nat → Prop) → Prop) : Nat → Int → (Bool → Prop) → Prop := (math_IsInf.ib w_math_Abs).W math_IsInf.g
noncomputable def math_IsInf.wp : Nat → Int → (Bool → Prop) → Prop := math_IsInf.bd math_Abs.wp
noncomputable def math_IsInf.c : Ctr := math_IsInf.g.ctr math_IsInf.wp

-- math.Copysign
noncomputable def math_Copysign.g : Sig := ⟨131, [(.v (.a (.one (.flt .f64)))), (.v (.a (.one (.flt .f64))))], [], [.flt, .flt], [(.v (.a (.one (.flt .f64))))], [], [.flt]⟩
noncomputable def math_Copysign.ib  : FnI := ⟨Try.prog, [(128, .from64), (129, .bits64)], [], 13, [.tmp 4], bodyOf Try.f131, .leaf, []⟩
noncomputable def math_Copysign.i : FnI := math_Copysign.ib 
noncomputable def math_Copysign.bd  : Nat → Nat → (Nat → Prop) → Prop := (math_Copysign.ib ).W math_Copysign.g
noncomputable def math_Copysign.wp : Nat → Nat → (Nat → Prop) → Prop := math_Copysign.bd 
noncomputable def math_Copysign.c : Ctr := math_Copysign.g.ctr math_Copysign.wp

-- math.trunc
noncomputable def math_trunc.g : Sig := ⟨133, [(.v (.a (.one (.flt .f64))))], [], [.flt], [(.v (.a (.one (.flt .f64))))], [], [.flt]⟩
noncomputable def math_trunc.ib (w_math_Abs : Nat → (Nat → Prop) → Prop) (w_math_Copysign : Nat → Nat → (Nat → Prop) → Prop) : FnI := ⟨Try.prog, [(128, .from64), (129, .bits64)], [math_Abs.g.ctr w_math_Abs, math_Copysign.g.ctr w_math_Copysign], 26, [.tmp 2], bodyOf Try.f133, .leaf, []⟩
noncomputable def math_trunc.i : FnI := math_trunc.ib math_Abs.wp math_Copysign.wp
noncomputable def math_trunc.bd (w_math_Abs : Nat → (Nat → Prop) → Prop) (w_math_Copysign : Nat → Nat → (Nat → Prop) → Prop) : Nat → (Nat → Prop) → Prop := (math_trunc.ib w_math_Abs w_math_Copysign).W math_trunc.g
noncomputable def math_trunc.wp : Nat → (Nat → Prop) → Prop := math_trunc.bd math_Abs.wp math_Copysign.wp
noncomputable def math_trunc.c : Ctr := math_trunc.g.ctr math_trunc.wp

-- math.Trunc
noncomputable def math_Trunc.g : Sig := ⟨130, [(.v (.a (.one (.flt .f64))))], [], [.flt], [(.v (.a (.one (.flt .f64))))], [], [.flt]⟩
noncomputable def math_Trunc.ib (w_math_trunc : Nat → (Nat → Prop) → Prop) : FnI := ⟨Try.prog, [(132, .trunc)], [math_trunc.g.ctr w_math_trunc], 7, [.tmp 2], bodyOf Try.f130, .leaf, []⟩
noncomputable def math_Trunc.i : FnI := math_Trunc.ib math_trunc.wp
noncomputable def math_Trunc.bd (w_math_trunc : Nat → (Nat → Prop) → Prop) : Nat → (Nat → Prop) → Prop := (math_Trunc.ib w_math_trunc).W math_Trunc.g
noncomputable def math_Trunc.wp : Nat → (Nat → Prop) → Prop := math_Trunc.bd math_trunc.wp
noncomputable def math_Trunc.c : Ctr := math_Trunc.g.ctr math_Trunc.wp

-- math.Modf
noncomputable def math_Modf.g : Sig := ⟨126, [(.v (.a (.one (.flt .f64))))], [], [.flt], [(.tup [(.a (.one (.flt .f64))), (.a (.one (.flt .f64)))])], [], [.flt, .flt]⟩
noncomputable def math_Modf.ib (w_math_Trunc : Nat → (Nat → Prop) → Prop) (w_math_Copysign : Nat → Nat → (Nat → Prop) → Prop) : FnI := ⟨Try.prog, [], [math_Trunc.g.ctr w_math_Trunc, math_Copysign.g.ctr w_math_Copysign], 11, [.tmp 2, .tmp 3], bodyOf Try.f126, .leaf, []⟩
noncomputable def math_Modf.i : FnI := math_Modf.ib math_Trunc.wp math_Copysign.wp
noncomputable def math_Modf.bd (w_math_Trunc : Nat → (Nat → Prop) → Prop) (w_math_Copysign : Nat → Nat → (Nat → Prop) → Prop) : Nat → (Nat → Nat → Prop) → Prop := (math_Modf.ib w_math_Trunc w_math_Copysign).W math_Modf.g
noncomputable def math_Modf.wp : Nat → (Nat → Nat → Prop) → Prop := math_Modf.bd math_Trunc.wp math_Copysign.wp
noncomputable def math_Modf.c : Ctr := math_Modf.g.ctr math_Modf.wp

-- math.floor
noncomputable def math_floor.g : Sig := ⟨116, [(.v (.a (.one (.flt .f64))))], [], [.flt], [(.v (.a (.one (.flt .f64))))], [], [.flt]⟩
noncomputable def math_floor.ib (w_math_IsNaN : Nat → (Bool → Prop) → Prop) (w_math_IsInf : Nat → Int → (Bool → Prop) → Prop) (w_math_Modf : Nat → (Nat → Nat → Prop) → Prop) : FnI := ⟨Try.prog, [], [math_IsNaN.g.ctr w_math_IsNaN, math_IsInf.g.ctr w_math_IsInf, math_Modf.g.ctr w_math_Modf], 38, [.tmp 2], bodyOf Try.f116, .leaf, []⟩
noncomputable def math_floor.i : FnI := math_floor.ib math_IsNaN.wp math_IsInf.wp math_Modf.wp
noncomputable def math_floor.bd (w_math_IsNaN : Nat → (Bool → Prop) → Prop) (w_math_IsInf : Nat → Int → (Bool → Prop) → Prop) (w_math_Modf : Nat → (Nat → Nat → Prop) → Prop) : Nat → (Nat → Prop) → Prop := (math_floor.ib w_math_IsNaN w_math_IsInf w_math_Modf).W math_floor.g
noncomputable def math_floor.wp : Nat → (Nat → Prop) → Prop := math_floor.bd math_IsNaN.wp math_IsInf.wp math_Modf.wp
noncomputable def math_floor.c : Ctr := math_floor.g.ctr math_floor.wp

-- math.Floor
noncomputable def math_Floor.g : Sig := ⟨95, [(.v (.a (.one (.flt .f64))))], [], [.flt], [(.v (.a (.one (.flt .f64))))], [], [.flt]⟩
noncomputable def math_Floor.ib (w_math_floor : Nat → (Nat → Prop) → Prop) : FnI := ⟨Try.prog, [(115, .floor)], [math_floor.g.ctr w_math_floor], 7, [.tmp 2], bodyOf Try.f95, .leaf, []⟩
noncomputable def math_Floor.i : FnI := math_Floor.ib math_floor.wp
noncomputable def math_Floor.bd (w_math_floor : Nat → (Nat → Prop) → Prop) : Nat → (Nat → Prop) → Prop := (math_Floor.ib w_math_floor).W math_Floor.g
noncomputable def math_Floor.wp : Nat → (Nat → Prop) → Prop := math_Floor.bd math_floor.wp
noncomputable def math_Floor.c : Ctr := math_Floor.g.ctr math_Floor.wp

-- loop.example/g01247/spec.l05Is
noncomputable def spec_l05Is.g : Sig := ⟨86, [(.v (.a (.one (.pt 0 0))))], [(.rdb [(.int .i64), (.int .i64), (.sl 1)]), (.rd (.I .i64))], [.int, .int, .li], [(.v (.a (.one .bool)))], [.keep, .keep], [.bool]⟩
noncomputable def spec_l05Is.ib (w_spec_l00In : Int → Int → Int → (Bool → Prop) → Prop) (w_spec_l05Size : Int → Int → (Bool → Prop) → Prop) : FnI := ⟨Try.prog, [], [spec_l00In.g.ctr w_spec_l00In, spec_l05Size.g.ctr w_spec_l05Size], 48, [.tmp 2], bodyOf Try.f86, (.seq .leaf (.seq (.seq .leaf (.block (.loop ⟨[8, 9], [.int, .int], [(.v (.a (.one (.int .i64)))), (.v (.a (.one (.int .i64))))], [.keep, .keep]⟩ .leaf))) .leaf)), []⟩
noncomputable def spec_l05Is.i : FnI := spec_l05Is.ib spec_l00In.wp spec_l05Size.wp
noncomputable def spec_l05Is.bd (w_spec_l00In : Int → Int → Int → (Bool → Prop) → Prop) (w_spec_l05Size : Int → Int → (Bool → Prop) → Prop) : Int → Int → List Int → (Bool → Prop) → Prop := (spec_l05Is.ib w_spec_l00In w_spec_l05Size).W spec_l05Is.g
noncomputable def spec_l05Is.wp : Int → Int → List Int → (Bool → Prop) → Prop := spec_l05Is.bd spec_l00In.wp spec_l05Size.wp
noncomputable def spec_l05Is.c : Ctr := spec_l05Is.g.ctr spec_l05Is.wp

-- loop.example/g01247/spec.l05Give
noncomputable def spec_l05Give.g : Sig := ⟨85, [(.v (.a (.agg [(.int .i64), (.int .i64), (.sl 0)])))], [(.row 2 (.I .i64))], [.li, .int, .int], [(.tup [(.a (.agg [(.int .i64), (.int .i64), (.sl 1)])), (.a (.one .bool))])], [.dead, (.row 2 (.I .i64))], [.li, .int, .int, .bool]⟩
noncomputable def spec_l05Give.ib (w_spec_l05Is : Int → Int → List Int → (Bool → Prop) → Prop) : FnI := ⟨Try.prog, [], [spec_l05Is.g.ctr w_spec_l05Is], 8, [.cell 2 28, .tmp 3], bodyOf Try.f85, .leaf, []⟩
noncomputable def spec_l05Give.i : FnI := spec_l05Give.ib spec_l05Is.wp
noncomputable def spec_l05Give.bd (w_spec_l05Is : Int → Int → List Int → (Bool → Prop) → Prop) : List Int → Int → Int → (List Int → Int → Int → Bool → Prop) → Prop := (spec_l05Give.ib w_spec_l05Is).W spec_l05Give.g
noncomputable def spec_l05Give.wp : List Int → Int → Int → (List Int → Int → Int → Bool → Prop) → Prop := spec_l05Give.bd spec_l05Is.wp
noncomputable def spec_l05Give.c : Ctr := spec_l05Give.g.ctr spec_l05Give.wp

-- loop.example/g01247/spec.ScrewHeights
noncomputable def spec_ScrewHeights.g : Sig := ⟨41, [(.v (.a (.one (.int .i64)))), (.v (.a (.one (.int .i64)))), (.v (.a (.one (.int .i64)))), (.v (.a (.one (.int .i64)))), (.v (.a (.one (.int .i64))))], [], [.int, .int, .int, .int, .int], [(.tup [(.a (.agg [(.int .i64), (.int .i64), (.sl 0)])), (.a (.one .bool))])], [(.row 2 (.I .i64))], [.li, .int, .int, .bool]⟩
noncomputable def spec_ScrewHeights.ib (w_spec_l05Size : Int → Int → (Bool → Prop) → Prop) (w_spec_l00In : Int → Int → Int → (Bool → Prop) → Prop) (w_spec_l01Angle : Nat → Nat → (Nat → Prop) → Prop) (w_math_Floor : Nat → (Nat → Prop) → Prop) (w_spec_l05Give : List Int → Int → Int → (List Int → Int → Int → Bool → Prop) → Prop) : FnI := ⟨Try.prog, [], [spec_l05Size.g.ctr w_spec_l05Size, spec_l00In.g.ctr w_spec_l00In, spec_l01Angle.g.ctr w_spec_l01Angle, math_Floor.g.ctr w_math_Floor, spec_l05Give.g.ctr w_spec_l05Give], 79, [.cell 10 28, .tmp 11], bodyOf Try.f41, (.seq .leaf (.seq .leaf (.seq .leaf (.seq (.seq .leaf (.block (.loop ⟨[10, 12, 13], [.int, .int, .int, .int, .li, .li, .int], [(.v (.a (.one (.pt 0 0)))), (.v (.a (.one (.pt 1 0)))), (.v (.a (.one (.int .i64))))], [(.box 28 [(.int .i64), (.int .i64), (.sl 2)]), (.box 28 [(.int .i64), (.int .i64), (.sl 3)]), (.row 2 (.I .i64)), (.row 2 (.I .i64))]⟩ (.seq .leaf (.seq (.block (.seq .leaf (.block (.loop ⟨[10, 12, 13, 14], [.int, .int, .int, .int, .li, .li, .int, .int], [(.v (.a (.one (.pt 0 0)))), (.v (.a (.one (.pt 1 0)))), (.v (.a (.one (.int .i64)))), (.v (.a (.one (.int .i64))))], [(.box 28 [(.int .i64), (.int .i64), (.sl 2)]), (.box 28 [(.int .i64), (.int .i64), (.sl 3)]), (.row 2 (.I .i64)), (.row 2 (.I .i64))]⟩ .leaf)))) .leaf))))) .leaf)))), []⟩
noncomputable def spec_ScrewHeights.i : FnI := spec_ScrewHeights.ib spec_l05Size.wp spec_l00In.wp spec_l01Angle.wp math_Floor.wp spec_l05Give.wp
noncomputable def spec_ScrewHeights.bd (w_spec_l05Size : Int → Int → (Bool → Prop) → Prop) (w_spec_l00In : Int → Int → Int → (Bool → Prop) → Prop) (w_spec_l01Angle : Nat → Nat → (Nat → Prop) → Prop) (w_math_Floor : Nat → (Nat → Prop) → Prop) (w_spec_l05Give : List Int → Int → Int → (List Int → Int → Int → Bool → Prop) → Prop) : Int → Int → Int → Int → Int → (List Int → Int → Int → Bool → Prop) → Prop := (spec_ScrewHeights.ib w_spec_l05Size w_spec_l00In w_spec_l01Angle w_math_Floor w_spec_l05Give).W spec_ScrewHeights.g
noncomputable def spec_ScrewHeights.wp : Int → Int → Int → Int → Int → (List Int → Int → Int → Bool → Prop) → Prop := spec_ScrewHeights.bd spec_l05Size.wp spec_l00In.wp spec_l01Angle.wp math_Floor.wp spec_l05Give.wp
noncomputable def spec_ScrewHeights.c : Ctr := spec_ScrewHeights.g.ctr spec_ScrewHeights.wp

-- loop.example/g01247/impl.within
noncomputable def impl_within.g : Sig := ⟨63, [(.v (.a (.one (.int .i64)))), (.v (.a (.one (.int .i64)))), (.v (.a (.one (.int .i64))))], [], [.int, .int, .int], [(.v (.a (.one .bool)))], [], [.bool]⟩
noncomputable def impl_within.ib  : FnI := ⟨Try.prog, [], [], 15, [.tmp 6], bodyOf Try.f63, .leaf, []⟩
noncomputable def impl_within.i : FnI := impl_within.ib 
noncomputable def impl_within.bd  : Int → Int → Int → (Bool → Prop) → Prop := (impl_within.ib ).W impl_within.g
noncomputable def impl_within.wp : Int → Int → Int → (Bool → Prop) → Prop := impl_within.bd 
noncomputable def impl_within.c : Ctr := impl_within.g.ctr impl_within.wp

-- loop.example/g01247/impl.areWithin$1
noncomputable def impl_areWithin_1.g : Sig := ⟨107, [(.v (.a (.one (.int .i64)))), (.v (.a (.one (.pt 0 0)))), (.v (.a (.one (.pt 1 0))))], [(.rdb [(.int .i64)]), (.rdb [(.int .i64)])], [.int, .int, .int], [(.v (.a (.one .bool)))], [.keep, .keep], [.bool]⟩
noncomputable def impl_areWithin_1.ib (w_impl_within : Int → Int → Int → (Bool → Prop) → Prop) : FnI := ⟨Try.prog, [], [impl_within.g.ctr w_impl_within], 10, [.tmp 4], bodyOf Try.f107, .leaf, []⟩
noncomputable def impl_areWithin_1.i : FnI := impl_areWithin_1.ib impl_within.wp
noncomputable def impl_areWithin_1.bd (w_impl_within : Int → Int → Int → (Bool → Prop) → Prop) : Int → Int → Int → (Bool → Prop) → Prop := (impl_areWithin_1.ib w_impl_within).W impl_areWithin_1.g
noncomputable def impl_areWithin_1.wp : Int → Int → Int → (Bool → Prop) → Prop := impl_areWithin_1.bd impl_within.wp
noncomputable def impl_areWithin_1.c : Ctr := impl_areWithin_1.g.ctr impl_areWithin_1.wp

-- slices.IndexFunc[[]int64,int64]
noncomputable def slices_IndexFunc_int64_int64__areWithin_1.g : Sig := ⟨121, [(.v (.a (.one (.sl 0)))), (.v (.fn 107 [] [(.one (.pt 1 0)), (.one (.pt 2 0))]))], [(.rd (.I .i64)), (.rdb [(.int .i64)]), (.rdb [(.int .i64)])], [.li, .int, .int], [(.v (.a (.one (.int .i64))))], [.keep, .keep, .keep], [.int]⟩
noncomputable def slices_IndexFunc_int64_int64__areWithin_1.ib (w_impl_areWithin_1 : Int → Int → Int → (Bool → Prop) → Prop) : FnI := ⟨Try.prog, [], [impl_areWithin_1.g.ctr w_impl_areWithin_1], 19, [.tmp 4], bodyOf Try.f121, (.seq .leaf (.seq (.seq .leaf (.block (.loop ⟨[7, 8], [.int, .int], [(.v (.a (.one (.int .i64)))), (.v (.a (.one (.int .i64))))], [.keep, .keep, .keep]⟩ .leaf))) .leaf)), []⟩
noncomputable def slices_IndexFunc_int64_int64__areWithin_1.i : FnI := slices_IndexFunc_int64_int64__areWithin_1.ib impl_areWithin_1.wp
noncomputable def slices_IndexFunc_int64_int64__areWithin_1.bd (w_impl_areWithin_1 : Int → Int → Int → (Bool → Prop) → Prop) : List Int → Int → Int → (Int → Prop) → Prop := (slices_IndexFunc_int64_int64__areWithin_1.ib w_impl_areWithin_1).W slices_IndexFunc_int64_int64__areWithin_1.g
noncomputable def slices_IndexFunc_int64_int64__areWithin_1.wp : List Int → Int → Int → (Int → Prop) → Prop := slices_IndexFunc_int64_int64__areWithin_1.bd impl_areWithin_1.wp
noncomputable def slices_IndexFunc_int64_int64__areWithin_1.c : Ctr := slices_IndexFunc_int64_int64__areWithin_1.g.ctr slices_IndexFunc_int64_int64__areWithin_1.wp

-- slices.ContainsFunc[[]int64,int64]
noncomputable def slices_ContainsFunc_int64_int64__areWithin_1.g : Sig := ⟨106, [(.v (.a (.one (.sl 0)))), (.v (.fn 107 [] [(.one (.pt 1 0)), (.one (.pt 2 0))]))], [(.rd (.I .i64)), (.rdb [(.int .i64)]), (.rdb [(.int .i64)])], [.li, .int, .int], [(.v (.a (.one .bool)))], [.keep, .keep, .keep], [.bool]⟩
noncomputable def slices_ContainsFunc_int64_int64__areWithin_1.ib (w_slices_IndexFunc_int64_int64__areWithin_1 : List Int → Int → Int → (Int → Prop) → Prop) : FnI := ⟨Try.prog, [], [slices_IndexFunc_int64_int64__areWithin_1.g.ctr w_slices_IndexFunc_int64_int64__areWithin_1], 9, [.tmp 4], bodyOf Try.f106, .leaf, []⟩
noncomputable def slices_ContainsFunc_int64_int64__areWithin_1.i : FnI := slices_ContainsFunc_int64_int64__areWithin_1.ib slices_IndexFunc_int64_int64__areWithin_1.wp
noncomputable def slices_ContainsFunc_int64_int64__areWithin_1.bd (w_slices_IndexFunc_int64_int64__areWithin_1 : List Int → Int → Int → (Int → Prop) → Prop) : List Int → Int → Int → (Bool → Prop) → Prop := (slices_ContainsFunc_int64_int64__areWithin_1.ib w_slices_IndexFunc_int64_int64__areWithin_1).W slices_ContainsFunc_int64_int64__areWithin_1.g
noncomputable def slices_ContainsFunc_int64_int64__areWithin_1.wp : List Int → Int → Int → (Bool → Prop) → Prop := slices_ContainsFunc_int64_int64__areWithin_1.bd slices_IndexFunc_int64_int64__areWithin_1.wp
noncomputable def slices_ContainsFunc_int64_int64__areWithin_1.c : Ctr := slices_ContainsFunc_int64_int64__areWithin_1.g.ctr slices_ContainsFunc_int64_int64__areWithin_1.wp

-- loop.example/g01247/impl.areWithin
noncomputable def impl_areWithin.g : Sig := ⟨68, [(.v (.a (.one (.int .i64)))), (.v (.a (.one (.int .i64)))), (.v (.a (.one (.sl 0))))], [(.rd (.I .i64))], [.li, .int, .int], [(.v (.a (.one .bool)))], [.keep], [.bool]⟩
noncomputable def impl_areWithin.ib (w_slices_ContainsFunc_int64_int64__areWithin_1 : List Int → Int → Int → (Bool → Prop) → Prop) : FnI := ⟨Try.prog, [], [slices_ContainsFunc_int64_int64__areWithin_1.g.ctr w_slices_ContainsFunc_int64_int64__areWithin_1], 11, [.tmp 6], bodyOf Try.f68, .leaf, []⟩
noncomputable def impl_areWithin.i : FnI := impl_areWithin.ib slices_ContainsFunc_int64_int64__areWithin_1.wp
noncomputable def impl_areWithin.bd (w_slices_ContainsFunc_int64_int64__areWithin_1 : List Int → Int → Int → (Bool → Prop) → Prop) : List Int → Int → Int → (Bool → Prop) → Prop := (impl_areWithin.ib w_slices_ContainsFunc_int64_int64__areWithin_1).W impl_areWithin.g
noncomputable def impl_areWithin.wp : List Int → Int → Int → (Bool → Prop) → Prop := impl_areWithin.bd slices_ContainsFunc_int64_int64__areWithin_1.wp
noncomputable def impl_areWithin.c : Ctr := impl_areWithin.g.ctr impl_areWithin.wp

-- loop.example/g01247/impl.finite
noncomputable def impl_finite.g : Sig := ⟨127, [(.v (.a (.one (.flt .f64))))], [], [.flt], [(.v (.a (.one .bool)))], [], [.bool]⟩
noncomputable def impl_finite.ib (w_math_IsNaN : Nat → (Bool → Prop) → Prop) (w_math_IsInf : Nat → Int → (Bool → Prop) → Prop) : FnI := ⟨Try.prog, [], [math_IsNaN.g.ctr w_math_IsNaN, math_IsInf.g.ctr w_math_IsInf], 11, [.tmp 2], bodyOf Try.f127, .leaf, []⟩
noncomputable def impl_finite.i : FnI := impl_finite.ib math_IsNaN.wp math_IsInf.wp
noncomputable def impl_finite.bd (w_math_IsNaN : Nat → (Bool → Prop) → Prop) (w_math_IsInf : Nat → Int → (Bool → Prop) → Prop) : Nat → (Bool → Prop) → Prop := (impl_finite.ib w_math_IsNaN w_math_IsInf).W impl_finite.g
noncomputable def impl_finite.wp : Nat → (Bool → Prop) → Prop := impl_finite.bd math_IsNaN.wp math_IsInf.wp
noncomputable def impl_finite.c : Ctr := impl_finite.g.ctr impl_finite.wp

-- loop.example/g01247/impl.IsFinite
noncomputable def impl_IsFinite.g : Sig := ⟨117, [(.v (.a (.one (.flt .f32))))], [], [.flt], [(.v (.a (.one .bool)))], [], [.bool]⟩
noncomputable def impl_IsFinite.ib (w_impl_finite : Nat → (Bool → Prop) → Prop) : FnI := ⟨Try.prog, [], [impl_finite.g.ctr w_impl_finite], 6, [.tmp 2], bodyOf Try.f117, .leaf, []⟩
noncomputable def impl_IsFinite.i : FnI := impl_IsFinite.ib impl_finite.wp
noncomputable def impl_IsFinite.bd (w_impl_finite : Nat → (Bool → Prop) → Prop) : Nat → (Bool → Prop) → Prop := (impl_IsFinite.ib w_impl_finite).W impl_IsFinite.g
noncomputable def impl_IsFinite.wp : Nat → (Bool → Prop) → Prop := impl_IsFinite.bd impl_finite.wp
noncomputable def impl_IsFinite.c : Ctr := impl_IsFinite.g.ctr impl_IsFinite.wp

-- loop.example/g01247/impl.angle
noncomputable def impl_angle.g : Sig := ⟨119, [(.v (.a (.one (.flt .f64)))), (.v (.a (.one (.flt .f64))))], [], [.flt, .flt], [(.v (.a (.one (.flt .f64))))], [], [.flt]⟩
noncomputable def impl_angle.ib (w_math_Abs : Nat → (Nat → Prop) → Prop) (w_math_Sqrt : Nat → (Nat → Prop) → Prop) : FnI := ⟨Try.prog, [], [math_Abs.g.ctr w_math_Abs, math_Sqrt.g.ctr w_math_Sqrt], 69, [.tmp 4], bodyOf Try.f119, (.seq .leaf (.seq .leaf (.seq .leaf (.seq (.seq .leaf (.condJ ⟨[5, 6, 7], [.flt, .flt, .flt], [(.v (.a (.one (.flt .f64)))), (.v (.a (.one (.flt .f64)))), (.v (.a (.one (.flt .f64))))], []⟩ .leaf .leaf)) (.seq (.seq .leaf (.block (.loop ⟨[5, 6, 7, 25], [.flt, .flt, .flt, .int], [(.v (.a (.one (.flt .f64)))), (.v (.a (.one (.flt .f64)))), (.v (.a (.one (.flt .f64)))), (.v (.a (.one (.int .i64))))], []⟩ .leaf))) (.seq .leaf (.seq (.seq .leaf (.block (.loop ⟨[5, 6, 7, 8, 9, 10], [.flt, .flt, .flt, .flt, .flt, .int], [(.v (.a (.one (.flt .f64)))), (.v (.a (.one (.flt .f64)))), (.v (.a (.one (.flt .f64)))), (.v (.a (.one (.flt .f64)))), (.v (.a (.one (.flt .f64)))), (.v (.a (.one (.int .i64))))], []⟩ .leaf))) .leaf))))))), []⟩
noncomputable def impl_angle.i : FnI := impl_angle.ib math_Abs.wp math_Sqrt.wp
noncomputable def impl_angle.bd (w_math_Abs : Nat → (Nat → Prop) → Prop) (w_math_Sqrt : Nat → (Nat → Prop) → Prop) : Nat → Nat → (Nat → Prop) → Prop := (impl_angle.ib w_math_Abs w_math_Sqrt).W impl_angle.g
noncomputable def impl_angle.wp : Nat → Nat → (Nat → Prop) → Prop := impl_angle.bd math_Abs.wp math_Sqrt.wp
noncomputable def impl_angle.c : Ctr := impl_angle.g.ctr impl_angle.wp

-- loop.example/g01247/impl.AngleTurns
noncomputable def impl_AngleTurns.g : Sig := ⟨98, [(.v (.a (.one (.flt .f32)))), (.v (.a (.one (.flt .f32))))], [], [.flt, .flt], [(.v (.a (.one (.flt .f32))))], [], [.flt]⟩
noncomputable def impl_AngleTurns.ib (w_impl_IsFinite : Nat → (Bool → Prop) → Prop) (w_math_NaN : (Nat → Prop) → Prop) (w_impl_angle : Nat → Nat → (Nat → Prop) → Prop) : FnI := ⟨Try.prog, [], [impl_IsFinite.g.ctr w_impl_IsFinite, math_NaN.g.ctr w_math_NaN, impl_angle.g.ctr w_impl_angle], 29, [.tmp 4], bodyOf Try.f98, .leaf, []⟩
noncomputable def impl_AngleTurns.i : FnI := impl_AngleTurns.ib impl_IsFinite.wp math_NaN.wp impl_angle.wp
noncomputable def impl_AngleTurns.bd (w_impl_IsFinite : Nat → (Bool → Prop) → Prop) (w_math_NaN : (Nat → Prop) → Prop) (w_impl_angle : Nat → Nat → (Nat → Prop) → Prop) : Nat → Nat → (Nat → Prop) → Prop := (impl_AngleTurns.ib w_impl_IsFinite w_math_NaN w_impl_angle).W impl_AngleTurns.g
noncomputable def impl_AngleTurns.wp : Nat → Nat → (Nat → Prop) → Prop := impl_AngleTurns.bd impl_IsFinite.wp math_NaN.wp impl_angle.wp
noncomputable def impl_AngleTurns.c : Ctr := impl_AngleTurns.g.ctr impl_AngleTurns.wp

-- loop.example/g01247/impl.floor32
noncomputable def impl_floor32.g : Sig := ⟨97, [(.v (.a (.one (.flt .f32))))], [], [.flt], [(.v (.a (.one (.flt .f32))))], [], [.flt]⟩
noncomputable def impl_floor32.ib (w_math_Floor : Nat → (Nat → Prop) → Prop) : FnI := ⟨Try.prog, [], [math_Floor.g.ctr w_math_Floor], 7, [.tmp 2], bodyOf Try.f97, .leaf, []⟩
noncomputable def impl_floor32.i : FnI := impl_floor32.ib math_Floor.wp
noncomputable def impl_floor32.bd (w_math_Floor : Nat → (Nat → Prop) → Prop) : Nat → (Nat → Prop) → Prop := (impl_floor32.ib w_math_Floor).W impl_floor32.g
noncomputable def impl_floor32.wp : Nat → (Nat → Prop) → Prop := impl_floor32.bd math_Floor.wp
noncomputable def impl_floor32.c : Ctr := impl_floor32.g.ctr impl_floor32.wp

-- loop.example/g01247/impl.ScrewHeights$1
noncomputable def impl_ScrewHeights_1.g : Sig := ⟨96, [(.v (.a (.one (.int .i64)))), (.v (.a (.one (.int .i64)))), (.v (.a (.one (.pt 0 0)))), (.v (.a (.one (.pt 1 0)))), (.v (.a (.one (.pt 2 0))))], [(.rdb [(.int .i64)]), (.rdb [(.int .i64)]), (.rdb [(.int .i64)])], [.int, .int, .int, .int, .int], [(.v (.a (.one (.int .i64))))], [.keep, .keep, .keep], [.int]⟩
noncomputable def impl_ScrewHeights_1.ib (w_impl_AngleTurns : Nat → Nat → (Nat → Prop) → Prop) (w_impl_floor32 : Nat → (Nat → Prop) → Prop) : FnI := ⟨Try.prog, [], [impl_AngleTurns.g.ctr w_impl_AngleTurns, impl_floor32.g.ctr w_impl_floor32], 23, [.tmp 7], bodyOf Try.f96, .leaf, []⟩
noncomputable def impl_ScrewHeights_1.i : FnI := impl_ScrewHeights_1.ib impl_AngleTurns.wp impl_floor32.wp
noncomputable def impl_ScrewHeights_1.bd (w_impl_AngleTurns : Nat → Nat → (Nat → Prop) → Prop) (w_impl_floor32 : Nat → (Nat → Prop) → Prop) : Int → Int → Int → Int → Int → (Int → Prop) → Prop := (impl_ScrewHeights_1.ib w_impl_AngleTurns w_impl_floor32).W impl_ScrewHeights_1.g
noncomputable def impl_ScrewHeights_1.wp : Int → Int → Int → Int → Int → (Int → Prop) → Prop := impl_ScrewHeights_1.bd impl_AngleTurns.wp impl_floor32.wp
noncomputable def impl_ScrewHeights_1.c : Ctr := impl_ScrewHeights_1.g.ctr impl_ScrewHeights_1.wp

-- loop.example/g01247/impl.ValidHeights
noncomputable def impl_ValidHeights.g : Sig := ⟨32, [(.v (.a (.agg [(.int .i64), (.int .i64), (.sl 0)])))], [(.rd (.I .i64))], [.li, .int, .int], [(.v (.a (.one .bool)))], [.keep], [.bool]⟩
noncomputable def impl_ValidHeights.ib (w_impl_areWithin : List Int → Int → Int → (Bool → Prop) → Prop) : FnI := ⟨Try.prog, [], [impl_areWithin.g.ctr w_impl_areWithin], 25, [.tmp 2], bodyOf Try.f32, .leaf, []⟩
noncomputable def impl_ValidHeights.i : FnI := impl_ValidHeights.ib impl_areWithin.wp
noncomputable def impl_ValidHeights.bd (w_impl_areWithin : List Int → Int → Int → (Bool → Prop) → Prop) : List Int → Int → Int → (Bool → Prop) → Prop := (impl_ValidHeights.ib w_impl_areWithin).W impl_ValidHeights.g
noncomputable def impl_ValidHeights.wp : List Int → Int → Int → (Bool → Prop) → Prop := impl_ValidHeights.bd impl_areWithin.wp
noncomputable def impl_ValidHeights.c : Ctr := impl_ValidHeights.g.ctr impl_ValidHeights.wp

-- (loop.example/g01247/impl.Heights).told
noncomputable def impl_Heights_told.g : Sig := ⟨79, [(.v (.a (.agg [(.int .i64), (.int .i64), (.sl 0)])))], [(.row 2 (.I .i64))], [.li, .int, .int], [(.tup [(.a (.agg [(.int .i64), (.int .i64), (.sl 1)])), (.a (.one .bool))])], [.dead, (.row 2 (.I .i64))], [.li, .int, .int, .bool]⟩
noncomputable def impl_Heights_told.ib (w_impl_ValidHeights : List Int → Int → Int → (Bool → Prop) → Prop) : FnI := ⟨Try.prog, [], [impl_ValidHeights.g.ctr w_impl_ValidHeights], 9, [.cell 2 28, .tmp 3], bodyOf Try.f79, .leaf, []⟩
noncomputable def impl_Heights_told.i : FnI := impl_Heights_told.ib impl_ValidHeights.wp
noncomputable def impl_Heights_told.bd (w_impl_ValidHeights : List Int → Int → Int → (Bool → Prop) → Prop) : List Int → Int → Int → (List Int → Int → Int → Bool → Prop) → Prop := (impl_Heights_told.ib w_impl_ValidHeights).W impl_Heights_told.g
noncomputable def impl_Heights_told.wp : List Int → Int → Int → (List Int → Int → Int → Bool → Prop) → Prop := impl_Heights_told.bd impl_ValidHeights.wp
noncomputable def impl_Heights_told.c : Ctr := impl_Heights_told.g.ctr impl_Heights_told.wp

-- loop.example/g01247/impl.built
noncomputable def impl_built__ScrewHeights_1.g : Sig := ⟨76, [(.v (.a (.one (.int .i64)))), (.v (.a (.one (.int .i64)))), (.v (.fn 96 [] [(.one (.pt 0 0)), (.one (.pt 1 0)), (.one (.pt 2 0))]))], [(.rdb [(.int .i64)]), (.rdb [(.int .i64)]), (.rdb [(.int .i64)])], [.int, .int, .int, .int, .int], [(.tup [(.a (.agg [(.int .i64), (.int .i64), (.sl 3)])), (.a (.one .bool))])], [.keep, .keep, .keep, (.row 2 (.I .i64))], [.li, .int, .int, .bool]⟩
noncomputable def impl_built__ScrewHeights_1.ib (w_impl_areWithin : List Int → Int → Int → (Bool → Prop) → Prop) (w_impl_ScrewHeights_1 : Int → Int → Int → Int → Int → (Int → Prop) → Prop) (w_impl_Heights_told : List Int → Int → Int → (List Int → Int → Int → Bool → Prop) → Prop) : FnI := ⟨Try.prog, [], [impl_areWithin.g.ctr w_impl_areWithin, impl_ScrewHeights_1.g.ctr w_impl_ScrewHeights_1, impl_Heights_told.g.ctr w_impl_Heights_told], 43, [.cell 6 28, .tmp 7], bodyOf Try.f76, (.seq .leaf (.seq .leaf (.seq .leaf (.seq (.seq .leaf (.block (.loop ⟨[6, 8, 20, 21], [.int, .int, .int, .int, .li, .li, .int, .int], [(.v (.a (.one (.pt 3 0)))), (.v (.a (.one (.pt 4 0)))), (.v (.a (.one (.int .i64)))), (.v (.a (.one (.int .i64))))], [.keep, .keep, .keep, (.box 28 [(.int .i64), (.int .i64), (.sl 5)]), (.box 28 [(.int .i64), (.int .i64), (.sl 6)]), (.row 2 (.I .i64)), (.row 2 (.I .i64))]⟩ (.seq .leaf (.seq .leaf (.seq (.block (.seq .leaf (.seq .leaf (.block (.loop ⟨[6, 8, 9, 20, 21, 24, 25], [.int, .int, .int, .int, .li, .li, .int, .int, .int, .int, .int], [(.v (.a (.one (.pt 3 0)))), (.v (.a (.one (.pt 4 0)))), (.v (.a (.one (.int .i64)))), (.v (.a (.one (.int .i64)))), (.v (.a (.one (.int .i64)))), (.v (.a (.one (.int .i64)))), (.v (.a (.one (.int .i64))))], [.keep, .keep, .keep, (.box 28 [(.int .i64), (.int .i64), (.sl 5)]), (.box 28 [(.int .i64), (.int .i64), (.sl 6)]), (.row 2 (.I .i64)), (.row 2 (.I .i64))]⟩ .leaf))))) .leaf)))))) .leaf)))), []⟩
noncomputable def impl_built__ScrewHeights_1.i : FnI := impl_built__ScrewHeights_1.ib impl_areWithin.wp impl_ScrewHeights_1.wp impl_Heights_told.wp
noncomputable def impl_built__ScrewHeights_1.bd (w_impl_areWithin : List Int → Int → Int → (Bool → Prop) → Prop) (w_impl_ScrewHeights_1 : Int → Int → Int → Int → Int → (Int → Prop) → Prop) (w_impl_Heights_told : List Int → Int → Int → (List Int → Int → Int → Bool → Prop) → Prop) : Int → Int → Int → Int → Int → (List Int → Int → Int → Bool → Prop) → Prop := (impl_built__ScrewHeights_1.ib w_impl_areWithin w_impl_ScrewHeights_1 w_impl_Heights_told).W impl_built__ScrewHeights_1.g
noncomputable def impl_built__ScrewHeights_1.wp : Int → Int → Int → Int → Int → (List Int → Int → Int → Bool → Prop) → Prop := impl_built__ScrewHeights_1.bd impl_areWithin.wp impl_ScrewHeights_1.wp impl_Heights_told.wp
noncomputable def impl_built__ScrewHeights_1.c : Ctr := impl_built__ScrewHeights_1.g.ctr impl_built__ScrewHeights_1.wp

-- loop.example/g01247/impl.ScrewHeights
noncomputable def impl_ScrewHeights.g : Sig := ⟨42, [(.v (.a (.one (.int .i64)))), (.v (.a (.one (.int .i64)))), (.v (.a (.one (.int .i64)))), (.v (.a (.one (.int .i64)))), (.v (.a (.one (.int .i64))))], [], [.int, .int, .int, .int, .int], [(.tup [(.a (.agg [(.int .i64), (.int .i64), (.sl 0)])), (.a (.one .bool))])], [(.row 2 (.I .i64))], [.li, .int, .int, .bool]⟩
noncomputable def impl_ScrewHeights.ib (w_impl_within : Int → Int → Int → (Bool → Prop) → Prop) (w_impl_built__ScrewHeights_1 : Int → Int → Int → Int → Int → (List Int → Int → Int → Bool → Prop) → Prop) : FnI := ⟨Try.prog, [], [impl_within.g.ctr w_impl_within, impl_built__ScrewHeights_1.g.ctr w_impl_built__ScrewHeights_1], 36, [.cell 10 28, .tmp 11], bodyOf Try.f42, .leaf, []⟩
noncomputable def impl_ScrewHeights.i : FnI := impl_ScrewHeights.ib impl_within.wp impl_built__ScrewHeights_1.wp
noncomputable def impl_ScrewHeights.bd (w_impl_within : Int → Int → Int → (Bool → Prop) → Prop) (w_impl_built__ScrewHeights_1 : Int → Int → Int → Int → Int → (List Int → Int → Int → Bool → Prop) → Prop) : Int → Int → Int → Int → Int → (List Int → Int → Int → Bool → Prop) → Prop := (impl_ScrewHeights.ib w_impl_within w_impl_built__ScrewHeights_1).W impl_ScrewHeights.g
noncomputable def impl_ScrewHeights.wp : Int → Int → Int → Int → Int → (List Int → Int → Int → Bool → Prop) → Prop := impl_ScrewHeights.bd impl_within.wp impl_built__ScrewHeights_1.wp
noncomputable def impl_ScrewHeights.c : Ctr := impl_ScrewHeights.g.ctr impl_ScrewHeights.wp

-- loop.example/g01247/laws.eqInt64S
noncomputable def laws_eqInt64S.g : Sig := ⟨56, [(.v (.a (.one (.sl 0)))), (.v (.a (.one (.sl 1))))], [(.rd (.I .i64)), (.rd (.I .i64))], [.li, .li], [(.v (.a (.one .bool)))], [.keep, .keep], [.bool]⟩
noncomputable def laws_eqInt64S.ib  : FnI := ⟨Try.prog, [], [], 26, [.tmp 4], bodyOf Try.f56, (.seq .leaf (.seq .leaf (.seq (.seq .leaf (.block (.loop ⟨[5], [.int], [(.v (.a (.one (.int .i64))))], [.keep, .keep]⟩ .leaf))) .leaf))), []⟩
noncomputable def laws_eqInt64S.i : FnI := laws_eqInt64S.ib 
noncomputable def laws_eqInt64S.bd  : List Int → List Int → (Bool → Prop) → Prop := (laws_eqInt64S.ib ).W laws_eqInt64S.g
noncomputable def laws_eqInt64S.wp : List Int → List Int → (Bool → Prop) → Prop := laws_eqInt64S.bd 
noncomputable def laws_eqInt64S.c : Ctr := laws_eqInt64S.g.ctr laws_eqInt64S.wp

-- loop.example/g01247/laws.eqHeights
noncomputable def laws_eqHeights.g : Sig := ⟨16, [(.v (.a (.agg [(.int .i64), (.int .i64), (.sl 0)]))), (.v (.a (.agg [(.int .i64), (.int .i64), (.sl 1)])))], [(.rd (.I .i64)), (.rd (.I .i64))], [.li, .li, .int, .int, .int, .int], [(.v (.a (.one .bool)))], [.keep, .keep], [.bool]⟩
noncomputable def laws_eqHeights.ib (w_laws_eqInt64S : List Int → List Int → (Bool → Prop) → Prop) : FnI := ⟨Try.prog, [], [laws_eqInt64S.g.ctr w_laws_eqInt64S], 21, [.tmp 4], bodyOf Try.f16, .leaf, []⟩
noncomputable def laws_eqHeights.i : FnI := laws_eqHeights.ib laws_eqInt64S.wp
noncomputable def laws_eqHeights.bd (w_laws_eqInt64S : List Int → List Int → (Bool → Prop) → Prop) : List Int → List Int → Int → Int → Int → Int → (Bool → Prop) → Prop := (laws_eqHeights.ib w_laws_eqInt64S).W laws_eqHeights.g
noncomputable def laws_eqHeights.wp : List Int → List Int → Int → Int → Int → Int → (Bool → Prop) → Prop := laws_eqHeights.bd laws_eqInt64S.wp
noncomputable def laws_eqHeights.c : Ctr := laws_eqHeights.g.ctr laws_eqHeights.wp

-- loop.example/g01247/laws.markInt64S
noncomputable def laws_markInt64S.g : Sig := ⟨73, [(.v (.a (.one (.sl 0)))), (.v (.a (.one (.int .i64))))], [(.row 2 (.I .i64))], [.li, .int], [(.v (.a (.one (.int .i64))))], [(.row 2 (.I .i64))], [.li, .int]⟩
noncomputable def laws_markInt64S.ib  : FnI := ⟨Try.prog, [], [], 19, [.tmp 4], bodyOf Try.f73, (.seq .leaf (.seq (.seq .leaf (.block (.loop ⟨[1, 5], [.li, .int, .int], [(.v (.a (.one (.int .i64)))), (.v (.a (.one (.int .i64))))], [(.row 2 (.I .i64))]⟩ .leaf))) .leaf)), [1]⟩
noncomputable def laws_markInt64S.i : FnI := laws_markInt64S.ib 
noncomputable def laws_markInt64S.bd  : List Int → Int → (List Int → Int → Prop) → Prop := (laws_markInt64S.ib ).W laws_markInt64S.g
noncomputable def laws_markInt64S.wp : List Int → Int → (List Int → Int → Prop) → Prop := laws_markInt64S.bd 
noncomputable def laws_markInt64S.c : Ctr := laws_markInt64S.g.ctr laws_markInt64S.wp

-- loop.example/g01247/laws.markHeights
noncomputable def laws_markHeights.g : Sig := ⟨27, [(.v (.a (.agg [(.int .i64), (.int .i64), (.sl 0)]))), (.v (.a (.one (.int .i64))))], [(.row 2 (.I .i64))], [.li, .int, .int, .int], [(.v (.a (.one (.int .i64))))], [(.row 2 (.I .i64))], [.li, .int]⟩
noncomputable def laws_markHeights.ib (w_laws_markInt64S : List Int → Int → (List Int → Int → Prop) → Prop) : FnI := ⟨Try.prog, [], [laws_markInt64S.g.ctr w_laws_markInt64S], 10, [.tmp 4], bodyOf Try.f27, .leaf, [1]⟩
noncomputable def laws_markHeights.i : FnI := laws_markHeights.ib laws_markInt64S.wp
noncomputable def laws_markHeights.bd (w_laws_markInt64S : List Int → Int → (List Int → Int → Prop) → Prop) : List Int → Int → Int → Int → (List Int → Int → Prop) → Prop := (laws_markHeights.ib w_laws_markInt64S).W laws_markHeights.g
noncomputable def laws_markHeights.wp : List Int → Int → Int → Int → (List Int → Int → Prop) → Prop := laws_markHeights.bd laws_markInt64S.wp
noncomputable def laws_markHeights.c : Ctr := laws_markHeights.g.ctr laws_markHeights.wp

-- loop.example/g01247/laws.heldInt64S
noncomputable def laws_heldInt64S.g : Sig := ⟨74, [(.v (.a (.one (.sl 0)))), (.v (.a (.one (.int .i64))))], [(.rd (.I .i64))], [.li, .int], [(.v (.a (.one (.int .i64))))], [.keep], [.int]⟩
noncomputable def laws_heldInt64S.ib  : FnI := ⟨Try.prog, [], [], 21, [.tmp 4], bodyOf Try.f74, (.seq .leaf (.seq (.seq .leaf (.block (.loop ⟨[1, 5], [.int, .int], [(.v (.a (.one (.int .i64)))), (.v (.a (.one (.int .i64))))], [.keep]⟩ .leaf))) .leaf)), [1]⟩
noncomputable def laws_heldInt64S.i : FnI := laws_heldInt64S.ib 
noncomputable def laws_heldInt64S.bd  : List Int → Int → (Int → Prop) → Prop := (laws_heldInt64S.ib ).W laws_heldInt64S.g
noncomputable def laws_heldInt64S.wp : List Int → Int → (Int → Prop) → Prop := laws_heldInt64S.bd 
noncomputable def laws_heldInt64S.c : Ctr := laws_heldInt64S.g.ctr laws_heldInt64S.wp

-- loop.example/g01247/laws.heldHeights
noncomputable def laws_heldHeights.g : Sig := ⟨28, [(.v (.a (.agg [(.int .i64), (.int .i64), (.sl 0)]))), (.v (.a (.one (.int .i64))))], [(.rd (.I .i64))], [.li, .int, .int, .int], [(.v (.a (.one (.int .i64))))], [.keep], [.int]⟩
noncomputable def laws_heldHeights.ib (w_laws_heldInt64S : List Int → Int → (Int → Prop) → Prop) : FnI := ⟨Try.prog, [], [laws_heldInt64S.g.ctr w_laws_heldInt64S], 12, [.tmp 4], bodyOf Try.f28, .leaf, [1]⟩
noncomputable def laws_heldHeights.i : FnI := laws_heldHeights.ib laws_heldInt64S.wp
noncomputable def laws_heldHeights.bd (w_laws_heldInt64S : List Int → Int → (Int → Prop) → Prop) : List Int → Int → Int → Int → (Int → Prop) → Prop := (laws_heldHeights.ib w_laws_heldInt64S).W laws_heldHeights.g
noncomputable def laws_heldHeights.wp : List Int → Int → Int → Int → (Int → Prop) → Prop := laws_heldHeights.bd laws_heldInt64S.wp
noncomputable def laws_heldHeights.c : Ctr := laws_heldHeights.g.ctr laws_heldHeights.wp

-- loop.example/g01247/laws.FnExactScrewHeights
noncomputable def laws_FnExactScrewHeights.g : Sig := ⟨10, [(.v (.a (.one (.int .i64)))), (.v (.a (.one (.int .i64)))), (.v (.a (.one (.int .i64)))), (.v (.a (.one (.int .i64)))), (.v (.a (.one (.int .i64))))], [], [.int, .int, .int, .int, .int], [(.v (.a (.one .bool)))], [], [.bool]⟩
noncomputable def laws_FnExactScrewHeights.ib (w_spec_ScrewHeights : Int → Int → Int → Int → Int → (List Int → Int → Int → Bool → Prop) → Prop) (w_impl_ScrewHeights : Int → Int → Int → Int → Int → (List Int → Int → Int → Bool → Prop) → Prop) (w_laws_eqHeights : List Int → List Int → Int → Int → Int → Int → (Bool → Prop) → Prop) (w_laws_markHeights : List Int → Int → Int → Int → (List Int → Int → Prop) → Prop) (w_laws_heldHeights : List Int → Int → Int → Int → (Int → Prop) → Prop) : FnI := ⟨Try.prog, [], [spec_ScrewHeights.g.ctr w_spec_ScrewHeights, impl_ScrewHeights.g.ctr w_impl_ScrewHeights, laws_eqHeights.g.ctr w_laws_eqHeights, laws_markHeights.g.ctr w_laws_markHeights, laws_heldHeights.g.ctr w_laws_heldHeights], 83, [.tmp 10], bodyOf Try.f10, .leaf, []⟩
noncomputable def laws_FnExactScrewHeights.i : FnI := laws_FnExactScrewHeights.ib spec_ScrewHeights.wp impl_ScrewHeights.wp laws_eqHeights.wp laws_markHeights.wp laws_heldHeights.wp
noncomputable def laws_FnExactScrewHeights.bd (w_spec_ScrewHeights : Int → Int → Int → Int → Int → (List Int → Int → Int → Bool → Prop) → Prop) (w_impl_ScrewHeights : Int → Int → Int → Int → Int → (List Int → Int → Int → Bool → Prop) → Prop) (w_laws_eqHeights : List Int → List Int → Int → Int → Int → Int → (Bool → Prop) → Prop) (w_laws_markHeights : List Int → Int → Int → Int → (List Int → Int → Prop) → Prop) (w_laws_heldHeights : List Int → Int → Int → Int → (Int → Prop) → Prop) : Int → Int → Int → Int → Int → (Bool → Prop) → Prop := (laws_FnExactScrewHeights.ib w_spec_ScrewHeights w_impl_ScrewHeights w_laws_eqHeights w_laws_markHeights w_laws_heldHeights).W laws_FnExactScrewHeights.g
noncomputable def laws_FnExactScrewHeights.wp : Int → Int → Int → Int → Int → (Bool → Prop) → Prop := laws_FnExactScrewHeights.bd spec_ScrewHeights.wp impl_ScrewHeights.wp laws_eqHeights.wp laws_markHeights.wp laws_heldHeights.wp
noncomputable def laws_FnExactScrewHeights.c : Ctr := laws_FnExactScrewHeights.g.ctr laws_FnExactScrewHeights.wp
end Go.K.heights
