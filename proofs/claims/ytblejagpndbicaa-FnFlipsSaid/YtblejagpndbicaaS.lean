/- The library's sort and Compact, at this program: contracts. -/
import Derived.Test.YtblejagpndbicaaD
import Derived.Test.YtblejagpndbicaaK22
import Derived.KernelRfl
import Derived.Shelf.SortM.Plain
import Derived.Shelf.SortM.SortNone
import Derived.Shelf.SlicesG.CompactI
set_option maxRecDepth 100000
set_option linter.unusedVariables false
namespace Go.K.grains
open Go.K Go Go.Proofs Go.Shelf Go.Sort

def sortRen : Ren := {
  f := fun x =>
    match x with
    | 5 => 109
    | 8 => 126
    | 7 => 125
    | 19 => 143
    | 20 => 144
    | 10 => 134
    | 11 => 135
    | 12 => 136
    | 13 => 137
    | 14 => 138
    | 15 => 139
    | 16 => 140
    | 17 => 141
    | 18 => 142
    | 30 => 146
    | 31 => 147
    | 32 => 148
    | 33 => 149
    | 34 => 150
    | 35 => 151
    | 40 => 154
    | n => n,
  t := fun x =>
    match x with
    | 23 => 24
    | 25 => 2
    | 3 => 3
    | 32 => 133
    | 22 => 24
    | 0 => 0
    | 44 => 149
    | 46 => 115
    | 4 => 4
    | 36 => 142
    | 35 => 141
    | 41 => 146
    | 5 => 5
    | 9 => 9
    | 53 => 151
    | 57 => 155
    | 63 => 159
    | 64 => 160
    | n => n,
  g := fun x =>
    x }
theorem sortLaid : SlLaysM.n5 Try.prog sortRen := {
  mixed := (by kernel_rfl),
  f5 :=
    ⟨"slices.Sort[[]int64,int64]", by decide, Try.func109.trans (congrArg some (by kernel_rfl))⟩,
  f7 :=
    ⟨"slices.pdqsortOrdered[int64]", by decide, Try.func125.trans (congrArg some (by kernel_rfl))⟩,
  f8 := Try.func126.trans (congrArg some (by kernel_rfl)),
  f10 :=
    ⟨"slices.insertionSortOrdered[int64]", by decide, Try.func134.trans (congrArg some (by kernel_rfl))⟩,
  f11 :=
    ⟨"slices.heapSortOrdered[int64]", by decide, Try.func135.trans (congrArg some (by kernel_rfl))⟩,
  f12 :=
    ⟨"slices.breakPatternsOrdered[int64]", by decide, Try.func136.trans (congrArg some (by kernel_rfl))⟩,
  f13 :=
    ⟨"slices.choosePivotOrdered[int64]", by decide, Try.func137.trans (congrArg some (by kernel_rfl))⟩,
  f14 :=
    ⟨"slices.reverseRangeOrdered[int64]", by decide, Try.func138.trans (congrArg some (by kernel_rfl))⟩,
  f15 :=
    ⟨"slices.partialInsertionSortOrdered[int64]", by decide, Try.func139.trans (congrArg some (by kernel_rfl))⟩,
  f16 :=
    ⟨"cmp.Less[int64]", by decide, Try.func140.trans (congrArg some (by kernel_rfl))⟩,
  f17 :=
    ⟨"slices.partitionEqualOrdered[int64]", by decide, Try.func141.trans (congrArg some (by kernel_rfl))⟩,
  f18 :=
    ⟨"slices.partitionOrdered[int64]", by decide, Try.func142.trans (congrArg some (by kernel_rfl))⟩,
  f19 := Try.func143.trans (congrArg some (by kernel_rfl)),
  f20 := Try.func144.trans (congrArg some (by kernel_rfl)),
  f30 :=
    ⟨"slices.siftDownOrdered[int64]", by decide, Try.func146.trans (congrArg some (by kernel_rfl))⟩,
  f31 := Try.func147.trans (congrArg some (by kernel_rfl)),
  f32 := Try.func148.trans (congrArg some (by kernel_rfl)),
  f33 :=
    ⟨"slices.medianAdjacentOrdered[int64]", by decide, Try.func149.trans (congrArg some (by kernel_rfl))⟩,
  f34 :=
    ⟨"slices.medianOrdered[int64]", by decide, Try.func150.trans (congrArg some (by kernel_rfl))⟩,
  f35 :=
    ⟨"cmp.isNaN[int64]", by decide, Try.func151.trans (congrArg some (by kernel_rfl))⟩,
  f40 :=
    ⟨"slices.order2Ordered[int64]", by decide, Try.func154.trans (congrArg some (by kernel_rfl))⟩,
  t0 := Try.underlying0, a0 := Try.isAgg0, z0 := Try.sizeOf0, v0 := Try.zeroValue0, t3 := Try.underlying3,
  a3 := Try.isAgg3, z3 := Try.sizeOf3, v3 := Try.zeroValue3, t4 := Try.underlying4, a4 := Try.isAgg4, z4 := Try.sizeOf4,
  v4 := Try.zeroValue4, t5 := Try.underlying5, a5 := Try.isAgg5, z5 := Try.sizeOf5, v5 := Try.zeroValue5,
  t9 := Try.underlying9, a9 := Try.isAgg9, z9 := Try.sizeOf9, v9 := Try.zeroValue9, t22 := Try.underlying24,
  a22 := Try.isAgg24, z22 := Try.sizeOf24, v22 := Try.zeroValue24, t23 := Try.underlying24, a23 := Try.isAgg24,
  z23 := Try.sizeOf24, v23 := Try.zeroValue24, t25 := Try.underlying2, a25 := Try.isAgg2, z25 := Try.sizeOf2,
  v25 := Try.zeroValue2, t32 := Try.underlying133, a32 := Try.isAgg133, z32 := Try.sizeOf133, v32 := Try.zeroValue133,
  t35 := Try.underlying141, a35 := Try.isAgg141, z35 := Try.sizeOf141, v35 := Try.zeroValue141,
  t36 := Try.underlying142, a36 := Try.isAgg142, z36 := Try.sizeOf142, v36 := Try.zeroValue142,
  t41 := Try.underlying146, a41 := Try.isAgg146, z41 := Try.sizeOf146, v41 := Try.zeroValue146,
  t44 := Try.underlying149, a44 := Try.isAgg149, z44 := Try.sizeOf149, v44 := Try.zeroValue149,
  t46 := Try.underlying115, a46 := Try.isAgg115, z46 := Try.sizeOf115, v46 := Try.zeroValue115,
  t53 := Try.underlying151, a53 := Try.isAgg151, z53 := Try.sizeOf151, v53 := Try.zeroValue151,
  t57 := Try.underlying155, a57 := Try.isAgg155, z57 := Try.sizeOf155, v57 := Try.zeroValue155,
  t63 := Try.underlying159, a63 := Try.isAgg159, z63 := Try.sizeOf159, v63 := Try.zeroValue159,
  t64 := Try.underlying160, a64 := Try.isAgg160, z64 := Try.sizeOf160, v64 := Try.zeroValue160 }

theorem sortEnter (args : Array Value) (w : World) : (callFunc 109 args).run Try.prog w = .ok (.enter 109 args) w := enter_plain Try.func109 (by kernel_rfl) (by kernel_rfl) args w
theorem sortOK : CtrOK Try.prog (sortC 109 2) := sort_ok sortEnter (fun blk off cap zs w h1 h2 h3 => AnyM.slices_Sort_int sortLaid blk off cap zs w h1 h2 h3) (fun p cap w => AnyM.slices_Sort_int_none sortLaid p cap w)

def compRen : Ren := {
  f := fun x =>
    match x with
    | 43 => 110
    | n => n,
  t := fun x =>
    match x with
    | 22 => 24
    | 23 => 2
    | 3 => 3
    | 4 => 4
    | 0 => 0
    | n => n,
  g := fun x =>
    x }
theorem compLaid : SlLaysN.n43 Try.prog compRen := {
  mixed := (by kernel_rfl),
  f43 :=
    ⟨"slices.Compact[[]int64,int64]", by decide, Try.func110.trans (congrArg some (by kernel_rfl))⟩,
  t0 := Try.underlying0, a0 := Try.isAgg0, z0 := Try.sizeOf0, v0 := Try.zeroValue0, t3 := Try.underlying3,
  a3 := Try.isAgg3, z3 := Try.sizeOf3, v3 := Try.zeroValue3, t4 := Try.underlying4, a4 := Try.isAgg4, z4 := Try.sizeOf4,
  v4 := Try.zeroValue4, t22 := Try.underlying24, a22 := Try.isAgg24, z22 := Try.sizeOf24, v22 := Try.zeroValue24,
  t23 := Try.underlying2, a23 := Try.isAgg2, z23 := Try.sizeOf2, v23 := Try.zeroValue2,
  i23 := Eq.refl (some (some (Value.int IntKind.i64 0), 1, 8)) }

theorem compEnter (args : Array Value) (w : World) : (callFunc 110 args).run Try.prog w = .ok (.enter 110 args) w := enter_plain Try.func110 (by kernel_rfl) (by kernel_rfl) args w
theorem compOK : CtrOK Try.prog (compC 110 2) := comp_ok compEnter (fun blk off cap zs w h1 h2 h3 => AnyG.slices_Compact_int compLaid blk off cap zs w h1 h2 h3) (fun p cap w => AnyG.slices_Compact_int_empty compLaid p cap w)
end Go.K.grains
