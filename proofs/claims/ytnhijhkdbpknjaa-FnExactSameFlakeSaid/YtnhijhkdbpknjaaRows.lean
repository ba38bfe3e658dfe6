/-
  No cell of these rows narrows 'for every input' (looked for: loops, veiled, ifaces, maps, wideKeys, modest, calm, conditions, laid).
  DERIVED. THE GIVEN ROWS OF THIS SEAT. 9 by the template 'for every input the law returns true; each argument reads behind the call as it read before'; 0 by the template 'total and deterministic' (their statements: YtnhijhkdbpknjaaTotals.lean).
  GIVEN WITH THE SEED: the statements are not yours to turn. If you find one false, say at which input.
  Laid BY PROGRAM, IN A SANDBOX (cutbox-rows.mjs): the forced cells as the released guide's own fill.sh prints them over the translation f9cb2878b434e1cc… (all of the seat's roots in one cut). By AI agents, Wed Nov 11 2026. No macro, syntax, notation, axiom, sorry.
-/
import Derived.Test.YtnhijhkdbpknjaaChecked
import GoSem.Claim
import GoSem.ClaimJoined
import GoSem.ClaimMapViews
import Derived.JoinedTies
import Derived.KernelRfl
namespace Go.Proofs.Ytnhijhkdbpknjaa
/- THE CELL 'sum', in the pinned program and in every row, IS THE sha256 OF THE DUMP (.gsa) THAT YtnhijhkdbpknjaaProg.lean LOADS. Nothing in Lean hashes anything: it is a label: what it is worth is what the hold of that sum in a sandbox is worth. -/
noncomputable def Try.pinned : Pinned := { name := "ytnhijhkdbpknjaa", sum := "f9cb2878b434e1ccc20d0aa5d463603064298529f751a506db49d17a706c807c", checked := Try.checked }
namespace Rows
def none {H : Type} : Left H := { results := [], args := [] }

/-- 'laws.FnExactSquareShape': WHATEVER THE INPUT: true; the input reads as it did. -/
def fnExactSquareShapeSpec : ChangeSpec := { name := "fnExactSquareShape", fn := fun _ => fun
  | [d] => { results := [.lit (.bool true)], args := [d] }
  | _ => none }
def fnExactSquareShapeRow : OpenClaim := { program := "ytnhijhkdbpknjaa", sum := "f9cb2878b434e1ccc20d0aa5d463603064298529f751a506db49d17a706c807c", func := "loop.example/g01247/laws.FnExactSquareShape", spec := "fnExactSquareShape", inPlace := ["math.Float64bits", "math.Float64frombits"], apart := false }
def FnExactSquareShapeSaid : Prop := fnExactSquareShapeRow.holds Try.pinned (OpenSpec.ofChange fnExactSquareShapeSpec)

/-- ITS FALSE NEIGHBOUR: 'it returns false'. Refute it at one input. -/
def fnExactSquareShapeWrong : ChangeSpec := { name := "fnExactSquareShape", fn := fun _ => fun
  | [d] => { results := [.lit (.bool false)], args := [d] }
  | _ => none }
def FnExactSquareShapeWrongFalsely : Prop := fnExactSquareShapeRow.holds Try.pinned (OpenSpec.ofChange fnExactSquareShapeWrong)

/-- 'laws.FnExactSameFlake': WHATEVER THE INPUT: true; the input reads as it did. -/
def fnExactSameFlakeSpec : ChangeSpec := { name := "fnExactSameFlake", fn := fun _ => fun
  | [d1, d2] => { results := [.lit (.bool true)], args := [d1, d2] }
  | _ => none }
def fnExactSameFlakeRow : OpenClaim := { program := "ytnhijhkdbpknjaa", sum := "f9cb2878b434e1ccc20d0aa5d463603064298529f751a506db49d17a706c807c", func := "loop.example/g01247/laws.FnExactSameFlake", spec := "fnExactSameFlake", inPlace := ["math.Float32bits", "math.Float64bits"], unfollowed := true, recurses := true, apart := false }
def FnExactSameFlakeSaid : Prop := fnExactSameFlakeRow.holds Try.pinned (OpenSpec.ofChange fnExactSameFlakeSpec)

/-- ITS FALSE NEIGHBOUR: 'it returns false'. Refute it at one input. -/
def fnExactSameFlakeWrong : ChangeSpec := { name := "fnExactSameFlake", fn := fun _ => fun
  | [d1, d2] => { results := [.lit (.bool false)], args := [d1, d2] }
  | _ => none }
def FnExactSameFlakeWrongFalsely : Prop := fnExactSameFlakeRow.holds Try.pinned (OpenSpec.ofChange fnExactSameFlakeWrong)

/-- 'laws.FnExactValidFlake': WHATEVER THE INPUT: true; the input reads as it did. -/
def fnExactValidFlakeSpec : ChangeSpec := { name := "fnExactValidFlake", fn := fun _ => fun
  | [d] => { results := [.lit (.bool true)], args := [d] }
  | _ => none }
def fnExactValidFlakeRow : OpenClaim := { program := "ytnhijhkdbpknjaa", sum := "f9cb2878b434e1ccc20d0aa5d463603064298529f751a506db49d17a706c807c", func := "loop.example/g01247/laws.FnExactValidFlake", spec := "fnExactValidFlake", inPlace := ["math.Float64bits", "math.Float64frombits"], unfollowed := true, recurses := true, apart := false }
def FnExactValidFlakeSaid : Prop := fnExactValidFlakeRow.holds Try.pinned (OpenSpec.ofChange fnExactValidFlakeSpec)

/-- ITS FALSE NEIGHBOUR: 'it returns false'. Refute it at one input. -/
def fnExactValidFlakeWrong : ChangeSpec := { name := "fnExactValidFlake", fn := fun _ => fun
  | [d] => { results := [.lit (.bool false)], args := [d] }
  | _ => none }
def FnExactValidFlakeWrongFalsely : Prop := fnExactValidFlakeRow.holds Try.pinned (OpenSpec.ofChange fnExactValidFlakeWrong)

/-- 'laws.FnExactNewFlake': WHATEVER THE INPUT: true; the input reads as it did. -/
def fnExactNewFlakeSpec : ChangeSpec := { name := "fnExactNewFlake", fn := fun _ => fun
  | [d1, d2] => { results := [.lit (.bool true)], args := [d1, d2] }
  | _ => none }
def fnExactNewFlakeRow : OpenClaim := { program := "ytnhijhkdbpknjaa", sum := "f9cb2878b434e1ccc20d0aa5d463603064298529f751a506db49d17a706c807c", func := "loop.example/g01247/laws.FnExactNewFlake", spec := "fnExactNewFlake", inPlace := ["math.Float64bits", "math.Float64frombits"], unfollowed := true, recurses := true, apart := false }
def FnExactNewFlakeSaid : Prop := fnExactNewFlakeRow.holds Try.pinned (OpenSpec.ofChange fnExactNewFlakeSpec)

/-- ITS FALSE NEIGHBOUR: 'it returns false'. Refute it at one input. -/
def fnExactNewFlakeWrong : ChangeSpec := { name := "fnExactNewFlake", fn := fun _ => fun
  | [d1, d2] => { results := [.lit (.bool false)], args := [d1, d2] }
  | _ => none }
def FnExactNewFlakeWrongFalsely : Prop := fnExactNewFlakeRow.holds Try.pinned (OpenSpec.ofChange fnExactNewFlakeWrong)

/-- 'laws.FnExactReachOfFlake': WHATEVER THE INPUT: true; the input reads as it did. -/
def fnExactReachOfFlakeSpec : ChangeSpec := { name := "fnExactReachOfFlake", fn := fun _ => fun
  | [d] => { results := [.lit (.bool true)], args := [d] }
  | _ => none }
def fnExactReachOfFlakeRow : OpenClaim := { program := "ytnhijhkdbpknjaa", sum := "f9cb2878b434e1ccc20d0aa5d463603064298529f751a506db49d17a706c807c", func := "loop.example/g01247/laws.FnExactReachOfFlake", spec := "fnExactReachOfFlake", inPlace := ["math.Float64bits", "math.Float64frombits"], unfollowed := true, recurses := true, apart := false }
def FnExactReachOfFlakeSaid : Prop := fnExactReachOfFlakeRow.holds Try.pinned (OpenSpec.ofChange fnExactReachOfFlakeSpec)

/-- ITS FALSE NEIGHBOUR: 'it returns false'. Refute it at one input. -/
def fnExactReachOfFlakeWrong : ChangeSpec := { name := "fnExactReachOfFlake", fn := fun _ => fun
  | [d] => { results := [.lit (.bool false)], args := [d] }
  | _ => none }
def FnExactReachOfFlakeWrongFalsely : Prop := fnExactReachOfFlakeRow.holds Try.pinned (OpenSpec.ofChange fnExactReachOfFlakeWrong)

/-- 'laws.FnExactBackFlake': WHATEVER THE INPUT: true; the input reads as it did. -/
def fnExactBackFlakeSpec : ChangeSpec := { name := "fnExactBackFlake", fn := fun _ => fun
  | [d] => { results := [.lit (.bool true)], args := [d] }
  | _ => none }
def fnExactBackFlakeRow : OpenClaim := { program := "ytnhijhkdbpknjaa", sum := "f9cb2878b434e1ccc20d0aa5d463603064298529f751a506db49d17a706c807c", func := "loop.example/g01247/laws.FnExactBackFlake", spec := "fnExactBackFlake", inPlace := ["math.Float64bits", "math.Float64frombits"], unfollowed := true, recurses := true, apart := false }
def FnExactBackFlakeSaid : Prop := fnExactBackFlakeRow.holds Try.pinned (OpenSpec.ofChange fnExactBackFlakeSpec)

/-- ITS FALSE NEIGHBOUR: 'it returns false'. Refute it at one input. -/
def fnExactBackFlakeWrong : ChangeSpec := { name := "fnExactBackFlake", fn := fun _ => fun
  | [d] => { results := [.lit (.bool false)], args := [d] }
  | _ => none }
def FnExactBackFlakeWrongFalsely : Prop := fnExactBackFlakeRow.holds Try.pinned (OpenSpec.ofChange fnExactBackFlakeWrong)

/-- 'laws.FnExactSwapFlake': WHATEVER THE INPUT: true; the input reads as it did. -/
def fnExactSwapFlakeSpec : ChangeSpec := { name := "fnExactSwapFlake", fn := fun _ => fun
  | [d] => { results := [.lit (.bool true)], args := [d] }
  | _ => none }
def fnExactSwapFlakeRow : OpenClaim := { program := "ytnhijhkdbpknjaa", sum := "f9cb2878b434e1ccc20d0aa5d463603064298529f751a506db49d17a706c807c", func := "loop.example/g01247/laws.FnExactSwapFlake", spec := "fnExactSwapFlake", inPlace := ["math.Float64bits", "math.Float64frombits"], unfollowed := true, recurses := true, apart := false }
def FnExactSwapFlakeSaid : Prop := fnExactSwapFlakeRow.holds Try.pinned (OpenSpec.ofChange fnExactSwapFlakeSpec)

/-- ITS FALSE NEIGHBOUR: 'it returns false'. Refute it at one input. -/
def fnExactSwapFlakeWrong : ChangeSpec := { name := "fnExactSwapFlake", fn := fun _ => fun
  | [d] => { results := [.lit (.bool false)], args := [d] }
  | _ => none }
def FnExactSwapFlakeWrongFalsely : Prop := fnExactSwapFlakeRow.holds Try.pinned (OpenSpec.ofChange fnExactSwapFlakeWrong)

/-- 'laws.FnExactIceOf': WHATEVER THE INPUT: true; the input reads as it did. -/
def fnExactIceOfSpec : ChangeSpec := { name := "fnExactIceOf", fn := fun _ => fun
  | [d] => { results := [.lit (.bool true)], args := [d] }
  | _ => none }
def fnExactIceOfRow : OpenClaim := { program := "ytnhijhkdbpknjaa", sum := "f9cb2878b434e1ccc20d0aa5d463603064298529f751a506db49d17a706c807c", func := "loop.example/g01247/laws.FnExactIceOf", spec := "fnExactIceOf", inPlace := ["math.Float64bits", "math.Float64frombits"], unfollowed := true, recurses := true, apart := false }
def FnExactIceOfSaid : Prop := fnExactIceOfRow.holds Try.pinned (OpenSpec.ofChange fnExactIceOfSpec)

/-- ITS FALSE NEIGHBOUR: 'it returns false'. Refute it at one input. -/
def fnExactIceOfWrong : ChangeSpec := { name := "fnExactIceOf", fn := fun _ => fun
  | [d] => { results := [.lit (.bool false)], args := [d] }
  | _ => none }
def FnExactIceOfWrongFalsely : Prop := fnExactIceOfRow.holds Try.pinned (OpenSpec.ofChange fnExactIceOfWrong)

/-- 'laws.FnFlakes': WHATEVER THE INPUT: true; the input reads as it did. -/
def fnFlakesSpec : ChangeSpec := { name := "fnFlakes", fn := fun _ => fun
  | [d1, d2] => { results := [.lit (.bool true)], args := [d1, d2] }
  | _ => none }
def fnFlakesRow : OpenClaim := { program := "ytnhijhkdbpknjaa", sum := "f9cb2878b434e1ccc20d0aa5d463603064298529f751a506db49d17a706c807c", func := "loop.example/g01247/laws.FnFlakes", spec := "fnFlakes", inPlace := ["math.Float64bits", "math.Float64frombits"], unfollowed := true, recurses := true, apart := false }
def FnFlakesSaid : Prop := fnFlakesRow.holds Try.pinned (OpenSpec.ofChange fnFlakesSpec)

/-- ITS FALSE NEIGHBOUR: 'it returns false'. Refute it at one input. -/
def fnFlakesWrong : ChangeSpec := { name := "fnFlakes", fn := fun _ => fun
  | [d1, d2] => { results := [.lit (.bool false)], args := [d1, d2] }
  | _ => none }
def FnFlakesWrongFalsely : Prop := fnFlakesRow.holds Try.pinned (OpenSpec.ofChange fnFlakesWrong)

/- THE SECOND FORM. 'bulk': how many values and letters a reading holds, each counted each time it is reached (what is shared counts as often as it is met; a slice's spare places count too). A statement '..UptoSaid' is the law's where the arguments, and the package variables that the reading takes, are together of bulk at most 1048576: NARROWER than '..Said'. Prove '..Said' where nothing that the law and all that it calls make is longer than what came in: it says more and counts as full. Else prove '..UptoSaid'. A law counts once. -/
mutual
def uptoBulk {H : Type} : DataW H → Nat
  | .lit (.string bytes) => bytes.length + 1
  | .lit _ => 1
  | .nil => 1
  | .ptr d => uptoBulk d + 1
  | .slice elems spare => uptoBulkAll elems + uptoBulkAll spare + 1
  | .agg parts => uptoBulkAll parts + 1
  | .iface _ d => uptoBulk d + 1
  | .map entries => uptoBulkEntries entries + 1
  | .held _ => 1
def uptoBulkAll {H : Type} : List (DataW H) → Nat
  | [] => 0
  | d :: r => uptoBulk d + uptoBulkAll r
def uptoBulkEntries {H : Type} : List (Lit × DataW H) → Nat
  | [] => 0
  | x :: r => uptoBulkEntry x + uptoBulkEntries r
def uptoBulkEntry {H : Type} : Lit × DataW H → Nat
  | (.string bytes, d) => bytes.length + uptoBulk d + 1
  | (_, d) => uptoBulk d + 1
 end
def uptoSmall : (H : Type) → List (DataW H) → Bool := fun _ ds => decide (uptoBulkAll ds ≤ 1048576)
def OpenSpec.upto (s : _root_.Go.ChangeSpec) : _root_.Go.OpenSpec := { _root_.Go.OpenSpec.ofChange s with cond := some uptoSmall }

/-- 'laws.FnExactSquareShape', WHERE WHAT IT READS IS OF BULK AT MOST 1048576: true; the input reads as it did. -/
def fnExactSquareShapeUptoRow : OpenClaim := { program := "ytnhijhkdbpknjaa", sum := "f9cb2878b434e1ccc20d0aa5d463603064298529f751a506db49d17a706c807c", func := "loop.example/g01247/laws.FnExactSquareShape", spec := "fnExactSquareShape", inPlace := ["math.Float64bits", "math.Float64frombits"], apart := false, narrowed := true }
def FnExactSquareShapeUptoSaid : Prop := fnExactSquareShapeUptoRow.holds Try.pinned (OpenSpec.upto fnExactSquareShapeSpec)

/-- 'laws.FnExactSameFlake', WHERE WHAT IT READS IS OF BULK AT MOST 1048576: true; the input reads as it did. -/
def fnExactSameFlakeUptoRow : OpenClaim := { program := "ytnhijhkdbpknjaa", sum := "f9cb2878b434e1ccc20d0aa5d463603064298529f751a506db49d17a706c807c", func := "loop.example/g01247/laws.FnExactSameFlake", spec := "fnExactSameFlake", inPlace := ["math.Float32bits", "math.Float64bits"], unfollowed := true, recurses := true, apart := false, narrowed := true }
def FnExactSameFlakeUptoSaid : Prop := fnExactSameFlakeUptoRow.holds Try.pinned (OpenSpec.upto fnExactSameFlakeSpec)

/-- 'laws.FnExactValidFlake', WHERE WHAT IT READS IS OF BULK AT MOST 1048576: true; the input reads as it did. -/
def fnExactValidFlakeUptoRow : OpenClaim := { program := "ytnhijhkdbpknjaa", sum := "f9cb2878b434e1ccc20d0aa5d463603064298529f751a506db49d17a706c807c", func := "loop.example/g01247/laws.FnExactValidFlake", spec := "fnExactValidFlake", inPlace := ["math.Float64bits", "math.Float64frombits"], unfollowed := true, recurses := true, apart := false, narrowed := true }
def FnExactValidFlakeUptoSaid : Prop := fnExactValidFlakeUptoRow.holds Try.pinned (OpenSpec.upto fnExactValidFlakeSpec)

/-- 'laws.FnExactNewFlake', WHERE WHAT IT READS IS OF BULK AT MOST 1048576: true; the input reads as it did. -/
def fnExactNewFlakeUptoRow : OpenClaim := { program := "ytnhijhkdbpknjaa", sum := "f9cb2878b434e1ccc20d0aa5d463603064298529f751a506db49d17a706c807c", func := "loop.example/g01247/laws.FnExactNewFlake", spec := "fnExactNewFlake", inPlace := ["math.Float64bits", "math.Float64frombits"], unfollowed := true, recurses := true, apart := false, narrowed := true }
def FnExactNewFlakeUptoSaid : Prop := fnExactNewFlakeUptoRow.holds Try.pinned (OpenSpec.upto fnExactNewFlakeSpec)

/-- 'laws.FnExactReachOfFlake', WHERE WHAT IT READS IS OF BULK AT MOST 1048576: true; the input reads as it did. -/
def fnExactReachOfFlakeUptoRow : OpenClaim := { program := "ytnhijhkdbpknjaa", sum := "f9cb2878b434e1ccc20d0aa5d463603064298529f751a506db49d17a706c807c", func := "loop.example/g01247/laws.FnExactReachOfFlake", spec := "fnExactReachOfFlake", inPlace := ["math.Float64bits", "math.Float64frombits"], unfollowed := true, recurses := true, apart := false, narrowed := true }
def FnExactReachOfFlakeUptoSaid : Prop := fnExactReachOfFlakeUptoRow.holds Try.pinned (OpenSpec.upto fnExactReachOfFlakeSpec)

/-- 'laws.FnExactBackFlake', WHERE WHAT IT READS IS OF BULK AT MOST 1048576: true; the input reads as it did. -/
def fnExactBackFlakeUptoRow : OpenClaim := { program := "ytnhijhkdbpknjaa", sum := "f9cb2878b434e1ccc20d0aa5d463603064298529f751a506db49d17a706c807c", func := "loop.example/g01247/laws.FnExactBackFlake", spec := "fnExactBackFlake", inPlace := ["math.Float64bits", "math.Float64frombits"], unfollowed := true, recurses := true, apart := false, narrowed := true }
def FnExactBackFlakeUptoSaid : Prop := fnExactBackFlakeUptoRow.holds Try.pinned (OpenSpec.upto fnExactBackFlakeSpec)

/-- 'laws.FnExactSwapFlake', WHERE WHAT IT READS IS OF BULK AT MOST 1048576: true; the input reads as it did. -/
def fnExactSwapFlakeUptoRow : OpenClaim := { program := "ytnhijhkdbpknjaa", sum := "f9cb2878b434e1ccc20d0aa5d463603064298529f751a506db49d17a706c807c", func := "loop.example/g01247/laws.FnExactSwapFlake", spec := "fnExactSwapFlake", inPlace := ["math.Float64bits", "math.Float64frombits"], unfollowed := true, recurses := true, apart := false, narrowed := true }
def FnExactSwapFlakeUptoSaid : Prop := fnExactSwapFlakeUptoRow.holds Try.pinned (OpenSpec.upto fnExactSwapFlakeSpec)

/-- 'laws.FnExactIceOf', WHERE WHAT IT READS IS OF BULK AT MOST 1048576: true; the input reads as it did. -/
def fnExactIceOfUptoRow : OpenClaim := { program := "ytnhijhkdbpknjaa", sum := "f9cb2878b434e1ccc20d0aa5d463603064298529f751a506db49d17a706c807c", func := "loop.example/g01247/laws.FnExactIceOf", spec := "fnExactIceOf", inPlace := ["math.Float64bits", "math.Float64frombits"], unfollowed := true, recurses := true, apart := false, narrowed := true }
def FnExactIceOfUptoSaid : Prop := fnExactIceOfUptoRow.holds Try.pinned (OpenSpec.upto fnExactIceOfSpec)

/-- 'laws.FnFlakes', WHERE WHAT IT READS IS OF BULK AT MOST 1048576: true; the input reads as it did. -/
def fnFlakesUptoRow : OpenClaim := { program := "ytnhijhkdbpknjaa", sum := "f9cb2878b434e1ccc20d0aa5d463603064298529f751a506db49d17a706c807c", func := "loop.example/g01247/laws.FnFlakes", spec := "fnFlakes", inPlace := ["math.Float64bits", "math.Float64frombits"], unfollowed := true, recurses := true, apart := false, narrowed := true }
def FnFlakesUptoSaid : Prop := fnFlakesUptoRow.holds Try.pinned (OpenSpec.upto fnFlakesSpec)

end Rows
end Go.Proofs.Ytnhijhkdbpknjaa
