/-
  No cell of these rows narrows 'for every input' (looked for: loops, veiled, ifaces, maps, wideKeys, modest, calm, conditions, laid).
  DERIVED. THE GIVEN ROWS OF THIS SEAT. 4 by the template 'for every input the law returns true; each argument reads behind the call as it read before'; 0 by the template 'total and deterministic' (their statements: YtajlojldbmfokaaTotals.lean).
  GIVEN WITH THE SEED: the statements are not yours to turn. If you find one false, say at which input.
  Laid BY PROGRAM, IN A SANDBOX (cutbox-rows.mjs): the forced cells as the released guide's own fill.sh prints them over the translation 9f341a2bbfcb702f… (all of the seat's roots in one cut). By AI agents, Wed Nov 11 2026. No macro, syntax, notation, axiom, sorry.
-/
import Derived.Test.YtajlojldbmfokaaChecked
import GoSem.Claim
import GoSem.ClaimJoined
import GoSem.ClaimMapViews
import Derived.JoinedTies
import Derived.KernelRfl
namespace Go.Proofs.Ytajlojldbmfokaa
/- THE CELL 'sum', in the pinned program and in every row, IS THE sha256 OF THE DUMP (.gsa) THAT YtajlojldbmfokaaProg.lean LOADS. Nothing in Lean hashes anything: it is a label: what it is worth is what the hold of that sum in a sandbox is worth. -/
noncomputable def Try.pinned : Pinned := { name := "ytajlojldbmfokaa", sum := "9f341a2bbfcb702ff65b7391fcd19b10b785e45c9fee3ec7645e532818e9612d", checked := Try.checked }
namespace Rows
def none {H : Type} : Left H := { results := [], args := [] }

/-- 'laws.FnExactTurnAt': WHATEVER THE INPUT: true; the input reads as it did. -/
def fnExactTurnAtSpec : ChangeSpec := { name := "fnExactTurnAt", fn := fun _ => fun
  | [d1, d2, d3] => { results := [.lit (.bool true)], args := [d1, d2, d3] }
  | _ => none }
def fnExactTurnAtRow : OpenClaim := { program := "ytajlojldbmfokaa", sum := "9f341a2bbfcb702ff65b7391fcd19b10b785e45c9fee3ec7645e532818e9612d", func := "loop.example/g01247/laws.FnExactTurnAt", spec := "fnExactTurnAt", inPlace := ["math.Float64frombits", "math.Float64bits", "math.sqrt"], unfollowed := true, recurses := true, apart := false }
def FnExactTurnAtSaid : Prop := fnExactTurnAtRow.holds Try.pinned (OpenSpec.ofChange fnExactTurnAtSpec)

/-- ITS FALSE NEIGHBOUR: 'it returns false'. Refute it at one input. -/
def fnExactTurnAtWrong : ChangeSpec := { name := "fnExactTurnAt", fn := fun _ => fun
  | [d1, d2, d3] => { results := [.lit (.bool false)], args := [d1, d2, d3] }
  | _ => none }
def FnExactTurnAtWrongFalsely : Prop := fnExactTurnAtRow.holds Try.pinned (OpenSpec.ofChange fnExactTurnAtWrong)

/-- 'laws.FnExactEaseAt': WHATEVER THE INPUT: true; the input reads as it did. -/
def fnExactEaseAtSpec : ChangeSpec := { name := "fnExactEaseAt", fn := fun _ => fun
  | [d1, d2, d3] => { results := [.lit (.bool true)], args := [d1, d2, d3] }
  | _ => none }
def fnExactEaseAtRow : OpenClaim := { program := "ytajlojldbmfokaa", sum := "9f341a2bbfcb702ff65b7391fcd19b10b785e45c9fee3ec7645e532818e9612d", func := "loop.example/g01247/laws.FnExactEaseAt", spec := "fnExactEaseAt", inPlace := ["math.Float64frombits", "math.Float64bits", "math.sqrt", "math.archTrunc"], unfollowed := true, recurses := true, apart := false }
def FnExactEaseAtSaid : Prop := fnExactEaseAtRow.holds Try.pinned (OpenSpec.ofChange fnExactEaseAtSpec)

/-- ITS FALSE NEIGHBOUR: 'it returns false'. Refute it at one input. -/
def fnExactEaseAtWrong : ChangeSpec := { name := "fnExactEaseAt", fn := fun _ => fun
  | [d1, d2, d3] => { results := [.lit (.bool false)], args := [d1, d2, d3] }
  | _ => none }
def FnExactEaseAtWrongFalsely : Prop := fnExactEaseAtRow.holds Try.pinned (OpenSpec.ofChange fnExactEaseAtWrong)

/-- 'laws.FnExactFoldOf': WHATEVER THE INPUT: true; the input reads as it did. -/
def fnExactFoldOfSpec : ChangeSpec := { name := "fnExactFoldOf", fn := fun _ => fun
  | [d1, d2] => { results := [.lit (.bool true)], args := [d1, d2] }
  | _ => none }
def fnExactFoldOfRow : OpenClaim := { program := "ytajlojldbmfokaa", sum := "9f341a2bbfcb702ff65b7391fcd19b10b785e45c9fee3ec7645e532818e9612d", func := "loop.example/g01247/laws.FnExactFoldOf", spec := "fnExactFoldOf", inPlace := ["math.Float64frombits", "math.Float64bits", "math.sqrt", "math.Float32frombits", "math.archTrunc"], unfollowed := true, recurses := true, apart := false }
def FnExactFoldOfSaid : Prop := fnExactFoldOfRow.holds Try.pinned (OpenSpec.ofChange fnExactFoldOfSpec)

/-- ITS FALSE NEIGHBOUR: 'it returns false'. Refute it at one input. -/
def fnExactFoldOfWrong : ChangeSpec := { name := "fnExactFoldOf", fn := fun _ => fun
  | [d1, d2] => { results := [.lit (.bool false)], args := [d1, d2] }
  | _ => none }
def FnExactFoldOfWrongFalsely : Prop := fnExactFoldOfRow.holds Try.pinned (OpenSpec.ofChange fnExactFoldOfWrong)

/-- 'laws.FnExactSpreadHeat': WHATEVER THE INPUT: true; the input reads as it did. -/
def fnExactSpreadHeatSpec : ChangeSpec := { name := "fnExactSpreadHeat", fn := fun _ => fun
  | [d1, d2] => { results := [.lit (.bool true)], args := [d1, d2] }
  | _ => none }
def fnExactSpreadHeatRow : OpenClaim := { program := "ytajlojldbmfokaa", sum := "9f341a2bbfcb702ff65b7391fcd19b10b785e45c9fee3ec7645e532818e9612d", func := "loop.example/g01247/laws.FnExactSpreadHeat", spec := "fnExactSpreadHeat", inPlace := ["math.Float64bits", "math.Float64frombits"], unfollowed := true, recurses := true, apart := false }
def FnExactSpreadHeatSaid : Prop := fnExactSpreadHeatRow.holds Try.pinned (OpenSpec.ofChange fnExactSpreadHeatSpec)

/-- ITS FALSE NEIGHBOUR: 'it returns false'. Refute it at one input. -/
def fnExactSpreadHeatWrong : ChangeSpec := { name := "fnExactSpreadHeat", fn := fun _ => fun
  | [d1, d2] => { results := [.lit (.bool false)], args := [d1, d2] }
  | _ => none }
def FnExactSpreadHeatWrongFalsely : Prop := fnExactSpreadHeatRow.holds Try.pinned (OpenSpec.ofChange fnExactSpreadHeatWrong)

/- THE SECOND FORM. 'bulk': how many values and letters a reading holds, each counted each time it is reached (what is shared counts as often as it is met; a slice's spare places count too). A statement '..UptoSaid' is the law's where the arguments, and the package variables that the reading takes, are together of bulk at most 1048576: NARROWER than '..Said'. Prove '..Said' where nothing that the law and all that it calls make is longer than what came in: it says more and counts as full. Else prove '..UptoSaid'. A law counts once. -/
mutual
def uptoBulk {H : Type} : DataW H → Nat
  | .lit (.string bytes) => bytes.length + 1
  | .lit _ => 1
  | .nil => 1
  | .ptr d => uptoBulk d + 1
  | .slice elems spare => uptoBulkAll elems + uptoBulkAll spare + 1
  | .agg parts => uptoBulkAll parts + 1
  | .iface _ d => uptoBulk d + 1
  | .map entries => uptoBulkEntries entries + 1
  | .held _ => 1
def uptoBulkAll {H : Type} : List (DataW H) → Nat
  | [] => 0
  | d :: r => uptoBulk d + uptoBulkAll r
def uptoBulkEntries {H : Type} : List (Lit × DataW H) → Nat
  | [] => 0
  | x :: r => uptoBulkEntry x + uptoBulkEntries r
def uptoBulkEntry {H : Type} : Lit × DataW H → Nat
  | (.string bytes, d) => bytes.length + uptoBulk d + 1
  | (_, d) => uptoBulk d + 1
 end
def uptoSmall : (H : Type) → List (DataW H) → Bool := fun _ ds => decide (uptoBulkAll ds ≤ 1048576)
def OpenSpec.upto (s : _root_.Go.ChangeSpec) : _root_.Go.OpenSpec := { _root_.Go.OpenSpec.ofChange s with cond := some uptoSmall }

/-- 'laws.FnExactTurnAt', WHERE WHAT IT READS IS OF BULK AT MOST 1048576: true; the input reads as it did. -/
def fnExactTurnAtUptoRow : OpenClaim := { program := "ytajlojldbmfokaa", sum := "9f341a2bbfcb702ff65b7391fcd19b10b785e45c9fee3ec7645e532818e9612d", func := "loop.example/g01247/laws.FnExactTurnAt", spec := "fnExactTurnAt", inPlace := ["math.Float64frombits", "math.Float64bits", "math.sqrt"], unfollowed := true, recurses := true, apart := false, narrowed := true }
def FnExactTurnAtUptoSaid : Prop := fnExactTurnAtUptoRow.holds Try.pinned (OpenSpec.upto fnExactTurnAtSpec)

/-- 'laws.FnExactEaseAt', WHERE WHAT IT READS IS OF BULK AT MOST 1048576: true; the input reads as it did. -/
def fnExactEaseAtUptoRow : OpenClaim := { program := "ytajlojldbmfokaa", sum := "9f341a2bbfcb702ff65b7391fcd19b10b785e45c9fee3ec7645e532818e9612d", func := "loop.example/g01247/laws.FnExactEaseAt", spec := "fnExactEaseAt", inPlace := ["math.Float64frombits", "math.Float64bits", "math.sqrt", "math.archTrunc"], unfollowed := true, recurses := true, apart := false, narrowed := true }
def FnExactEaseAtUptoSaid : Prop := fnExactEaseAtUptoRow.holds Try.pinned (OpenSpec.upto fnExactEaseAtSpec)

/-- 'laws.FnExactFoldOf', WHERE WHAT IT READS IS OF BULK AT MOST 1048576: true; the input reads as it did. -/
def fnExactFoldOfUptoRow : OpenClaim := { program := "ytajlojldbmfokaa", sum := "9f341a2bbfcb702ff65b7391fcd19b10b785e45c9fee3ec7645e532818e9612d", func := "loop.example/g01247/laws.FnExactFoldOf", spec := "fnExactFoldOf", inPlace := ["math.Float64frombits", "math.Float64bits", "math.sqrt", "math.Float32frombits", "math.archTrunc"], unfollowed := true, recurses := true, apart := false, narrowed := true }
def FnExactFoldOfUptoSaid : Prop := fnExactFoldOfUptoRow.holds Try.pinned (OpenSpec.upto fnExactFoldOfSpec)

/-- 'laws.FnExactSpreadHeat', WHERE WHAT IT READS IS OF BULK AT MOST 1048576: true; the input reads as it did. -/
def fnExactSpreadHeatUptoRow : OpenClaim := { program := "ytajlojldbmfokaa", sum := "9f341a2bbfcb702ff65b7391fcd19b10b785e45c9fee3ec7645e532818e9612d", func := "loop.example/g01247/laws.FnExactSpreadHeat", spec := "fnExactSpreadHeat", inPlace := ["math.Float64bits", "math.Float64frombits"], unfollowed := true, recurses := true, apart := false, narrowed := true }
def FnExactSpreadHeatUptoSaid : Prop := fnExactSpreadHeatUptoRow.holds Try.pinned (OpenSpec.upto fnExactSpreadHeatSpec)

end Rows
end Go.Proofs.Ytajlojldbmfokaa
