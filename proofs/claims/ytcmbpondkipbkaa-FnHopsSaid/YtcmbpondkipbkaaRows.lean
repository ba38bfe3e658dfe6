/-
  No cell of these rows narrows 'for every input' (looked for: loops, veiled, ifaces, maps, wideKeys, modest, calm, conditions, laid).
  DERIVED. THE GIVEN ROWS OF THIS SEAT. 9 by the template 'for every input the law returns true; each argument reads behind the call as it read before'; 0 by the template 'total and deterministic' (their statements: YtcmbpondkipbkaaTotals.lean).
  GIVEN WITH THE SEED: the statements are not yours to turn. If you find one false, say at which input.
  Laid BY PROGRAM, IN A SANDBOX (cutbox-rows.mjs): the forced cells as the released guide's own fill.sh prints them over the translation b8a2e81ddebf5389… (all of the seat's roots in one cut). By AI agents, Wed Nov 11 2026. No macro, syntax, notation, axiom, sorry.
-/
import Derived.Test.YtcmbpondkipbkaaChecked
import GoSem.Claim
import GoSem.ClaimJoined
import GoSem.ClaimMapViews
import Derived.JoinedTies
import Derived.KernelRfl
namespace Go.Proofs.Ytcmbpondkipbkaa
/- THE CELL 'sum', in the pinned program and in every row, IS THE sha256 OF THE DUMP (.gsa) THAT YtcmbpondkipbkaaProg.lean LOADS. Nothing in Lean hashes anything: it is a label: what it is worth is what the hold of that sum in a sandbox is worth. -/
noncomputable def Try.pinned : Pinned := { name := "ytcmbpondkipbkaa", sum := "b8a2e81ddebf53893beabfb6c6ed342c27155f7630335f24780051d866fcd29c", checked := Try.checked }
namespace Rows
def none {H : Type} : Left H := { results := [], args := [] }

/-- 'laws.FnExactBondsAt': WHATEVER THE INPUT: true; the input reads as it did. -/
def fnExactBondsAtSpec : ChangeSpec := { name := "fnExactBondsAt", fn := fun _ => fun
  | [d1, d2, d3] => { results := [.lit (.bool true)], args := [d1, d2, d3] }
  | _ => none }
def fnExactBondsAtRow : OpenClaim := { program := "ytcmbpondkipbkaa", sum := "b8a2e81ddebf53893beabfb6c6ed342c27155f7630335f24780051d866fcd29c", func := "loop.example/g01247/laws.FnExactBondsAt", spec := "fnExactBondsAt", unfollowed := true, recurses := true, apart := false }
def FnExactBondsAtSaid : Prop := fnExactBondsAtRow.holds Try.pinned (OpenSpec.ofChange fnExactBondsAtSpec)

/-- ITS FALSE NEIGHBOUR: 'it returns false'. Refute it at one input. -/
def fnExactBondsAtWrong : ChangeSpec := { name := "fnExactBondsAt", fn := fun _ => fun
  | [d1, d2, d3] => { results := [.lit (.bool false)], args := [d1, d2, d3] }
  | _ => none }
def FnExactBondsAtWrongFalsely : Prop := fnExactBondsAtRow.holds Try.pinned (OpenSpec.ofChange fnExactBondsAtWrong)

/-- 'laws.FnHops': WHATEVER THE INPUT: true; the input reads as it did. -/
def fnHopsSpec : ChangeSpec := { name := "fnHops", fn := fun _ => fun
  | [d1, d2] => { results := [.lit (.bool true)], args := [d1, d2] }
  | _ => none }
def fnHopsRow : OpenClaim := { program := "ytcmbpondkipbkaa", sum := "b8a2e81ddebf53893beabfb6c6ed342c27155f7630335f24780051d866fcd29c", func := "loop.example/g01247/laws.FnHops", spec := "fnHops", unfollowed := true, recurses := true, apart := false }
def FnHopsSaid : Prop := fnHopsRow.holds Try.pinned (OpenSpec.ofChange fnHopsSpec)

/-- ITS FALSE NEIGHBOUR: 'it returns false'. Refute it at one input. -/
def fnHopsWrong : ChangeSpec := { name := "fnHops", fn := fun _ => fun
  | [d1, d2] => { results := [.lit (.bool false)], args := [d1, d2] }
  | _ => none }
def FnHopsWrongFalsely : Prop := fnHopsRow.holds Try.pinned (OpenSpec.ofChange fnHopsWrong)

/-- 'laws.FnExactHopTo': WHATEVER THE INPUT: true; the input reads as it did. -/
def fnExactHopToSpec : ChangeSpec := { name := "fnExactHopTo", fn := fun _ => fun
  | [d1, d2, d3, d4] => { results := [.lit (.bool true)], args := [d1, d2, d3, d4] }
  | _ => none }
def fnExactHopToRow : OpenClaim := { program := "ytcmbpondkipbkaa", sum := "b8a2e81ddebf53893beabfb6c6ed342c27155f7630335f24780051d866fcd29c", func := "loop.example/g01247/laws.FnExactHopTo", spec := "fnExactHopTo", unfollowed := true, recurses := true, apart := false }
def FnExactHopToSaid : Prop := fnExactHopToRow.holds Try.pinned (OpenSpec.ofChange fnExactHopToSpec)

/-- ITS FALSE NEIGHBOUR: 'it returns false'. Refute it at one input. -/
def fnExactHopToWrong : ChangeSpec := { name := "fnExactHopTo", fn := fun _ => fun
  | [d1, d2, d3, d4] => { results := [.lit (.bool false)], args := [d1, d2, d3, d4] }
  | _ => none }
def FnExactHopToWrongFalsely : Prop := fnExactHopToRow.holds Try.pinned (OpenSpec.ofChange fnExactHopToWrong)

/-- 'laws.FnAtoms': WHATEVER THE INPUT: true; the input reads as it did. -/
def fnAtomsSpec : ChangeSpec := { name := "fnAtoms", fn := fun _ => fun
  | [d1, d2] => { results := [.lit (.bool true)], args := [d1, d2] }
  | _ => none }
def fnAtomsRow : OpenClaim := { program := "ytcmbpondkipbkaa", sum := "b8a2e81ddebf53893beabfb6c6ed342c27155f7630335f24780051d866fcd29c", func := "loop.example/g01247/laws.FnAtoms", spec := "fnAtoms", unfollowed := true, recurses := true, apart := false }
def FnAtomsSaid : Prop := fnAtomsRow.holds Try.pinned (OpenSpec.ofChange fnAtomsSpec)

/-- ITS FALSE NEIGHBOUR: 'it returns false'. Refute it at one input. -/
def fnAtomsWrong : ChangeSpec := { name := "fnAtoms", fn := fun _ => fun
  | [d1, d2] => { results := [.lit (.bool false)], args := [d1, d2] }
  | _ => none }
def FnAtomsWrongFalsely : Prop := fnAtomsRow.holds Try.pinned (OpenSpec.ofChange fnAtomsWrong)

/-- 'laws.FnExactFallAt': WHATEVER THE INPUT: true; the input reads as it did. -/
def fnExactFallAtSpec : ChangeSpec := { name := "fnExactFallAt", fn := fun _ => fun
  | [d1, d2, d3, d4] => { results := [.lit (.bool true)], args := [d1, d2, d3, d4] }
  | _ => none }
def fnExactFallAtRow : OpenClaim := { program := "ytcmbpondkipbkaa", sum := "b8a2e81ddebf53893beabfb6c6ed342c27155f7630335f24780051d866fcd29c", func := "loop.example/g01247/laws.FnExactFallAt", spec := "fnExactFallAt", unfollowed := true, recurses := true, apart := false }
def FnExactFallAtSaid : Prop := fnExactFallAtRow.holds Try.pinned (OpenSpec.ofChange fnExactFallAtSpec)

/-- ITS FALSE NEIGHBOUR: 'it returns false'. Refute it at one input. -/
def fnExactFallAtWrong : ChangeSpec := { name := "fnExactFallAt", fn := fun _ => fun
  | [d1, d2, d3, d4] => { results := [.lit (.bool false)], args := [d1, d2, d3, d4] }
  | _ => none }
def FnExactFallAtWrongFalsely : Prop := fnExactFallAtRow.holds Try.pinned (OpenSpec.ofChange fnExactFallAtWrong)

/-- 'laws.FnExactRainOn': WHATEVER THE INPUT: true; the input reads as it did. -/
def fnExactRainOnSpec : ChangeSpec := { name := "fnExactRainOn", fn := fun _ => fun
  | [d1, d2, d3, d4] => { results := [.lit (.bool true)], args := [d1, d2, d3, d4] }
  | _ => none }
def fnExactRainOnRow : OpenClaim := { program := "ytcmbpondkipbkaa", sum := "b8a2e81ddebf53893beabfb6c6ed342c27155f7630335f24780051d866fcd29c", func := "loop.example/g01247/laws.FnExactRainOn", spec := "fnExactRainOn", unfollowed := true, recurses := true, apart := false }
def FnExactRainOnSaid : Prop := fnExactRainOnRow.holds Try.pinned (OpenSpec.ofChange fnExactRainOnSpec)

/-- ITS FALSE NEIGHBOUR: 'it returns false'. Refute it at one input. -/
def fnExactRainOnWrong : ChangeSpec := { name := "fnExactRainOn", fn := fun _ => fun
  | [d1, d2, d3, d4] => { results := [.lit (.bool false)], args := [d1, d2, d3, d4] }
  | _ => none }
def FnExactRainOnWrongFalsely : Prop := fnExactRainOnRow.holds Try.pinned (OpenSpec.ofChange fnExactRainOnWrong)

/-- 'laws.FnExactFlowSteps': WHATEVER THE INPUT: true; the input reads as it did. -/
def fnExactFlowStepsSpec : ChangeSpec := { name := "fnExactFlowSteps", fn := fun _ => fun
  | [d1, d2, d3] => { results := [.lit (.bool true)], args := [d1, d2, d3] }
  | _ => none }
def fnExactFlowStepsRow : OpenClaim := { program := "ytcmbpondkipbkaa", sum := "b8a2e81ddebf53893beabfb6c6ed342c27155f7630335f24780051d866fcd29c", func := "loop.example/g01247/laws.FnExactFlowSteps", spec := "fnExactFlowSteps", unfollowed := true, recurses := true, apart := false }
def FnExactFlowStepsSaid : Prop := fnExactFlowStepsRow.holds Try.pinned (OpenSpec.ofChange fnExactFlowStepsSpec)

/-- ITS FALSE NEIGHBOUR: 'it returns false'. Refute it at one input. -/
def fnExactFlowStepsWrong : ChangeSpec := { name := "fnExactFlowSteps", fn := fun _ => fun
  | [d1, d2, d3] => { results := [.lit (.bool false)], args := [d1, d2, d3] }
  | _ => none }
def FnExactFlowStepsWrongFalsely : Prop := fnExactFlowStepsRow.holds Try.pinned (OpenSpec.ofChange fnExactFlowStepsWrong)

/-- 'laws.FnExactScrewHeights': WHATEVER THE INPUT: true; the input reads as it did. -/
def fnExactScrewHeightsSpec : ChangeSpec := { name := "fnExactScrewHeights", fn := fun _ => fun
  | [d1, d2, d3, d4, d5] => { results := [.lit (.bool true)], args := [d1, d2, d3, d4, d5] }
  | _ => none }
def fnExactScrewHeightsRow : OpenClaim := { program := "ytcmbpondkipbkaa", sum := "b8a2e81ddebf53893beabfb6c6ed342c27155f7630335f24780051d866fcd29c", func := "loop.example/g01247/laws.FnExactScrewHeights", spec := "fnExactScrewHeights", inPlace := ["math.Float64frombits", "math.Float64bits", "math.sqrt", "math.archFloor", "math.archTrunc"], unfollowed := true, recurses := true, apart := false }
def FnExactScrewHeightsSaid : Prop := fnExactScrewHeightsRow.holds Try.pinned (OpenSpec.ofChange fnExactScrewHeightsSpec)

/-- ITS FALSE NEIGHBOUR: 'it returns false'. Refute it at one input. -/
def fnExactScrewHeightsWrong : ChangeSpec := { name := "fnExactScrewHeights", fn := fun _ => fun
  | [d1, d2, d3, d4, d5] => { results := [.lit (.bool false)], args := [d1, d2, d3, d4, d5] }
  | _ => none }
def FnExactScrewHeightsWrongFalsely : Prop := fnExactScrewHeightsRow.holds Try.pinned (OpenSpec.ofChange fnExactScrewHeightsWrong)

/-- 'laws.FnRough': WHATEVER THE INPUT: true; the input reads as it did. -/
def fnRoughSpec : ChangeSpec := { name := "fnRough", fn := fun _ => fun
  | [d1, d2] => { results := [.lit (.bool true)], args := [d1, d2] }
  | _ => none }
def fnRoughRow : OpenClaim := { program := "ytcmbpondkipbkaa", sum := "b8a2e81ddebf53893beabfb6c6ed342c27155f7630335f24780051d866fcd29c", func := "loop.example/g01247/laws.FnRough", spec := "fnRough", inPlace := ["math.sqrt", "math.Float64bits", "math.Float64frombits", "math.archFloor", "math.archTrunc"], unfollowed := true, recurses := true, apart := false }
def FnRoughSaid : Prop := fnRoughRow.holds Try.pinned (OpenSpec.ofChange fnRoughSpec)

/-- ITS FALSE NEIGHBOUR: 'it returns false'. Refute it at one input. -/
def fnRoughWrong : ChangeSpec := { name := "fnRough", fn := fun _ => fun
  | [d1, d2] => { results := [.lit (.bool false)], args := [d1, d2] }
  | _ => none }
def FnRoughWrongFalsely : Prop := fnRoughRow.holds Try.pinned (OpenSpec.ofChange fnRoughWrong)

/- THE SECOND FORM. 'bulk': how many values and letters a reading holds, each counted each time it is reached (what is shared counts as often as it is met; a slice's spare places count too). A statement '..UptoSaid' is the law's where the arguments, and the package variables that the reading takes, are together of bulk at most 1048576: NARROWER than '..Said'. Prove '..Said' where nothing that the law and all that it calls make is longer than what came in: it says more and counts as full. Else prove '..UptoSaid'. A law counts once. -/
mutual
def uptoBulk {H : Type} : DataW H → Nat
  | .lit (.string bytes) => bytes.length + 1
  | .lit _ => 1
  | .nil => 1
  | .ptr d => uptoBulk d + 1
  | .slice elems spare => uptoBulkAll elems + uptoBulkAll spare + 1
  | .agg parts => uptoBulkAll parts + 1
  | .iface _ d => uptoBulk d + 1
  | .map entries => uptoBulkEntries entries + 1
  | .held _ => 1
def uptoBulkAll {H : Type} : List (DataW H) → Nat
  | [] => 0
  | d :: r => uptoBulk d + uptoBulkAll r
def uptoBulkEntries {H : Type} : List (Lit × DataW H) → Nat
  | [] => 0
  | x :: r => uptoBulkEntry x + uptoBulkEntries r
def uptoBulkEntry {H : Type} : Lit × DataW H → Nat
  | (.string bytes, d) => bytes.length + uptoBulk d + 1
  | (_, d) => uptoBulk d + 1
 end
def uptoSmall : (H : Type) → List (DataW H) → Bool := fun _ ds => decide (uptoBulkAll ds ≤ 1048576)
def OpenSpec.upto (s : _root_.Go.ChangeSpec) : _root_.Go.OpenSpec := { _root_.Go.OpenSpec.ofChange s with cond := some uptoSmall }

/-- 'laws.FnExactBondsAt', WHERE WHAT IT READS IS OF BULK AT MOST 1048576: true; the input reads as it did. -/
def fnExactBondsAtUptoRow : OpenClaim := { program := "ytcmbpondkipbkaa", sum := "b8a2e81ddebf53893beabfb6c6ed342c27155f7630335f24780051d866fcd29c", func := "loop.example/g01247/laws.FnExactBondsAt", spec := "fnExactBondsAt", unfollowed := true, recurses := true, apart := false, narrowed := true }
def FnExactBondsAtUptoSaid : Prop := fnExactBondsAtUptoRow.holds Try.pinned (OpenSpec.upto fnExactBondsAtSpec)

/-- 'laws.FnHops', WHERE WHAT IT READS IS OF BULK AT MOST 1048576: true; the input reads as it did. -/
def fnHopsUptoRow : OpenClaim := { program := "ytcmbpondkipbkaa", sum := "b8a2e81ddebf53893beabfb6c6ed342c27155f7630335f24780051d866fcd29c", func := "loop.example/g01247/laws.FnHops", spec := "fnHops", unfollowed := true, recurses := true, apart := false, narrowed := true }
def FnHopsUptoSaid : Prop := fnHopsUptoRow.holds Try.pinned (OpenSpec.upto fnHopsSpec)

/-- 'laws.FnExactHopTo', WHERE WHAT IT READS IS OF BULK AT MOST 1048576: true; the input reads as it did. -/
def fnExactHopToUptoRow : OpenClaim := { program := "ytcmbpondkipbkaa", sum := "b8a2e81ddebf53893beabfb6c6ed342c27155f7630335f24780051d866fcd29c", func := "loop.example/g01247/laws.FnExactHopTo", spec := "fnExactHopTo", unfollowed := true, recurses := true, apart := false, narrowed := true }
def FnExactHopToUptoSaid : Prop := fnExactHopToUptoRow.holds Try.pinned (OpenSpec.upto fnExactHopToSpec)

/-- 'laws.FnAtoms', WHERE WHAT IT READS IS OF BULK AT MOST 1048576: true; the input reads as it did. -/
def fnAtomsUptoRow : OpenClaim := { program := "ytcmbpondkipbkaa", sum := "b8a2e81ddebf53893beabfb6c6ed342c27155f7630335f24780051d866fcd29c", func := "loop.example/g01247/laws.FnAtoms", spec := "fnAtoms", unfollowed := true, recurses := true, apart := false, narrowed := true }
def FnAtomsUptoSaid : Prop := fnAtomsUptoRow.holds Try.pinned (OpenSpec.upto fnAtomsSpec)

/-- 'laws.FnExactFallAt', WHERE WHAT IT READS IS OF BULK AT MOST 1048576: true; the input reads as it did. -/
def fnExactFallAtUptoRow : OpenClaim := { program := "ytcmbpondkipbkaa", sum := "b8a2e81ddebf53893beabfb6c6ed342c27155f7630335f24780051d866fcd29c", func := "loop.example/g01247/laws.FnExactFallAt", spec := "fnExactFallAt", unfollowed := true, recurses := true, apart := false, narrowed := true }
def FnExactFallAtUptoSaid : Prop := fnExactFallAtUptoRow.holds Try.pinned (OpenSpec.upto fnExactFallAtSpec)

/-- 'laws.FnExactRainOn', WHERE WHAT IT READS IS OF BULK AT MOST 1048576: true; the input reads as it did. -/
def fnExactRainOnUptoRow : OpenClaim := { program := "ytcmbpondkipbkaa", sum := "b8a2e81ddebf53893beabfb6c6ed342c27155f7630335f24780051d866fcd29c", func := "loop.example/g01247/laws.FnExactRainOn", spec := "fnExactRainOn", unfollowed := true, recurses := true, apart := false, narrowed := true }
def FnExactRainOnUptoSaid : Prop := fnExactRainOnUptoRow.holds Try.pinned (OpenSpec.upto fnExactRainOnSpec)

/-- 'laws.FnExactFlowSteps', WHERE WHAT IT READS IS OF BULK AT MOST 1048576: true; the input reads as it did. -/
def fnExactFlowStepsUptoRow : OpenClaim := { program := "ytcmbpondkipbkaa", sum := "b8a2e81ddebf53893beabfb6c6ed342c27155f7630335f24780051d866fcd29c", func := "loop.example/g01247/laws.FnExactFlowSteps", spec := "fnExactFlowSteps", unfollowed := true, recurses := true, apart := false, narrowed := true }
def FnExactFlowStepsUptoSaid : Prop := fnExactFlowStepsUptoRow.holds Try.pinned (OpenSpec.upto fnExactFlowStepsSpec)

/-- 'laws.FnExactScrewHeights', WHERE WHAT IT READS IS OF BULK AT MOST 1048576: true; the input reads as it did. -/
def fnExactScrewHeightsUptoRow : OpenClaim := { program := "ytcmbpondkipbkaa", sum := "b8a2e81ddebf53893beabfb6c6ed342c27155f7630335f24780051d866fcd29c", func := "loop.example/g01247/laws.FnExactScrewHeights", spec := "fnExactScrewHeights", inPlace := ["math.Float64frombits", "math.Float64bits", "math.sqrt", "math.archFloor", "math.archTrunc"], unfollowed := true, recurses := true, apart := false, narrowed := true }
def FnExactScrewHeightsUptoSaid : Prop := fnExactScrewHeightsUptoRow.holds Try.pinned (OpenSpec.upto fnExactScrewHeightsSpec)

/-- 'laws.FnRough', WHERE WHAT IT READS IS OF BULK AT MOST 1048576: true; the input reads as it did. -/
def fnRoughUptoRow : OpenClaim := { program := "ytcmbpondkipbkaa", sum := "b8a2e81ddebf53893beabfb6c6ed342c27155f7630335f24780051d866fcd29c", func := "loop.example/g01247/laws.FnRough", spec := "fnRough", inPlace := ["math.sqrt", "math.Float64bits", "math.Float64frombits", "math.archFloor", "math.archTrunc"], unfollowed := true, recurses := true, apart := false, narrowed := true }
def FnRoughUptoSaid : Prop := fnRoughUptoRow.holds Try.pinned (OpenSpec.upto fnRoughSpec)

end Rows
end Go.Proofs.Ytcmbpondkipbkaa
