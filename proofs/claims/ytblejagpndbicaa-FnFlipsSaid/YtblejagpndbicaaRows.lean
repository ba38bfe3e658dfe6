/-
  No cell of these rows narrows 'for every input' (looked for: loops, veiled, ifaces, maps, wideKeys, modest, calm, conditions, laid).
  DERIVED. THE GIVEN ROWS OF THIS SEAT. 7 by the template 'for every input the law returns true; each argument reads behind the call as it read before'; 0 by the template 'total and deterministic' (their statements: YtblejagpndbicaaTotals.lean).
  GIVEN WITH THE SEED: the statements are not yours to turn. If you find one false, say at which input.
  Laid BY PROGRAM, IN A SANDBOX (cutbox-rows.mjs): the forced cells as the released guide's own fill.sh prints them over the translation 6694ff2d75bbdb6a… (all of the seat's roots in one cut). By AI agents, Wed Nov 11 2026. No macro, syntax, notation, axiom, sorry.
-/
import Derived.Test.YtblejagpndbicaaChecked
import GoSem.Claim
import GoSem.ClaimJoined
import GoSem.ClaimMapViews
import Derived.JoinedTies
import Derived.KernelRfl
namespace Go.Proofs.Ytblejagpndbicaa
/- THE CELL 'sum', in the pinned program and in every row, IS THE sha256 OF THE DUMP (.gsa) THAT YtblejagpndbicaaProg.lean LOADS. Nothing in Lean hashes anything: it is a label: what it is worth is what the hold of that sum in a sandbox is worth. -/
noncomputable def Try.pinned : Pinned := { name := "ytblejagpndbicaa", sum := "6694ff2d75bbdb6ad80a6d414a7e23c9e91ee6625aadf95ff71a688015cab4b0", checked := Try.checked }
namespace Rows
def none {H : Type} : Left H := { results := [], args := [] }

/-- 'laws.FnUnlike': WHATEVER THE INPUT: true; the input reads as it did. -/
def fnUnlikeSpec : ChangeSpec := { name := "fnUnlike", fn := fun _ => fun
  | [d1, d2] => { results := [.lit (.bool true)], args := [d1, d2] }
  | _ => none }
def fnUnlikeRow : OpenClaim := { program := "ytblejagpndbicaa", sum := "6694ff2d75bbdb6ad80a6d414a7e23c9e91ee6625aadf95ff71a688015cab4b0", func := "loop.example/g01247/laws.FnUnlike", spec := "fnUnlike", unfollowed := true, recurses := true, apart := false }
def FnUnlikeSaid : Prop := fnUnlikeRow.holds Try.pinned (OpenSpec.ofChange fnUnlikeSpec)

/-- ITS FALSE NEIGHBOUR: 'it returns false'. Refute it at one input. -/
def fnUnlikeWrong : ChangeSpec := { name := "fnUnlike", fn := fun _ => fun
  | [d1, d2] => { results := [.lit (.bool false)], args := [d1, d2] }
  | _ => none }
def FnUnlikeWrongFalsely : Prop := fnUnlikeRow.holds Try.pinned (OpenSpec.ofChange fnUnlikeWrong)

/-- 'laws.FnExactMajorityGrains': WHATEVER THE INPUT: true; the input reads as it did. -/
def fnExactMajorityGrainsSpec : ChangeSpec := { name := "fnExactMajorityGrains", fn := fun _ => fun
  | [d1, d2] => { results := [.lit (.bool true)], args := [d1, d2] }
  | _ => none }
def fnExactMajorityGrainsRow : OpenClaim := { program := "ytblejagpndbicaa", sum := "6694ff2d75bbdb6ad80a6d414a7e23c9e91ee6625aadf95ff71a688015cab4b0", func := "loop.example/g01247/laws.FnExactMajorityGrains", spec := "fnExactMajorityGrains", unfollowed := true, recurses := true, apart := false }
def FnExactMajorityGrainsSaid : Prop := fnExactMajorityGrainsRow.holds Try.pinned (OpenSpec.ofChange fnExactMajorityGrainsSpec)

/-- ITS FALSE NEIGHBOUR: 'it returns false'. Refute it at one input. -/
def fnExactMajorityGrainsWrong : ChangeSpec := { name := "fnExactMajorityGrains", fn := fun _ => fun
  | [d1, d2] => { results := [.lit (.bool false)], args := [d1, d2] }
  | _ => none }
def FnExactMajorityGrainsWrongFalsely : Prop := fnExactMajorityGrainsRow.holds Try.pinned (OpenSpec.ofChange fnExactMajorityGrainsWrong)

/-- 'laws.FnExactTriplePoints': WHATEVER THE INPUT: true; the input reads as it did. -/
def fnExactTriplePointsSpec : ChangeSpec := { name := "fnExactTriplePoints", fn := fun _ => fun
  | [d] => { results := [.lit (.bool true)], args := [d] }
  | _ => none }
def fnExactTriplePointsRow : OpenClaim := { program := "ytblejagpndbicaa", sum := "6694ff2d75bbdb6ad80a6d414a7e23c9e91ee6625aadf95ff71a688015cab4b0", func := "loop.example/g01247/laws.FnExactTriplePoints", spec := "fnExactTriplePoints", unfollowed := true, recurses := true, apart := false }
def FnExactTriplePointsSaid : Prop := fnExactTriplePointsRow.holds Try.pinned (OpenSpec.ofChange fnExactTriplePointsSpec)

/-- ITS FALSE NEIGHBOUR: 'it returns false'. Refute it at one input. -/
def fnExactTriplePointsWrong : ChangeSpec := { name := "fnExactTriplePoints", fn := fun _ => fun
  | [d] => { results := [.lit (.bool false)], args := [d] }
  | _ => none }
def FnExactTriplePointsWrongFalsely : Prop := fnExactTriplePointsRow.holds Try.pinned (OpenSpec.ofChange fnExactTriplePointsWrong)

/-- 'laws.FnMajorities': WHATEVER THE INPUT: true; the input reads as it did. -/
def fnMajoritiesSpec : ChangeSpec := { name := "fnMajorities", fn := fun _ => fun
  | [d1, d2] => { results := [.lit (.bool true)], args := [d1, d2] }
  | _ => none }
def fnMajoritiesRow : OpenClaim := { program := "ytblejagpndbicaa", sum := "6694ff2d75bbdb6ad80a6d414a7e23c9e91ee6625aadf95ff71a688015cab4b0", func := "loop.example/g01247/laws.FnMajorities", spec := "fnMajorities", unfollowed := true, recurses := true, apart := false }
def FnMajoritiesSaid : Prop := fnMajoritiesRow.holds Try.pinned (OpenSpec.ofChange fnMajoritiesSpec)

/-- ITS FALSE NEIGHBOUR: 'it returns false'. Refute it at one input. -/
def fnMajoritiesWrong : ChangeSpec := { name := "fnMajorities", fn := fun _ => fun
  | [d1, d2] => { results := [.lit (.bool false)], args := [d1, d2] }
  | _ => none }
def FnMajoritiesWrongFalsely : Prop := fnMajoritiesRow.holds Try.pinned (OpenSpec.ofChange fnMajoritiesWrong)

/-- 'laws.FnFlips': WHATEVER THE INPUT: true; the input reads as it did. -/
def fnFlipsSpec : ChangeSpec := { name := "fnFlips", fn := fun _ => fun
  | [d1, d2] => { results := [.lit (.bool true)], args := [d1, d2] }
  | _ => none }
def fnFlipsRow : OpenClaim := { program := "ytblejagpndbicaa", sum := "6694ff2d75bbdb6ad80a6d414a7e23c9e91ee6625aadf95ff71a688015cab4b0", func := "loop.example/g01247/laws.FnFlips", spec := "fnFlips", unfollowed := true, recurses := true, apart := false }
def FnFlipsSaid : Prop := fnFlipsRow.holds Try.pinned (OpenSpec.ofChange fnFlipsSpec)

/-- ITS FALSE NEIGHBOUR: 'it returns false'. Refute it at one input. -/
def fnFlipsWrong : ChangeSpec := { name := "fnFlips", fn := fun _ => fun
  | [d1, d2] => { results := [.lit (.bool false)], args := [d1, d2] }
  | _ => none }
def FnFlipsWrongFalsely : Prop := fnFlipsRow.holds Try.pinned (OpenSpec.ofChange fnFlipsWrong)

/-- 'laws.FnExactBesideLabel': WHATEVER THE INPUT: true; the input reads as it did. -/
def fnExactBesideLabelSpec : ChangeSpec := { name := "fnExactBesideLabel", fn := fun _ => fun
  | [d1, d2] => { results := [.lit (.bool true)], args := [d1, d2] }
  | _ => none }
def fnExactBesideLabelRow : OpenClaim := { program := "ytblejagpndbicaa", sum := "6694ff2d75bbdb6ad80a6d414a7e23c9e91ee6625aadf95ff71a688015cab4b0", func := "loop.example/g01247/laws.FnExactBesideLabel", spec := "fnExactBesideLabel", unfollowed := true, recurses := true, apart := false }
def FnExactBesideLabelSaid : Prop := fnExactBesideLabelRow.holds Try.pinned (OpenSpec.ofChange fnExactBesideLabelSpec)

/-- ITS FALSE NEIGHBOUR: 'it returns false'. Refute it at one input. -/
def fnExactBesideLabelWrong : ChangeSpec := { name := "fnExactBesideLabel", fn := fun _ => fun
  | [d1, d2] => { results := [.lit (.bool false)], args := [d1, d2] }
  | _ => none }
def FnExactBesideLabelWrongFalsely : Prop := fnExactBesideLabelRow.holds Try.pinned (OpenSpec.ofChange fnExactBesideLabelWrong)

/-- 'laws.FnGrainsTold': WHATEVER THE INPUT: true; the input reads as it did. -/
def fnGrainsToldSpec : ChangeSpec := { name := "fnGrainsTold", fn := fun _ => fun
  | [d1, d2] => { results := [.lit (.bool true)], args := [d1, d2] }
  | _ => none }
def fnGrainsToldRow : OpenClaim := { program := "ytblejagpndbicaa", sum := "6694ff2d75bbdb6ad80a6d414a7e23c9e91ee6625aadf95ff71a688015cab4b0", func := "loop.example/g01247/laws.FnGrainsTold", spec := "fnGrainsTold", inPlace := ["math.Float64bits", "math.Float64frombits", "math.sqrt"], unfollowed := true, recurses := true, apart := false }
def FnGrainsToldSaid : Prop := fnGrainsToldRow.holds Try.pinned (OpenSpec.ofChange fnGrainsToldSpec)

/-- ITS FALSE NEIGHBOUR: 'it returns false'. Refute it at one input. -/
def fnGrainsToldWrong : ChangeSpec := { name := "fnGrainsTold", fn := fun _ => fun
  | [d1, d2] => { results := [.lit (.bool false)], args := [d1, d2] }
  | _ => none }
def FnGrainsToldWrongFalsely : Prop := fnGrainsToldRow.holds Try.pinned (OpenSpec.ofChange fnGrainsToldWrong)

/- THE SECOND FORM. 'bulk': how many values and letters a reading holds, each counted each time it is reached (what is shared counts as often as it is met; a slice's spare places count too). A statement '..UptoSaid' is the law's where the arguments, and the package variables that the reading takes, are together of bulk at most 1048576: NARROWER than '..Said'. Prove '..Said' where nothing that the law and all that it calls make is longer than what came in: it says more and counts as full. Else prove '..UptoSaid'. A law counts once. -/
mutual
def uptoBulk {H : Type} : DataW H → Nat
  | .lit (.string bytes) => bytes.length + 1
  | .lit _ => 1
  | .nil => 1
  | .ptr d => uptoBulk d + 1
  | .slice elems spare => uptoBulkAll elems + uptoBulkAll spare + 1
  | .agg parts => uptoBulkAll parts + 1
  | .iface _ d => uptoBulk d + 1
  | .map entries => uptoBulkEntries entries + 1
  | .held _ => 1
def uptoBulkAll {H : Type} : List (DataW H) → Nat
  | [] => 0
  | d :: r => uptoBulk d + uptoBulkAll r
def uptoBulkEntries {H : Type} : List (Lit × DataW H) → Nat
  | [] => 0
  | x :: r => uptoBulkEntry x + uptoBulkEntries r
def uptoBulkEntry {H : Type} : Lit × DataW H → Nat
  | (.string bytes, d) => bytes.length + uptoBulk d + 1
  | (_, d) => uptoBulk d + 1
 end
def uptoSmall : (H : Type) → List (DataW H) → Bool := fun _ ds => decide (uptoBulkAll ds ≤ 1048576)
def OpenSpec.upto (s : _root_.Go.ChangeSpec) : _root_.Go.OpenSpec := { _root_.Go.OpenSpec.ofChange s with cond := some uptoSmall }

/-- 'laws.FnUnlike', WHERE WHAT IT READS IS OF BULK AT MOST 1048576: true; the input reads as it did. -/
def fnUnlikeUptoRow : OpenClaim := { program := "ytblejagpndbicaa", sum := "6694ff2d75bbdb6ad80a6d414a7e23c9e91ee6625aadf95ff71a688015cab4b0", func := "loop.example/g01247/laws.FnUnlike", spec := "fnUnlike", unfollowed := true, recurses := true, apart := false, narrowed := true }
def FnUnlikeUptoSaid : Prop := fnUnlikeUptoRow.holds Try.pinned (OpenSpec.upto fnUnlikeSpec)

/-- 'laws.FnExactMajorityGrains', WHERE WHAT IT READS IS OF BULK AT MOST 1048576: true; the input reads as it did. -/
def fnExactMajorityGrainsUptoRow : OpenClaim := { program := "ytblejagpndbicaa", sum := "6694ff2d75bbdb6ad80a6d414a7e23c9e91ee6625aadf95ff71a688015cab4b0", func := "loop.example/g01247/laws.FnExactMajorityGrains", spec := "fnExactMajorityGrains", unfollowed := true, recurses := true, apart := false, narrowed := true }
def FnExactMajorityGrainsUptoSaid : Prop := fnExactMajorityGrainsUptoRow.holds Try.pinned (OpenSpec.upto fnExactMajorityGrainsSpec)

/-- 'laws.FnExactTriplePoints', WHERE WHAT IT READS IS OF BULK AT MOST 1048576: true; the input reads as it did. -/
def fnExactTriplePointsUptoRow : OpenClaim := { program := "ytblejagpndbicaa", sum := "6694ff2d75bbdb6ad80a6d414a7e23c9e91ee6625aadf95ff71a688015cab4b0", func := "loop.example/g01247/laws.FnExactTriplePoints", spec := "fnExactTriplePoints", unfollowed := true, recurses := true, apart := false, narrowed := true }
def FnExactTriplePointsUptoSaid : Prop := fnExactTriplePointsUptoRow.holds Try.pinned (OpenSpec.upto fnExactTriplePointsSpec)

/-- 'laws.FnMajorities', WHERE WHAT IT READS IS OF BULK AT MOST 1048576: true; the input reads as it did. -/
def fnMajoritiesUptoRow : OpenClaim := { program := "ytblejagpndbicaa", sum := "6694ff2d75bbdb6ad80a6d414a7e23c9e91ee6625aadf95ff71a688015cab4b0", func := "loop.example/g01247/laws.FnMajorities", spec := "fnMajorities", unfollowed := true, recurses := true, apart := false, narrowed := true }
def FnMajoritiesUptoSaid : Prop := fnMajoritiesUptoRow.holds Try.pinned (OpenSpec.upto fnMajoritiesSpec)

/-- 'laws.FnFlips', WHERE WHAT IT READS IS OF BULK AT MOST 1048576: true; the input reads as it did. -/
def fnFlipsUptoRow : OpenClaim := { program := "ytblejagpndbicaa", sum := "6694ff2d75bbdb6ad80a6d414a7e23c9e91ee6625aadf95ff71a688015cab4b0", func := "loop.example/g01247/laws.FnFlips", spec := "fnFlips", unfollowed := true, recurses := true, apart := false, narrowed := true }
def FnFlipsUptoSaid : Prop := fnFlipsUptoRow.holds Try.pinned (OpenSpec.upto fnFlipsSpec)

/-- 'laws.FnExactBesideLabel', WHERE WHAT IT READS IS OF BULK AT MOST 1048576: true; the input reads as it did. -/
def fnExactBesideLabelUptoRow : OpenClaim := { program := "ytblejagpndbicaa", sum := "6694ff2d75bbdb6ad80a6d414a7e23c9e91ee6625aadf95ff71a688015cab4b0", func := "loop.example/g01247/laws.FnExactBesideLabel", spec := "fnExactBesideLabel", unfollowed := true, recurses := true, apart := false, narrowed := true }
def FnExactBesideLabelUptoSaid : Prop := fnExactBesideLabelUptoRow.holds Try.pinned (OpenSpec.upto fnExactBesideLabelSpec)

/-- 'laws.FnGrainsTold', WHERE WHAT IT READS IS OF BULK AT MOST 1048576: true; the input reads as it did. -/
def fnGrainsToldUptoRow : OpenClaim := { program := "ytblejagpndbicaa", sum := "6694ff2d75bbdb6ad80a6d414a7e23c9e91ee6625aadf95ff71a688015cab4b0", func := "loop.example/g01247/laws.FnGrainsTold", spec := "fnGrainsTold", inPlace := ["math.Float64bits", "math.Float64frombits", "math.sqrt"], unfollowed := true, recurses := true, apart := false, narrowed := true }
def FnGrainsToldUptoSaid : Prop := fnGrainsToldUptoRow.holds Try.pinned (OpenSpec.upto fnGrainsToldSpec)

end Rows
end Go.Proofs.Ytblejagpndbicaa
