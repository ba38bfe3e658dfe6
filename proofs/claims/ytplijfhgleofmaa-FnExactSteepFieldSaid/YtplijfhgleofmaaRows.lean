/-
  No cell of these rows narrows 'for every input' (looked for: loops, veiled, ifaces, maps, wideKeys, modest, calm, conditions, laid).
  DERIVED. THE GIVEN ROWS OF THIS SEAT. 7 by the template 'for every input the law returns true; each argument reads behind the call as it read before'; 0 by the template 'total and deterministic' (their statements: YtplijfhgleofmaaTotals.lean).
  GIVEN WITH THE SEED: the statements are not yours to turn. If you find one false, say at which input.
  Laid BY PROGRAM, IN A SANDBOX (cutbox-rows.mjs): the forced cells as the released guide's own fill.sh prints them over the translation b68b1206ac7bf880… (all of the seat's roots in one cut). By AI agents, Wed Nov 11 2026. No macro, syntax, notation, axiom, sorry.
-/
import Derived.Test.YtplijfhgleofmaaChecked
import GoSem.Claim
import GoSem.ClaimJoined
import GoSem.ClaimMapViews
import Derived.JoinedTies
import Derived.KernelRfl
namespace Go.Proofs.Ytplijfhgleofmaa
/- THE CELL 'sum', in the pinned program and in every row, IS THE sha256 OF THE DUMP (.gsa) THAT YtplijfhgleofmaaProg.lean LOADS. Nothing in Lean hashes anything: it is a label: what it is worth is what the hold of that sum in a sandbox is worth. -/
noncomputable def Try.pinned : Pinned := { name := "ytplijfhgleofmaa", sum := "b68b1206ac7bf8807ef5e479823219d3c10eb56a93a19cf07a0d0ba933a9d483", checked := Try.checked }
namespace Rows
def none {H : Type} : Left H := { results := [], args := [] }

/-- 'laws.FnExactSteepField': WHATEVER THE INPUT: true; the input reads as it did. -/
def fnExactSteepFieldSpec : ChangeSpec := { name := "fnExactSteepField", fn := fun _ => fun
  | [d] => { results := [.lit (.bool true)], args := [d] }
  | _ => none }
def fnExactSteepFieldRow : OpenClaim := { program := "ytplijfhgleofmaa", sum := "b68b1206ac7bf8807ef5e479823219d3c10eb56a93a19cf07a0d0ba933a9d483", func := "loop.example/g01247/laws.FnExactSteepField", spec := "fnExactSteepField", inPlace := ["math.sqrt"], unfollowed := true, recurses := true, apart := false }
def FnExactSteepFieldSaid : Prop := fnExactSteepFieldRow.holds Try.pinned (OpenSpec.ofChange fnExactSteepFieldSpec)

/-- ITS FALSE NEIGHBOUR: 'it returns false'. Refute it at one input. -/
def fnExactSteepFieldWrong : ChangeSpec := { name := "fnExactSteepField", fn := fun _ => fun
  | [d] => { results := [.lit (.bool false)], args := [d] }
  | _ => none }
def FnExactSteepFieldWrongFalsely : Prop := fnExactSteepFieldRow.holds Try.pinned (OpenSpec.ofChange fnExactSteepFieldWrong)

/-- 'laws.FnExactPullAt': WHATEVER THE INPUT: true; the input reads as it did. -/
def fnExactPullAtSpec : ChangeSpec := { name := "fnExactPullAt", fn := fun _ => fun
  | [d1, d2, d3] => { results := [.lit (.bool true)], args := [d1, d2, d3] }
  | _ => none }
def fnExactPullAtRow : OpenClaim := { program := "ytplijfhgleofmaa", sum := "b68b1206ac7bf8807ef5e479823219d3c10eb56a93a19cf07a0d0ba933a9d483", func := "loop.example/g01247/laws.FnExactPullAt", spec := "fnExactPullAt", inPlace := ["math.Float64bits", "math.Float64frombits"], unfollowed := true, recurses := true, apart := false }
def FnExactPullAtSaid : Prop := fnExactPullAtRow.holds Try.pinned (OpenSpec.ofChange fnExactPullAtSpec)

/-- ITS FALSE NEIGHBOUR: 'it returns false'. Refute it at one input. -/
def fnExactPullAtWrong : ChangeSpec := { name := "fnExactPullAt", fn := fun _ => fun
  | [d1, d2, d3] => { results := [.lit (.bool false)], args := [d1, d2, d3] }
  | _ => none }
def FnExactPullAtWrongFalsely : Prop := fnExactPullAtRow.holds Try.pinned (OpenSpec.ofChange fnExactPullAtWrong)

/-- 'laws.FnExactEnergyOfMelt': WHATEVER THE INPUT: true; the input reads as it did. -/
def fnExactEnergyOfMeltSpec : ChangeSpec := { name := "fnExactEnergyOfMelt", fn := fun _ => fun
  | [d] => { results := [.lit (.bool true)], args := [d] }
  | _ => none }
def fnExactEnergyOfMeltRow : OpenClaim := { program := "ytplijfhgleofmaa", sum := "b68b1206ac7bf8807ef5e479823219d3c10eb56a93a19cf07a0d0ba933a9d483", func := "loop.example/g01247/laws.FnExactEnergyOfMelt", spec := "fnExactEnergyOfMelt", inPlace := ["math.Float64bits", "math.Float64frombits"], unfollowed := true, recurses := true, apart := false }
def FnExactEnergyOfMeltSaid : Prop := fnExactEnergyOfMeltRow.holds Try.pinned (OpenSpec.ofChange fnExactEnergyOfMeltSpec)

/-- ITS FALSE NEIGHBOUR: 'it returns false'. Refute it at one input. -/
def fnExactEnergyOfMeltWrong : ChangeSpec := { name := "fnExactEnergyOfMelt", fn := fun _ => fun
  | [d] => { results := [.lit (.bool false)], args := [d] }
  | _ => none }
def FnExactEnergyOfMeltWrongFalsely : Prop := fnExactEnergyOfMeltRow.holds Try.pinned (OpenSpec.ofChange fnExactEnergyOfMeltWrong)

/-- 'laws.FnExactMirrorMelt': WHATEVER THE INPUT: true; the input reads as it did. -/
def fnExactMirrorMeltSpec : ChangeSpec := { name := "fnExactMirrorMelt", fn := fun _ => fun
  | [d] => { results := [.lit (.bool true)], args := [d] }
  | _ => none }
def fnExactMirrorMeltRow : OpenClaim := { program := "ytplijfhgleofmaa", sum := "b68b1206ac7bf8807ef5e479823219d3c10eb56a93a19cf07a0d0ba933a9d483", func := "loop.example/g01247/laws.FnExactMirrorMelt", spec := "fnExactMirrorMelt", inPlace := ["math.Float64bits", "math.Float64frombits"], unfollowed := true, recurses := true, apart := false }
def FnExactMirrorMeltSaid : Prop := fnExactMirrorMeltRow.holds Try.pinned (OpenSpec.ofChange fnExactMirrorMeltSpec)

/-- ITS FALSE NEIGHBOUR: 'it returns false'. Refute it at one input. -/
def fnExactMirrorMeltWrong : ChangeSpec := { name := "fnExactMirrorMelt", fn := fun _ => fun
  | [d] => { results := [.lit (.bool false)], args := [d] }
  | _ => none }
def FnExactMirrorMeltWrongFalsely : Prop := fnExactMirrorMeltRow.holds Try.pinned (OpenSpec.ofChange fnExactMirrorMeltWrong)

/-- 'laws.FnExactSetMelt': WHATEVER THE INPUT: true; the input reads as it did. -/
def fnExactSetMeltSpec : ChangeSpec := { name := "fnExactSetMelt", fn := fun _ => fun
  | [d1, d2, d3, d4, d5, d6, d7] => { results := [.lit (.bool true)], args := [d1, d2, d3, d4, d5, d6, d7] }
  | _ => none }
def fnExactSetMeltRow : OpenClaim := { program := "ytplijfhgleofmaa", sum := "b68b1206ac7bf8807ef5e479823219d3c10eb56a93a19cf07a0d0ba933a9d483", func := "loop.example/g01247/laws.FnExactSetMelt", spec := "fnExactSetMelt", inPlace := ["math.Float64bits", "math.Float64frombits"], unfollowed := true, recurses := true, apart := false }
def FnExactSetMeltSaid : Prop := fnExactSetMeltRow.holds Try.pinned (OpenSpec.ofChange fnExactSetMeltSpec)

/-- ITS FALSE NEIGHBOUR: 'it returns false'. Refute it at one input. -/
def fnExactSetMeltWrong : ChangeSpec := { name := "fnExactSetMelt", fn := fun _ => fun
  | [d1, d2, d3, d4, d5, d6, d7] => { results := [.lit (.bool false)], args := [d1, d2, d3, d4, d5, d6, d7] }
  | _ => none }
def FnExactSetMeltWrongFalsely : Prop := fnExactSetMeltRow.holds Try.pinned (OpenSpec.ofChange fnExactSetMeltWrong)

/-- 'laws.FnExactCoolMelt': WHATEVER THE INPUT: true; the input reads as it did. -/
def fnExactCoolMeltSpec : ChangeSpec := { name := "fnExactCoolMelt", fn := fun _ => fun
  | [d1, d2] => { results := [.lit (.bool true)], args := [d1, d2] }
  | _ => none }
def fnExactCoolMeltRow : OpenClaim := { program := "ytplijfhgleofmaa", sum := "b68b1206ac7bf8807ef5e479823219d3c10eb56a93a19cf07a0d0ba933a9d483", func := "loop.example/g01247/laws.FnExactCoolMelt", spec := "fnExactCoolMelt", inPlace := ["math.Float64bits", "math.Float64frombits"], unfollowed := true, recurses := true, apart := false }
def FnExactCoolMeltSaid : Prop := fnExactCoolMeltRow.holds Try.pinned (OpenSpec.ofChange fnExactCoolMeltSpec)

/-- ITS FALSE NEIGHBOUR: 'it returns false'. Refute it at one input. -/
def fnExactCoolMeltWrong : ChangeSpec := { name := "fnExactCoolMelt", fn := fun _ => fun
  | [d1, d2] => { results := [.lit (.bool false)], args := [d1, d2] }
  | _ => none }
def FnExactCoolMeltWrongFalsely : Prop := fnExactCoolMeltRow.holds Try.pinned (OpenSpec.ofChange fnExactCoolMeltWrong)

/-- 'laws.FnExactFlushMelt': WHATEVER THE INPUT: true; the input reads as it did. -/
def fnExactFlushMeltSpec : ChangeSpec := { name := "fnExactFlushMelt", fn := fun _ => fun
  | [d] => { results := [.lit (.bool true)], args := [d] }
  | _ => none }
def fnExactFlushMeltRow : OpenClaim := { program := "ytplijfhgleofmaa", sum := "b68b1206ac7bf8807ef5e479823219d3c10eb56a93a19cf07a0d0ba933a9d483", func := "loop.example/g01247/laws.FnExactFlushMelt", spec := "fnExactFlushMelt", inPlace := ["math.Float32bits", "math.Float32frombits", "math.Float64bits", "math.Float64frombits"], unfollowed := true, recurses := true, apart := false }
def FnExactFlushMeltSaid : Prop := fnExactFlushMeltRow.holds Try.pinned (OpenSpec.ofChange fnExactFlushMeltSpec)

/-- ITS FALSE NEIGHBOUR: 'it returns false'. Refute it at one input. -/
def fnExactFlushMeltWrong : ChangeSpec := { name := "fnExactFlushMelt", fn := fun _ => fun
  | [d] => { results := [.lit (.bool false)], args := [d] }
  | _ => none }
def FnExactFlushMeltWrongFalsely : Prop := fnExactFlushMeltRow.holds Try.pinned (OpenSpec.ofChange fnExactFlushMeltWrong)

/- THE SECOND FORM. 'bulk': how many values and letters a reading holds, each counted each time it is reached (what is shared counts as often as it is met; a slice's spare places count too). A statement '..UptoSaid' is the law's where the arguments, and the package variables that the reading takes, are together of bulk at most 1048576: NARROWER than '..Said'. Prove '..Said' where nothing that the law and all that it calls make is longer than what came in: it says more and counts as full. Else prove '..UptoSaid'. A law counts once. -/
mutual
def uptoBulk {H : Type} : DataW H → Nat
  | .lit (.string bytes) => bytes.length + 1
  | .lit _ => 1
  | .nil => 1
  | .ptr d => uptoBulk d + 1
  | .slice elems spare => uptoBulkAll elems + uptoBulkAll spare + 1
  | .agg parts => uptoBulkAll parts + 1
  | .iface _ d => uptoBulk d + 1
  | .map entries => uptoBulkEntries entries + 1
  | .held _ => 1
def uptoBulkAll {H : Type} : List (DataW H) → Nat
  | [] => 0
  | d :: r => uptoBulk d + uptoBulkAll r
def uptoBulkEntries {H : Type} : List (Lit × DataW H) → Nat
  | [] => 0
  | x :: r => uptoBulkEntry x + uptoBulkEntries r
def uptoBulkEntry {H : Type} : Lit × DataW H → Nat
  | (.string bytes, d) => bytes.length + uptoBulk d + 1
  | (_, d) => uptoBulk d + 1
 end
def uptoSmall : (H : Type) → List (DataW H) → Bool := fun _ ds => decide (uptoBulkAll ds ≤ 1048576)
def OpenSpec.upto (s : _root_.Go.ChangeSpec) : _root_.Go.OpenSpec := { _root_.Go.OpenSpec.ofChange s with cond := some uptoSmall }

/-- 'laws.FnExactSteepField', WHERE WHAT IT READS IS OF BULK AT MOST 1048576: true; the input reads as it did. -/
def fnExactSteepFieldUptoRow : OpenClaim := { program := "ytplijfhgleofmaa", sum := "b68b1206ac7bf8807ef5e479823219d3c10eb56a93a19cf07a0d0ba933a9d483", func := "loop.example/g01247/laws.FnExactSteepField", spec := "fnExactSteepField", inPlace := ["math.sqrt"], unfollowed := true, recurses := true, apart := false, narrowed := true }
def FnExactSteepFieldUptoSaid : Prop := fnExactSteepFieldUptoRow.holds Try.pinned (OpenSpec.upto fnExactSteepFieldSpec)

/-- 'laws.FnExactPullAt', WHERE WHAT IT READS IS OF BULK AT MOST 1048576: true; the input reads as it did. -/
def fnExactPullAtUptoRow : OpenClaim := { program := "ytplijfhgleofmaa", sum := "b68b1206ac7bf8807ef5e479823219d3c10eb56a93a19cf07a0d0ba933a9d483", func := "loop.example/g01247/laws.FnExactPullAt", spec := "fnExactPullAt", inPlace := ["math.Float64bits", "math.Float64frombits"], unfollowed := true, recurses := true, apart := false, narrowed := true }
def FnExactPullAtUptoSaid : Prop := fnExactPullAtUptoRow.holds Try.pinned (OpenSpec.upto fnExactPullAtSpec)

/-- 'laws.FnExactEnergyOfMelt', WHERE WHAT IT READS IS OF BULK AT MOST 1048576: true; the input reads as it did. -/
def fnExactEnergyOfMeltUptoRow : OpenClaim := { program := "ytplijfhgleofmaa", sum := "b68b1206ac7bf8807ef5e479823219d3c10eb56a93a19cf07a0d0ba933a9d483", func := "loop.example/g01247/laws.FnExactEnergyOfMelt", spec := "fnExactEnergyOfMelt", inPlace := ["math.Float64bits", "math.Float64frombits"], unfollowed := true, recurses := true, apart := false, narrowed := true }
def FnExactEnergyOfMeltUptoSaid : Prop := fnExactEnergyOfMeltUptoRow.holds Try.pinned (OpenSpec.upto fnExactEnergyOfMeltSpec)

/-- 'laws.FnExactMirrorMelt', WHERE WHAT IT READS IS OF BULK AT MOST 1048576: true; the input reads as it did. -/
def fnExactMirrorMeltUptoRow : OpenClaim := { program := "ytplijfhgleofmaa", sum := "b68b1206ac7bf8807ef5e479823219d3c10eb56a93a19cf07a0d0ba933a9d483", func := "loop.example/g01247/laws.FnExactMirrorMelt", spec := "fnExactMirrorMelt", inPlace := ["math.Float64bits", "math.Float64frombits"], unfollowed := true, recurses := true, apart := false, narrowed := true }
def FnExactMirrorMeltUptoSaid : Prop := fnExactMirrorMeltUptoRow.holds Try.pinned (OpenSpec.upto fnExactMirrorMeltSpec)

/-- 'laws.FnExactSetMelt', WHERE WHAT IT READS IS OF BULK AT MOST 1048576: true; the input reads as it did. -/
def fnExactSetMeltUptoRow : OpenClaim := { program := "ytplijfhgleofmaa", sum := "b68b1206ac7bf8807ef5e479823219d3c10eb56a93a19cf07a0d0ba933a9d483", func := "loop.example/g01247/laws.FnExactSetMelt", spec := "fnExactSetMelt", inPlace := ["math.Float64bits", "math.Float64frombits"], unfollowed := true, recurses := true, apart := false, narrowed := true }
def FnExactSetMeltUptoSaid : Prop := fnExactSetMeltUptoRow.holds Try.pinned (OpenSpec.upto fnExactSetMeltSpec)

/-- 'laws.FnExactCoolMelt', WHERE WHAT IT READS IS OF BULK AT MOST 1048576: true; the input reads as it did. -/
def fnExactCoolMeltUptoRow : OpenClaim := { program := "ytplijfhgleofmaa", sum := "b68b1206ac7bf8807ef5e479823219d3c10eb56a93a19cf07a0d0ba933a9d483", func := "loop.example/g01247/laws.FnExactCoolMelt", spec := "fnExactCoolMelt", inPlace := ["math.Float64bits", "math.Float64frombits"], unfollowed := true, recurses := true, apart := false, narrowed := true }
def FnExactCoolMeltUptoSaid : Prop := fnExactCoolMeltUptoRow.holds Try.pinned (OpenSpec.upto fnExactCoolMeltSpec)

/-- 'laws.FnExactFlushMelt', WHERE WHAT IT READS IS OF BULK AT MOST 1048576: true; the input reads as it did. -/
def fnExactFlushMeltUptoRow : OpenClaim := { program := "ytplijfhgleofmaa", sum := "b68b1206ac7bf8807ef5e479823219d3c10eb56a93a19cf07a0d0ba933a9d483", func := "loop.example/g01247/laws.FnExactFlushMelt", spec := "fnExactFlushMelt", inPlace := ["math.Float32bits", "math.Float32frombits", "math.Float64bits", "math.Float64frombits"], unfollowed := true, recurses := true, apart := false, narrowed := true }
def FnExactFlushMeltUptoSaid : Prop := fnExactFlushMeltUptoRow.holds Try.pinned (OpenSpec.upto fnExactFlushMeltSpec)

end Rows
end Go.Proofs.Ytplijfhgleofmaa
