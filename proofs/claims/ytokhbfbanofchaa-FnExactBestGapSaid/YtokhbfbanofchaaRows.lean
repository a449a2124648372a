/-
  No cell of these rows narrows 'for every input' (looked for: loops, veiled, ifaces, maps, wideKeys, modest, calm, conditions, laid).
  DERIVED. THE GIVEN ROWS OF THIS SEAT. 10 by the template 'for every input the law returns true; each argument reads behind the call as it read before'; 0 by the template 'total and deterministic' (their statements: YtokhbfbanofchaaTotals.lean).
  GIVEN WITH THE SEED: the statements are not yours to turn. If you find one false, say at which input.
  Laid BY PROGRAM, IN A SANDBOX (cutbox-rows.mjs): the forced cells as the released guide's own fill.sh prints them over the translation ab2adacca205bbf3… (all of the seat's roots in one cut). By AI agents, Wed Nov 11 2026. No macro, syntax, notation, axiom, sorry.
-/
import Derived.Test.YtokhbfbanofchaaChecked
import GoSem.Claim
import GoSem.ClaimJoined
import GoSem.ClaimMapViews
import Derived.JoinedTies
import Derived.KernelRfl
namespace Go.Proofs.Ytokhbfbanofchaa
/- THE CELL 'sum', in the pinned program and in every row, IS THE sha256 OF THE DUMP (.gsa) THAT YtokhbfbanofchaaProg.lean LOADS. Nothing in Lean hashes anything: it is a label: what it is worth is what the hold of that sum in a sandbox is worth. -/
noncomputable def Try.pinned : Pinned := { name := "ytokhbfbanofchaa", sum := "ab2adacca205bbf3f0cdbb498e00e6a93829b9a150907ae8801a3d7dfdd1cf25", checked := Try.checked }
namespace Rows
def none {H : Type} : Left H := { results := [], args := [] }

/-- 'laws.FnExactMomentEnergy': WHATEVER THE INPUT: true; the input reads as it did. -/
def fnExactMomentEnergySpec : ChangeSpec := { name := "fnExactMomentEnergy", fn := fun _ => fun
  | [d1, d2, d3] => { results := [.lit (.bool true)], args := [d1, d2, d3] }
  | _ => none }
def fnExactMomentEnergyRow : OpenClaim := { program := "ytokhbfbanofchaa", sum := "ab2adacca205bbf3f0cdbb498e00e6a93829b9a150907ae8801a3d7dfdd1cf25", func := "loop.example/g01237/laws.FnExactMomentEnergy", spec := "fnExactMomentEnergy", inPlace := ["math.sqrt"], unfollowed := true, recurses := true, apart := false }
def FnExactMomentEnergySaid : Prop := fnExactMomentEnergyRow.holds Try.pinned (OpenSpec.ofChange fnExactMomentEnergySpec)

/-- ITS FALSE NEIGHBOUR: 'it returns false'. Refute it at one input. -/
def fnExactMomentEnergyWrong : ChangeSpec := { name := "fnExactMomentEnergy", fn := fun _ => fun
  | [d1, d2, d3] => { results := [.lit (.bool false)], args := [d1, d2, d3] }
  | _ => none }
def FnExactMomentEnergyWrongFalsely : Prop := fnExactMomentEnergyRow.holds Try.pinned (OpenSpec.ofChange fnExactMomentEnergyWrong)

/-- 'laws.FnExactMomentTorque': WHATEVER THE INPUT: true; the input reads as it did. -/
def fnExactMomentTorqueSpec : ChangeSpec := { name := "fnExactMomentTorque", fn := fun _ => fun
  | [d1, d2, d3] => { results := [.lit (.bool true)], args := [d1, d2, d3] }
  | _ => none }
def fnExactMomentTorqueRow : OpenClaim := { program := "ytokhbfbanofchaa", sum := "ab2adacca205bbf3f0cdbb498e00e6a93829b9a150907ae8801a3d7dfdd1cf25", func := "loop.example/g01237/laws.FnExactMomentTorque", spec := "fnExactMomentTorque", inPlace := ["math.sqrt"], unfollowed := true, recurses := true, apart := false }
def FnExactMomentTorqueSaid : Prop := fnExactMomentTorqueRow.holds Try.pinned (OpenSpec.ofChange fnExactMomentTorqueSpec)

/-- ITS FALSE NEIGHBOUR: 'it returns false'. Refute it at one input. -/
def fnExactMomentTorqueWrong : ChangeSpec := { name := "fnExactMomentTorque", fn := fun _ => fun
  | [d1, d2, d3] => { results := [.lit (.bool false)], args := [d1, d2, d3] }
  | _ => none }
def FnExactMomentTorqueWrongFalsely : Prop := fnExactMomentTorqueRow.holds Try.pinned (OpenSpec.ofChange fnExactMomentTorqueWrong)

/-- 'laws.FnExactWireEnergy': WHATEVER THE INPUT: true; the input reads as it did. -/
def fnExactWireEnergySpec : ChangeSpec := { name := "fnExactWireEnergy", fn := fun _ => fun
  | [d1, d2, d3] => { results := [.lit (.bool true)], args := [d1, d2, d3] }
  | _ => none }
def fnExactWireEnergyRow : OpenClaim := { program := "ytokhbfbanofchaa", sum := "ab2adacca205bbf3f0cdbb498e00e6a93829b9a150907ae8801a3d7dfdd1cf25", func := "loop.example/g01237/laws.FnExactWireEnergy", spec := "fnExactWireEnergy", inPlace := ["math.sqrt"], unfollowed := true, recurses := true, apart := false }
def FnExactWireEnergySaid : Prop := fnExactWireEnergyRow.holds Try.pinned (OpenSpec.ofChange fnExactWireEnergySpec)

/-- ITS FALSE NEIGHBOUR: 'it returns false'. Refute it at one input. -/
def fnExactWireEnergyWrong : ChangeSpec := { name := "fnExactWireEnergy", fn := fun _ => fun
  | [d1, d2, d3] => { results := [.lit (.bool false)], args := [d1, d2, d3] }
  | _ => none }
def FnExactWireEnergyWrongFalsely : Prop := fnExactWireEnergyRow.holds Try.pinned (OpenSpec.ofChange fnExactWireEnergyWrong)

/-- 'laws.FnExactMomentForce': WHATEVER THE INPUT: true; the input reads as it did. -/
def fnExactMomentForceSpec : ChangeSpec := { name := "fnExactMomentForce", fn := fun _ => fun
  | [d1, d2, d3, d4] => { results := [.lit (.bool true)], args := [d1, d2, d3, d4] }
  | _ => none }
def fnExactMomentForceRow : OpenClaim := { program := "ytokhbfbanofchaa", sum := "ab2adacca205bbf3f0cdbb498e00e6a93829b9a150907ae8801a3d7dfdd1cf25", func := "loop.example/g01237/laws.FnExactMomentForce", spec := "fnExactMomentForce", inPlace := ["math.sqrt"], unfollowed := true, recurses := true, apart := false }
def FnExactMomentForceSaid : Prop := fnExactMomentForceRow.holds Try.pinned (OpenSpec.ofChange fnExactMomentForceSpec)

/-- ITS FALSE NEIGHBOUR: 'it returns false'. Refute it at one input. -/
def fnExactMomentForceWrong : ChangeSpec := { name := "fnExactMomentForce", fn := fun _ => fun
  | [d1, d2, d3, d4] => { results := [.lit (.bool false)], args := [d1, d2, d3, d4] }
  | _ => none }
def FnExactMomentForceWrongFalsely : Prop := fnExactMomentForceRow.holds Try.pinned (OpenSpec.ofChange fnExactMomentForceWrong)

/-- 'laws.FnExactForceOn': WHATEVER THE INPUT: true; the input reads as it did. -/
def fnExactForceOnSpec : ChangeSpec := { name := "fnExactForceOn", fn := fun _ => fun
  | [d1, d2, d3] => { results := [.lit (.bool true)], args := [d1, d2, d3] }
  | _ => none }
def fnExactForceOnRow : OpenClaim := { program := "ytokhbfbanofchaa", sum := "ab2adacca205bbf3f0cdbb498e00e6a93829b9a150907ae8801a3d7dfdd1cf25", func := "loop.example/g01237/laws.FnExactForceOn", spec := "fnExactForceOn", inPlace := ["math.sqrt"], unfollowed := true, recurses := true, apart := false }
def FnExactForceOnSaid : Prop := fnExactForceOnRow.holds Try.pinned (OpenSpec.ofChange fnExactForceOnSpec)

/-- ITS FALSE NEIGHBOUR: 'it returns false'. Refute it at one input. -/
def fnExactForceOnWrong : ChangeSpec := { name := "fnExactForceOn", fn := fun _ => fun
  | [d1, d2, d3] => { results := [.lit (.bool false)], args := [d1, d2, d3] }
  | _ => none }
def FnExactForceOnWrongFalsely : Prop := fnExactForceOnRow.holds Try.pinned (OpenSpec.ofChange fnExactForceOnWrong)

/-- 'laws.FnExactFieldsAlong': WHATEVER THE INPUT: true; the input reads as it did. -/
def fnExactFieldsAlongSpec : ChangeSpec := { name := "fnExactFieldsAlong", fn := fun _ => fun
  | [d1, d2, d3, d4] => { results := [.lit (.bool true)], args := [d1, d2, d3, d4] }
  | _ => none }
def fnExactFieldsAlongRow : OpenClaim := { program := "ytokhbfbanofchaa", sum := "ab2adacca205bbf3f0cdbb498e00e6a93829b9a150907ae8801a3d7dfdd1cf25", func := "loop.example/g01237/laws.FnExactFieldsAlong", spec := "fnExactFieldsAlong", inPlace := ["math.sqrt"], unfollowed := true, recurses := true, apart := false }
def FnExactFieldsAlongSaid : Prop := fnExactFieldsAlongRow.holds Try.pinned (OpenSpec.ofChange fnExactFieldsAlongSpec)

/-- ITS FALSE NEIGHBOUR: 'it returns false'. Refute it at one input. -/
def fnExactFieldsAlongWrong : ChangeSpec := { name := "fnExactFieldsAlong", fn := fun _ => fun
  | [d1, d2, d3, d4] => { results := [.lit (.bool false)], args := [d1, d2, d3, d4] }
  | _ => none }
def FnExactFieldsAlongWrongFalsely : Prop := fnExactFieldsAlongRow.holds Try.pinned (OpenSpec.ofChange fnExactFieldsAlongWrong)

/-- 'laws.FnExactWireTorque': WHATEVER THE INPUT: true; the input reads as it did. -/
def fnExactWireTorqueSpec : ChangeSpec := { name := "fnExactWireTorque", fn := fun _ => fun
  | [d1, d2, d3, d4] => { results := [.lit (.bool true)], args := [d1, d2, d3, d4] }
  | _ => none }
def fnExactWireTorqueRow : OpenClaim := { program := "ytokhbfbanofchaa", sum := "ab2adacca205bbf3f0cdbb498e00e6a93829b9a150907ae8801a3d7dfdd1cf25", func := "loop.example/g01237/laws.FnExactWireTorque", spec := "fnExactWireTorque", inPlace := ["math.sqrt"], unfollowed := true, recurses := true, apart := false }
def FnExactWireTorqueSaid : Prop := fnExactWireTorqueRow.holds Try.pinned (OpenSpec.ofChange fnExactWireTorqueSpec)

/-- ITS FALSE NEIGHBOUR: 'it returns false'. Refute it at one input. -/
def fnExactWireTorqueWrong : ChangeSpec := { name := "fnExactWireTorque", fn := fun _ => fun
  | [d1, d2, d3, d4] => { results := [.lit (.bool false)], args := [d1, d2, d3, d4] }
  | _ => none }
def FnExactWireTorqueWrongFalsely : Prop := fnExactWireTorqueRow.holds Try.pinned (OpenSpec.ofChange fnExactWireTorqueWrong)

/-- 'laws.FnExactWireCouplings': WHATEVER THE INPUT: true; the input reads as it did. -/
def fnExactWireCouplingsSpec : ChangeSpec := { name := "fnExactWireCouplings", fn := fun _ => fun
  | [d1, d2, d3] => { results := [.lit (.bool true)], args := [d1, d2, d3] }
  | _ => none }
def fnExactWireCouplingsRow : OpenClaim := { program := "ytokhbfbanofchaa", sum := "ab2adacca205bbf3f0cdbb498e00e6a93829b9a150907ae8801a3d7dfdd1cf25", func := "loop.example/g01237/laws.FnExactWireCouplings", spec := "fnExactWireCouplings", inPlace := ["math.sqrt"], unfollowed := true, recurses := true, apart := false }
def FnExactWireCouplingsSaid : Prop := fnExactWireCouplingsRow.holds Try.pinned (OpenSpec.ofChange fnExactWireCouplingsSpec)

/-- ITS FALSE NEIGHBOUR: 'it returns false'. Refute it at one input. -/
def fnExactWireCouplingsWrong : ChangeSpec := { name := "fnExactWireCouplings", fn := fun _ => fun
  | [d1, d2, d3] => { results := [.lit (.bool false)], args := [d1, d2, d3] }
  | _ => none }
def FnExactWireCouplingsWrongFalsely : Prop := fnExactWireCouplingsRow.holds Try.pinned (OpenSpec.ofChange fnExactWireCouplingsWrong)

/-- 'laws.FnExactForcesOnParts': WHATEVER THE INPUT: true; the input reads as it did. -/
def fnExactForcesOnPartsSpec : ChangeSpec := { name := "fnExactForcesOnParts", fn := fun _ => fun
  | [d1, d2] => { results := [.lit (.bool true)], args := [d1, d2] }
  | _ => none }
def fnExactForcesOnPartsRow : OpenClaim := { program := "ytokhbfbanofchaa", sum := "ab2adacca205bbf3f0cdbb498e00e6a93829b9a150907ae8801a3d7dfdd1cf25", func := "loop.example/g01237/laws.FnExactForcesOnParts", spec := "fnExactForcesOnParts", inPlace := ["math.sqrt"], unfollowed := true, recurses := true, apart := false }
def FnExactForcesOnPartsSaid : Prop := fnExactForcesOnPartsRow.holds Try.pinned (OpenSpec.ofChange fnExactForcesOnPartsSpec)

/-- ITS FALSE NEIGHBOUR: 'it returns false'. Refute it at one input. -/
def fnExactForcesOnPartsWrong : ChangeSpec := { name := "fnExactForcesOnParts", fn := fun _ => fun
  | [d1, d2] => { results := [.lit (.bool false)], args := [d1, d2] }
  | _ => none }
def FnExactForcesOnPartsWrongFalsely : Prop := fnExactForcesOnPartsRow.holds Try.pinned (OpenSpec.ofChange fnExactForcesOnPartsWrong)

/-- 'laws.FnExactBestGap': WHATEVER THE INPUT: true; the input reads as it did. -/
def fnExactBestGapSpec : ChangeSpec := { name := "fnExactBestGap", fn := fun _ => fun
  | [d1, d2, d3, d4, d5] => { results := [.lit (.bool true)], args := [d1, d2, d3, d4, d5] }
  | _ => none }
def fnExactBestGapRow : OpenClaim := { program := "ytokhbfbanofchaa", sum := "ab2adacca205bbf3f0cdbb498e00e6a93829b9a150907ae8801a3d7dfdd1cf25", func := "loop.example/g01237/laws.FnExactBestGap", spec := "fnExactBestGap", inPlace := ["math.Float64frombits", "math.sqrt", "math.Float64bits"], unfollowed := true, recurses := true, apart := false }
def FnExactBestGapSaid : Prop := fnExactBestGapRow.holds Try.pinned (OpenSpec.ofChange fnExactBestGapSpec)

/-- ITS FALSE NEIGHBOUR: 'it returns false'. Refute it at one input. -/
def fnExactBestGapWrong : ChangeSpec := { name := "fnExactBestGap", fn := fun _ => fun
  | [d1, d2, d3, d4, d5] => { results := [.lit (.bool false)], args := [d1, d2, d3, d4, d5] }
  | _ => none }
def FnExactBestGapWrongFalsely : Prop := fnExactBestGapRow.holds Try.pinned (OpenSpec.ofChange fnExactBestGapWrong)

/- THE SECOND FORM. 'bulk': how many values and letters a reading holds, each counted each time it is reached (what is shared counts as often as it is met; a slice's spare places count too). A statement '..UptoSaid' is the law's where the arguments, and the package variables that the reading takes, are together of bulk at most 1048576: NARROWER than '..Said'. Prove '..Said' where nothing that the law and all that it calls make is longer than what came in: it says more and counts as full. Else prove '..UptoSaid'. A law counts once. -/
mutual
def uptoBulk {H : Type} : DataW H → Nat
  | .lit (.string bytes) => bytes.length + 1
  | .lit _ => 1
  | .nil => 1
  | .ptr d => uptoBulk d + 1
  | .slice elems spare => uptoBulkAll elems + uptoBulkAll spare + 1
  | .agg parts => uptoBulkAll parts + 1
  | .iface _ d => uptoBulk d + 1
  | .map entries => uptoBulkEntries entries + 1
  | .held _ => 1
def uptoBulkAll {H : Type} : List (DataW H) → Nat
  | [] => 0
  | d :: r => uptoBulk d + uptoBulkAll r
def uptoBulkEntries {H : Type} : List (Lit × DataW H) → Nat
  | [] => 0
  | x :: r => uptoBulkEntry x + uptoBulkEntries r
def uptoBulkEntry {H : Type} : Lit × DataW H → Nat
  | (.string bytes, d) => bytes.length + uptoBulk d + 1
  | (_, d) => uptoBulk d + 1
 end
def uptoSmall : (H : Type) → List (DataW H) → Bool := fun _ ds => decide (uptoBulkAll ds ≤ 1048576)
def OpenSpec.upto (s : _root_.Go.ChangeSpec) : _root_.Go.OpenSpec := { _root_.Go.OpenSpec.ofChange s with cond := some uptoSmall }

/-- 'laws.FnExactMomentEnergy', WHERE WHAT IT READS IS OF BULK AT MOST 1048576: true; the input reads as it did. -/
def fnExactMomentEnergyUptoRow : OpenClaim := { program := "ytokhbfbanofchaa", sum := "ab2adacca205bbf3f0cdbb498e00e6a93829b9a150907ae8801a3d7dfdd1cf25", func := "loop.example/g01237/laws.FnExactMomentEnergy", spec := "fnExactMomentEnergy", inPlace := ["math.sqrt"], unfollowed := true, recurses := true, apart := false, narrowed := true }
def FnExactMomentEnergyUptoSaid : Prop := fnExactMomentEnergyUptoRow.holds Try.pinned (OpenSpec.upto fnExactMomentEnergySpec)

/-- 'laws.FnExactMomentTorque', WHERE WHAT IT READS IS OF BULK AT MOST 1048576: true; the input reads as it did. -/
def fnExactMomentTorqueUptoRow : OpenClaim := { program := "ytokhbfbanofchaa", sum := "ab2adacca205bbf3f0cdbb498e00e6a93829b9a150907ae8801a3d7dfdd1cf25", func := "loop.example/g01237/laws.FnExactMomentTorque", spec := "fnExactMomentTorque", inPlace := ["math.sqrt"], unfollowed := true, recurses := true, apart := false, narrowed := true }
def FnExactMomentTorqueUptoSaid : Prop := fnExactMomentTorqueUptoRow.holds Try.pinned (OpenSpec.upto fnExactMomentTorqueSpec)

/-- 'laws.FnExactWireEnergy', WHERE WHAT IT READS IS OF BULK AT MOST 1048576: true; the input reads as it did. -/
def fnExactWireEnergyUptoRow : OpenClaim := { program := "ytokhbfbanofchaa", sum := "ab2adacca205bbf3f0cdbb498e00e6a93829b9a150907ae8801a3d7dfdd1cf25", func := "loop.example/g01237/laws.FnExactWireEnergy", spec := "fnExactWireEnergy", inPlace := ["math.sqrt"], unfollowed := true, recurses := true, apart := false, narrowed := true }
def FnExactWireEnergyUptoSaid : Prop := fnExactWireEnergyUptoRow.holds Try.pinned (OpenSpec.upto fnExactWireEnergySpec)

/-- 'laws.FnExactMomentForce', WHERE WHAT IT READS IS OF BULK AT MOST 1048576: true; the input reads as it did. -/
def fnExactMomentForceUptoRow : OpenClaim := { program := "ytokhbfbanofchaa", sum := "ab2adacca205bbf3f0cdbb498e00e6a93829b9a150907ae8801a3d7dfdd1cf25", func := "loop.example/g01237/laws.FnExactMomentForce", spec := "fnExactMomentForce", inPlace := ["math.sqrt"], unfollowed := true, recurses := true, apart := false, narrowed := true }
def FnExactMomentForceUptoSaid : Prop := fnExactMomentForceUptoRow.holds Try.pinned (OpenSpec.upto fnExactMomentForceSpec)

/-- 'laws.FnExactForceOn', WHERE WHAT IT READS IS OF BULK AT MOST 1048576: true; the input reads as it did. -/
def fnExactForceOnUptoRow : OpenClaim := { program := "ytokhbfbanofchaa", sum := "ab2adacca205bbf3f0cdbb498e00e6a93829b9a150907ae8801a3d7dfdd1cf25", func := "loop.example/g01237/laws.FnExactForceOn", spec := "fnExactForceOn", inPlace := ["math.sqrt"], unfollowed := true, recurses := true, apart := false, narrowed := true }
def FnExactForceOnUptoSaid : Prop := fnExactForceOnUptoRow.holds Try.pinned (OpenSpec.upto fnExactForceOnSpec)

/-- 'laws.FnExactFieldsAlong', WHERE WHAT IT READS IS OF BULK AT MOST 1048576: true; the input reads as it did. -/
def fnExactFieldsAlongUptoRow : OpenClaim := { program := "ytokhbfbanofchaa", sum := "ab2adacca205bbf3f0cdbb498e00e6a93829b9a150907ae8801a3d7dfdd1cf25", func := "loop.example/g01237/laws.FnExactFieldsAlong", spec := "fnExactFieldsAlong", inPlace := ["math.sqrt"], unfollowed := true, recurses := true, apart := false, narrowed := true }
def FnExactFieldsAlongUptoSaid : Prop := fnExactFieldsAlongUptoRow.holds Try.pinned (OpenSpec.upto fnExactFieldsAlongSpec)

/-- 'laws.FnExactWireTorque', WHERE WHAT IT READS IS OF BULK AT MOST 1048576: true; the input reads as it did. -/
def fnExactWireTorqueUptoRow : OpenClaim := { program := "ytokhbfbanofchaa", sum := "ab2adacca205bbf3f0cdbb498e00e6a93829b9a150907ae8801a3d7dfdd1cf25", func := "loop.example/g01237/laws.FnExactWireTorque", spec := "fnExactWireTorque", inPlace := ["math.sqrt"], unfollowed := true, recurses := true, apart := false, narrowed := true }
def FnExactWireTorqueUptoSaid : Prop := fnExactWireTorqueUptoRow.holds Try.pinned (OpenSpec.upto fnExactWireTorqueSpec)

/-- 'laws.FnExactWireCouplings', WHERE WHAT IT READS IS OF BULK AT MOST 1048576: true; the input reads as it did. -/
def fnExactWireCouplingsUptoRow : OpenClaim := { program := "ytokhbfbanofchaa", sum := "ab2adacca205bbf3f0cdbb498e00e6a93829b9a150907ae8801a3d7dfdd1cf25", func := "loop.example/g01237/laws.FnExactWireCouplings", spec := "fnExactWireCouplings", inPlace := ["math.sqrt"], unfollowed := true, recurses := true, apart := false, narrowed := true }
def FnExactWireCouplingsUptoSaid : Prop := fnExactWireCouplingsUptoRow.holds Try.pinned (OpenSpec.upto fnExactWireCouplingsSpec)

/-- 'laws.FnExactForcesOnParts', WHERE WHAT IT READS IS OF BULK AT MOST 1048576: true; the input reads as it did. -/
def fnExactForcesOnPartsUptoRow : OpenClaim := { program := "ytokhbfbanofchaa", sum := "ab2adacca205bbf3f0cdbb498e00e6a93829b9a150907ae8801a3d7dfdd1cf25", func := "loop.example/g01237/laws.FnExactForcesOnParts", spec := "fnExactForcesOnParts", inPlace := ["math.sqrt"], unfollowed := true, recurses := true, apart := false, narrowed := true }
def FnExactForcesOnPartsUptoSaid : Prop := fnExactForcesOnPartsUptoRow.holds Try.pinned (OpenSpec.upto fnExactForcesOnPartsSpec)

/-- 'laws.FnExactBestGap', WHERE WHAT IT READS IS OF BULK AT MOST 1048576: true; the input reads as it did. -/
def fnExactBestGapUptoRow : OpenClaim := { program := "ytokhbfbanofchaa", sum := "ab2adacca205bbf3f0cdbb498e00e6a93829b9a150907ae8801a3d7dfdd1cf25", func := "loop.example/g01237/laws.FnExactBestGap", spec := "fnExactBestGap", inPlace := ["math.Float64frombits", "math.sqrt", "math.Float64bits"], unfollowed := true, recurses := true, apart := false, narrowed := true }
def FnExactBestGapUptoSaid : Prop := fnExactBestGapUptoRow.holds Try.pinned (OpenSpec.upto fnExactBestGapSpec)

end Rows
end Go.Proofs.Ytokhbfbanofchaa
