/-
  No cell of these rows narrows 'for every input' (looked for: loops, veiled, ifaces, maps, wideKeys, modest, calm, conditions, laid).
  DERIVED. THE GIVEN ROWS OF THIS SEAT. 14 by the template 'for every input the law returns true; each argument reads behind the call as it read before'; 0 by the template 'total and deterministic' (their statements: YthnlpbfheefldaaTotals.lean).
  GIVEN WITH THE SEED: the statements are not yours to turn. If you find one false, say at which input.
  Laid BY PROGRAM, IN A SANDBOX (cutbox-rows.mjs): the forced cells as the released guide's own fill.sh prints them over the translation 1b4ce54b6fa283a6… (all of the seat's roots in one cut). By AI agents, Wed Nov 11 2026. No macro, syntax, notation, axiom, sorry.
-/
import Derived.Test.YthnlpbfheefldaaChecked
import GoSem.Claim
import GoSem.ClaimJoined
import GoSem.ClaimMapViews
import Derived.JoinedTies
import Derived.KernelRfl
namespace Go.Proofs.Ythnlpbfheefldaa
/- THE CELL 'sum', in the pinned program and in every row, IS THE sha256 OF THE DUMP (.gsa) THAT YthnlpbfheefldaaProg.lean LOADS. Nothing in Lean hashes anything: it is a label: what it is worth is what the hold of that sum in a sandbox is worth. -/
noncomputable def Try.pinned : Pinned := { name := "ythnlpbfheefldaa", sum := "1b4ce54b6fa283a644f9e46e2c344f7b5c08676a1b4b4816cef58280f229e2dd", checked := Try.checked }
namespace Rows
def none {H : Type} : Left H := { results := [], args := [] }

/-- 'laws.FnExactDipoleEnergy': WHATEVER THE INPUT: true; the input reads as it did. -/
def fnExactDipoleEnergySpec : ChangeSpec := { name := "fnExactDipoleEnergy", fn := fun _ => fun
  | [d1, d2] => { results := [.lit (.bool true)], args := [d1, d2] }
  | _ => none }
def fnExactDipoleEnergyRow : OpenClaim := { program := "ythnlpbfheefldaa", sum := "1b4ce54b6fa283a644f9e46e2c344f7b5c08676a1b4b4816cef58280f229e2dd", func := "loop.example/g01237/laws.FnExactDipoleEnergy", spec := "fnExactDipoleEnergy", apart := false }
def FnExactDipoleEnergySaid : Prop := fnExactDipoleEnergyRow.holds Try.pinned (OpenSpec.ofChange fnExactDipoleEnergySpec)

/-- ITS FALSE NEIGHBOUR: 'it returns false'. Refute it at one input. -/
def fnExactDipoleEnergyWrong : ChangeSpec := { name := "fnExactDipoleEnergy", fn := fun _ => fun
  | [d1, d2] => { results := [.lit (.bool false)], args := [d1, d2] }
  | _ => none }
def FnExactDipoleEnergyWrongFalsely : Prop := fnExactDipoleEnergyRow.holds Try.pinned (OpenSpec.ofChange fnExactDipoleEnergyWrong)

/-- 'laws.FnExactDipoleTorque': WHATEVER THE INPUT: true; the input reads as it did. -/
def fnExactDipoleTorqueSpec : ChangeSpec := { name := "fnExactDipoleTorque", fn := fun _ => fun
  | [d1, d2] => { results := [.lit (.bool true)], args := [d1, d2] }
  | _ => none }
def fnExactDipoleTorqueRow : OpenClaim := { program := "ythnlpbfheefldaa", sum := "1b4ce54b6fa283a644f9e46e2c344f7b5c08676a1b4b4816cef58280f229e2dd", func := "loop.example/g01237/laws.FnExactDipoleTorque", spec := "fnExactDipoleTorque", apart := false }
def FnExactDipoleTorqueSaid : Prop := fnExactDipoleTorqueRow.holds Try.pinned (OpenSpec.ofChange fnExactDipoleTorqueSpec)

/-- ITS FALSE NEIGHBOUR: 'it returns false'. Refute it at one input. -/
def fnExactDipoleTorqueWrong : ChangeSpec := { name := "fnExactDipoleTorque", fn := fun _ => fun
  | [d1, d2] => { results := [.lit (.bool false)], args := [d1, d2] }
  | _ => none }
def FnExactDipoleTorqueWrongFalsely : Prop := fnExactDipoleTorqueRow.holds Try.pinned (OpenSpec.ofChange fnExactDipoleTorqueWrong)

/-- 'laws.FnExactArePoles': WHATEVER THE INPUT: true; the input reads as it did. -/
def fnExactArePolesSpec : ChangeSpec := { name := "fnExactArePoles", fn := fun _ => fun
  | [d] => { results := [.lit (.bool true)], args := [d] }
  | _ => none }
def fnExactArePolesRow : OpenClaim := { program := "ythnlpbfheefldaa", sum := "1b4ce54b6fa283a644f9e46e2c344f7b5c08676a1b4b4816cef58280f229e2dd", func := "loop.example/g01237/laws.FnExactArePoles", spec := "fnExactArePoles", apart := false }
def FnExactArePolesSaid : Prop := fnExactArePolesRow.holds Try.pinned (OpenSpec.ofChange fnExactArePolesSpec)

/-- ITS FALSE NEIGHBOUR: 'it returns false'. Refute it at one input. -/
def fnExactArePolesWrong : ChangeSpec := { name := "fnExactArePoles", fn := fun _ => fun
  | [d] => { results := [.lit (.bool false)], args := [d] }
  | _ => none }
def FnExactArePolesWrongFalsely : Prop := fnExactArePolesRow.holds Try.pinned (OpenSpec.ofChange fnExactArePolesWrong)

/-- 'laws.FnExactBarMagnet': WHATEVER THE INPUT: true; the input reads as it did. -/
def fnExactBarMagnetSpec : ChangeSpec := { name := "fnExactBarMagnet", fn := fun _ => fun
  | [d1, d2, d3] => { results := [.lit (.bool true)], args := [d1, d2, d3] }
  | _ => none }
def fnExactBarMagnetRow : OpenClaim := { program := "ythnlpbfheefldaa", sum := "1b4ce54b6fa283a644f9e46e2c344f7b5c08676a1b4b4816cef58280f229e2dd", func := "loop.example/g01237/laws.FnExactBarMagnet", spec := "fnExactBarMagnet", apart := false }
def FnExactBarMagnetSaid : Prop := fnExactBarMagnetRow.holds Try.pinned (OpenSpec.ofChange fnExactBarMagnetSpec)

/-- ITS FALSE NEIGHBOUR: 'it returns false'. Refute it at one input. -/
def fnExactBarMagnetWrong : ChangeSpec := { name := "fnExactBarMagnet", fn := fun _ => fun
  | [d1, d2, d3] => { results := [.lit (.bool false)], args := [d1, d2, d3] }
  | _ => none }
def FnExactBarMagnetWrongFalsely : Prop := fnExactBarMagnetRow.holds Try.pinned (OpenSpec.ofChange fnExactBarMagnetWrong)

/-- 'laws.FnExactDipoleOf': WHATEVER THE INPUT: true; the input reads as it did. -/
def fnExactDipoleOfSpec : ChangeSpec := { name := "fnExactDipoleOf", fn := fun _ => fun
  | [d] => { results := [.lit (.bool true)], args := [d] }
  | _ => none }
def fnExactDipoleOfRow : OpenClaim := { program := "ythnlpbfheefldaa", sum := "1b4ce54b6fa283a644f9e46e2c344f7b5c08676a1b4b4816cef58280f229e2dd", func := "loop.example/g01237/laws.FnExactDipoleOf", spec := "fnExactDipoleOf", apart := false }
def FnExactDipoleOfSaid : Prop := fnExactDipoleOfRow.holds Try.pinned (OpenSpec.ofChange fnExactDipoleOfSpec)

/-- ITS FALSE NEIGHBOUR: 'it returns false'. Refute it at one input. -/
def fnExactDipoleOfWrong : ChangeSpec := { name := "fnExactDipoleOf", fn := fun _ => fun
  | [d] => { results := [.lit (.bool false)], args := [d] }
  | _ => none }
def FnExactDipoleOfWrongFalsely : Prop := fnExactDipoleOfRow.holds Try.pinned (OpenSpec.ofChange fnExactDipoleOfWrong)

/-- 'laws.FnExactSamePoles': WHATEVER THE INPUT: true; the input reads as it did. -/
def fnExactSamePolesSpec : ChangeSpec := { name := "fnExactSamePoles", fn := fun _ => fun
  | [d1, d2] => { results := [.lit (.bool true)], args := [d1, d2] }
  | _ => none }
def fnExactSamePolesRow : OpenClaim := { program := "ythnlpbfheefldaa", sum := "1b4ce54b6fa283a644f9e46e2c344f7b5c08676a1b4b4816cef58280f229e2dd", func := "loop.example/g01237/laws.FnExactSamePoles", spec := "fnExactSamePoles", inPlace := ["math.Float32bits", "math.Float64bits"], unfollowed := true, recurses := true, apart := false }
def FnExactSamePolesSaid : Prop := fnExactSamePolesRow.holds Try.pinned (OpenSpec.ofChange fnExactSamePolesSpec)

/-- ITS FALSE NEIGHBOUR: 'it returns false'. Refute it at one input. -/
def fnExactSamePolesWrong : ChangeSpec := { name := "fnExactSamePoles", fn := fun _ => fun
  | [d1, d2] => { results := [.lit (.bool false)], args := [d1, d2] }
  | _ => none }
def FnExactSamePolesWrongFalsely : Prop := fnExactSamePolesRow.holds Try.pinned (OpenSpec.ofChange fnExactSamePolesWrong)

/-- 'laws.FnExactMovePoles': WHATEVER THE INPUT: true; the input reads as it did. -/
def fnExactMovePolesSpec : ChangeSpec := { name := "fnExactMovePoles", fn := fun _ => fun
  | [d1, d2] => { results := [.lit (.bool true)], args := [d1, d2] }
  | _ => none }
def fnExactMovePolesRow : OpenClaim := { program := "ythnlpbfheefldaa", sum := "1b4ce54b6fa283a644f9e46e2c344f7b5c08676a1b4b4816cef58280f229e2dd", func := "loop.example/g01237/laws.FnExactMovePoles", spec := "fnExactMovePoles", apart := false }
def FnExactMovePolesSaid : Prop := fnExactMovePolesRow.holds Try.pinned (OpenSpec.ofChange fnExactMovePolesSpec)

/-- ITS FALSE NEIGHBOUR: 'it returns false'. Refute it at one input. -/
def fnExactMovePolesWrong : ChangeSpec := { name := "fnExactMovePoles", fn := fun _ => fun
  | [d1, d2] => { results := [.lit (.bool false)], args := [d1, d2] }
  | _ => none }
def FnExactMovePolesWrongFalsely : Prop := fnExactMovePolesRow.holds Try.pinned (OpenSpec.ofChange fnExactMovePolesWrong)

/-- 'laws.FnExactPoleField': WHATEVER THE INPUT: true; the input reads as it did. -/
def fnExactPoleFieldSpec : ChangeSpec := { name := "fnExactPoleField", fn := fun _ => fun
  | [d1, d2] => { results := [.lit (.bool true)], args := [d1, d2] }
  | _ => none }
def fnExactPoleFieldRow : OpenClaim := { program := "ythnlpbfheefldaa", sum := "1b4ce54b6fa283a644f9e46e2c344f7b5c08676a1b4b4816cef58280f229e2dd", func := "loop.example/g01237/laws.FnExactPoleField", spec := "fnExactPoleField", inPlace := ["math.sqrt"], apart := false }
def FnExactPoleFieldSaid : Prop := fnExactPoleFieldRow.holds Try.pinned (OpenSpec.ofChange fnExactPoleFieldSpec)

/-- ITS FALSE NEIGHBOUR: 'it returns false'. Refute it at one input. -/
def fnExactPoleFieldWrong : ChangeSpec := { name := "fnExactPoleField", fn := fun _ => fun
  | [d1, d2] => { results := [.lit (.bool false)], args := [d1, d2] }
  | _ => none }
def FnExactPoleFieldWrongFalsely : Prop := fnExactPoleFieldRow.holds Try.pinned (OpenSpec.ofChange fnExactPoleFieldWrong)

/-- 'laws.FnExactPoleForce': WHATEVER THE INPUT: true; the input reads as it did. -/
def fnExactPoleForceSpec : ChangeSpec := { name := "fnExactPoleForce", fn := fun _ => fun
  | [d1, d2] => { results := [.lit (.bool true)], args := [d1, d2] }
  | _ => none }
def fnExactPoleForceRow : OpenClaim := { program := "ythnlpbfheefldaa", sum := "1b4ce54b6fa283a644f9e46e2c344f7b5c08676a1b4b4816cef58280f229e2dd", func := "loop.example/g01237/laws.FnExactPoleForce", spec := "fnExactPoleForce", inPlace := ["math.sqrt"], apart := false }
def FnExactPoleForceSaid : Prop := fnExactPoleForceRow.holds Try.pinned (OpenSpec.ofChange fnExactPoleForceSpec)

/-- ITS FALSE NEIGHBOUR: 'it returns false'. Refute it at one input. -/
def fnExactPoleForceWrong : ChangeSpec := { name := "fnExactPoleForce", fn := fun _ => fun
  | [d1, d2] => { results := [.lit (.bool false)], args := [d1, d2] }
  | _ => none }
def FnExactPoleForceWrongFalsely : Prop := fnExactPoleForceRow.holds Try.pinned (OpenSpec.ofChange fnExactPoleForceWrong)

/-- 'laws.FnExactDipoleField': WHATEVER THE INPUT: true; the input reads as it did. -/
def fnExactDipoleFieldSpec : ChangeSpec := { name := "fnExactDipoleField", fn := fun _ => fun
  | [d1, d2] => { results := [.lit (.bool true)], args := [d1, d2] }
  | _ => none }
def fnExactDipoleFieldRow : OpenClaim := { program := "ythnlpbfheefldaa", sum := "1b4ce54b6fa283a644f9e46e2c344f7b5c08676a1b4b4816cef58280f229e2dd", func := "loop.example/g01237/laws.FnExactDipoleField", spec := "fnExactDipoleField", inPlace := ["math.sqrt"], apart := false }
def FnExactDipoleFieldSaid : Prop := fnExactDipoleFieldRow.holds Try.pinned (OpenSpec.ofChange fnExactDipoleFieldSpec)

/-- ITS FALSE NEIGHBOUR: 'it returns false'. Refute it at one input. -/
def fnExactDipoleFieldWrong : ChangeSpec := { name := "fnExactDipoleField", fn := fun _ => fun
  | [d1, d2] => { results := [.lit (.bool false)], args := [d1, d2] }
  | _ => none }
def FnExactDipoleFieldWrongFalsely : Prop := fnExactDipoleFieldRow.holds Try.pinned (OpenSpec.ofChange fnExactDipoleFieldWrong)

/-- 'laws.FnExactEnergyOfPoles': WHATEVER THE INPUT: true; the input reads as it did. -/
def fnExactEnergyOfPolesSpec : ChangeSpec := { name := "fnExactEnergyOfPoles", fn := fun _ => fun
  | [d] => { results := [.lit (.bool true)], args := [d] }
  | _ => none }
def fnExactEnergyOfPolesRow : OpenClaim := { program := "ythnlpbfheefldaa", sum := "1b4ce54b6fa283a644f9e46e2c344f7b5c08676a1b4b4816cef58280f229e2dd", func := "loop.example/g01237/laws.FnExactEnergyOfPoles", spec := "fnExactEnergyOfPoles", inPlace := ["math.sqrt"], apart := false }
def FnExactEnergyOfPolesSaid : Prop := fnExactEnergyOfPolesRow.holds Try.pinned (OpenSpec.ofChange fnExactEnergyOfPolesSpec)

/-- ITS FALSE NEIGHBOUR: 'it returns false'. Refute it at one input. -/
def fnExactEnergyOfPolesWrong : ChangeSpec := { name := "fnExactEnergyOfPoles", fn := fun _ => fun
  | [d] => { results := [.lit (.bool false)], args := [d] }
  | _ => none }
def FnExactEnergyOfPolesWrongFalsely : Prop := fnExactEnergyOfPolesRow.holds Try.pinned (OpenSpec.ofChange fnExactEnergyOfPolesWrong)

/-- 'laws.FnExactFieldOfPoles': WHATEVER THE INPUT: true; the input reads as it did. -/
def fnExactFieldOfPolesSpec : ChangeSpec := { name := "fnExactFieldOfPoles", fn := fun _ => fun
  | [d1, d2] => { results := [.lit (.bool true)], args := [d1, d2] }
  | _ => none }
def fnExactFieldOfPolesRow : OpenClaim := { program := "ythnlpbfheefldaa", sum := "1b4ce54b6fa283a644f9e46e2c344f7b5c08676a1b4b4816cef58280f229e2dd", func := "loop.example/g01237/laws.FnExactFieldOfPoles", spec := "fnExactFieldOfPoles", inPlace := ["math.sqrt"], apart := false }
def FnExactFieldOfPolesSaid : Prop := fnExactFieldOfPolesRow.holds Try.pinned (OpenSpec.ofChange fnExactFieldOfPolesSpec)

/-- ITS FALSE NEIGHBOUR: 'it returns false'. Refute it at one input. -/
def fnExactFieldOfPolesWrong : ChangeSpec := { name := "fnExactFieldOfPoles", fn := fun _ => fun
  | [d1, d2] => { results := [.lit (.bool false)], args := [d1, d2] }
  | _ => none }
def FnExactFieldOfPolesWrongFalsely : Prop := fnExactFieldOfPolesRow.holds Try.pinned (OpenSpec.ofChange fnExactFieldOfPolesWrong)

/-- 'laws.FnExactForcesOfPoles': WHATEVER THE INPUT: true; the input reads as it did. -/
def fnExactForcesOfPolesSpec : ChangeSpec := { name := "fnExactForcesOfPoles", fn := fun _ => fun
  | [d] => { results := [.lit (.bool true)], args := [d] }
  | _ => none }
def fnExactForcesOfPolesRow : OpenClaim := { program := "ythnlpbfheefldaa", sum := "1b4ce54b6fa283a644f9e46e2c344f7b5c08676a1b4b4816cef58280f229e2dd", func := "loop.example/g01237/laws.FnExactForcesOfPoles", spec := "fnExactForcesOfPoles", inPlace := ["math.sqrt"], apart := false }
def FnExactForcesOfPolesSaid : Prop := fnExactForcesOfPolesRow.holds Try.pinned (OpenSpec.ofChange fnExactForcesOfPolesSpec)

/-- ITS FALSE NEIGHBOUR: 'it returns false'. Refute it at one input. -/
def fnExactForcesOfPolesWrong : ChangeSpec := { name := "fnExactForcesOfPoles", fn := fun _ => fun
  | [d] => { results := [.lit (.bool false)], args := [d] }
  | _ => none }
def FnExactForcesOfPolesWrongFalsely : Prop := fnExactForcesOfPolesRow.holds Try.pinned (OpenSpec.ofChange fnExactForcesOfPolesWrong)

/-- 'laws.FnExactCorrectReadings': WHATEVER THE INPUT: true; the input reads as it did. -/
def fnExactCorrectReadingsSpec : ChangeSpec := { name := "fnExactCorrectReadings", fn := fun _ => fun
  | [d1, d2] => { results := [.lit (.bool true)], args := [d1, d2] }
  | _ => none }
def fnExactCorrectReadingsRow : OpenClaim := { program := "ythnlpbfheefldaa", sum := "1b4ce54b6fa283a644f9e46e2c344f7b5c08676a1b4b4816cef58280f229e2dd", func := "loop.example/g01237/laws.FnExactCorrectReadings", spec := "fnExactCorrectReadings", apart := false }
def FnExactCorrectReadingsSaid : Prop := fnExactCorrectReadingsRow.holds Try.pinned (OpenSpec.ofChange fnExactCorrectReadingsSpec)

/-- ITS FALSE NEIGHBOUR: 'it returns false'. Refute it at one input. -/
def fnExactCorrectReadingsWrong : ChangeSpec := { name := "fnExactCorrectReadings", fn := fun _ => fun
  | [d1, d2] => { results := [.lit (.bool false)], args := [d1, d2] }
  | _ => none }
def FnExactCorrectReadingsWrongFalsely : Prop := fnExactCorrectReadingsRow.holds Try.pinned (OpenSpec.ofChange fnExactCorrectReadingsWrong)

/- THE SECOND FORM. 'bulk': how many values and letters a reading holds, each counted each time it is reached (what is shared counts as often as it is met; a slice's spare places count too). A statement '..UptoSaid' is the law's where the arguments, and the package variables that the reading takes, are together of bulk at most 1048576: NARROWER than '..Said'. Prove '..Said' where nothing that the law and all that it calls make is longer than what came in: it says more and counts as full. Else prove '..UptoSaid'. A law counts once. -/
mutual
def uptoBulk {H : Type} : DataW H → Nat
  | .lit (.string bytes) => bytes.length + 1
  | .lit _ => 1
  | .nil => 1
  | .ptr d => uptoBulk d + 1
  | .slice elems spare => uptoBulkAll elems + uptoBulkAll spare + 1
  | .agg parts => uptoBulkAll parts + 1
  | .iface _ d => uptoBulk d + 1
  | .map entries => uptoBulkEntries entries + 1
  | .held _ => 1
def uptoBulkAll {H : Type} : List (DataW H) → Nat
  | [] => 0
  | d :: r => uptoBulk d + uptoBulkAll r
def uptoBulkEntries {H : Type} : List (Lit × DataW H) → Nat
  | [] => 0
  | x :: r => uptoBulkEntry x + uptoBulkEntries r
def uptoBulkEntry {H : Type} : Lit × DataW H → Nat
  | (.string bytes, d) => bytes.length + uptoBulk d + 1
  | (_, d) => uptoBulk d + 1
 end
def uptoSmall : (H : Type) → List (DataW H) → Bool := fun _ ds => decide (uptoBulkAll ds ≤ 1048576)
def OpenSpec.upto (s : _root_.Go.ChangeSpec) : _root_.Go.OpenSpec := { _root_.Go.OpenSpec.ofChange s with cond := some uptoSmall }

/-- 'laws.FnExactDipoleEnergy', WHERE WHAT IT READS IS OF BULK AT MOST 1048576: true; the input reads as it did. -/
def fnExactDipoleEnergyUptoRow : OpenClaim := { program := "ythnlpbfheefldaa", sum := "1b4ce54b6fa283a644f9e46e2c344f7b5c08676a1b4b4816cef58280f229e2dd", func := "loop.example/g01237/laws.FnExactDipoleEnergy", spec := "fnExactDipoleEnergy", apart := false, narrowed := true }
def FnExactDipoleEnergyUptoSaid : Prop := fnExactDipoleEnergyUptoRow.holds Try.pinned (OpenSpec.upto fnExactDipoleEnergySpec)

/-- 'laws.FnExactDipoleTorque', WHERE WHAT IT READS IS OF BULK AT MOST 1048576: true; the input reads as it did. -/
def fnExactDipoleTorqueUptoRow : OpenClaim := { program := "ythnlpbfheefldaa", sum := "1b4ce54b6fa283a644f9e46e2c344f7b5c08676a1b4b4816cef58280f229e2dd", func := "loop.example/g01237/laws.FnExactDipoleTorque", spec := "fnExactDipoleTorque", apart := false, narrowed := true }
def FnExactDipoleTorqueUptoSaid : Prop := fnExactDipoleTorqueUptoRow.holds Try.pinned (OpenSpec.upto fnExactDipoleTorqueSpec)

/-- 'laws.FnExactArePoles', WHERE WHAT IT READS IS OF BULK AT MOST 1048576: true; the input reads as it did. -/
def fnExactArePolesUptoRow : OpenClaim := { program := "ythnlpbfheefldaa", sum := "1b4ce54b6fa283a644f9e46e2c344f7b5c08676a1b4b4816cef58280f229e2dd", func := "loop.example/g01237/laws.FnExactArePoles", spec := "fnExactArePoles", apart := false, narrowed := true }
def FnExactArePolesUptoSaid : Prop := fnExactArePolesUptoRow.holds Try.pinned (OpenSpec.upto fnExactArePolesSpec)

/-- 'laws.FnExactBarMagnet', WHERE WHAT IT READS IS OF BULK AT MOST 1048576: true; the input reads as it did. -/
def fnExactBarMagnetUptoRow : OpenClaim := { program := "ythnlpbfheefldaa", sum := "1b4ce54b6fa283a644f9e46e2c344f7b5c08676a1b4b4816cef58280f229e2dd", func := "loop.example/g01237/laws.FnExactBarMagnet", spec := "fnExactBarMagnet", apart := false, narrowed := true }
def FnExactBarMagnetUptoSaid : Prop := fnExactBarMagnetUptoRow.holds Try.pinned (OpenSpec.upto fnExactBarMagnetSpec)

/-- 'laws.FnExactDipoleOf', WHERE WHAT IT READS IS OF BULK AT MOST 1048576: true; the input reads as it did. -/
def fnExactDipoleOfUptoRow : OpenClaim := { program := "ythnlpbfheefldaa", sum := "1b4ce54b6fa283a644f9e46e2c344f7b5c08676a1b4b4816cef58280f229e2dd", func := "loop.example/g01237/laws.FnExactDipoleOf", spec := "fnExactDipoleOf", apart := false, narrowed := true }
def FnExactDipoleOfUptoSaid : Prop := fnExactDipoleOfUptoRow.holds Try.pinned (OpenSpec.upto fnExactDipoleOfSpec)

/-- 'laws.FnExactSamePoles', WHERE WHAT IT READS IS OF BULK AT MOST 1048576: true; the input reads as it did. -/
def fnExactSamePolesUptoRow : OpenClaim := { program := "ythnlpbfheefldaa", sum := "1b4ce54b6fa283a644f9e46e2c344f7b5c08676a1b4b4816cef58280f229e2dd", func := "loop.example/g01237/laws.FnExactSamePoles", spec := "fnExactSamePoles", inPlace := ["math.Float32bits", "math.Float64bits"], unfollowed := true, recurses := true, apart := false, narrowed := true }
def FnExactSamePolesUptoSaid : Prop := fnExactSamePolesUptoRow.holds Try.pinned (OpenSpec.upto fnExactSamePolesSpec)

/-- 'laws.FnExactMovePoles', WHERE WHAT IT READS IS OF BULK AT MOST 1048576: true; the input reads as it did. -/
def fnExactMovePolesUptoRow : OpenClaim := { program := "ythnlpbfheefldaa", sum := "1b4ce54b6fa283a644f9e46e2c344f7b5c08676a1b4b4816cef58280f229e2dd", func := "loop.example/g01237/laws.FnExactMovePoles", spec := "fnExactMovePoles", apart := false, narrowed := true }
def FnExactMovePolesUptoSaid : Prop := fnExactMovePolesUptoRow.holds Try.pinned (OpenSpec.upto fnExactMovePolesSpec)

/-- 'laws.FnExactPoleField', WHERE WHAT IT READS IS OF BULK AT MOST 1048576: true; the input reads as it did. -/
def fnExactPoleFieldUptoRow : OpenClaim := { program := "ythnlpbfheefldaa", sum := "1b4ce54b6fa283a644f9e46e2c344f7b5c08676a1b4b4816cef58280f229e2dd", func := "loop.example/g01237/laws.FnExactPoleField", spec := "fnExactPoleField", inPlace := ["math.sqrt"], apart := false, narrowed := true }
def FnExactPoleFieldUptoSaid : Prop := fnExactPoleFieldUptoRow.holds Try.pinned (OpenSpec.upto fnExactPoleFieldSpec)

/-- 'laws.FnExactPoleForce', WHERE WHAT IT READS IS OF BULK AT MOST 1048576: true; the input reads as it did. -/
def fnExactPoleForceUptoRow : OpenClaim := { program := "ythnlpbfheefldaa", sum := "1b4ce54b6fa283a644f9e46e2c344f7b5c08676a1b4b4816cef58280f229e2dd", func := "loop.example/g01237/laws.FnExactPoleForce", spec := "fnExactPoleForce", inPlace := ["math.sqrt"], apart := false, narrowed := true }
def FnExactPoleForceUptoSaid : Prop := fnExactPoleForceUptoRow.holds Try.pinned (OpenSpec.upto fnExactPoleForceSpec)

/-- 'laws.FnExactDipoleField', WHERE WHAT IT READS IS OF BULK AT MOST 1048576: true; the input reads as it did. -/
def fnExactDipoleFieldUptoRow : OpenClaim := { program := "ythnlpbfheefldaa", sum := "1b4ce54b6fa283a644f9e46e2c344f7b5c08676a1b4b4816cef58280f229e2dd", func := "loop.example/g01237/laws.FnExactDipoleField", spec := "fnExactDipoleField", inPlace := ["math.sqrt"], apart := false, narrowed := true }
def FnExactDipoleFieldUptoSaid : Prop := fnExactDipoleFieldUptoRow.holds Try.pinned (OpenSpec.upto fnExactDipoleFieldSpec)

/-- 'laws.FnExactEnergyOfPoles', WHERE WHAT IT READS IS OF BULK AT MOST 1048576: true; the input reads as it did. -/
def fnExactEnergyOfPolesUptoRow : OpenClaim := { program := "ythnlpbfheefldaa", sum := "1b4ce54b6fa283a644f9e46e2c344f7b5c08676a1b4b4816cef58280f229e2dd", func := "loop.example/g01237/laws.FnExactEnergyOfPoles", spec := "fnExactEnergyOfPoles", inPlace := ["math.sqrt"], apart := false, narrowed := true }
def FnExactEnergyOfPolesUptoSaid : Prop := fnExactEnergyOfPolesUptoRow.holds Try.pinned (OpenSpec.upto fnExactEnergyOfPolesSpec)

/-- 'laws.FnExactFieldOfPoles', WHERE WHAT IT READS IS OF BULK AT MOST 1048576: true; the input reads as it did. -/
def fnExactFieldOfPolesUptoRow : OpenClaim := { program := "ythnlpbfheefldaa", sum := "1b4ce54b6fa283a644f9e46e2c344f7b5c08676a1b4b4816cef58280f229e2dd", func := "loop.example/g01237/laws.FnExactFieldOfPoles", spec := "fnExactFieldOfPoles", inPlace := ["math.sqrt"], apart := false, narrowed := true }
def FnExactFieldOfPolesUptoSaid : Prop := fnExactFieldOfPolesUptoRow.holds Try.pinned (OpenSpec.upto fnExactFieldOfPolesSpec)

/-- 'laws.FnExactForcesOfPoles', WHERE WHAT IT READS IS OF BULK AT MOST 1048576: true; the input reads as it did. -/
def fnExactForcesOfPolesUptoRow : OpenClaim := { program := "ythnlpbfheefldaa", sum := "1b4ce54b6fa283a644f9e46e2c344f7b5c08676a1b4b4816cef58280f229e2dd", func := "loop.example/g01237/laws.FnExactForcesOfPoles", spec := "fnExactForcesOfPoles", inPlace := ["math.sqrt"], apart := false, narrowed := true }
def FnExactForcesOfPolesUptoSaid : Prop := fnExactForcesOfPolesUptoRow.holds Try.pinned (OpenSpec.upto fnExactForcesOfPolesSpec)

/-- 'laws.FnExactCorrectReadings', WHERE WHAT IT READS IS OF BULK AT MOST 1048576: true; the input reads as it did. -/
def fnExactCorrectReadingsUptoRow : OpenClaim := { program := "ythnlpbfheefldaa", sum := "1b4ce54b6fa283a644f9e46e2c344f7b5c08676a1b4b4816cef58280f229e2dd", func := "loop.example/g01237/laws.FnExactCorrectReadings", spec := "fnExactCorrectReadings", apart := false, narrowed := true }
def FnExactCorrectReadingsUptoSaid : Prop := fnExactCorrectReadingsUptoRow.holds Try.pinned (OpenSpec.upto fnExactCorrectReadingsSpec)

end Rows
end Go.Proofs.Ythnlpbfheefldaa
