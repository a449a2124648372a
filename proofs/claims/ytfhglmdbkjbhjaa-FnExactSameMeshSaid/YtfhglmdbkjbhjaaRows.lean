/-
  No cell of these rows narrows 'for every input' (looked for: loops, veiled, ifaces, maps, wideKeys, modest, calm, conditions, laid).
  DERIVED. THE GIVEN ROWS OF THIS SEAT. 11 by the template 'for every input the law returns true; each argument reads behind the call as it read before'; 0 by the template 'total and deterministic' (their statements: YtfhglmdbkjbhjaaTotals.lean).
  GIVEN WITH THE SEED: the statements are not yours to turn. If you find one false, say at which input.
  Laid BY PROGRAM, IN A SANDBOX (cutbox-rows.mjs): the forced cells as the released guide's own fill.sh prints them over the translation 5a5433a25e50b65f… (all of the seat's roots in one cut). By AI agents, Wed Nov 11 2026. No macro, syntax, notation, axiom, sorry.
-/
import Derived.Test.YtfhglmdbkjbhjaaChecked
import GoSem.Claim
import GoSem.ClaimJoined
import GoSem.ClaimMapViews
import Derived.JoinedTies
import Derived.KernelRfl
namespace Go.Proofs.Ytfhglmdbkjbhjaa
/- THE CELL 'sum', in the pinned program and in every row, IS THE sha256 OF THE DUMP (.gsa) THAT YtfhglmdbkjbhjaaProg.lean LOADS. Nothing in Lean hashes anything: it is a label: what it is worth is what the hold of that sum in a sandbox is worth. -/
noncomputable def Try.pinned : Pinned := { name := "ytfhglmdbkjbhjaa", sum := "5a5433a25e50b65f636352479f2aa5755a4e48e4089b35b36b4d4b7409dd1c11", checked := Try.checked }
namespace Rows
def none {H : Type} : Left H := { results := [], args := [] }

/-- 'laws.FnExactThinLine': WHATEVER THE INPUT: true; the input reads as it did. -/
def fnExactThinLineSpec : ChangeSpec := { name := "fnExactThinLine", fn := fun _ => fun
  | [d1, d2] => { results := [.lit (.bool true)], args := [d1, d2] }
  | _ => none }
def fnExactThinLineRow : OpenClaim := { program := "ytfhglmdbkjbhjaa", sum := "5a5433a25e50b65f636352479f2aa5755a4e48e4089b35b36b4d4b7409dd1c11", func := "loop.example/g01237/laws.FnExactThinLine", spec := "fnExactThinLine", apart := false }
def FnExactThinLineSaid : Prop := fnExactThinLineRow.holds Try.pinned (OpenSpec.ofChange fnExactThinLineSpec)

/-- ITS FALSE NEIGHBOUR: 'it returns false'. Refute it at one input. -/
def fnExactThinLineWrong : ChangeSpec := { name := "fnExactThinLine", fn := fun _ => fun
  | [d1, d2] => { results := [.lit (.bool false)], args := [d1, d2] }
  | _ => none }
def FnExactThinLineWrongFalsely : Prop := fnExactThinLineRow.holds Try.pinned (OpenSpec.ofChange fnExactThinLineWrong)

/-- 'laws.FnExactValidMesh': WHATEVER THE INPUT: true; the input reads as it did. -/
def fnExactValidMeshSpec : ChangeSpec := { name := "fnExactValidMesh", fn := fun _ => fun
  | [d] => { results := [.lit (.bool true)], args := [d] }
  | _ => none }
def fnExactValidMeshRow : OpenClaim := { program := "ytfhglmdbkjbhjaa", sum := "5a5433a25e50b65f636352479f2aa5755a4e48e4089b35b36b4d4b7409dd1c11", func := "loop.example/g01237/laws.FnExactValidMesh", spec := "fnExactValidMesh", apart := false }
def FnExactValidMeshSaid : Prop := fnExactValidMeshRow.holds Try.pinned (OpenSpec.ofChange fnExactValidMeshSpec)

/-- ITS FALSE NEIGHBOUR: 'it returns false'. Refute it at one input. -/
def fnExactValidMeshWrong : ChangeSpec := { name := "fnExactValidMesh", fn := fun _ => fun
  | [d] => { results := [.lit (.bool false)], args := [d] }
  | _ => none }
def FnExactValidMeshWrongFalsely : Prop := fnExactValidMeshRow.holds Try.pinned (OpenSpec.ofChange fnExactValidMeshWrong)

/-- 'laws.FnExactSameMesh': WHATEVER THE INPUT: true; the input reads as it did. -/
def fnExactSameMeshSpec : ChangeSpec := { name := "fnExactSameMesh", fn := fun _ => fun
  | [d1, d2] => { results := [.lit (.bool true)], args := [d1, d2] }
  | _ => none }
def fnExactSameMeshRow : OpenClaim := { program := "ytfhglmdbkjbhjaa", sum := "5a5433a25e50b65f636352479f2aa5755a4e48e4089b35b36b4d4b7409dd1c11", func := "loop.example/g01237/laws.FnExactSameMesh", spec := "fnExactSameMesh", inPlace := ["math.Float32bits", "math.Float64bits"], unfollowed := true, recurses := true, apart := false }
def FnExactSameMeshSaid : Prop := fnExactSameMeshRow.holds Try.pinned (OpenSpec.ofChange fnExactSameMeshSpec)

/-- ITS FALSE NEIGHBOUR: 'it returns false'. Refute it at one input. -/
def fnExactSameMeshWrong : ChangeSpec := { name := "fnExactSameMesh", fn := fun _ => fun
  | [d1, d2] => { results := [.lit (.bool false)], args := [d1, d2] }
  | _ => none }
def FnExactSameMeshWrongFalsely : Prop := fnExactSameMeshRow.holds Try.pinned (OpenSpec.ofChange fnExactSameMeshWrong)

/-- 'laws.FnExactNodeOf': WHATEVER THE INPUT: true; the input reads as it did. -/
def fnExactNodeOfSpec : ChangeSpec := { name := "fnExactNodeOf", fn := fun _ => fun
  | [d1, d2, d3, d4] => { results := [.lit (.bool true)], args := [d1, d2, d3, d4] }
  | _ => none }
def fnExactNodeOfRow : OpenClaim := { program := "ytfhglmdbkjbhjaa", sum := "5a5433a25e50b65f636352479f2aa5755a4e48e4089b35b36b4d4b7409dd1c11", func := "loop.example/g01237/laws.FnExactNodeOf", spec := "fnExactNodeOf", apart := false }
def FnExactNodeOfSaid : Prop := fnExactNodeOfRow.holds Try.pinned (OpenSpec.ofChange fnExactNodeOfSpec)

/-- ITS FALSE NEIGHBOUR: 'it returns false'. Refute it at one input. -/
def fnExactNodeOfWrong : ChangeSpec := { name := "fnExactNodeOf", fn := fun _ => fun
  | [d1, d2, d3, d4] => { results := [.lit (.bool false)], args := [d1, d2, d3, d4] }
  | _ => none }
def FnExactNodeOfWrongFalsely : Prop := fnExactNodeOfRow.holds Try.pinned (OpenSpec.ofChange fnExactNodeOfWrong)

/-- 'laws.FnExactLineLength': WHATEVER THE INPUT: true; the input reads as it did. -/
def fnExactLineLengthSpec : ChangeSpec := { name := "fnExactLineLength", fn := fun _ => fun
  | [d] => { results := [.lit (.bool true)], args := [d] }
  | _ => none }
def fnExactLineLengthRow : OpenClaim := { program := "ytfhglmdbkjbhjaa", sum := "5a5433a25e50b65f636352479f2aa5755a4e48e4089b35b36b4d4b7409dd1c11", func := "loop.example/g01237/laws.FnExactLineLength", spec := "fnExactLineLength", inPlace := ["math.sqrt"], apart := false }
def FnExactLineLengthSaid : Prop := fnExactLineLengthRow.holds Try.pinned (OpenSpec.ofChange fnExactLineLengthSpec)

/-- ITS FALSE NEIGHBOUR: 'it returns false'. Refute it at one input. -/
def fnExactLineLengthWrong : ChangeSpec := { name := "fnExactLineLength", fn := fun _ => fun
  | [d] => { results := [.lit (.bool false)], args := [d] }
  | _ => none }
def FnExactLineLengthWrongFalsely : Prop := fnExactLineLengthRow.holds Try.pinned (OpenSpec.ofChange fnExactLineLengthWrong)

/-- 'laws.FnExactAddMeshes': WHATEVER THE INPUT: true; the input reads as it did. -/
def fnExactAddMeshesSpec : ChangeSpec := { name := "fnExactAddMeshes", fn := fun _ => fun
  | [d1, d2] => { results := [.lit (.bool true)], args := [d1, d2] }
  | _ => none }
def fnExactAddMeshesRow : OpenClaim := { program := "ytfhglmdbkjbhjaa", sum := "5a5433a25e50b65f636352479f2aa5755a4e48e4089b35b36b4d4b7409dd1c11", func := "loop.example/g01237/laws.FnExactAddMeshes", spec := "fnExactAddMeshes", unfollowed := true, recurses := true, apart := false }
def FnExactAddMeshesSaid : Prop := fnExactAddMeshesRow.holds Try.pinned (OpenSpec.ofChange fnExactAddMeshesSpec)

/-- ITS FALSE NEIGHBOUR: 'it returns false'. Refute it at one input. -/
def fnExactAddMeshesWrong : ChangeSpec := { name := "fnExactAddMeshes", fn := fun _ => fun
  | [d1, d2] => { results := [.lit (.bool false)], args := [d1, d2] }
  | _ => none }
def FnExactAddMeshesWrongFalsely : Prop := fnExactAddMeshesRow.holds Try.pinned (OpenSpec.ofChange fnExactAddMeshesWrong)

/-- 'laws.FnExactNearestBack': WHATEVER THE INPUT: true; the input reads as it did. -/
def fnExactNearestBackSpec : ChangeSpec := { name := "fnExactNearestBack", fn := fun _ => fun
  | [d1, d2] => { results := [.lit (.bool true)], args := [d1, d2] }
  | _ => none }
def fnExactNearestBackRow : OpenClaim := { program := "ytfhglmdbkjbhjaa", sum := "5a5433a25e50b65f636352479f2aa5755a4e48e4089b35b36b4d4b7409dd1c11", func := "loop.example/g01237/laws.FnExactNearestBack", spec := "fnExactNearestBack", inPlace := ["math.sqrt"], apart := false }
def FnExactNearestBackSaid : Prop := fnExactNearestBackRow.holds Try.pinned (OpenSpec.ofChange fnExactNearestBackSpec)

/-- ITS FALSE NEIGHBOUR: 'it returns false'. Refute it at one input. -/
def fnExactNearestBackWrong : ChangeSpec := { name := "fnExactNearestBack", fn := fun _ => fun
  | [d1, d2] => { results := [.lit (.bool false)], args := [d1, d2] }
  | _ => none }
def FnExactNearestBackWrongFalsely : Prop := fnExactNearestBackRow.holds Try.pinned (OpenSpec.ofChange fnExactNearestBackWrong)

/-- 'laws.FnExactScaleMesh': WHATEVER THE INPUT: true; the input reads as it did. -/
def fnExactScaleMeshSpec : ChangeSpec := { name := "fnExactScaleMesh", fn := fun _ => fun
  | [d1, d2] => { results := [.lit (.bool true)], args := [d1, d2] }
  | _ => none }
def fnExactScaleMeshRow : OpenClaim := { program := "ytfhglmdbkjbhjaa", sum := "5a5433a25e50b65f636352479f2aa5755a4e48e4089b35b36b4d4b7409dd1c11", func := "loop.example/g01237/laws.FnExactScaleMesh", spec := "fnExactScaleMesh", unfollowed := true, recurses := true, apart := false }
def FnExactScaleMeshSaid : Prop := fnExactScaleMeshRow.holds Try.pinned (OpenSpec.ofChange fnExactScaleMeshSpec)

/-- ITS FALSE NEIGHBOUR: 'it returns false'. Refute it at one input. -/
def fnExactScaleMeshWrong : ChangeSpec := { name := "fnExactScaleMesh", fn := fun _ => fun
  | [d1, d2] => { results := [.lit (.bool false)], args := [d1, d2] }
  | _ => none }
def FnExactScaleMeshWrongFalsely : Prop := fnExactScaleMeshRow.holds Try.pinned (OpenSpec.ofChange fnExactScaleMeshWrong)

/-- 'laws.FnExactBendOf': WHATEVER THE INPUT: true; the input reads as it did. -/
def fnExactBendOfSpec : ChangeSpec := { name := "fnExactBendOf", fn := fun _ => fun
  | [d] => { results := [.lit (.bool true)], args := [d] }
  | _ => none }
def fnExactBendOfRow : OpenClaim := { program := "ytfhglmdbkjbhjaa", sum := "5a5433a25e50b65f636352479f2aa5755a4e48e4089b35b36b4d4b7409dd1c11", func := "loop.example/g01237/laws.FnExactBendOf", spec := "fnExactBendOf", inPlace := ["math.sqrt"], apart := false }
def FnExactBendOfSaid : Prop := fnExactBendOfRow.holds Try.pinned (OpenSpec.ofChange fnExactBendOfSpec)

/-- ITS FALSE NEIGHBOUR: 'it returns false'. Refute it at one input. -/
def fnExactBendOfWrong : ChangeSpec := { name := "fnExactBendOf", fn := fun _ => fun
  | [d] => { results := [.lit (.bool false)], args := [d] }
  | _ => none }
def FnExactBendOfWrongFalsely : Prop := fnExactBendOfRow.holds Try.pinned (OpenSpec.ofChange fnExactBendOfWrong)

/-- 'laws.FnExactHalfMesh': WHATEVER THE INPUT: true; the input reads as it did. -/
def fnExactHalfMeshSpec : ChangeSpec := { name := "fnExactHalfMesh", fn := fun _ => fun
  | [d] => { results := [.lit (.bool true)], args := [d] }
  | _ => none }
def fnExactHalfMeshRow : OpenClaim := { program := "ytfhglmdbkjbhjaa", sum := "5a5433a25e50b65f636352479f2aa5755a4e48e4089b35b36b4d4b7409dd1c11", func := "loop.example/g01237/laws.FnExactHalfMesh", spec := "fnExactHalfMesh", unfollowed := true, recurses := true, apart := false }
def FnExactHalfMeshSaid : Prop := fnExactHalfMeshRow.holds Try.pinned (OpenSpec.ofChange fnExactHalfMeshSpec)

/-- ITS FALSE NEIGHBOUR: 'it returns false'. Refute it at one input. -/
def fnExactHalfMeshWrong : ChangeSpec := { name := "fnExactHalfMesh", fn := fun _ => fun
  | [d] => { results := [.lit (.bool false)], args := [d] }
  | _ => none }
def FnExactHalfMeshWrongFalsely : Prop := fnExactHalfMeshRow.holds Try.pinned (OpenSpec.ofChange fnExactHalfMeshWrong)

/-- 'laws.FnExactLayerOf': WHATEVER THE INPUT: true; the input reads as it did. -/
def fnExactLayerOfSpec : ChangeSpec := { name := "fnExactLayerOf", fn := fun _ => fun
  | [d1, d2] => { results := [.lit (.bool true)], args := [d1, d2] }
  | _ => none }
def fnExactLayerOfRow : OpenClaim := { program := "ytfhglmdbkjbhjaa", sum := "5a5433a25e50b65f636352479f2aa5755a4e48e4089b35b36b4d4b7409dd1c11", func := "loop.example/g01237/laws.FnExactLayerOf", spec := "fnExactLayerOf", apart := false }
def FnExactLayerOfSaid : Prop := fnExactLayerOfRow.holds Try.pinned (OpenSpec.ofChange fnExactLayerOfSpec)

/-- ITS FALSE NEIGHBOUR: 'it returns false'. Refute it at one input. -/
def fnExactLayerOfWrong : ChangeSpec := { name := "fnExactLayerOf", fn := fun _ => fun
  | [d1, d2] => { results := [.lit (.bool false)], args := [d1, d2] }
  | _ => none }
def FnExactLayerOfWrongFalsely : Prop := fnExactLayerOfRow.holds Try.pinned (OpenSpec.ofChange fnExactLayerOfWrong)

/- THE SECOND FORM. 'bulk': how many values and letters a reading holds, each counted each time it is reached (what is shared counts as often as it is met; a slice's spare places count too). A statement '..UptoSaid' is the law's where the arguments, and the package variables that the reading takes, are together of bulk at most 1048576: NARROWER than '..Said'. Prove '..Said' where nothing that the law and all that it calls make is longer than what came in: it says more and counts as full. Else prove '..UptoSaid'. A law counts once. -/
mutual
def uptoBulk {H : Type} : DataW H → Nat
  | .lit (.string bytes) => bytes.length + 1
  | .lit _ => 1
  | .nil => 1
  | .ptr d => uptoBulk d + 1
  | .slice elems spare => uptoBulkAll elems + uptoBulkAll spare + 1
  | .agg parts => uptoBulkAll parts + 1
  | .iface _ d => uptoBulk d + 1
  | .map entries => uptoBulkEntries entries + 1
  | .held _ => 1
def uptoBulkAll {H : Type} : List (DataW H) → Nat
  | [] => 0
  | d :: r => uptoBulk d + uptoBulkAll r
def uptoBulkEntries {H : Type} : List (Lit × DataW H) → Nat
  | [] => 0
  | x :: r => uptoBulkEntry x + uptoBulkEntries r
def uptoBulkEntry {H : Type} : Lit × DataW H → Nat
  | (.string bytes, d) => bytes.length + uptoBulk d + 1
  | (_, d) => uptoBulk d + 1
 end
def uptoSmall : (H : Type) → List (DataW H) → Bool := fun _ ds => decide (uptoBulkAll ds ≤ 1048576)
def OpenSpec.upto (s : _root_.Go.ChangeSpec) : _root_.Go.OpenSpec := { _root_.Go.OpenSpec.ofChange s with cond := some uptoSmall }

/-- 'laws.FnExactThinLine', WHERE WHAT IT READS IS OF BULK AT MOST 1048576: true; the input reads as it did. -/
def fnExactThinLineUptoRow : OpenClaim := { program := "ytfhglmdbkjbhjaa", sum := "5a5433a25e50b65f636352479f2aa5755a4e48e4089b35b36b4d4b7409dd1c11", func := "loop.example/g01237/laws.FnExactThinLine", spec := "fnExactThinLine", apart := false, narrowed := true }
def FnExactThinLineUptoSaid : Prop := fnExactThinLineUptoRow.holds Try.pinned (OpenSpec.upto fnExactThinLineSpec)

/-- 'laws.FnExactValidMesh', WHERE WHAT IT READS IS OF BULK AT MOST 1048576: true; the input reads as it did. -/
def fnExactValidMeshUptoRow : OpenClaim := { program := "ytfhglmdbkjbhjaa", sum := "5a5433a25e50b65f636352479f2aa5755a4e48e4089b35b36b4d4b7409dd1c11", func := "loop.example/g01237/laws.FnExactValidMesh", spec := "fnExactValidMesh", apart := false, narrowed := true }
def FnExactValidMeshUptoSaid : Prop := fnExactValidMeshUptoRow.holds Try.pinned (OpenSpec.upto fnExactValidMeshSpec)

/-- 'laws.FnExactSameMesh', WHERE WHAT IT READS IS OF BULK AT MOST 1048576: true; the input reads as it did. -/
def fnExactSameMeshUptoRow : OpenClaim := { program := "ytfhglmdbkjbhjaa", sum := "5a5433a25e50b65f636352479f2aa5755a4e48e4089b35b36b4d4b7409dd1c11", func := "loop.example/g01237/laws.FnExactSameMesh", spec := "fnExactSameMesh", inPlace := ["math.Float32bits", "math.Float64bits"], unfollowed := true, recurses := true, apart := false, narrowed := true }
def FnExactSameMeshUptoSaid : Prop := fnExactSameMeshUptoRow.holds Try.pinned (OpenSpec.upto fnExactSameMeshSpec)

/-- 'laws.FnExactNodeOf', WHERE WHAT IT READS IS OF BULK AT MOST 1048576: true; the input reads as it did. -/
def fnExactNodeOfUptoRow : OpenClaim := { program := "ytfhglmdbkjbhjaa", sum := "5a5433a25e50b65f636352479f2aa5755a4e48e4089b35b36b4d4b7409dd1c11", func := "loop.example/g01237/laws.FnExactNodeOf", spec := "fnExactNodeOf", apart := false, narrowed := true }
def FnExactNodeOfUptoSaid : Prop := fnExactNodeOfUptoRow.holds Try.pinned (OpenSpec.upto fnExactNodeOfSpec)

/-- 'laws.FnExactLineLength', WHERE WHAT IT READS IS OF BULK AT MOST 1048576: true; the input reads as it did. -/
def fnExactLineLengthUptoRow : OpenClaim := { program := "ytfhglmdbkjbhjaa", sum := "5a5433a25e50b65f636352479f2aa5755a4e48e4089b35b36b4d4b7409dd1c11", func := "loop.example/g01237/laws.FnExactLineLength", spec := "fnExactLineLength", inPlace := ["math.sqrt"], apart := false, narrowed := true }
def FnExactLineLengthUptoSaid : Prop := fnExactLineLengthUptoRow.holds Try.pinned (OpenSpec.upto fnExactLineLengthSpec)

/-- 'laws.FnExactAddMeshes', WHERE WHAT IT READS IS OF BULK AT MOST 1048576: true; the input reads as it did. -/
def fnExactAddMeshesUptoRow : OpenClaim := { program := "ytfhglmdbkjbhjaa", sum := "5a5433a25e50b65f636352479f2aa5755a4e48e4089b35b36b4d4b7409dd1c11", func := "loop.example/g01237/laws.FnExactAddMeshes", spec := "fnExactAddMeshes", unfollowed := true, recurses := true, apart := false, narrowed := true }
def FnExactAddMeshesUptoSaid : Prop := fnExactAddMeshesUptoRow.holds Try.pinned (OpenSpec.upto fnExactAddMeshesSpec)

/-- 'laws.FnExactNearestBack', WHERE WHAT IT READS IS OF BULK AT MOST 1048576: true; the input reads as it did. -/
def fnExactNearestBackUptoRow : OpenClaim := { program := "ytfhglmdbkjbhjaa", sum := "5a5433a25e50b65f636352479f2aa5755a4e48e4089b35b36b4d4b7409dd1c11", func := "loop.example/g01237/laws.FnExactNearestBack", spec := "fnExactNearestBack", inPlace := ["math.sqrt"], apart := false, narrowed := true }
def FnExactNearestBackUptoSaid : Prop := fnExactNearestBackUptoRow.holds Try.pinned (OpenSpec.upto fnExactNearestBackSpec)

/-- 'laws.FnExactScaleMesh', WHERE WHAT IT READS IS OF BULK AT MOST 1048576: true; the input reads as it did. -/
def fnExactScaleMeshUptoRow : OpenClaim := { program := "ytfhglmdbkjbhjaa", sum := "5a5433a25e50b65f636352479f2aa5755a4e48e4089b35b36b4d4b7409dd1c11", func := "loop.example/g01237/laws.FnExactScaleMesh", spec := "fnExactScaleMesh", unfollowed := true, recurses := true, apart := false, narrowed := true }
def FnExactScaleMeshUptoSaid : Prop := fnExactScaleMeshUptoRow.holds Try.pinned (OpenSpec.upto fnExactScaleMeshSpec)

/-- 'laws.FnExactBendOf', WHERE WHAT IT READS IS OF BULK AT MOST 1048576: true; the input reads as it did. -/
def fnExactBendOfUptoRow : OpenClaim := { program := "ytfhglmdbkjbhjaa", sum := "5a5433a25e50b65f636352479f2aa5755a4e48e4089b35b36b4d4b7409dd1c11", func := "loop.example/g01237/laws.FnExactBendOf", spec := "fnExactBendOf", inPlace := ["math.sqrt"], apart := false, narrowed := true }
def FnExactBendOfUptoSaid : Prop := fnExactBendOfUptoRow.holds Try.pinned (OpenSpec.upto fnExactBendOfSpec)

/-- 'laws.FnExactHalfMesh', WHERE WHAT IT READS IS OF BULK AT MOST 1048576: true; the input reads as it did. -/
def fnExactHalfMeshUptoRow : OpenClaim := { program := "ytfhglmdbkjbhjaa", sum := "5a5433a25e50b65f636352479f2aa5755a4e48e4089b35b36b4d4b7409dd1c11", func := "loop.example/g01237/laws.FnExactHalfMesh", spec := "fnExactHalfMesh", unfollowed := true, recurses := true, apart := false, narrowed := true }
def FnExactHalfMeshUptoSaid : Prop := fnExactHalfMeshUptoRow.holds Try.pinned (OpenSpec.upto fnExactHalfMeshSpec)

/-- 'laws.FnExactLayerOf', WHERE WHAT IT READS IS OF BULK AT MOST 1048576: true; the input reads as it did. -/
def fnExactLayerOfUptoRow : OpenClaim := { program := "ytfhglmdbkjbhjaa", sum := "5a5433a25e50b65f636352479f2aa5755a4e48e4089b35b36b4d4b7409dd1c11", func := "loop.example/g01237/laws.FnExactLayerOf", spec := "fnExactLayerOf", apart := false, narrowed := true }
def FnExactLayerOfUptoSaid : Prop := fnExactLayerOfUptoRow.holds Try.pinned (OpenSpec.upto fnExactLayerOfSpec)

end Rows
end Go.Proofs.Ytfhglmdbkjbhjaa
