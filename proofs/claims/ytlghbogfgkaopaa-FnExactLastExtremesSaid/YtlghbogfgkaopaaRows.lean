/-
  No cell of these rows narrows 'for every input' (looked for: loops, veiled, ifaces, maps, wideKeys, modest, calm, conditions, laid).
  DERIVED. THE GIVEN ROWS OF THIS SEAT. 12 by the template 'for every input the law returns true; each argument reads behind the call as it read before'; 0 by the template 'total and deterministic' (their statements: YtlghbogfgkaopaaTotals.lean).
  GIVEN WITH THE SEED: the statements are not yours to turn. If you find one false, say at which input.
  Laid BY PROGRAM, IN A SANDBOX (cutbox-rows.mjs): the forced cells as the released guide's own fill.sh prints them over the translation b64ab8c412e2a295… (all of the seat's roots in one cut). By AI agents, Wed Nov 11 2026. No macro, syntax, notation, axiom, sorry.
-/
import Derived.Test.YtlghbogfgkaopaaChecked
import GoSem.Claim
import GoSem.ClaimJoined
import GoSem.ClaimMapViews
import Derived.JoinedTies
import Derived.KernelRfl
namespace Go.Proofs.Ytlghbogfgkaopaa
/- THE CELL 'sum', in the pinned program and in every row, IS THE sha256 OF THE DUMP (.gsa) THAT YtlghbogfgkaopaaProg.lean LOADS. Nothing in Lean hashes anything: it is a label: what it is worth is what the hold of that sum in a sandbox is worth. -/
noncomputable def Try.pinned : Pinned := { name := "ytlghbogfgkaopaa", sum := "b64ab8c412e2a295fdd8d297219c3a1bf604e3053bdd6499d6c6402cb641b309", checked := Try.checked }
namespace Rows
def none {H : Type} : Left H := { results := [], args := [] }

/-- 'laws.FnExactLoopArea': WHATEVER THE INPUT: true; the input reads as it did. -/
def fnExactLoopAreaSpec : ChangeSpec := { name := "fnExactLoopArea", fn := fun _ => fun
  | [d1, d2] => { results := [.lit (.bool true)], args := [d1, d2] }
  | _ => none }
def fnExactLoopAreaRow : OpenClaim := { program := "ytlghbogfgkaopaa", sum := "b64ab8c412e2a295fdd8d297219c3a1bf604e3053bdd6499d6c6402cb641b309", func := "loop.example/g01237/laws.FnExactLoopArea", spec := "fnExactLoopArea", apart := false }
def FnExactLoopAreaSaid : Prop := fnExactLoopAreaRow.holds Try.pinned (OpenSpec.ofChange fnExactLoopAreaSpec)

/-- ITS FALSE NEIGHBOUR: 'it returns false'. Refute it at one input. -/
def fnExactLoopAreaWrong : ChangeSpec := { name := "fnExactLoopArea", fn := fun _ => fun
  | [d1, d2] => { results := [.lit (.bool false)], args := [d1, d2] }
  | _ => none }
def FnExactLoopAreaWrongFalsely : Prop := fnExactLoopAreaRow.holds Try.pinned (OpenSpec.ofChange fnExactLoopAreaWrong)

/-- 'laws.FnExactFadingFields': WHATEVER THE INPUT: true; the input reads as it did. -/
def fnExactFadingFieldsSpec : ChangeSpec := { name := "fnExactFadingFields", fn := fun _ => fun
  | [d1, d2] => { results := [.lit (.bool true)], args := [d1, d2] }
  | _ => none }
def fnExactFadingFieldsRow : OpenClaim := { program := "ytlghbogfgkaopaa", sum := "b64ab8c412e2a295fdd8d297219c3a1bf604e3053bdd6499d6c6402cb641b309", func := "loop.example/g01237/laws.FnExactFadingFields", spec := "fnExactFadingFields", apart := false }
def FnExactFadingFieldsSaid : Prop := fnExactFadingFieldsRow.holds Try.pinned (OpenSpec.ofChange fnExactFadingFieldsSpec)

/-- ITS FALSE NEIGHBOUR: 'it returns false'. Refute it at one input. -/
def fnExactFadingFieldsWrong : ChangeSpec := { name := "fnExactFadingFields", fn := fun _ => fun
  | [d1, d2] => { results := [.lit (.bool false)], args := [d1, d2] }
  | _ => none }
def FnExactFadingFieldsWrongFalsely : Prop := fnExactFadingFieldsRow.holds Try.pinned (OpenSpec.ofChange fnExactFadingFieldsWrong)

/-- 'laws.FnExactAreRelays': WHATEVER THE INPUT: true; the input reads as it did. -/
def fnExactAreRelaysSpec : ChangeSpec := { name := "fnExactAreRelays", fn := fun _ => fun
  | [d] => { results := [.lit (.bool true)], args := [d] }
  | _ => none }
def fnExactAreRelaysRow : OpenClaim := { program := "ytlghbogfgkaopaa", sum := "b64ab8c412e2a295fdd8d297219c3a1bf604e3053bdd6499d6c6402cb641b309", func := "loop.example/g01237/laws.FnExactAreRelays", spec := "fnExactAreRelays", unfollowed := true, recurses := true, apart := false }
def FnExactAreRelaysSaid : Prop := fnExactAreRelaysRow.holds Try.pinned (OpenSpec.ofChange fnExactAreRelaysSpec)

/-- ITS FALSE NEIGHBOUR: 'it returns false'. Refute it at one input. -/
def fnExactAreRelaysWrong : ChangeSpec := { name := "fnExactAreRelays", fn := fun _ => fun
  | [d] => { results := [.lit (.bool false)], args := [d] }
  | _ => none }
def FnExactAreRelaysWrongFalsely : Prop := fnExactAreRelaysRow.holds Try.pinned (OpenSpec.ofChange fnExactAreRelaysWrong)

/-- 'laws.FnIron': WHATEVER THE INPUT: true; the input reads as it did. -/
def fnIronSpec : ChangeSpec := { name := "fnIron", fn := fun _ => fun
  | [d1, d2] => { results := [.lit (.bool true)], args := [d1, d2] }
  | _ => none }
def fnIronRow : OpenClaim := { program := "ytlghbogfgkaopaa", sum := "b64ab8c412e2a295fdd8d297219c3a1bf604e3053bdd6499d6c6402cb641b309", func := "loop.example/g01237/laws.FnIron", spec := "fnIron", unfollowed := true, recurses := true, apart := false }
def FnIronSaid : Prop := fnIronRow.holds Try.pinned (OpenSpec.ofChange fnIronSpec)

/-- ITS FALSE NEIGHBOUR: 'it returns false'. Refute it at one input. -/
def fnIronWrong : ChangeSpec := { name := "fnIron", fn := fun _ => fun
  | [d1, d2] => { results := [.lit (.bool false)], args := [d1, d2] }
  | _ => none }
def FnIronWrongFalsely : Prop := fnIronRow.holds Try.pinned (OpenSpec.ofChange fnIronWrong)

/-- 'laws.FnExactLastExtremes': WHATEVER THE INPUT: true; the input reads as it did. -/
def fnExactLastExtremesSpec : ChangeSpec := { name := "fnExactLastExtremes", fn := fun _ => fun
  | [d] => { results := [.lit (.bool true)], args := [d] }
  | _ => none }
def fnExactLastExtremesRow : OpenClaim := { program := "ytlghbogfgkaopaa", sum := "b64ab8c412e2a295fdd8d297219c3a1bf604e3053bdd6499d6c6402cb641b309", func := "loop.example/g01237/laws.FnExactLastExtremes", spec := "fnExactLastExtremes", unfollowed := true, recurses := true, apart := false }
def FnExactLastExtremesSaid : Prop := fnExactLastExtremesRow.holds Try.pinned (OpenSpec.ofChange fnExactLastExtremesSpec)

/-- ITS FALSE NEIGHBOUR: 'it returns false'. Refute it at one input. -/
def fnExactLastExtremesWrong : ChangeSpec := { name := "fnExactLastExtremes", fn := fun _ => fun
  | [d] => { results := [.lit (.bool false)], args := [d] }
  | _ => none }
def FnExactLastExtremesWrongFalsely : Prop := fnExactLastExtremesRow.holds Try.pinned (OpenSpec.ofChange fnExactLastExtremesWrong)

/-- 'laws.FnExactEvenRelays': WHATEVER THE INPUT: true; the input reads as it did. -/
def fnExactEvenRelaysSpec : ChangeSpec := { name := "fnExactEvenRelays", fn := fun _ => fun
  | [d1, d2] => { results := [.lit (.bool true)], args := [d1, d2] }
  | _ => none }
def fnExactEvenRelaysRow : OpenClaim := { program := "ytlghbogfgkaopaa", sum := "b64ab8c412e2a295fdd8d297219c3a1bf604e3053bdd6499d6c6402cb641b309", func := "loop.example/g01237/laws.FnExactEvenRelays", spec := "fnExactEvenRelays", unfollowed := true, recurses := true, apart := false }
def FnExactEvenRelaysSaid : Prop := fnExactEvenRelaysRow.holds Try.pinned (OpenSpec.ofChange fnExactEvenRelaysSpec)

/-- ITS FALSE NEIGHBOUR: 'it returns false'. Refute it at one input. -/
def fnExactEvenRelaysWrong : ChangeSpec := { name := "fnExactEvenRelays", fn := fun _ => fun
  | [d1, d2] => { results := [.lit (.bool false)], args := [d1, d2] }
  | _ => none }
def FnExactEvenRelaysWrongFalsely : Prop := fnExactEvenRelaysRow.holds Try.pinned (OpenSpec.ofChange fnExactEvenRelaysWrong)

/-- 'laws.FnExactMagnetOf': WHATEVER THE INPUT: true; the input reads as it did. -/
def fnExactMagnetOfSpec : ChangeSpec := { name := "fnExactMagnetOf", fn := fun _ => fun
  | [d1, d2] => { results := [.lit (.bool true)], args := [d1, d2] }
  | _ => none }
def fnExactMagnetOfRow : OpenClaim := { program := "ytlghbogfgkaopaa", sum := "b64ab8c412e2a295fdd8d297219c3a1bf604e3053bdd6499d6c6402cb641b309", func := "loop.example/g01237/laws.FnExactMagnetOf", spec := "fnExactMagnetOf", unfollowed := true, recurses := true, apart := false }
def FnExactMagnetOfSaid : Prop := fnExactMagnetOfRow.holds Try.pinned (OpenSpec.ofChange fnExactMagnetOfSpec)

/-- ITS FALSE NEIGHBOUR: 'it returns false'. Refute it at one input. -/
def fnExactMagnetOfWrong : ChangeSpec := { name := "fnExactMagnetOf", fn := fun _ => fun
  | [d1, d2] => { results := [.lit (.bool false)], args := [d1, d2] }
  | _ => none }
def FnExactMagnetOfWrongFalsely : Prop := fnExactMagnetOfRow.holds Try.pinned (OpenSpec.ofChange fnExactMagnetOfWrong)

/-- 'laws.FnLevels': WHATEVER THE INPUT: true; the input reads as it did. -/
def fnLevelsSpec : ChangeSpec := { name := "fnLevels", fn := fun _ => fun
  | [d1, d2] => { results := [.lit (.bool true)], args := [d1, d2] }
  | _ => none }
def fnLevelsRow : OpenClaim := { program := "ytlghbogfgkaopaa", sum := "b64ab8c412e2a295fdd8d297219c3a1bf604e3053bdd6499d6c6402cb641b309", func := "loop.example/g01237/laws.FnLevels", spec := "fnLevels", unfollowed := true, recurses := true, apart := false }
def FnLevelsSaid : Prop := fnLevelsRow.holds Try.pinned (OpenSpec.ofChange fnLevelsSpec)

/-- ITS FALSE NEIGHBOUR: 'it returns false'. Refute it at one input. -/
def fnLevelsWrong : ChangeSpec := { name := "fnLevels", fn := fun _ => fun
  | [d1, d2] => { results := [.lit (.bool false)], args := [d1, d2] }
  | _ => none }
def FnLevelsWrongFalsely : Prop := fnLevelsRow.holds Try.pinned (OpenSpec.ofChange fnLevelsWrong)

/-- 'laws.FnExactRemanenceOf': WHATEVER THE INPUT: true; the input reads as it did. -/
def fnExactRemanenceOfSpec : ChangeSpec := { name := "fnExactRemanenceOf", fn := fun _ => fun
  | [d1, d2] => { results := [.lit (.bool true)], args := [d1, d2] }
  | _ => none }
def fnExactRemanenceOfRow : OpenClaim := { program := "ytlghbogfgkaopaa", sum := "b64ab8c412e2a295fdd8d297219c3a1bf604e3053bdd6499d6c6402cb641b309", func := "loop.example/g01237/laws.FnExactRemanenceOf", spec := "fnExactRemanenceOf", unfollowed := true, recurses := true, apart := false }
def FnExactRemanenceOfSaid : Prop := fnExactRemanenceOfRow.holds Try.pinned (OpenSpec.ofChange fnExactRemanenceOfSpec)

/-- ITS FALSE NEIGHBOUR: 'it returns false'. Refute it at one input. -/
def fnExactRemanenceOfWrong : ChangeSpec := { name := "fnExactRemanenceOf", fn := fun _ => fun
  | [d1, d2] => { results := [.lit (.bool false)], args := [d1, d2] }
  | _ => none }
def FnExactRemanenceOfWrongFalsely : Prop := fnExactRemanenceOfRow.holds Try.pinned (OpenSpec.ofChange fnExactRemanenceOfWrong)

/-- 'laws.FnExactCoerciveOf': WHATEVER THE INPUT: true; the input reads as it did. -/
def fnExactCoerciveOfSpec : ChangeSpec := { name := "fnExactCoerciveOf", fn := fun _ => fun
  | [d1, d2] => { results := [.lit (.bool true)], args := [d1, d2] }
  | _ => none }
def fnExactCoerciveOfRow : OpenClaim := { program := "ytlghbogfgkaopaa", sum := "b64ab8c412e2a295fdd8d297219c3a1bf604e3053bdd6499d6c6402cb641b309", func := "loop.example/g01237/laws.FnExactCoerciveOf", spec := "fnExactCoerciveOf", unfollowed := true, recurses := true, apart := false }
def FnExactCoerciveOfSaid : Prop := fnExactCoerciveOfRow.holds Try.pinned (OpenSpec.ofChange fnExactCoerciveOfSpec)

/-- ITS FALSE NEIGHBOUR: 'it returns false'. Refute it at one input. -/
def fnExactCoerciveOfWrong : ChangeSpec := { name := "fnExactCoerciveOf", fn := fun _ => fun
  | [d1, d2] => { results := [.lit (.bool false)], args := [d1, d2] }
  | _ => none }
def FnExactCoerciveOfWrongFalsely : Prop := fnExactCoerciveOfRow.holds Try.pinned (OpenSpec.ofChange fnExactCoerciveOfWrong)

/-- 'laws.FnExactStepRelays': WHATEVER THE INPUT: true; the input reads as it did. -/
def fnExactStepRelaysSpec : ChangeSpec := { name := "fnExactStepRelays", fn := fun _ => fun
  | [d1, d2, d3] => { results := [.lit (.bool true)], args := [d1, d2, d3] }
  | _ => none }
def fnExactStepRelaysRow : OpenClaim := { program := "ytlghbogfgkaopaa", sum := "b64ab8c412e2a295fdd8d297219c3a1bf604e3053bdd6499d6c6402cb641b309", func := "loop.example/g01237/laws.FnExactStepRelays", spec := "fnExactStepRelays", unfollowed := true, recurses := true, apart := false }
def FnExactStepRelaysSaid : Prop := fnExactStepRelaysRow.holds Try.pinned (OpenSpec.ofChange fnExactStepRelaysSpec)

/-- ITS FALSE NEIGHBOUR: 'it returns false'. Refute it at one input. -/
def fnExactStepRelaysWrong : ChangeSpec := { name := "fnExactStepRelays", fn := fun _ => fun
  | [d1, d2, d3] => { results := [.lit (.bool false)], args := [d1, d2, d3] }
  | _ => none }
def FnExactStepRelaysWrongFalsely : Prop := fnExactStepRelaysRow.holds Try.pinned (OpenSpec.ofChange fnExactStepRelaysWrong)

/-- 'laws.FnExactRunRelays': WHATEVER THE INPUT: true; the input reads as it did. -/
def fnExactRunRelaysSpec : ChangeSpec := { name := "fnExactRunRelays", fn := fun _ => fun
  | [d1, d2, d3] => { results := [.lit (.bool true)], args := [d1, d2, d3] }
  | _ => none }
def fnExactRunRelaysRow : OpenClaim := { program := "ytlghbogfgkaopaa", sum := "b64ab8c412e2a295fdd8d297219c3a1bf604e3053bdd6499d6c6402cb641b309", func := "loop.example/g01237/laws.FnExactRunRelays", spec := "fnExactRunRelays", unfollowed := true, recurses := true, apart := false }
def FnExactRunRelaysSaid : Prop := fnExactRunRelaysRow.holds Try.pinned (OpenSpec.ofChange fnExactRunRelaysSpec)

/-- ITS FALSE NEIGHBOUR: 'it returns false'. Refute it at one input. -/
def fnExactRunRelaysWrong : ChangeSpec := { name := "fnExactRunRelays", fn := fun _ => fun
  | [d1, d2, d3] => { results := [.lit (.bool false)], args := [d1, d2, d3] }
  | _ => none }
def FnExactRunRelaysWrongFalsely : Prop := fnExactRunRelaysRow.holds Try.pinned (OpenSpec.ofChange fnExactRunRelaysWrong)

/- THE SECOND FORM. 'bulk': how many values and letters a reading holds, each counted each time it is reached (what is shared counts as often as it is met; a slice's spare places count too). A statement '..UptoSaid' is the law's where the arguments, and the package variables that the reading takes, are together of bulk at most 1048576: NARROWER than '..Said'. Prove '..Said' where nothing that the law and all that it calls make is longer than what came in: it says more and counts as full. Else prove '..UptoSaid'. A law counts once. -/
mutual
def uptoBulk {H : Type} : DataW H → Nat
  | .lit (.string bytes) => bytes.length + 1
  | .lit _ => 1
  | .nil => 1
  | .ptr d => uptoBulk d + 1
  | .slice elems spare => uptoBulkAll elems + uptoBulkAll spare + 1
  | .agg parts => uptoBulkAll parts + 1
  | .iface _ d => uptoBulk d + 1
  | .map entries => uptoBulkEntries entries + 1
  | .held _ => 1
def uptoBulkAll {H : Type} : List (DataW H) → Nat
  | [] => 0
  | d :: r => uptoBulk d + uptoBulkAll r
def uptoBulkEntries {H : Type} : List (Lit × DataW H) → Nat
  | [] => 0
  | x :: r => uptoBulkEntry x + uptoBulkEntries r
def uptoBulkEntry {H : Type} : Lit × DataW H → Nat
  | (.string bytes, d) => bytes.length + uptoBulk d + 1
  | (_, d) => uptoBulk d + 1
 end
def uptoSmall : (H : Type) → List (DataW H) → Bool := fun _ ds => decide (uptoBulkAll ds ≤ 1048576)
def OpenSpec.upto (s : _root_.Go.ChangeSpec) : _root_.Go.OpenSpec := { _root_.Go.OpenSpec.ofChange s with cond := some uptoSmall }

/-- 'laws.FnExactLoopArea', WHERE WHAT IT READS IS OF BULK AT MOST 1048576: true; the input reads as it did. -/
def fnExactLoopAreaUptoRow : OpenClaim := { program := "ytlghbogfgkaopaa", sum := "b64ab8c412e2a295fdd8d297219c3a1bf604e3053bdd6499d6c6402cb641b309", func := "loop.example/g01237/laws.FnExactLoopArea", spec := "fnExactLoopArea", apart := false, narrowed := true }
def FnExactLoopAreaUptoSaid : Prop := fnExactLoopAreaUptoRow.holds Try.pinned (OpenSpec.upto fnExactLoopAreaSpec)

/-- 'laws.FnExactFadingFields', WHERE WHAT IT READS IS OF BULK AT MOST 1048576: true; the input reads as it did. -/
def fnExactFadingFieldsUptoRow : OpenClaim := { program := "ytlghbogfgkaopaa", sum := "b64ab8c412e2a295fdd8d297219c3a1bf604e3053bdd6499d6c6402cb641b309", func := "loop.example/g01237/laws.FnExactFadingFields", spec := "fnExactFadingFields", apart := false, narrowed := true }
def FnExactFadingFieldsUptoSaid : Prop := fnExactFadingFieldsUptoRow.holds Try.pinned (OpenSpec.upto fnExactFadingFieldsSpec)

/-- 'laws.FnExactAreRelays', WHERE WHAT IT READS IS OF BULK AT MOST 1048576: true; the input reads as it did. -/
def fnExactAreRelaysUptoRow : OpenClaim := { program := "ytlghbogfgkaopaa", sum := "b64ab8c412e2a295fdd8d297219c3a1bf604e3053bdd6499d6c6402cb641b309", func := "loop.example/g01237/laws.FnExactAreRelays", spec := "fnExactAreRelays", unfollowed := true, recurses := true, apart := false, narrowed := true }
def FnExactAreRelaysUptoSaid : Prop := fnExactAreRelaysUptoRow.holds Try.pinned (OpenSpec.upto fnExactAreRelaysSpec)

/-- 'laws.FnIron', WHERE WHAT IT READS IS OF BULK AT MOST 1048576: true; the input reads as it did. -/
def fnIronUptoRow : OpenClaim := { program := "ytlghbogfgkaopaa", sum := "b64ab8c412e2a295fdd8d297219c3a1bf604e3053bdd6499d6c6402cb641b309", func := "loop.example/g01237/laws.FnIron", spec := "fnIron", unfollowed := true, recurses := true, apart := false, narrowed := true }
def FnIronUptoSaid : Prop := fnIronUptoRow.holds Try.pinned (OpenSpec.upto fnIronSpec)

/-- 'laws.FnExactLastExtremes', WHERE WHAT IT READS IS OF BULK AT MOST 1048576: true; the input reads as it did. -/
def fnExactLastExtremesUptoRow : OpenClaim := { program := "ytlghbogfgkaopaa", sum := "b64ab8c412e2a295fdd8d297219c3a1bf604e3053bdd6499d6c6402cb641b309", func := "loop.example/g01237/laws.FnExactLastExtremes", spec := "fnExactLastExtremes", unfollowed := true, recurses := true, apart := false, narrowed := true }
def FnExactLastExtremesUptoSaid : Prop := fnExactLastExtremesUptoRow.holds Try.pinned (OpenSpec.upto fnExactLastExtremesSpec)

/-- 'laws.FnExactEvenRelays', WHERE WHAT IT READS IS OF BULK AT MOST 1048576: true; the input reads as it did. -/
def fnExactEvenRelaysUptoRow : OpenClaim := { program := "ytlghbogfgkaopaa", sum := "b64ab8c412e2a295fdd8d297219c3a1bf604e3053bdd6499d6c6402cb641b309", func := "loop.example/g01237/laws.FnExactEvenRelays", spec := "fnExactEvenRelays", unfollowed := true, recurses := true, apart := false, narrowed := true }
def FnExactEvenRelaysUptoSaid : Prop := fnExactEvenRelaysUptoRow.holds Try.pinned (OpenSpec.upto fnExactEvenRelaysSpec)

/-- 'laws.FnExactMagnetOf', WHERE WHAT IT READS IS OF BULK AT MOST 1048576: true; the input reads as it did. -/
def fnExactMagnetOfUptoRow : OpenClaim := { program := "ytlghbogfgkaopaa", sum := "b64ab8c412e2a295fdd8d297219c3a1bf604e3053bdd6499d6c6402cb641b309", func := "loop.example/g01237/laws.FnExactMagnetOf", spec := "fnExactMagnetOf", unfollowed := true, recurses := true, apart := false, narrowed := true }
def FnExactMagnetOfUptoSaid : Prop := fnExactMagnetOfUptoRow.holds Try.pinned (OpenSpec.upto fnExactMagnetOfSpec)

/-- 'laws.FnLevels', WHERE WHAT IT READS IS OF BULK AT MOST 1048576: true; the input reads as it did. -/
def fnLevelsUptoRow : OpenClaim := { program := "ytlghbogfgkaopaa", sum := "b64ab8c412e2a295fdd8d297219c3a1bf604e3053bdd6499d6c6402cb641b309", func := "loop.example/g01237/laws.FnLevels", spec := "fnLevels", unfollowed := true, recurses := true, apart := false, narrowed := true }
def FnLevelsUptoSaid : Prop := fnLevelsUptoRow.holds Try.pinned (OpenSpec.upto fnLevelsSpec)

/-- 'laws.FnExactRemanenceOf', WHERE WHAT IT READS IS OF BULK AT MOST 1048576: true; the input reads as it did. -/
def fnExactRemanenceOfUptoRow : OpenClaim := { program := "ytlghbogfgkaopaa", sum := "b64ab8c412e2a295fdd8d297219c3a1bf604e3053bdd6499d6c6402cb641b309", func := "loop.example/g01237/laws.FnExactRemanenceOf", spec := "fnExactRemanenceOf", unfollowed := true, recurses := true, apart := false, narrowed := true }
def FnExactRemanenceOfUptoSaid : Prop := fnExactRemanenceOfUptoRow.holds Try.pinned (OpenSpec.upto fnExactRemanenceOfSpec)

/-- 'laws.FnExactCoerciveOf', WHERE WHAT IT READS IS OF BULK AT MOST 1048576: true; the input reads as it did. -/
def fnExactCoerciveOfUptoRow : OpenClaim := { program := "ytlghbogfgkaopaa", sum := "b64ab8c412e2a295fdd8d297219c3a1bf604e3053bdd6499d6c6402cb641b309", func := "loop.example/g01237/laws.FnExactCoerciveOf", spec := "fnExactCoerciveOf", unfollowed := true, recurses := true, apart := false, narrowed := true }
def FnExactCoerciveOfUptoSaid : Prop := fnExactCoerciveOfUptoRow.holds Try.pinned (OpenSpec.upto fnExactCoerciveOfSpec)

/-- 'laws.FnExactStepRelays', WHERE WHAT IT READS IS OF BULK AT MOST 1048576: true; the input reads as it did. -/
def fnExactStepRelaysUptoRow : OpenClaim := { program := "ytlghbogfgkaopaa", sum := "b64ab8c412e2a295fdd8d297219c3a1bf604e3053bdd6499d6c6402cb641b309", func := "loop.example/g01237/laws.FnExactStepRelays", spec := "fnExactStepRelays", unfollowed := true, recurses := true, apart := false, narrowed := true }
def FnExactStepRelaysUptoSaid : Prop := fnExactStepRelaysUptoRow.holds Try.pinned (OpenSpec.upto fnExactStepRelaysSpec)

/-- 'laws.FnExactRunRelays', WHERE WHAT IT READS IS OF BULK AT MOST 1048576: true; the input reads as it did. -/
def fnExactRunRelaysUptoRow : OpenClaim := { program := "ytlghbogfgkaopaa", sum := "b64ab8c412e2a295fdd8d297219c3a1bf604e3053bdd6499d6c6402cb641b309", func := "loop.example/g01237/laws.FnExactRunRelays", spec := "fnExactRunRelays", unfollowed := true, recurses := true, apart := false, narrowed := true }
def FnExactRunRelaysUptoSaid : Prop := fnExactRunRelaysUptoRow.holds Try.pinned (OpenSpec.upto fnExactRunRelaysSpec)

end Rows
end Go.Proofs.Ytlghbogfgkaopaa
