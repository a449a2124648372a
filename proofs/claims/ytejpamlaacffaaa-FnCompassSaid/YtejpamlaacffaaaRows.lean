/-
  No cell of these rows narrows 'for every input' (looked for: loops, veiled, ifaces, maps, wideKeys, modest, calm, conditions, laid).
  DERIVED. THE GIVEN ROWS OF THIS SEAT. 4 by the template 'for every input the law returns true; each argument reads behind the call as it read before'; 0 by the template 'total and deterministic' (their statements: YtejpamlaacffaaaTotals.lean).
  GIVEN WITH THE SEED: the statements are not yours to turn. If you find one false, say at which input.
  Laid BY PROGRAM, IN A SANDBOX (cutbox-rows.mjs): the forced cells as the released guide's own fill.sh prints them over the translation e7d42b806afc157e… (all of the seat's roots in one cut). By AI agents, Wed Nov 11 2026. No macro, syntax, notation, axiom, sorry.
-/
import Derived.Test.YtejpamlaacffaaaChecked
import GoSem.Claim
import GoSem.ClaimJoined
import GoSem.ClaimMapViews
import Derived.JoinedTies
import Derived.KernelRfl
namespace Go.Proofs.Ytejpamlaacffaaa
/- THE CELL 'sum', in the pinned program and in every row, IS THE sha256 OF THE DUMP (.gsa) THAT YtejpamlaacffaaaProg.lean LOADS. Nothing in Lean hashes anything: it is a label: what it is worth is what the hold of that sum in a sandbox is worth. -/
noncomputable def Try.pinned : Pinned := { name := "ytejpamlaacffaaa", sum := "e7d42b806afc157e49567d8af5839c9eb5e37aef4d3797a0d6df767fb2f77621", checked := Try.checked }
namespace Rows
def none {H : Type} : Left H := { results := [], args := [] }

/-- 'laws.FnDipoles': WHATEVER THE INPUT: true; the input reads as it did. -/
def fnDipolesSpec : ChangeSpec := { name := "fnDipoles", fn := fun _ => fun
  | [d1, d2] => { results := [.lit (.bool true)], args := [d1, d2] }
  | _ => none }
def fnDipolesRow : OpenClaim := { program := "ytejpamlaacffaaa", sum := "e7d42b806afc157e49567d8af5839c9eb5e37aef4d3797a0d6df767fb2f77621", func := "loop.example/g01237/laws.FnDipoles", spec := "fnDipoles", inPlace := ["math.sqrt"], apart := false }
def FnDipolesSaid : Prop := fnDipolesRow.holds Try.pinned (OpenSpec.ofChange fnDipolesSpec)

/-- ITS FALSE NEIGHBOUR: 'it returns false'. Refute it at one input. -/
def fnDipolesWrong : ChangeSpec := { name := "fnDipoles", fn := fun _ => fun
  | [d1, d2] => { results := [.lit (.bool false)], args := [d1, d2] }
  | _ => none }
def FnDipolesWrongFalsely : Prop := fnDipolesRow.holds Try.pinned (OpenSpec.ofChange fnDipolesWrong)

/-- 'laws.FnPoles': WHATEVER THE INPUT: true; the input reads as it did. -/
def fnPolesSpec : ChangeSpec := { name := "fnPoles", fn := fun _ => fun
  | [d1, d2] => { results := [.lit (.bool true)], args := [d1, d2] }
  | _ => none }
def fnPolesRow : OpenClaim := { program := "ytejpamlaacffaaa", sum := "e7d42b806afc157e49567d8af5839c9eb5e37aef4d3797a0d6df767fb2f77621", func := "loop.example/g01237/laws.FnPoles", spec := "fnPoles", inPlace := ["math.sqrt", "math.Float32bits"], apart := false }
def FnPolesSaid : Prop := fnPolesRow.holds Try.pinned (OpenSpec.ofChange fnPolesSpec)

/-- ITS FALSE NEIGHBOUR: 'it returns false'. Refute it at one input. -/
def fnPolesWrong : ChangeSpec := { name := "fnPoles", fn := fun _ => fun
  | [d1, d2] => { results := [.lit (.bool false)], args := [d1, d2] }
  | _ => none }
def FnPolesWrongFalsely : Prop := fnPolesRow.holds Try.pinned (OpenSpec.ofChange fnPolesWrong)

/-- 'laws.FnCompass': WHATEVER THE INPUT: true; the input reads as it did. -/
def fnCompassSpec : ChangeSpec := { name := "fnCompass", fn := fun _ => fun
  | [d1, d2] => { results := [.lit (.bool true)], args := [d1, d2] }
  | _ => none }
def fnCompassRow : OpenClaim := { program := "ytejpamlaacffaaa", sum := "e7d42b806afc157e49567d8af5839c9eb5e37aef4d3797a0d6df767fb2f77621", func := "loop.example/g01237/laws.FnCompass", spec := "fnCompass", inPlace := ["math.Float64frombits", "math.sqrt"], unfollowed := true, recurses := true, apart := false }
def FnCompassSaid : Prop := fnCompassRow.holds Try.pinned (OpenSpec.ofChange fnCompassSpec)

/-- ITS FALSE NEIGHBOUR: 'it returns false'. Refute it at one input. -/
def fnCompassWrong : ChangeSpec := { name := "fnCompass", fn := fun _ => fun
  | [d1, d2] => { results := [.lit (.bool false)], args := [d1, d2] }
  | _ => none }
def FnCompassWrongFalsely : Prop := fnCompassRow.holds Try.pinned (OpenSpec.ofChange fnCompassWrong)

/-- 'laws.FnExactFitCircle': WHATEVER THE INPUT: true; the input reads as it did. -/
def fnExactFitCircleSpec : ChangeSpec := { name := "fnExactFitCircle", fn := fun _ => fun
  | [d] => { results := [.lit (.bool true)], args := [d] }
  | _ => none }
def fnExactFitCircleRow : OpenClaim := { program := "ytejpamlaacffaaa", sum := "e7d42b806afc157e49567d8af5839c9eb5e37aef4d3797a0d6df767fb2f77621", func := "loop.example/g01237/laws.FnExactFitCircle", spec := "fnExactFitCircle", inPlace := ["math.sqrt"], unfollowed := true, recurses := true, apart := false }
def FnExactFitCircleSaid : Prop := fnExactFitCircleRow.holds Try.pinned (OpenSpec.ofChange fnExactFitCircleSpec)

/-- ITS FALSE NEIGHBOUR: 'it returns false'. Refute it at one input. -/
def fnExactFitCircleWrong : ChangeSpec := { name := "fnExactFitCircle", fn := fun _ => fun
  | [d] => { results := [.lit (.bool false)], args := [d] }
  | _ => none }
def FnExactFitCircleWrongFalsely : Prop := fnExactFitCircleRow.holds Try.pinned (OpenSpec.ofChange fnExactFitCircleWrong)

/- THE SECOND FORM. 'bulk': how many values and letters a reading holds, each counted each time it is reached (what is shared counts as often as it is met; a slice's spare places count too). A statement '..UptoSaid' is the law's where the arguments, and the package variables that the reading takes, are together of bulk at most 1048576: NARROWER than '..Said'. Prove '..Said' where nothing that the law and all that it calls make is longer than what came in: it says more and counts as full. Else prove '..UptoSaid'. A law counts once. -/
mutual
def uptoBulk {H : Type} : DataW H → Nat
  | .lit (.string bytes) => bytes.length + 1
  | .lit _ => 1
  | .nil => 1
  | .ptr d => uptoBulk d + 1
  | .slice elems spare => uptoBulkAll elems + uptoBulkAll spare + 1
  | .agg parts => uptoBulkAll parts + 1
  | .iface _ d => uptoBulk d + 1
  | .map entries => uptoBulkEntries entries + 1
  | .held _ => 1
def uptoBulkAll {H : Type} : List (DataW H) → Nat
  | [] => 0
  | d :: r => uptoBulk d + uptoBulkAll r
def uptoBulkEntries {H : Type} : List (Lit × DataW H) → Nat
  | [] => 0
  | x :: r => uptoBulkEntry x + uptoBulkEntries r
def uptoBulkEntry {H : Type} : Lit × DataW H → Nat
  | (.string bytes, d) => bytes.length + uptoBulk d + 1
  | (_, d) => uptoBulk d + 1
 end
def uptoSmall : (H : Type) → List (DataW H) → Bool := fun _ ds => decide (uptoBulkAll ds ≤ 1048576)
def OpenSpec.upto (s : _root_.Go.ChangeSpec) : _root_.Go.OpenSpec := { _root_.Go.OpenSpec.ofChange s with cond := some uptoSmall }

/-- 'laws.FnDipoles', WHERE WHAT IT READS IS OF BULK AT MOST 1048576: true; the input reads as it did. -/
def fnDipolesUptoRow : OpenClaim := { program := "ytejpamlaacffaaa", sum := "e7d42b806afc157e49567d8af5839c9eb5e37aef4d3797a0d6df767fb2f77621", func := "loop.example/g01237/laws.FnDipoles", spec := "fnDipoles", inPlace := ["math.sqrt"], apart := false, narrowed := true }
def FnDipolesUptoSaid : Prop := fnDipolesUptoRow.holds Try.pinned (OpenSpec.upto fnDipolesSpec)

/-- 'laws.FnPoles', WHERE WHAT IT READS IS OF BULK AT MOST 1048576: true; the input reads as it did. -/
def fnPolesUptoRow : OpenClaim := { program := "ytejpamlaacffaaa", sum := "e7d42b806afc157e49567d8af5839c9eb5e37aef4d3797a0d6df767fb2f77621", func := "loop.example/g01237/laws.FnPoles", spec := "fnPoles", inPlace := ["math.sqrt", "math.Float32bits"], apart := false, narrowed := true }
def FnPolesUptoSaid : Prop := fnPolesUptoRow.holds Try.pinned (OpenSpec.upto fnPolesSpec)

/-- 'laws.FnCompass', WHERE WHAT IT READS IS OF BULK AT MOST 1048576: true; the input reads as it did. -/
def fnCompassUptoRow : OpenClaim := { program := "ytejpamlaacffaaa", sum := "e7d42b806afc157e49567d8af5839c9eb5e37aef4d3797a0d6df767fb2f77621", func := "loop.example/g01237/laws.FnCompass", spec := "fnCompass", inPlace := ["math.Float64frombits", "math.sqrt"], unfollowed := true, recurses := true, apart := false, narrowed := true }
def FnCompassUptoSaid : Prop := fnCompassUptoRow.holds Try.pinned (OpenSpec.upto fnCompassSpec)

/-- 'laws.FnExactFitCircle', WHERE WHAT IT READS IS OF BULK AT MOST 1048576: true; the input reads as it did. -/
def fnExactFitCircleUptoRow : OpenClaim := { program := "ytejpamlaacffaaa", sum := "e7d42b806afc157e49567d8af5839c9eb5e37aef4d3797a0d6df767fb2f77621", func := "loop.example/g01237/laws.FnExactFitCircle", spec := "fnExactFitCircle", inPlace := ["math.sqrt"], unfollowed := true, recurses := true, apart := false, narrowed := true }
def FnExactFitCircleUptoSaid : Prop := fnExactFitCircleUptoRow.holds Try.pinned (OpenSpec.upto fnExactFitCircleSpec)

end Rows
end Go.Proofs.Ytejpamlaacffaaa
