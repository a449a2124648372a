/-
  Slices of poles: the helpers of the laws. Conditions: none.
-/
import Derived.Test.YtejpamlaacffaaaVecB
import Derived.Test.YtejpamlaacffaaaBA
import Derived.OwnWalk
import Derived.Lib.Hide
import Derived.Deep.RegionHeld3
import Derived.Deep.DrawnRows
namespace Go.Proofs.Ytejpamlaacffaaa
open Go Go.RowKit
attribute [local go_sem] run_store_float
attribute [local go_sem ↓] Go.wp_at_zero Go.wp_at_succ

def RetP (A : V3) (S : Nat) (w : World) (e : Ending) (w' : World) : Prop := ∃ v, e = .returned v ∧ Pb A S v ∧ Below w.heap.size w w'

end Go.Proofs.Ytejpamlaacffaaa
