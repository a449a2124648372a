/-
  The helpers of the laws over slices of structs, in the abstract form. Conditions: none.
-/
import Derived.Test.YtejpamlaacffaaaBr
import Derived.Test.YtejpamlaacffaaaVecS
import Derived.Test.YtejpamlaacffaaaPoleS
namespace Go.Proofs.Ytejpamlaacffaaa
open Go Go.RowKit

/-- A law that returns true, in the form of the given statement's walk. -/
theorem law_of {P : Program} {f : FuncId} {As : List AV} (h : Con P f As (RetA (vv (.bool true)))) {w : World} {vs : List Value} (hv : All w As vs) : Calls P f vs.toArray w (RetB true w) :=
  (h.2 w vs hv).mono fun e w' ⟨v, he, hb, hq⟩ => ⟨by obtain rfl : v = _ := hq w; exact he, hb⟩
end Go.Proofs.Ytejpamlaacffaaa
