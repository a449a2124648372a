/-
  The helpers of the laws over slices of structs, in the abstract form. Conditions: none.
-/
import Derived.Test.YtokhbfbanofchaaBr
import Derived.Test.YtokhbfbanofchaaVecS
import Derived.Test.YtokhbfbanofchaaPoleS
namespace Go.Proofs.Ytokhbfbanofchaa
open Go Go.RowKit

theorem c_lawsSameFloat {X : Nat} : Con Try.prog 18 [fl .f64 X, fl .f64 X] (RetA (vv (.bool true))) := con_of ⟨_, Try.func18, rfl, by kernel_rfl⟩ fun w vs h => by
  match vs, h with
  | [a, b], h =>
    obtain ⟨x, rfl, hx⟩ := h.1
    obtain ⟨y, rfl, hy⟩ := h.2.1
    exact (lawsSameFloat w hx hy).mono fun e w' ⟨he, hb⟩ => ⟨_, he, hb, fun wx => rfl⟩

/-- A law that returns true, in the form of the given statement's walk. -/
theorem law_of {P : Program} {f : FuncId} {As : List AV} (h : Con P f As (RetA (vv (.bool true)))) {w : World} {vs : List Value} (hv : All w As vs) : Calls P f vs.toArray w (RetB true w) :=
  (h.2 w vs hv).mono fun e w' ⟨v, he, hb, hq⟩ => ⟨by obtain rfl : v = _ := hq w; exact he, hb⟩
end Go.Proofs.Ytokhbfbanofchaa
