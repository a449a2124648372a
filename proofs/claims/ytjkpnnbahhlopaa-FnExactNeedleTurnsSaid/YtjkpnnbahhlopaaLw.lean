/-
  The helpers of the laws over slices of structs, in the abstract form. Conditions: none.
-/
import Derived.Test.YtjkpnnbahhlopaaBr
import Derived.Test.YtjkpnnbahhlopaaVecS
import Derived.Test.YtjkpnnbahhlopaaPoleS
namespace Go.Proofs.Ytjkpnnbahhlopaa
open Go Go.RowKit

theorem c_lawsToVector {A : V3} : Con Try.prog 6 [vec A] (RetA (vec A)) := con_of ⟨_, Try.func6, rfl, by kernel_rfl⟩ fun w vs h => by
  match vs, h with
  | [a], h => exact (lawsToVector w (vec_Vb.1 h.1)).mono fun e w' ⟨v, he, hv, hb⟩ => ⟨v, he, hb, fun wx => vec_Vb.2 hv⟩
theorem c_lawsSameFloat {X : Nat} : Con Try.prog 8 [fl .f64 X, fl .f64 X] (RetA (vv (.bool true))) := con_of ⟨_, Try.func8, rfl, by kernel_rfl⟩ fun w vs h => by
  match vs, h with
  | [a, b], h =>
    obtain ⟨x, rfl, hx⟩ := h.1
    obtain ⟨y, rfl, hy⟩ := h.2.1
    exact (lawsSameFloat w hx hy).mono fun e w' ⟨he, hb⟩ => ⟨_, he, hb, fun wx => rfl⟩

/-- A law that returns true, in the form of the given statement's walk. -/
theorem law_of {P : Program} {f : FuncId} {As : List AV} (h : Con P f As (RetA (vv (.bool true)))) {w : World} {vs : List Value} (hv : All w As vs) : Calls P f vs.toArray w (RetB true w) :=
  (h.2 w vs hv).mono fun e w' ⟨v, he, hb, hq⟩ => ⟨by obtain rfl : v = _ := hq w; exact he, hb⟩
end Go.Proofs.Ytjkpnnbahhlopaa
