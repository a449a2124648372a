/-
  Slices of floats opened. Conditions: none.
-/
import Derived.Test.YtfhglmdbkjbhjaaOp
import Derived.Test.YtfhglmdbkjbhjaaFs
namespace Go.Proofs.Ytfhglmdbkjbhjaa
open Go Go.RowKit Go.ChangeShapes Go.WideShapes

theorem flat_floL {X : List Nat} {n : Nat} (h : X.length = n * 1) : Flat 1 n (floC fun k => X.getD (k * 1) 0) X := ⟨by omega, h, fun k hk => ⟨rfl, fun r hr => by
  match r, hr with
  | 0, _ => exact ⟨_, rfl, getD_some (by omega)⟩⟩⟩
section
variable {H : Type} {enc : TypeId × Value → H} {w : World} {base : Nat} {spare : Nat → Bool} {held : Bool} {r : Reach} {b0 : Nat} {v : Value} {d : DataW H} {p : List MemPlace}
end
end Go.Proofs.Ytfhglmdbkjbhjaa
