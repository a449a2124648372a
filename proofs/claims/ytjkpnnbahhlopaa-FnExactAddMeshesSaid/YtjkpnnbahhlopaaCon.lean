/-
  Contracts of the vector functions, in the abstract form. Conditions: none.
-/
import Derived.Test.YtjkpnnbahhlopaaVecB
import Derived.Test.YtjkpnnbahhlopaaBr
namespace Go.Proofs.Ytjkpnnbahhlopaa
open Go Go.RowKit

theorem c_implAdd {A B : V3} : Con Try.prog 27 [vec A, vec B] (RetA (vec (addV A B))) := con_of ⟨_, Try.func27, rfl, by kernel_rfl⟩ fun w vs h => by
  match vs, h with
  | [a, b], h =>
    exact (implAdd w (vec_Vb.1 h.1) (vec_Vb.1 h.2.1)).mono fun e w' ⟨v, he, hv, hb⟩ => ⟨v, he, hb, fun wx => vec_Vb.2 hv⟩
theorem c_specAdd {A B : V3} : Con Try.prog 21 [vec A, vec B] (RetA (vec (addV A B))) := con_of ⟨_, Try.func21, rfl, by kernel_rfl⟩ fun w vs h => by
  match vs, h with
  | [a, b], h =>
    exact (specAdd w (vec_Vb.1 h.1) (vec_Vb.1 h.2.1)).mono fun e w' ⟨v, he, hv, hb⟩ => ⟨v, he, hb, fun wx => vec_Vb.2 hv⟩
end Go.Proofs.Ytjkpnnbahhlopaa
