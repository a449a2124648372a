/-
  Contracts of the vector functions, in the abstract form. Conditions: none.
-/
import Derived.Test.YtejpamlaacffaaaVecB
import Derived.Test.YtejpamlaacffaaaBr
namespace Go.Proofs.Ytejpamlaacffaaa
open Go Go.RowKit

theorem c_specAdd {A B : V3} : Con Try.prog 41 [vec A, vec B] (RetA (vec (addV A B))) := con_of ⟨_, Try.func41, rfl, by kernel_rfl⟩ fun w vs h => by
  match vs, h with
  | [a, b], h =>
    exact (specAdd w (vec_Vb.1 h.1) (vec_Vb.1 h.2.1)).mono fun e w' ⟨v, he, hv, hb⟩ => ⟨v, he, hb, fun wx => vec_Vb.2 hv⟩
theorem c_implLess {A B : V3} : Con Try.prog 48 [vec A, vec B] (RetA (vec (lessV A B))) := con_of ⟨_, Try.func48, rfl, by kernel_rfl⟩ fun w vs h => by
  match vs, h with
  | [a, b], h =>
    exact (implLess w (vec_Vb.1 h.1) (vec_Vb.1 h.2.1)).mono fun e w' ⟨v, he, hv, hb⟩ => ⟨v, he, hb, fun wx => vec_Vb.2 hv⟩
theorem c_specLess {A B : V3} : Con Try.prog 47 [vec A, vec B] (RetA (vec (lessV A B))) := con_of ⟨_, Try.func47, rfl, by kernel_rfl⟩ fun w vs h => by
  match vs, h with
  | [a, b], h =>
    exact (specLess w (vec_Vb.1 h.1) (vec_Vb.1 h.2.1)).mono fun e w' ⟨v, he, hv, hb⟩ => ⟨v, he, hb, fun wx => vec_Vb.2 hv⟩
theorem c_specLong {A : V3} : Con Try.prog 46 [vec A] (RetA (fl .f32 (longV A))) := con_of ⟨_, Try.func46, rfl, by kernel_rfl⟩ fun w vs h => by
  match vs, h with
  | [a], h =>
    exact (specLong w (vec_Vb.1 h.1)).mono fun e w' ⟨v, he, hv, hb⟩ => ⟨_, he, hb, fun wx => ⟨v, rfl, hv⟩⟩
end Go.Proofs.Ytejpamlaacffaaa
