/-
  Contracts of the vector functions, in the abstract form. Conditions: none.
-/
import Derived.Test.YtokhbfbanofchaaVecB
import Derived.Test.YtokhbfbanofchaaBr
namespace Go.Proofs.Ytokhbfbanofchaa
open Go Go.RowKit

theorem c_implAdd {A B : V3} : Con Try.prog 69 [vec A, vec B] (RetA (vec (addV A B))) := con_of ⟨_, Try.func69, rfl, by kernel_rfl⟩ fun w vs h => by
  match vs, h with
  | [a, b], h =>
    exact (implAdd w (vec_Vb.1 h.1) (vec_Vb.1 h.2.1)).mono fun e w' ⟨v, he, hv, hb⟩ => ⟨v, he, hb, fun wx => vec_Vb.2 hv⟩
theorem c_specAdd {A B : V3} : Con Try.prog 76 [vec A, vec B] (RetA (vec (addV A B))) := con_of ⟨_, Try.func76, rfl, by kernel_rfl⟩ fun w vs h => by
  match vs, h with
  | [a, b], h =>
    exact (specAdd w (vec_Vb.1 h.1) (vec_Vb.1 h.2.1)).mono fun e w' ⟨v, he, hv, hb⟩ => ⟨v, he, hb, fun wx => vec_Vb.2 hv⟩
theorem c_implLess {A B : V3} : Con Try.prog 70 [vec A, vec B] (RetA (vec (lessV A B))) := con_of ⟨_, Try.func70, rfl, by kernel_rfl⟩ fun w vs h => by
  match vs, h with
  | [a, b], h =>
    exact (implLess w (vec_Vb.1 h.1) (vec_Vb.1 h.2.1)).mono fun e w' ⟨v, he, hv, hb⟩ => ⟨v, he, hb, fun wx => vec_Vb.2 hv⟩
theorem c_specLess {A B : V3} : Con Try.prog 88 [vec A, vec B] (RetA (vec (lessV A B))) := con_of ⟨_, Try.func88, rfl, by kernel_rfl⟩ fun w vs h => by
  match vs, h with
  | [a, b], h =>
    exact (specLess w (vec_Vb.1 h.1) (vec_Vb.1 h.2.1)).mono fun e w' ⟨v, he, hv, hb⟩ => ⟨v, he, hb, fun wx => vec_Vb.2 hv⟩
theorem c_implCross {A B : V3} : Con Try.prog 61 [vec A, vec B] (RetA (vec (crossV A B))) := con_of ⟨_, Try.func61, rfl, by kernel_rfl⟩ fun w vs h => by
  match vs, h with
  | [a, b], h =>
    exact (implCross w (vec_Vb.1 h.1) (vec_Vb.1 h.2.1)).mono fun e w' ⟨v, he, hv, hb⟩ => ⟨v, he, hb, fun wx => vec_Vb.2 hv⟩
theorem c_specCross {A B : V3} : Con Try.prog 59 [vec A, vec B] (RetA (vec (crossV A B))) := con_of ⟨_, Try.func59, rfl, by kernel_rfl⟩ fun w vs h => by
  match vs, h with
  | [a, b], h =>
    exact (specCross w (vec_Vb.1 h.1) (vec_Vb.1 h.2.1)).mono fun e w' ⟨v, he, hv, hb⟩ => ⟨v, he, hb, fun wx => vec_Vb.2 hv⟩
theorem c_implInner {A B : V3} : Con Try.prog 57 [vec A, vec B] (RetA (fl .f32 (innerV A B))) := con_of ⟨_, Try.func57, rfl, by kernel_rfl⟩ fun w vs h => by
  match vs, h with
  | [a, b], h =>
    exact (implInner w (vec_Vb.1 h.1) (vec_Vb.1 h.2.1)).mono fun e w' ⟨v, he, hv, hb⟩ => ⟨_, he, hb, fun wx => ⟨v, rfl, hv⟩⟩
theorem c_specInner {A B : V3} : Con Try.prog 53 [vec A, vec B] (RetA (fl .f32 (innerV A B))) := con_of ⟨_, Try.func53, rfl, by kernel_rfl⟩ fun w vs h => by
  match vs, h with
  | [a, b], h =>
    exact (specInner w (vec_Vb.1 h.1) (vec_Vb.1 h.2.1)).mono fun e w' ⟨v, he, hv, hb⟩ => ⟨_, he, hb, fun wx => ⟨v, rfl, hv⟩⟩
theorem c_implScale {A : V3} {S : Nat} : Con Try.prog 85 [vec A, fl .f32 S] (RetA (vec (scaleV A S))) := con_of ⟨_, Try.func85, rfl, by kernel_rfl⟩ fun w vs h => by
  match vs, h with
  | [a, b], h =>
    obtain ⟨x, rfl, hx⟩ := h.2.1
    exact (implScale w (vec_Vb.1 h.1) hx).mono fun e w' ⟨v, he, hv, hb⟩ => ⟨v, he, hb, fun wx => vec_Vb.2 hv⟩
theorem c_specScale {A : V3} {S : Nat} : Con Try.prog 78 [vec A, fl .f32 S] (RetA (vec (scaleV A S))) := con_of ⟨_, Try.func78, rfl, by kernel_rfl⟩ fun w vs h => by
  match vs, h with
  | [a, b], h =>
    obtain ⟨x, rfl, hx⟩ := h.2.1
    exact (specScale w (vec_Vb.1 h.1) hx).mono fun e w' ⟨v, he, hv, hb⟩ => ⟨v, he, hb, fun wx => vec_Vb.2 hv⟩
theorem c_implLong {A : V3} : Con Try.prog 123 [vec A] (RetA (fl .f32 (longV A))) := con_of ⟨_, Try.func123, rfl, by kernel_rfl⟩ fun w vs h => by
  match vs, h with
  | [a], h =>
    exact (implLong w (vec_Vb.1 h.1)).mono fun e w' ⟨v, he, hv, hb⟩ => ⟨_, he, hb, fun wx => ⟨v, rfl, hv⟩⟩
theorem c_specLong {A : V3} : Con Try.prog 136 [vec A] (RetA (fl .f32 (longV A))) := con_of ⟨_, Try.func136, rfl, by kernel_rfl⟩ fun w vs h => by
  match vs, h with
  | [a], h =>
    exact (specLong w (vec_Vb.1 h.1)).mono fun e w' ⟨v, he, hv, hb⟩ => ⟨_, he, hb, fun wx => ⟨v, rfl, hv⟩⟩
end Go.Proofs.Ytokhbfbanofchaa
