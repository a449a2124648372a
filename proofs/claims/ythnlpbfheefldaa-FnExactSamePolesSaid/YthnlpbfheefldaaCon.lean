/-
  Contracts of the vector functions, in the abstract form. Conditions: none.
-/
import Derived.Test.YthnlpbfheefldaaVecB
import Derived.Test.YthnlpbfheefldaaBr
namespace Go.Proofs.Ythnlpbfheefldaa
open Go Go.RowKit

theorem c_implAdd {A B : V3} : Con Try.prog 69 [vec A, vec B] (RetA (vec (addV A B))) := con_of ⟨_, Try.func69, rfl, by kernel_rfl⟩ fun w vs h => by
  match vs, h with
  | [a, b], h =>
    exact (implAdd w (vec_Vb.1 h.1) (vec_Vb.1 h.2.1)).mono fun e w' ⟨v, he, hv, hb⟩ => ⟨v, he, hb, fun wx => vec_Vb.2 hv⟩
theorem c_specAdd {A B : V3} : Con Try.prog 67 [vec A, vec B] (RetA (vec (addV A B))) := con_of ⟨_, Try.func67, rfl, by kernel_rfl⟩ fun w vs h => by
  match vs, h with
  | [a, b], h =>
    exact (specAdd w (vec_Vb.1 h.1) (vec_Vb.1 h.2.1)).mono fun e w' ⟨v, he, hv, hb⟩ => ⟨v, he, hb, fun wx => vec_Vb.2 hv⟩
theorem c_implLess {A B : V3} : Con Try.prog 78 [vec A, vec B] (RetA (vec (lessV A B))) := con_of ⟨_, Try.func78, rfl, by kernel_rfl⟩ fun w vs h => by
  match vs, h with
  | [a, b], h =>
    exact (implLess w (vec_Vb.1 h.1) (vec_Vb.1 h.2.1)).mono fun e w' ⟨v, he, hv, hb⟩ => ⟨v, he, hb, fun wx => vec_Vb.2 hv⟩
theorem c_specLess {A B : V3} : Con Try.prog 82 [vec A, vec B] (RetA (vec (lessV A B))) := con_of ⟨_, Try.func82, rfl, by kernel_rfl⟩ fun w vs h => by
  match vs, h with
  | [a, b], h =>
    exact (specLess w (vec_Vb.1 h.1) (vec_Vb.1 h.2.1)).mono fun e w' ⟨v, he, hv, hb⟩ => ⟨v, he, hb, fun wx => vec_Vb.2 hv⟩
theorem c_implCross {A B : V3} : Con Try.prog 64 [vec A, vec B] (RetA (vec (crossV A B))) := con_of ⟨_, Try.func64, rfl, by kernel_rfl⟩ fun w vs h => by
  match vs, h with
  | [a, b], h =>
    exact (implCross w (vec_Vb.1 h.1) (vec_Vb.1 h.2.1)).mono fun e w' ⟨v, he, hv, hb⟩ => ⟨v, he, hb, fun wx => vec_Vb.2 hv⟩
theorem c_specCross {A B : V3} : Con Try.prog 63 [vec A, vec B] (RetA (vec (crossV A B))) := con_of ⟨_, Try.func63, rfl, by kernel_rfl⟩ fun w vs h => by
  match vs, h with
  | [a, b], h =>
    exact (specCross w (vec_Vb.1 h.1) (vec_Vb.1 h.2.1)).mono fun e w' ⟨v, he, hv, hb⟩ => ⟨v, he, hb, fun wx => vec_Vb.2 hv⟩
theorem c_implInner {A B : V3} : Con Try.prog 62 [vec A, vec B] (RetA (fl .f32 (innerV A B))) := con_of ⟨_, Try.func62, rfl, by kernel_rfl⟩ fun w vs h => by
  match vs, h with
  | [a, b], h =>
    exact (implInner w (vec_Vb.1 h.1) (vec_Vb.1 h.2.1)).mono fun e w' ⟨v, he, hv, hb⟩ => ⟨_, he, hb, fun wx => ⟨v, rfl, hv⟩⟩
theorem c_specInner {A B : V3} : Con Try.prog 61 [vec A, vec B] (RetA (fl .f32 (innerV A B))) := con_of ⟨_, Try.func61, rfl, by kernel_rfl⟩ fun w vs h => by
  match vs, h with
  | [a, b], h =>
    exact (specInner w (vec_Vb.1 h.1) (vec_Vb.1 h.2.1)).mono fun e w' ⟨v, he, hv, hb⟩ => ⟨_, he, hb, fun wx => ⟨v, rfl, hv⟩⟩
theorem c_implScale {A : V3} {S : Nat} : Con Try.prog 70 [vec A, fl .f32 S] (RetA (vec (scaleV A S))) := con_of ⟨_, Try.func70, rfl, by kernel_rfl⟩ fun w vs h => by
  match vs, h with
  | [a, b], h =>
    obtain ⟨x, rfl, hx⟩ := h.2.1
    exact (implScale w (vec_Vb.1 h.1) hx).mono fun e w' ⟨v, he, hv, hb⟩ => ⟨v, he, hb, fun wx => vec_Vb.2 hv⟩
theorem c_specScale {A : V3} {S : Nat} : Con Try.prog 68 [vec A, fl .f32 S] (RetA (vec (scaleV A S))) := con_of ⟨_, Try.func68, rfl, by kernel_rfl⟩ fun w vs h => by
  match vs, h with
  | [a, b], h =>
    obtain ⟨x, rfl, hx⟩ := h.2.1
    exact (specScale w (vec_Vb.1 h.1) hx).mono fun e w' ⟨v, he, hv, hb⟩ => ⟨v, he, hb, fun wx => vec_Vb.2 hv⟩
theorem c_implLong {A : V3} : Con Try.prog 79 [vec A] (RetA (fl .f32 (longV A))) := con_of ⟨_, Try.func79, rfl, by kernel_rfl⟩ fun w vs h => by
  match vs, h with
  | [a], h =>
    exact (implLong w (vec_Vb.1 h.1)).mono fun e w' ⟨v, he, hv, hb⟩ => ⟨_, he, hb, fun wx => ⟨v, rfl, hv⟩⟩
theorem c_specLong {A : V3} : Con Try.prog 83 [vec A] (RetA (fl .f32 (longV A))) := con_of ⟨_, Try.func83, rfl, by kernel_rfl⟩ fun w vs h => by
  match vs, h with
  | [a], h =>
    exact (specLong w (vec_Vb.1 h.1)).mono fun e w' ⟨v, he, hv, hb⟩ => ⟨_, he, hb, fun wx => ⟨v, rfl, hv⟩⟩
theorem c_implRoot {X : Nat} : Con Try.prog 89 [fl .f32 X] (RetA (fl .f32 (rootF X))) := con_of ⟨_, Try.func89, rfl, by kernel_rfl⟩ fun w vs h => by
  match vs, h with
  | [a], h =>
    obtain ⟨x, rfl, hx⟩ := h.1
    exact (implRoot w hx).mono fun e w' ⟨v, he, hv, hb⟩ => ⟨_, he, hb, fun wx => ⟨v, rfl, hv⟩⟩
theorem c_specSqrt {X : Nat} : Con Try.prog 90 [fl .f32 X] (RetA (fl .f32 (rootF X))) := con_of ⟨_, Try.func90, rfl, by kernel_rfl⟩ fun w vs h => by
  match vs, h with
  | [a], h =>
    obtain ⟨x, rfl, hx⟩ := h.1
    exact (specSqrt w hx).mono fun e w' ⟨v, he, hv, hb⟩ => ⟨_, he, hb, fun wx => ⟨v, rfl, hv⟩⟩
set_option maxRecDepth 100000 in
theorem c_implCube {X : Nat} : Con Try.prog 80 [fl .f32 X] (RetA (fl .f32 (cubeF X))) := by
  refine con_enter Try.func80 rfl (by kernel_rfl) Try.ntmps80 rfl fun w0 => ?_
  (repeat (first | (refine gA ?_; first | refine aops_nil ?_ | (refine gA_gd ?_; first | refine gY ?_ | refine gN ?_ | refine gS ?_) | (refine gA_alloc ?_; refine sA ?_; intro _) | (refine gA_store ?_; first | refine sS ?_ | refine sSr ?_) | (refine gA_box ?_; refine sB ?_; intro _) | (refine gA_move ?_; refine sE_move ?_) | (refine gA_load ?_; refine sE_load ?_) | (refine gA_assign ?_; refine sE_assign ?_) | (refine gA_field ?_; refine sE_field ?_) | (refine gA_bin ?_; refine sE_bin ?_) | (refine gA_index ?_; refine sE_index ?_) | (refine gA_callb ?_; refine sE_callb ?_) | (refine gA_un ?_; refine sE_un ?_) | (refine gA_conv ?_; refine sE_conv ?_) | (refine gA_build ?_; refine sE_build ?_) | (refine gA_ext ?_; refine sE_ext ?_) | (refine gA_slice ?_; refine sE_slice ?_) | (refine gA_nilc ?_; refine sE_nilc ?_) | (refine gA_pick ?_; refine sE_pick ?_) | (refine gA_func ?_; refine sE_func ?_)) | (refine gW ?_; first | refine awp_seq ?_ | refine awp_region ?_ | refine awp_block ?_ | refine awp_skip ?_ | refine awp_ret ?_ | refine awp_exit ?_ | refine awp_label ?_) | (refine gX ?_; first | refine aex_then ?_ | refine aex_normal_block ?_ | refine aex_ret_then ?_ | refine aex_ret_block ?_ | refine aex_exit_then ?_ | refine aex_exit_here ?_ | refine aex_exit_out rfl ?_)))
  exact aex_ret1 rfl (resV_tmp (Opd.tmp rfl)) (by exact rfl)
set_option maxRecDepth 100000 in
theorem c_specCube {X : Nat} : Con Try.prog 84 [fl .f32 X] (RetA (fl .f32 (cubeF X))) := by
  refine con_enter Try.func84 rfl (by kernel_rfl) Try.ntmps84 rfl fun w0 => ?_
  (repeat (first | (refine gA ?_; first | refine aops_nil ?_ | (refine gA_gd ?_; first | refine gY ?_ | refine gN ?_ | refine gS ?_) | (refine gA_alloc ?_; refine sA ?_; intro _) | (refine gA_store ?_; first | refine sS ?_ | refine sSr ?_) | (refine gA_box ?_; refine sB ?_; intro _) | (refine gA_move ?_; refine sE_move ?_) | (refine gA_load ?_; refine sE_load ?_) | (refine gA_assign ?_; refine sE_assign ?_) | (refine gA_field ?_; refine sE_field ?_) | (refine gA_bin ?_; refine sE_bin ?_) | (refine gA_index ?_; refine sE_index ?_) | (refine gA_callb ?_; refine sE_callb ?_) | (refine gA_un ?_; refine sE_un ?_) | (refine gA_conv ?_; refine sE_conv ?_) | (refine gA_build ?_; refine sE_build ?_) | (refine gA_ext ?_; refine sE_ext ?_) | (refine gA_slice ?_; refine sE_slice ?_) | (refine gA_nilc ?_; refine sE_nilc ?_) | (refine gA_pick ?_; refine sE_pick ?_) | (refine gA_func ?_; refine sE_func ?_)) | (refine gW ?_; first | refine awp_seq ?_ | refine awp_region ?_ | refine awp_block ?_ | refine awp_skip ?_ | refine awp_ret ?_ | refine awp_exit ?_ | refine awp_label ?_) | (refine gX ?_; first | refine aex_then ?_ | refine aex_normal_block ?_ | refine aex_ret_then ?_ | refine aex_ret_block ?_ | refine aex_exit_then ?_ | refine aex_exit_here ?_ | refine aex_exit_out rfl ?_)))
  exact aex_ret1 rfl (resV_tmp (Opd.tmp rfl)) (by exact rfl)
end Go.Proofs.Ythnlpbfheefldaa
