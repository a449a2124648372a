/-
  Contracts of the vector functions, in the abstract form. Conditions: none.
-/
import Derived.Test.YtejpamlaacffaaaVecB
import Derived.Test.YtejpamlaacffaaaBr
namespace Go.Proofs.Ytejpamlaacffaaa
open Go Go.RowKit

theorem c_implAdd {A B : V3} : Con Try.prog 43 [vec A, vec B] (RetA (vec (addV A B))) := con_of ⟨_, Try.func43, rfl, by kernel_rfl⟩ fun w vs h => by
  match vs, h with
  | [a, b], h =>
    exact (implAdd w (vec_Vb.1 h.1) (vec_Vb.1 h.2.1)).mono fun e w' ⟨v, he, hv, hb⟩ => ⟨v, he, hb, fun wx => vec_Vb.2 hv⟩
theorem c_specAdd {A B : V3} : Con Try.prog 41 [vec A, vec B] (RetA (vec (addV A B))) := con_of ⟨_, Try.func41, rfl, by kernel_rfl⟩ fun w vs h => by
  match vs, h with
  | [a, b], h =>
    exact (specAdd w (vec_Vb.1 h.1) (vec_Vb.1 h.2.1)).mono fun e w' ⟨v, he, hv, hb⟩ => ⟨v, he, hb, fun wx => vec_Vb.2 hv⟩
theorem c_implLess {A B : V3} : Con Try.prog 48 [vec A, vec B] (RetA (vec (lessV A B))) := con_of ⟨_, Try.func48, rfl, by kernel_rfl⟩ fun w vs h => by
  match vs, h with
  | [a, b], h =>
    exact (implLess w (vec_Vb.1 h.1) (vec_Vb.1 h.2.1)).mono fun e w' ⟨v, he, hv, hb⟩ => ⟨v, he, hb, fun wx => vec_Vb.2 hv⟩
theorem c_specLess {A B : V3} : Con Try.prog 47 [vec A, vec B] (RetA (vec (lessV A B))) := con_of ⟨_, Try.func47, rfl, by kernel_rfl⟩ fun w vs h => by
  match vs, h with
  | [a, b], h =>
    exact (specLess w (vec_Vb.1 h.1) (vec_Vb.1 h.2.1)).mono fun e w' ⟨v, he, hv, hb⟩ => ⟨v, he, hb, fun wx => vec_Vb.2 hv⟩
theorem c_implScale {A : V3} {S : Nat} : Con Try.prog 44 [vec A, fl .f32 S] (RetA (vec (scaleV A S))) := con_of ⟨_, Try.func44, rfl, by kernel_rfl⟩ fun w vs h => by
  match vs, h with
  | [a, b], h =>
    obtain ⟨x, rfl, hx⟩ := h.2.1
    exact (implScale w (vec_Vb.1 h.1) hx).mono fun e w' ⟨v, he, hv, hb⟩ => ⟨v, he, hb, fun wx => vec_Vb.2 hv⟩
theorem c_implLong {A : V3} : Con Try.prog 49 [vec A] (RetA (fl .f32 (longV A))) := con_of ⟨_, Try.func49, rfl, by kernel_rfl⟩ fun w vs h => by
  match vs, h with
  | [a], h =>
    exact (implLong w (vec_Vb.1 h.1)).mono fun e w' ⟨v, he, hv, hb⟩ => ⟨_, he, hb, fun wx => ⟨v, rfl, hv⟩⟩
theorem c_specLong {A : V3} : Con Try.prog 46 [vec A] (RetA (fl .f32 (longV A))) := con_of ⟨_, Try.func46, rfl, by kernel_rfl⟩ fun w vs h => by
  match vs, h with
  | [a], h =>
    exact (specLong w (vec_Vb.1 h.1)).mono fun e w' ⟨v, he, hv, hb⟩ => ⟨_, he, hb, fun wx => ⟨v, rfl, hv⟩⟩
set_option maxRecDepth 100000 in
theorem c_implCube {X : Nat} : Con Try.prog 51 [fl .f32 X] (RetA (fl .f32 (cubeF X))) := by
  refine con_enter Try.func51 rfl (by kernel_rfl) Try.ntmps51 rfl fun w0 => ?_
  (repeat (first | (refine gA ?_; first | refine aops_nil ?_ | (refine gA_gd ?_; first | refine gY ?_ | refine gN ?_ | refine gS ?_) | (refine gA_alloc ?_; refine sA ?_; intro _) | (refine gA_store ?_; first | refine sS ?_ | refine sSr ?_) | (refine gA_box ?_; refine sB ?_; intro _) | (refine gA_move ?_; refine sE_move ?_) | (refine gA_load ?_; refine sE_load ?_) | (refine gA_assign ?_; refine sE_assign ?_) | (refine gA_field ?_; refine sE_field ?_) | (refine gA_bin ?_; refine sE_bin ?_) | (refine gA_index ?_; refine sE_index ?_) | (refine gA_callb ?_; refine sE_callb ?_) | (refine gA_un ?_; refine sE_un ?_) | (refine gA_conv ?_; refine sE_conv ?_) | (refine gA_build ?_; refine sE_build ?_) | (refine gA_ext ?_; refine sE_ext ?_) | (refine gA_slice ?_; refine sE_slice ?_) | (refine gA_nilc ?_; refine sE_nilc ?_) | (refine gA_pick ?_; refine sE_pick ?_) | (refine gA_func ?_; refine sE_func ?_)) | (refine gW ?_; first | refine awp_seq ?_ | refine awp_region ?_ | refine awp_block ?_ | refine awp_skip ?_ | refine awp_ret ?_ | refine awp_exit ?_ | refine awp_label ?_) | (refine gX ?_; first | refine aex_then ?_ | refine aex_normal_block ?_ | refine aex_ret_then ?_ | refine aex_ret_block ?_ | refine aex_exit_then ?_ | refine aex_exit_here ?_ | refine aex_exit_out rfl ?_)))
  exact aex_ret1 rfl (resV_tmp (Opd.tmp rfl)) (by exact rfl)
end Go.Proofs.Ytejpamlaacffaaa
