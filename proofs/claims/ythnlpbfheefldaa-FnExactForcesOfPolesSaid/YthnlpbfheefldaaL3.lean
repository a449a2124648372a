/-
  The law of the forces of poles: its walk. Conditions: none.
-/
import Derived.Test.YthnlpbfheefldaaLw
import Derived.Test.YthnlpbfheefldaaFo
namespace Go.Proofs.Ythnlpbfheefldaa
open Go Go.RowKit

theorem forcesN_le (n : Nat) : forcesN n ≤ 24 := by unfold forcesN; split <;> omega
set_option maxRecDepth 100000 in
set_option maxHeartbeats 2000000 in
theorem k_ForcesOfPoles {n : Nat} {F : Nat → P4} (hm : n ≤ maxLen) : Con Try.prog 15 [rs 4 n (poleC F)] (RetA (vv (.bool true))) := by
  refine con_enter Try.func15 rfl (by kernel_rfl) Try.ntmps15 rfl fun w0 => ?_
  have hN := forcesN_le n
  by_cases hn : n ≤ 1048576
  · (repeat (first | (refine gA ?_; first | refine aops_nil ?_ | (refine gA_gd ?_; first | refine gY ?_ | refine gN ?_ | refine gS ?_) | (refine gA_callf ?_; (first | refine sC (c_lawsSzPoleS (n := n) (L := 1048576) hm (by omega) (by omega) (by omega)) ?_ | refine sC (c_lawsEqVectorS (n := forcesN n) (by omega)) ?_ | refine sC (c_lawsEqPoleS (n := n) hn) ?_ | refine sC (c_lawsHeldVectorS (n := forcesN n) (K := 1) (by omega) (by omega) (by omega)) ?_ | (refine sCr (c_lawsToPoleS (n := n) hn) ?_; intro _) | (refine sCr (c_specForcesOfPoles) ?_; intro _) | (refine sCr (c_implForcesOfPoles) ?_; intro _) | refine sM can_markPoleS m_PoleS (flat_pole _ _) ?_ | refine sM can_markVectorS m_VectorS (flat_vec _ _) ?_)) | (refine gA_alloc ?_; refine sA ?_; intro _) | (refine gA_store ?_; refine sS ?_) | (refine gA_box ?_; refine sB ?_; intro _) | (refine gA_move ?_; refine sE_move ?_) | (refine gA_load ?_; refine sE_load ?_) | (refine gA_assign ?_; refine sE_assign ?_) | (refine gA_field ?_; refine sE_field ?_) | (refine gA_bin ?_; refine sE_bin ?_) | (refine gA_index ?_; refine sE_index ?_) | (refine gA_callb ?_; refine sE_callb ?_) | (refine gA_un ?_; refine sE_un ?_) | (refine gA_conv ?_; refine sE_conv ?_) | (refine gA_build ?_; refine sE_build ?_) | (refine gA_ext ?_; refine sE_ext ?_) | (refine gA_slice ?_; refine sE_slice ?_) | (refine gA_nilc ?_; refine sE_nilc ?_) | (refine gA_pick ?_; refine sE_pick ?_)) | (refine gW ?_; first | refine awp_seq ?_ | refine awp_region ?_ | refine awp_block ?_ | refine awp_skip ?_ | refine awp_ret ?_ | refine awp_exit ?_ | refine awp_label ?_ | refine cF ?_ | refine cT ?_) | (refine gX ?_; first | refine aex_then ?_ | refine aex_normal_block ?_ | refine aex_ret_then ?_ | refine aex_ret_block ?_ | refine aex_exit_then ?_ | refine aex_exit_here ?_ | refine aex_exit_out rfl ?_)))
    exact aex_ret1 rfl (resV_tmp (Opd.tmp rfl)) (by exact rfl)
  · (repeat (first | (refine gA ?_; first | refine aops_nil ?_ | (refine gA_gd ?_; first | refine gY ?_ | refine gN ?_ | refine gS ?_) | (refine gA_callf ?_; refine sC (c_lawsSzPoleS_no (n := n) (L := 1048576) hm (by omega) (by omega) (by omega)) ?_) | (refine gA_alloc ?_; refine sA ?_; intro _) | (refine gA_store ?_; refine sS ?_) | (refine gA_box ?_; refine sB ?_; intro _) | (refine gA_move ?_; refine sE_move ?_) | (refine gA_load ?_; refine sE_load ?_) | (refine gA_assign ?_; refine sE_assign ?_) | (refine gA_field ?_; refine sE_field ?_) | (refine gA_bin ?_; refine sE_bin ?_) | (refine gA_index ?_; refine sE_index ?_) | (refine gA_callb ?_; refine sE_callb ?_) | (refine gA_un ?_; refine sE_un ?_) | (refine gA_conv ?_; refine sE_conv ?_) | (refine gA_build ?_; refine sE_build ?_) | (refine gA_ext ?_; refine sE_ext ?_) | (refine gA_slice ?_; refine sE_slice ?_) | (refine gA_nilc ?_; refine sE_nilc ?_) | (refine gA_pick ?_; refine sE_pick ?_)) | (refine gW ?_; first | refine awp_seq ?_ | refine awp_region ?_ | refine awp_block ?_ | refine awp_skip ?_ | refine awp_ret ?_ | refine awp_exit ?_ | refine awp_label ?_ | refine cF ?_ | refine cT ?_) | (refine gX ?_; first | refine aex_then ?_ | refine aex_normal_block ?_ | refine aex_ret_then ?_ | refine aex_ret_block ?_ | refine aex_exit_then ?_ | refine aex_exit_here ?_ | refine aex_exit_out rfl ?_)))
    exact aex_ret1 rfl (resV_tmp (Opd.tmp rfl)) (by exact rfl)
end Go.Proofs.Ythnlpbfheefldaa
