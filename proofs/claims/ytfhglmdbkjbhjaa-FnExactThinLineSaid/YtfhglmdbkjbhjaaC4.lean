/-
  The law of some vectors of a line: its walk. Conditions: none.
-/
import Derived.Test.YtfhglmdbkjbhjaaLw
import Derived.Test.YtfhglmdbkjbhjaaTh
import Derived.Test.YtfhglmdbkjbhjaaSu
namespace Go.Proofs.Ytfhglmdbkjbhjaa
open Go Go.RowKit

set_option maxRecDepth 100000 in
set_option maxHeartbeats 2000000 in
theorem k_ThinLine {n : Nat} {F : Nat → V3} {x : Int} (hm : n ≤ maxLen) : Con Try.prog 3 [rs 3 n (vecC F), vv (.int .i64 x)] (RetA (vv (.bool true))) := by
  refine con_enter Try.func3 rfl (by kernel_rfl) Try.ntmps3 rfl fun w0 => ?_
  have hN := thinN_le (F := F) (n := n) (x := x)
  by_cases hn : n ≤ 1048576
  · (repeat (first | (refine gA ?_; first | refine aops_nil ?_ | (refine gA_gd ?_; first | refine gY ?_ | refine gN ?_ | refine gS ?_) | (refine gA_callf ?_; (first | refine sC (c_lawsSzVectorS (n := n) (L := 1048576) hm (by omega) (by omega) (by omega)) ?_ | refine sC (c_lawsEqVectorS (n := thinN F n x) (by omega)) ?_ | refine sC (c_lawsEqVectorS (n := n) hn) ?_ | refine sC (c_lawsHeldVectorS (n := thinN F n x) (K := 1) (by omega) (by omega) (by omega)) ?_ | (refine sCr (c_lawsToVectorS (n := n) hn) ?_; intro _) | (refine sCr (c_specThinLine) ?_; intro _) | (refine sCr (c_implThinLine) ?_; intro _) | refine sM can_markVectorS m_VectorS (flat_vec _ _) ?_)) | (refine gA_alloc ?_; refine sA ?_; intro _) | (refine gA_store ?_; refine sS ?_) | (refine gA_box ?_; refine sB ?_; intro _) | (refine gA_move ?_; refine sE_move ?_) | (refine gA_load ?_; refine sE_load ?_) | (refine gA_assign ?_; refine sE_assign ?_) | (refine gA_field ?_; refine sE_field ?_) | (refine gA_bin ?_; refine sE_bin ?_) | (refine gA_index ?_; refine sE_index ?_) | (refine gA_callb ?_; refine sE_callb ?_) | (refine gA_un ?_; refine sE_un ?_) | (refine gA_conv ?_; refine sE_conv ?_) | (refine gA_build ?_; refine sE_build ?_) | (refine gA_ext ?_; refine sE_ext ?_) | (refine gA_slice ?_; refine sE_slice ?_) | (refine gA_nilc ?_; refine sE_nilc ?_) | (refine gA_pick ?_; refine sE_pick ?_)) | (refine gW ?_; first | refine awp_seq ?_ | refine awp_region ?_ | refine awp_block ?_ | refine awp_skip ?_ | refine awp_ret ?_ | refine awp_exit ?_ | refine awp_label ?_ | refine cF ?_ | refine cT ?_) | (refine gX ?_; first | refine aex_then ?_ | refine aex_normal_block ?_ | refine aex_ret_then ?_ | refine aex_ret_block ?_ | refine aex_exit_then ?_ | refine aex_exit_here ?_ | refine aex_exit_out rfl ?_ | refine aex_nop ?_)))
    exact aex_ret1 rfl (resV_tmp (Opd.tmp rfl)) (by exact rfl)
  · (repeat (first | (refine gA ?_; first | refine aops_nil ?_ | (refine gA_gd ?_; first | refine gY ?_ | refine gN ?_ | refine gS ?_) | (refine gA_callf ?_; refine sC (c_lawsSzVectorS_no (n := n) (L := 1048576) hm (by omega) (by omega) (by omega)) ?_) | (refine gA_alloc ?_; refine sA ?_; intro _) | (refine gA_store ?_; refine sS ?_) | (refine gA_box ?_; refine sB ?_; intro _) | (refine gA_move ?_; refine sE_move ?_) | (refine gA_load ?_; refine sE_load ?_) | (refine gA_assign ?_; refine sE_assign ?_) | (refine gA_field ?_; refine sE_field ?_) | (refine gA_bin ?_; refine sE_bin ?_) | (refine gA_index ?_; refine sE_index ?_) | (refine gA_callb ?_; refine sE_callb ?_) | (refine gA_un ?_; refine sE_un ?_) | (refine gA_conv ?_; refine sE_conv ?_) | (refine gA_build ?_; refine sE_build ?_) | (refine gA_ext ?_; refine sE_ext ?_) | (refine gA_slice ?_; refine sE_slice ?_) | (refine gA_nilc ?_; refine sE_nilc ?_) | (refine gA_pick ?_; refine sE_pick ?_)) | (refine gW ?_; first | refine awp_seq ?_ | refine awp_region ?_ | refine awp_block ?_ | refine awp_skip ?_ | refine awp_ret ?_ | refine awp_exit ?_ | refine awp_label ?_ | refine cF ?_ | refine cT ?_) | (refine gX ?_; first | refine aex_then ?_ | refine aex_normal_block ?_ | refine aex_ret_then ?_ | refine aex_ret_block ?_ | refine aex_exit_then ?_ | refine aex_exit_here ?_ | refine aex_exit_out rfl ?_ | refine aex_nop ?_)))
    exact aex_ret1 rfl (resV_tmp (Opd.tmp rfl)) (by exact rfl)
end Go.Proofs.Ytfhglmdbkjbhjaa
