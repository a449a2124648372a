/-
  The law of WireCouplings: its walk. Conditions: none.
-/
import Derived.Test.YtokhbfbanofchaaPi
import Derived.Test.YtokhbfbanofchaaWn
import Derived.Test.YtokhbfbanofchaaSu
import Derived.Test.YtokhbfbanofchaaAq
namespace Go.Proofs.Ytokhbfbanofchaa
open Go Go.RowKit

theorem copN_le {W : Nat → WI} {T n : Nat} {p : Int} : copN W T n p ≤ 64 := by
  unfold copN
  split
  · rename_i h
    unfold copOk copA at h
    rw [Bool.and_eq_true, Bool.and_eq_true] at h
    exact sq_le (okWs_len h.1.1).1
  · omega
set_option maxRecDepth 100000 in
set_option maxHeartbeats 2000000 in
theorem k_WireCouplings {n : Nat} {W : Nat → WI} {T : Nat} {p : Int} (hnm : n ≤ maxLen ∧ ∀ k, k < n → (W k).m ≤ maxLen) : Con Try.prog 10 [rs 3 n (wireC W), fl .f32 T, vv (.int .i64 p)] (RetA (vv (.bool true))) := by
  refine con_enter Try.func10 rfl (by kernel_rfl) Try.ntmps10 rfl fun w0 => ?_
  obtain ⟨hn, hm⟩ := hnm
  have hN := copN_le (W := W) (T := T) (n := n) (p := p)
  by_cases hL : n + sumM W n ≤ 1048576
  · have hn2 : n ≤ 1048576 := by omega
    have hm2 : ∀ k, k < n → (W k).m ≤ 1048576 := fun k hk => by have := sumM_at (W := W) hk; omega
    have hq := bne_self_eq_false (copOk W T n p)
    (repeat (first | (refine gA ?_; first | refine aops_nil ?_ | (refine gA_gd ?_; first | refine gY ?_ | refine gN ?_ | refine gS ?_) | (refine gA_callf ?_; (first | refine sC (c_lawsSzWireS (W := W) (L := 1048576) hn hm (by omega) (by omega) (by omega)) ?_ | refine sC (c_lawsEqFloat32S (n := copN W T n p) (by omega)) ?_ | refine sC (c_lawsHeldFloat32S (n := copN W T n p) (K := 1) (by omega) (by omega) (by omega)) ?_ | refine sC (c_lawsEqWireS hn2 hm2) ?_ | (refine sCd (c_deepWireS (W := W) hn2 hm2) ?_; intro _ _ _ _ _ _) | (refine sCr (c_specCouplings hn hm) ?_; intro _) | (refine sCr (c_implCouplings hn hm) ?_; intro _) | refine sMw (c_lawsMarkWireS) ?_ | refine sMk (c_lawsMarkFloat32S) ?_)) | (refine gA_alloc ?_; refine sA ?_; intro _) | (refine gA_store ?_; first | refine sS ?_ | refine sSr ?_) | (refine gA_box ?_; refine sB ?_; intro _) | (refine gA_move ?_; refine sE_move ?_) | (refine gA_load ?_; refine sE_load ?_) | (refine gA_assign ?_; refine sE_assign ?_) | (refine gA_field ?_; refine sE_field ?_) | (refine gA_bin ?_; refine sE_bin ?_) | (refine gA_index ?_; refine sE_index ?_) | (refine gA_callb ?_; refine sE_callb ?_) | (refine gA_un ?_; refine sE_un ?_) | (refine gA_conv ?_; refine sE_conv ?_) | (refine gA_build ?_; refine sE_build ?_) | (refine gA_ext ?_; refine sE_ext ?_) | (refine gA_slice ?_; refine sE_slice ?_) | (refine gA_nilc ?_; refine sE_nilc ?_) | (refine gA_pick ?_; refine sE_pick ?_) | (refine gA_func ?_; refine sE_func ?_)) | (refine gW ?_; first | refine awp_seq ?_ | refine awp_region ?_ | refine awp_block ?_ | refine awp_skip ?_ | refine awp_ret ?_ | refine awp_exit ?_ | refine awp_label ?_ | refine cF ?_ | refine cT ?_) | (refine gX ?_; first | refine aex_then ?_ | refine aex_normal_block ?_ | refine aex_ret_then ?_ | refine aex_ret_block ?_ | refine aex_exit_then ?_ | refine aex_exit_here ?_ | refine aex_exit_out rfl ?_ | refine aex_nop ?_)))
    exact aex_ret1 rfl (resV_tmp (Opd.tmp rfl)) (by exact rfl)
  · (repeat (first | (refine gA ?_; first | refine aops_nil ?_ | (refine gA_gd ?_; first | refine gY ?_ | refine gN ?_ | refine gS ?_) | (refine gA_callf ?_; refine sC (c_lawsSzWireS_no (W := W) (L := 1048576) hn hm (by omega) (by omega) (by omega)) ?_) | (refine gA_alloc ?_; refine sA ?_; intro _) | (refine gA_store ?_; first | refine sS ?_ | refine sSr ?_) | (refine gA_box ?_; refine sB ?_; intro _) | (refine gA_move ?_; refine sE_move ?_) | (refine gA_load ?_; refine sE_load ?_) | (refine gA_assign ?_; refine sE_assign ?_) | (refine gA_field ?_; refine sE_field ?_) | (refine gA_bin ?_; refine sE_bin ?_) | (refine gA_index ?_; refine sE_index ?_) | (refine gA_callb ?_; refine sE_callb ?_) | (refine gA_un ?_; refine sE_un ?_) | (refine gA_conv ?_; refine sE_conv ?_) | (refine gA_build ?_; refine sE_build ?_) | (refine gA_ext ?_; refine sE_ext ?_) | (refine gA_slice ?_; refine sE_slice ?_) | (refine gA_nilc ?_; refine sE_nilc ?_) | (refine gA_pick ?_; refine sE_pick ?_) | (refine gA_func ?_; refine sE_func ?_)) | (refine gW ?_; first | refine awp_seq ?_ | refine awp_region ?_ | refine awp_block ?_ | refine awp_skip ?_ | refine awp_ret ?_ | refine awp_exit ?_ | refine awp_label ?_ | refine cF ?_ | refine cT ?_) | (refine gX ?_; first | refine aex_then ?_ | refine aex_normal_block ?_ | refine aex_ret_then ?_ | refine aex_ret_block ?_ | refine aex_exit_then ?_ | refine aex_exit_here ?_ | refine aex_exit_out rfl ?_ | refine aex_nop ?_)))
    exact aex_ret1 rfl (resV_tmp (Opd.tmp rfl)) (by exact rfl)
end Go.Proofs.Ytokhbfbanofchaa
