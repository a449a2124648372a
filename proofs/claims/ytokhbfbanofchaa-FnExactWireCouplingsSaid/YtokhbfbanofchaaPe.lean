/-
  What wires do to a wire, on both sides: contracts. Conditions: none.
-/
import Derived.Test.YtokhbfbanofchaaPb
import Derived.Test.YtokhbfbanofchaaPd
import Derived.Test.YtokhbfbanofchaaSu
import Derived.Test.YtokhbfbanofchaaAq
namespace Go.Proofs.Ytokhbfbanofchaa
open Go Go.RowKit

set_option maxRecDepth 100000 in
set_option maxHeartbeats 2000000 in
theorem c_implAreParts {p : Int} : Con Try.prog 82 [vv (.int .i64 p)] (RetA (vv (.bool (inB p 1 8)))) := by
  refine con_enter Try.func82 rfl (by kernel_rfl) Try.ntmps82 rfl fun w0 => ?_
  (repeat (first | (refine gA ?_; first | refine aops_nil ?_ | (refine gA_gd ?_; first | refine gY ?_ | refine gN ?_ | refine gS ?_) | (refine gA_callf ?_; refine sC (c_implWithin) ?_) | (refine gA_alloc ?_; refine sA ?_; intro _) | (refine gA_store ?_; first | refine sS ?_ | refine sSr ?_) | (refine gA_box ?_; refine sB ?_; intro _) | (refine gA_move ?_; refine sE_move ?_) | (refine gA_load ?_; refine sE_load ?_) | (refine gA_assign ?_; refine sE_assign ?_) | (refine gA_field ?_; refine sE_field ?_) | (refine gA_bin ?_; refine sE_bin ?_) | (refine gA_index ?_; refine sE_index ?_) | (refine gA_callb ?_; refine sE_callb ?_) | (refine gA_un ?_; refine sE_un ?_) | (refine gA_conv ?_; refine sE_conv ?_) | (refine gA_build ?_; refine sE_build ?_) | (refine gA_ext ?_; refine sE_ext ?_) | (refine gA_slice ?_; refine sE_slice ?_) | (refine gA_nilc ?_; refine sE_nilc ?_) | (refine gA_pick ?_; refine sE_pick ?_) | (refine gA_func ?_; refine sE_func ?_)) | (refine gW ?_; first | refine awp_seq ?_ | refine awp_region ?_ | refine awp_block ?_ | refine awp_skip ?_ | refine awp_ret ?_ | refine awp_exit ?_ | refine awp_label ?_) | (refine gX ?_; first | refine aex_then ?_ | refine aex_normal_block ?_ | refine aex_ret_then ?_ | refine aex_ret_block ?_ | refine aex_exit_then ?_ | refine aex_exit_here ?_ | refine aex_exit_out rfl ?_ | refine aex_nop ?_)))
  exact aex_ret1 rfl (resV_tmp (Opd.tmp rfl)) (by exact rfl)
set_option maxRecDepth 100000 in
set_option maxHeartbeats 2000000 in
theorem c_specAreParts {p : Int} : Con Try.prog 74 [vv (.int .i64 p)] (RetA (vv (.bool (inB p 1 8)))) := by
  refine con_enter Try.func74 rfl (by kernel_rfl) Try.ntmps74 rfl fun w0 => ?_
  (repeat (first | (refine gA ?_; first | refine aops_nil ?_ | (refine gA_gd ?_; first | refine gY ?_ | refine gN ?_ | refine gS ?_) | (refine gA_callf ?_; refine sC (c_specIn) ?_) | (refine gA_alloc ?_; refine sA ?_; intro _) | (refine gA_store ?_; first | refine sS ?_ | refine sSr ?_) | (refine gA_box ?_; refine sB ?_; intro _) | (refine gA_move ?_; refine sE_move ?_) | (refine gA_load ?_; refine sE_load ?_) | (refine gA_assign ?_; refine sE_assign ?_) | (refine gA_field ?_; refine sE_field ?_) | (refine gA_bin ?_; refine sE_bin ?_) | (refine gA_index ?_; refine sE_index ?_) | (refine gA_callb ?_; refine sE_callb ?_) | (refine gA_un ?_; refine sE_un ?_) | (refine gA_conv ?_; refine sE_conv ?_) | (refine gA_build ?_; refine sE_build ?_) | (refine gA_ext ?_; refine sE_ext ?_) | (refine gA_slice ?_; refine sE_slice ?_) | (refine gA_nilc ?_; refine sE_nilc ?_) | (refine gA_pick ?_; refine sE_pick ?_) | (refine gA_func ?_; refine sE_func ?_)) | (refine gW ?_; first | refine awp_seq ?_ | refine awp_region ?_ | refine awp_block ?_ | refine awp_skip ?_ | refine awp_ret ?_ | refine awp_exit ?_ | refine awp_label ?_) | (refine gX ?_; first | refine aex_then ?_ | refine aex_normal_block ?_ | refine aex_ret_then ?_ | refine aex_ret_block ?_ | refine aex_exit_then ?_ | refine aex_exit_here ?_ | refine aex_exit_out rfl ?_ | refine aex_nop ?_)))
  exact aex_ret1 rfl (resV_tmp (Opd.tmp rfl)) (by exact rfl)
def sumN (g : Nat → V3) : Nat → V3
  | 0 => ⟨0, 0, 0⟩
  | k + 1 => addV (sumN g k) (g k)
def forceG (W : Nat → WI) (n : Nat) (V : WI) (p r : Nat) : V3 := crossV (wayP V p r) (allF W (midP V p r) n)
def torqueG (W : Nat → WI) (n : Nat) (V : WI) (D : V3) (p r : Nat) : V3 := crossV (lessV (midP V p r) D) (scaleV (crossV (wayP V p r) (allF W (midP V p r) n)) V.X)
def forceV (W : Nat → WI) (n : Nat) (V : WI) (p : Int) : V3 := scaleV (sumN (forceG W n V p.toNat) (cntW V.m V.c * p.toNat)) V.X
def torqueV (W : Nat → WI) (n : Nat) (V : WI) (D : V3) (p : Int) : V3 := sumN (torqueG W n V D p.toNat) (cntW V.m V.c * p.toNat)
def onB (W : Nat → WI) (n : Nat) (V : WI) (p : Int) : Bool := okWs W n && (okW V && inB p 1 8)
def onB2 (W : Nat → WI) (n : Nat) (V : WI) (D : V3) (p : Int) : Bool := okWs W n && (okW V && (finV D && inB p 1 8))
theorem inB_nat {p : Int} (h : inB p 1 8 = true) : ∃ q : Nat, p = (q : Int) ∧ 1 ≤ q ∧ q ≤ 8 := by
  unfold inB at h
  rw [Bool.and_eq_true] at h
  have h1 := of_decide_eq_true h.1
  have h2 := of_decide_eq_true h.2
  exact ⟨p.toNat, by omega, by omega, by omega⟩
end Go.Proofs.Ytokhbfbanofchaa
