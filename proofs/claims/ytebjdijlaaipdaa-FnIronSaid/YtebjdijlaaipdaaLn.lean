/-
  Numbers within bounds, finite numbers, lengths of lines, on both sides: contracts. Conditions: none.
-/
import Derived.Test.YtebjdijlaaipdaaCon
import Derived.Test.YtebjdijlaaipdaaBr
import Derived.Test.YtebjdijlaaipdaaSu
namespace Go.Proofs.Ytebjdijlaaipdaa
open Go Go.RowKit

def finB (X : Nat) : Bool := cmpB .eql .f32 (fop .sub .f32 X X) 0
def inB (x l h : Int) : Bool := decide (x ≥ l) && decide (x ≤ h)
def numV (X : Nat) : Nat := if finB X = true then X else 0

set_option maxRecDepth 100000 in
set_option maxHeartbeats 2000000 in
theorem c_implIsFinite {X : Nat} : Con Try.prog 30 [fl .f32 X] (RetA (vv (.bool (finB X)))) := by
  refine con_enter Try.func30 rfl (by kernel_rfl) Try.ntmps30 rfl fun w0 => ?_
  (repeat (first | (refine gA ?_; first | refine aops_nil ?_ | (refine gA_gd ?_; first | refine gY ?_ | refine gN ?_ | refine gS ?_) | (refine gA_alloc ?_; refine sA ?_; intro _) | (refine gA_store ?_; first | refine sS ?_ | refine sSr ?_) | (refine gA_box ?_; refine sB ?_; intro _) | (refine gA_move ?_; refine sE_move ?_) | (refine gA_load ?_; refine sE_load ?_) | (refine gA_assign ?_; refine sE_assign ?_) | (refine gA_field ?_; refine sE_field ?_) | (refine gA_bin ?_; refine sE_bin ?_) | (refine gA_index ?_; refine sE_index ?_) | (refine gA_callb ?_; refine sE_callb ?_) | (refine gA_un ?_; refine sE_un ?_) | (refine gA_conv ?_; refine sE_conv ?_) | (refine gA_build ?_; refine sE_build ?_) | (refine gA_ext ?_; refine sE_ext ?_) | (refine gA_slice ?_; refine sE_slice ?_) | (refine gA_nilc ?_; refine sE_nilc ?_) | (refine gA_pick ?_; refine sE_pick ?_) | (refine gA_func ?_; refine sE_func ?_)) | (refine gW ?_; first | refine awp_seq ?_ | refine awp_region ?_ | refine awp_block ?_ | refine awp_skip ?_ | refine awp_ret ?_ | refine awp_exit ?_ | refine awp_label ?_) | (refine gX ?_; first | refine aex_then ?_ | refine aex_normal_block ?_ | refine aex_ret_then ?_ | refine aex_ret_block ?_ | refine aex_exit_then ?_ | refine aex_exit_here ?_ | refine aex_exit_out rfl ?_ | refine aex_nop ?_)))
  exact aex_ret1 rfl (resV_tmp (Opd.tmp rfl)) (by exact rfl)
def lenV (F : Nat → V3) : Nat → Nat
  | 0 => 0
  | k + 1 => fop .add .f32 (lenV F k) (longV (lessV (F (k + 1)) (F k)))
def lineLenV (F : Nat → V3) (n : Nat) : Nat := if inB n 1 64 = true then numV (lenV F (n - 1)) else 0
def lineLenB (F : Nat → V3) (n : Nat) : Bool := if inB n 1 64 = true then finB (lenV F (n - 1)) else false
end Go.Proofs.Ytebjdijlaaipdaa
