/-
  Fields of wires, on both sides: contracts. Conditions: none.
-/
import Derived.Test.YtokhbfbanofchaaSg
import Derived.Test.YtokhbfbanofchaaSh
import Derived.Test.YtokhbfbanofchaaSu
namespace Go.Proofs.Ytokhbfbanofchaa
open Go Go.RowKit

def sumS (m : Nat) (F : Nat → V3) (t : V3) : Nat → V3
  | 0 => ⟨0, 0, 0⟩
  | k + 1 => addV (sumS m F t k) (segF (F k) (F (nxt m k)) t)
def fieldW (W : WI) (t : V3) : V3 := scaleV (sumS W.m W.F t (cntW W.m W.c)) W.X
set_option maxRecDepth 100000 in
set_option maxHeartbeats 2000000 in
theorem c_specCount {m : Nat} {F : Nat → V3} {b : Bool} {X : Nat} (h2 : 2 ≤ m ∧ m ≤ 48) : Con Try.prog 105 [rp [rs 3 m (vecC F), vv (.bool b), fl .f32 X] 0] (RetA (vv (.int .i64 (cntW m b : Int)))) := by
  refine con_enter Try.func105 rfl (by kernel_rfl) Try.ntmps105 rfl fun w0 => ?_
  cases b
  · rw [show ((cntW m false : Nat) : Int) = (m : Int) - 1 by show ((m - 1 : Nat) : Int) = _; omega]
    (repeat (first | (refine gA ?_; first | refine aops_nil ?_ | (refine gA_gd ?_; first | refine gY ?_ | refine gN ?_ | refine gS ?_) | (refine gA_alloc ?_; refine sA ?_; intro _) | (refine gA_store ?_; first | refine sS ?_ | refine sSr ?_) | (refine gA_box ?_; refine sB ?_; intro _) | (refine gA_move ?_; refine sE_move ?_) | (refine gA_load ?_; refine sE_load ?_) | (refine gA_assign ?_; refine sE_assign ?_) | (refine gA_field ?_; refine sE_field ?_) | (refine gA_bin ?_; refine sE_bin ?_) | (refine gA_index ?_; refine sE_index ?_) | (refine gA_callb ?_; refine sE_callb ?_) | (refine gA_un ?_; refine sE_un ?_) | (refine gA_conv ?_; refine sE_conv ?_) | (refine gA_build ?_; refine sE_build ?_) | (refine gA_ext ?_; refine sE_ext ?_) | (refine gA_slice ?_; refine sE_slice ?_) | (refine gA_nilc ?_; refine sE_nilc ?_) | (refine gA_pick ?_; refine sE_pick ?_) | (refine gA_func ?_; refine sE_func ?_)) | (refine gW ?_; first | refine awp_seq ?_ | refine awp_region ?_ | refine awp_block ?_ | refine awp_skip ?_ | refine awp_ret ?_ | refine awp_exit ?_ | refine awp_label ?_ | refine cF ?_ | refine cT ?_) | (refine gX ?_; first | refine aex_then ?_ | refine aex_normal_block ?_ | refine aex_ret_then ?_ | refine aex_ret_block ?_ | refine aex_exit_then ?_ | refine aex_exit_here ?_ | refine aex_exit_out rfl ?_ | refine aex_nop ?_)))
    exact aex_ret1 rfl (resV_tmp (Opd.tmp rfl)) (by exact rfl)
  · rw [show cntW m true = m from rfl]
    (repeat (first | (refine gA ?_; first | refine aops_nil ?_ | (refine gA_gd ?_; first | refine gY ?_ | refine gN ?_ | refine gS ?_) | (refine gA_alloc ?_; refine sA ?_; intro _) | (refine gA_store ?_; first | refine sS ?_ | refine sSr ?_) | (refine gA_box ?_; refine sB ?_; intro _) | (refine gA_move ?_; refine sE_move ?_) | (refine gA_load ?_; refine sE_load ?_) | (refine gA_assign ?_; refine sE_assign ?_) | (refine gA_field ?_; refine sE_field ?_) | (refine gA_bin ?_; refine sE_bin ?_) | (refine gA_index ?_; refine sE_index ?_) | (refine gA_callb ?_; refine sE_callb ?_) | (refine gA_un ?_; refine sE_un ?_) | (refine gA_conv ?_; refine sE_conv ?_) | (refine gA_build ?_; refine sE_build ?_) | (refine gA_ext ?_; refine sE_ext ?_) | (refine gA_slice ?_; refine sE_slice ?_) | (refine gA_nilc ?_; refine sE_nilc ?_) | (refine gA_pick ?_; refine sE_pick ?_) | (refine gA_func ?_; refine sE_func ?_)) | (refine gW ?_; first | refine awp_seq ?_ | refine awp_region ?_ | refine awp_block ?_ | refine awp_skip ?_ | refine awp_ret ?_ | refine awp_exit ?_ | refine awp_label ?_ | refine cF ?_ | refine cT ?_) | (refine gX ?_; first | refine aex_then ?_ | refine aex_normal_block ?_ | refine aex_ret_then ?_ | refine aex_ret_block ?_ | refine aex_exit_then ?_ | refine aex_exit_here ?_ | refine aex_exit_out rfl ?_ | refine aex_nop ?_)))
    exact aex_ret1 rfl (resV_tmp (Opd.tmp rfl)) (by exact rfl)
theorem nxt_rem {m k : Nat} (hk : k < m) : ((k : Int) + 1).tmod (m : Int) = (nxt m k : Int) := by
  rw [Int.tmod_eq_emod_of_nonneg (by omega)]
  unfold nxt
  split
  · rename_i h
    subst h
    rw [show ((k : Int) + 1) = ((k + 1 : Nat) : Int) by omega, Int.emod_self]
    rfl
  · rw [Int.emod_eq_of_lt (by omega) (by omega)]
    omega
theorem ev_as2 {P : Program} {s : AS} {o : Oper} {A B : AV} (h : Ev P s o A) (e : A = B) : Ev P s o B := e ▸ h
end Go.Proofs.Ytokhbfbanofchaa
