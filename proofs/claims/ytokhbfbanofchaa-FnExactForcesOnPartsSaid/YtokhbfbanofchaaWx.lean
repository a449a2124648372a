/-
  Energies and torques of moments in fields of wires, on both sides: contracts. Conditions: none.
-/
import Derived.Test.YtokhbfbanofchaaWv
import Derived.Test.YtokhbfbanofchaaFn
import Derived.Test.YtokhbfbanofchaaSu
import Derived.Test.YtokhbfbanofchaaAq
namespace Go.Proofs.Ytokhbfbanofchaa
open Go Go.RowKit

theorem okW_len {W : WI} (h : okW W = true) : 2 ≤ W.m ∧ W.m ≤ 48 := by
  unfold okW at h
  rw [Bool.and_eq_true, Bool.and_eq_true, Bool.and_eq_true] at h
  have h1 := of_decide_eq_true h.1.1.1
  have h2 := of_decide_eq_true h.1.1.2
  omega
theorem okWs_len {n : Nat} {W : Nat → WI} (h : okWs W n = true) : n ≤ 8 ∧ ∀ k, k < n → 2 ≤ (W k).m ∧ (W k).m ≤ 48 := by
  unfold okWs at h
  rw [Bool.and_eq_true] at h
  refine ⟨by have := of_decide_eq_true h.1; omega, fun k hk => okW_len ?_⟩
  have h2 : anyB (fun k => !okW (W k)) n = false := by simpa using h.2
  have := any_false h2 k hk
  simpa using this
/-- A number that is given back if it is finite and the arguments are valid. -/
def outX (b : Bool) (X : Nat) : Nat := if (b && finB X) = true then X else 0
def outV (b : Bool) (A : V3) : V3 := if (b && finV A) = true then A else ⟨0, 0, 0⟩
theorem outV_no {b : Bool} {A : V3} (h : (b && finV A) = false) : outV b A = ⟨0, 0, 0⟩ := if_neg (by rw [h]; simp)
theorem outV_yes {b : Bool} {A : V3} (h : (b && finV A) = true) : outV b A = A := if_pos h
/-- What both sides give for a number, a vector. -/
def giveX (b : Bool) (X : Nat) : AV := tup [fl .f32 (outX b X), vv (.bool (b && finB X))]
def giveV (b : Bool) (A : V3) : AV := tup [vec (outV b A), vv (.bool (b && finV A))]
theorem giveV_no {b : Bool} {A : V3} (h : (b && finV A) = false) : giveV b A = tup [vec ⟨0, 0, 0⟩, vv (.bool false)] := by unfold giveV; rw [outV_no h, h]
theorem giveV_yes {b : Bool} {A : V3} (h : (b && finV A) = true) : giveV b A = tup [vec A, vv (.bool true)] := by unfold giveV; rw [outV_yes h, h]
set_option maxRecDepth 100000 in
set_option maxHeartbeats 2000000 in
theorem c_implIfVector {A : V3} : Con Try.prog 60 [vec A] (RetA (giveV true A)) := by
  refine con_enter Try.func60 rfl (by kernel_rfl) Try.ntmps60 rfl fun w0 => ?_
  cases hb : finV A
  · have hn : (!finV A) = true := by rw [hb]; rfl
    rw [giveV_no (by rw [hb]; rfl)]
    (repeat (first | (refine gA ?_; first | refine aops_nil ?_ | (refine gA_gd ?_; first | refine gY ?_ | refine gN ?_ | refine gS ?_) | (refine gA_callf ?_; refine sC (c_implFiniteVector) ?_) | (refine gA_alloc ?_; refine sA ?_; intro _) | (refine gA_store ?_; first | refine sS ?_ | refine sSr ?_) | (refine gA_box ?_; refine sB ?_; intro _) | (refine gA_move ?_; refine sE_move ?_) | (refine gA_load ?_; refine sE_load ?_) | (refine gA_assign ?_; refine sE_assign ?_) | (refine gA_field ?_; refine sE_field ?_) | (refine gA_bin ?_; refine sE_bin ?_) | (refine gA_index ?_; refine sE_index ?_) | (refine gA_callb ?_; refine sE_callb ?_) | (refine gA_un ?_; refine sE_un ?_) | (refine gA_conv ?_; refine sE_conv ?_) | (refine gA_build ?_; refine sE_build ?_) | (refine gA_ext ?_; refine sE_ext ?_) | (refine gA_slice ?_; refine sE_slice ?_) | (refine gA_nilc ?_; refine sE_nilc ?_) | (refine gA_pick ?_; refine sE_pick ?_) | (refine gA_func ?_; refine sE_func ?_)) | (refine gW ?_; first | refine awp_seq ?_ | refine awp_region ?_ | refine awp_block ?_ | refine awp_skip ?_ | refine awp_ret ?_ | refine awp_exit ?_ | refine awp_label ?_ | refine cF ?_ | refine cT ?_) | (refine gX ?_; first | refine aex_then ?_ | refine aex_normal_block ?_ | refine aex_ret_then ?_ | refine aex_ret_block ?_ | refine aex_exit_then ?_ | refine aex_exit_here ?_ | refine aex_exit_out rfl ?_ | refine aex_nop ?_)))
    exact aex_ret2 rfl (resV_cellA (Opd.tmp rfl) tyA_Vector (by first | ((repeat (first | exact List.Mem.head _ | apply List.Mem.tail)); done) | fail) rfl rfl) (resV_tmp (Opd.tmp rfl)) rfl rfl
  · have hn : (!finV A) = false := by rw [hb]; rfl
    rw [giveV_yes (by rw [hb]; rfl)]
    (repeat (first | (refine gA ?_; first | refine aops_nil ?_ | (refine gA_gd ?_; first | refine gY ?_ | refine gN ?_ | refine gS ?_) | (refine gA_callf ?_; refine sC (c_implFiniteVector) ?_) | (refine gA_alloc ?_; refine sA ?_; intro _) | (refine gA_store ?_; first | refine sS ?_ | refine sSr ?_) | (refine gA_box ?_; refine sB ?_; intro _) | (refine gA_move ?_; refine sE_move ?_) | (refine gA_load ?_; refine sE_load ?_) | (refine gA_assign ?_; refine sE_assign ?_) | (refine gA_field ?_; refine sE_field ?_) | (refine gA_bin ?_; refine sE_bin ?_) | (refine gA_index ?_; refine sE_index ?_) | (refine gA_callb ?_; refine sE_callb ?_) | (refine gA_un ?_; refine sE_un ?_) | (refine gA_conv ?_; refine sE_conv ?_) | (refine gA_build ?_; refine sE_build ?_) | (refine gA_ext ?_; refine sE_ext ?_) | (refine gA_slice ?_; refine sE_slice ?_) | (refine gA_nilc ?_; refine sE_nilc ?_) | (refine gA_pick ?_; refine sE_pick ?_) | (refine gA_func ?_; refine sE_func ?_)) | (refine gW ?_; first | refine awp_seq ?_ | refine awp_region ?_ | refine awp_block ?_ | refine awp_skip ?_ | refine awp_ret ?_ | refine awp_exit ?_ | refine awp_label ?_ | refine cF ?_ | refine cT ?_) | (refine gX ?_; first | refine aex_then ?_ | refine aex_normal_block ?_ | refine aex_ret_then ?_ | refine aex_ret_block ?_ | refine aex_exit_then ?_ | refine aex_exit_here ?_ | refine aex_exit_out rfl ?_ | refine aex_nop ?_)))
    exact aex_ret2 rfl (resV_cellA (Opd.tmp rfl) tyA_Vector (by first | ((repeat (first | exact List.Mem.head _ | apply List.Mem.tail)); done) | fail) rfl rfl) (resV_tmp (Opd.tmp rfl)) rfl rfl
def mB (M : V3) (W : Nat → WI) (n : Nat) (t : V3) : Bool := finV M && (okWs W n && finV t)
def eneX (M : V3) (W : Nat → WI) (n : Nat) (t : V3) : Nat := fneg .f32 (innerV M (sumF W t n))
end Go.Proofs.Ytokhbfbanofchaa
