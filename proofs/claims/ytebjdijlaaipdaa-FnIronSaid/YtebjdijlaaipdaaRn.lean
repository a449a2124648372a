/-
  Runs of relays, on both sides: contracts; the law's walk. Conditions: none.
-/
import Derived.Test.YtebjdijlaaipdaaRm
import Derived.Test.YtebjdijlaaipdaaRh
import Derived.Test.YtebjdijlaaipdaaSu
namespace Go.Proofs.Ytebjdijlaaipdaa
open Go Go.RowKit

def runB (F : Nat → V3) (B : Nat → Bool) (X : Nat → Nat) : Nat → Nat → Bool
  | 0 => B
  | k + 1 => stepB F (X k) (runB F B X k)
def runM (F : Nat → V3) (B : Nat → Bool) (X : Nat → Nat) (n k : Nat) : Nat := magV F (runB F B X (k + 1)) n
def runOk (F : Nat → V3) (n m q : Nat) : Bool := upOk F n m && !decide ((q : Int) > 64)
def runN (F : Nat → V3) (n m q : Nat) : Nat := if runOk F n m q = true then n else 0
def runQ (F : Nat → V3) (n m q : Nat) : Nat := if runOk F n m q = true then q else 0
theorem run_lens {F : Nat → V3} {n m q : Nat} (h : runOk F n m q = true) : m = n ∧ n ≤ 36 ∧ q ≤ 64 := by
  simp only [runOk, upOk, Bool.and_eq_true, Bool.not_eq_true', decide_eq_true_eq, decide_eq_false_iff_not] at h
  have := rel_len h.1.1
  omega
theorem run_parts {F : Nat → V3} {n m q : Nat} (h : runOk F n m q = true) : m = n ∧ n ≤ 36 ∧ q ≤ 64 ∧ (!upOk F n n) = false ∧ decide ((q : Int) > 64) = false ∧ relOk F n = true := by
  obtain ⟨rfl, h1, h2⟩ := run_lens h
  simp only [runOk, Bool.and_eq_true] at h
  have h3 := h.1
  simp only [upOk, Bool.and_eq_true] at h3
  exact ⟨rfl, h1, h2, by rw [h.1]; rfl, decide_eq_false (by omega), h3.1⟩
set_option maxRecDepth 100000 in
set_option maxHeartbeats 2000000 in
theorem c_implRunRelays_yes {n q : Nat} {F : Nat → V3} {B : Nat → Bool} {X : Nat → Nat} (hn : n ≤ maxLen) (hb : runOk F n n q = true) : Con Try.prog 8 [rs 3 n (vecC F), rs 1 n (boolC B), rs 1 q (floC X)] (RetRow2 28 1 q (floC (runM F B X n)) 4 1 n (boolC (runB F B X q)) fun b a => tup [vv a, vv b, vv (.bool true)]) := by
  refine con_enter Try.func8 rfl (by kernel_rfl) Try.ntmps8 rfl fun w0 => ?_
  obtain ⟨_, hl1, hl2, p1, p2, hok⟩ := run_parts hb
  have hn1 : n ≤ 1048576 := by omega
  (repeat (first | (refine gA ?_; first | refine aops_nil ?_ | (refine gA_gd ?_; first | refine gY ?_ | refine gN ?_ | refine gS ?_) | (refine gA_callf ?_; (first | refine sC (c_implStates (n := n) (m := n) (c := boolC B) hn) ?_ | (refine sCr (c_cloneBool (n := n) (by omega)) ?_; intro _))) | (refine gA_alloc ?_; refine sA ?_; intro _) | (refine gA_store ?_; first | refine sS ?_ | refine sSr ?_) | (refine gA_box ?_; refine sB ?_; intro _) | (refine gA_bslice ?_; (refine s0 (floC (runM F B X n)) ?_; intro _)) | (refine gA_move ?_; refine sE_move ?_) | (refine gA_load ?_; refine sE_load ?_) | (refine gA_assign ?_; refine sE_assign ?_) | (refine gA_field ?_; refine sE_field ?_) | (refine gA_bin ?_; refine sE_bin ?_) | (refine gA_index ?_; refine sE_index ?_) | (refine gA_callb ?_; refine sE_callb ?_) | (refine gA_un ?_; refine sE_un ?_) | (refine gA_conv ?_; refine sE_conv ?_) | (refine gA_build ?_; refine sE_build ?_) | (refine gA_ext ?_; refine sE_ext ?_) | (refine gA_slice ?_; refine sE_slice ?_) | (refine gA_nilc ?_; refine sE_nilc ?_) | (refine gA_pick ?_; refine sE_pick ?_) | (refine gA_func ?_; refine sE_func ?_)) | (refine gW ?_; first | refine awp_seq ?_ | refine awp_region ?_ | refine awp_block ?_ | refine awp_skip ?_ | refine awp_ret ?_ | refine awp_exit ?_ | refine awp_label ?_ | refine cF ?_ | refine cT ?_) | (refine gX ?_; first | refine aex_then ?_ | refine aex_normal_block ?_ | refine aex_ret_then ?_ | refine aex_ret_block ?_ | refine aex_exit_then ?_ | refine aex_exit_here ?_ | refine aex_exit_out rfl ?_ | refine aex_nop ?_)))
  rename_i v0 v1
  refine awp_loopG (fun k (v : Value × Value) => ⟨44, [(0, rs 3 n (vecC F)), (9, vv v.1), (10, vv v.2), (25, rs 1 q (floC X)), (26, vv (.int .i64 (q : Int))), (27, vv (.int .i64 (k : Int)))], [.row v.2 28 1 k (floC (runM F B X n)), .row v.1 4 1 n (boolC (runB F B X k))]⟩) q (v0, v1) (imp_mk (by repeat (first | exact EnvImp.nil | refine EnvImp.cons (by first | exact Opd.tmp rfl | exact OpF.tmp rfl) ?_)) (by repeat (first | exact HSub.nil | refine HSub.keep ?_ | refine HSub.drop ?_))) (fun k v hk => ?_)
  obtain ⟨x, y⟩ := v
  (repeat (first | (refine gA ?_; first | refine aops_nil ?_ | (refine gA_gd ?_; first | refine gY ?_ | refine gN ?_ | refine gS ?_) | (refine gA_alloc ?_; refine sA ?_; intro _) | (refine gA_store ?_; first | refine sS ?_ | refine sSr ?_) | (refine gA_box ?_; refine sB ?_; intro _) | (refine gA_move ?_; refine sE_move ?_) | (refine gA_load ?_; refine sE_load ?_) | (refine gA_assign ?_; refine sE_assign ?_) | (refine gA_field ?_; refine sE_field ?_) | (refine gA_bin ?_; refine sE_bin ?_) | (refine gA_index ?_; refine sE_index ?_) | (refine gA_callb ?_; refine sE_callb ?_) | (refine gA_un ?_; refine sE_un ?_) | (refine gA_conv ?_; refine sE_conv ?_) | (refine gA_build ?_; refine sE_build ?_) | (refine gA_ext ?_; refine sE_ext ?_) | (refine gA_slice ?_; refine sE_slice ?_) | (refine gA_nilc ?_; refine sE_nilc ?_) | (refine gA_pick ?_; refine sE_pick ?_) | (refine gA_func ?_; refine sE_func ?_)) | (refine gW ?_; first | refine awp_seq ?_ | refine awp_region ?_ | refine awp_block ?_ | refine awp_skip ?_ | refine awp_ret ?_ | refine awp_exit ?_ | refine awp_label ?_) | (refine gX ?_; first | refine aex_then ?_ | refine aex_normal_block ?_ | refine aex_ret_then ?_ | refine aex_ret_block ?_ | refine aex_exit_then ?_ | refine aex_exit_here ?_ | refine aex_exit_out rfl ?_ | refine aex_nop ?_)))
  refine cC (fun hg => ?_) (fun hg => ?_)
  · have hkn : k < q := by simp at hg; omega
    clear hg
    (repeat (first | (refine gA ?_; first | refine aops_nil ?_ | (refine gA_gd ?_; first | refine gY ?_ | refine gN ?_ | refine gS ?_) | (refine gA_callf ?_; (first | refine sC (c_implMagnet (n := n) (F := F) (B := runB F B X (k + 1)) hn1) ?_ | (refine sCr (c_implStep (n := n) (F := F) (X := X k) (B := runB F B X k) hok) ?_; intro _))) | (refine gA_alloc ?_; refine sA ?_; intro _) | (refine gA_store ?_; first | refine sS ?_ | refine sSr ?_) | (refine gA_box ?_; refine sB ?_; intro _) | (refine gA_bslice ?_; (refine sN ?_; intro _)) | (refine gA_app ?_; (refine sP (floC (runM F B X n)) ?_; intro _)) | (refine gA_move ?_; refine sE_move ?_) | (refine gA_load ?_; refine sE_load ?_) | (refine gA_assign ?_; refine sE_assign ?_) | (refine gA_field ?_; refine sE_field ?_) | (refine gA_bin ?_; refine sE_bin ?_) | (refine gA_index ?_; refine sE_index ?_) | (refine gA_callb ?_; refine sE_callb ?_) | (refine gA_un ?_; refine sE_un ?_) | (refine gA_conv ?_; refine sE_conv ?_) | (refine gA_build ?_; refine sE_build ?_) | (refine gA_ext ?_; refine sE_ext ?_) | (refine gA_slice ?_; refine sE_slice ?_) | (refine gA_nilc ?_; refine sE_nilc ?_) | (refine gA_pick ?_; refine sE_pick ?_) | (refine gA_func ?_; refine sE_func ?_)) | (refine gW ?_; first | refine awp_seq ?_ | refine awp_region ?_ | refine awp_block ?_ | refine awp_skip ?_ | refine awp_ret ?_ | refine awp_exit ?_ | refine awp_label ?_) | (refine gX ?_; first | refine aex_then ?_ | refine aex_normal_block ?_ | refine aex_ret_then ?_ | refine aex_ret_block ?_ | refine aex_exit_then ?_ | refine aex_exit_here ?_ | refine aex_exit_out rfl ?_ | refine aex_nop ?_)))
    rename_i x3 b3 v2
    exact aex_agG (x3, v2) (by omega) (imp_mk (by repeat (first | exact EnvImp.nil | refine EnvImp.cons (by first | exact Opd.tmp rfl | exact OpF.tmp rfl) ?_)) (by repeat (first | exact HSub.nil | refine HSub.keep ?_ | refine HSub.drop ?_)))
  · obtain rfl : k = q := by simp at hg; omega
    (repeat (first | (refine gA ?_; first | refine aops_nil ?_ | (refine gA_gd ?_; first | refine gY ?_ | refine gN ?_ | refine gS ?_) | (refine gA_alloc ?_; refine sA ?_; intro _) | (refine gA_store ?_; first | refine sS ?_ | refine sSr ?_) | (refine gA_box ?_; refine sB ?_; intro _) | (refine gA_move ?_; refine sE_move ?_) | (refine gA_load ?_; refine sE_load ?_) | (refine gA_assign ?_; refine sE_assign ?_) | (refine gA_field ?_; refine sE_field ?_) | (refine gA_bin ?_; refine sE_bin ?_) | (refine gA_index ?_; refine sE_index ?_) | (refine gA_callb ?_; refine sE_callb ?_) | (refine gA_un ?_; refine sE_un ?_) | (refine gA_conv ?_; refine sE_conv ?_) | (refine gA_build ?_; refine sE_build ?_) | (refine gA_ext ?_; refine sE_ext ?_) | (refine gA_slice ?_; refine sE_slice ?_) | (refine gA_nilc ?_; refine sE_nilc ?_) | (refine gA_pick ?_; refine sE_pick ?_) | (refine gA_func ?_; refine sE_func ?_)) | (refine gW ?_; first | refine awp_seq ?_ | refine awp_region ?_ | refine awp_block ?_ | refine awp_skip ?_ | refine awp_ret ?_ | refine awp_exit ?_ | refine awp_label ?_) | (refine gX ?_; first | refine aex_then ?_ | refine aex_normal_block ?_ | refine aex_ret_then ?_ | refine aex_ret_block ?_ | refine aex_exit_then ?_ | refine aex_exit_here ?_ | refine aex_exit_out rfl ?_ | refine aex_nop ?_)))
    exact aex_retH3 (y, x) rfl rfl (resV_tmp (Opd.tmp rfl)) (resV_tmp (Opd.tmp rfl)) (resV_tmp (Opd.tmp rfl)) rfl rfl rfl (by repeat (first | exact HSub.nil | refine HSub.keep ?_ | refine HSub.drop ?_))
end Go.Proofs.Ytebjdijlaaipdaa
