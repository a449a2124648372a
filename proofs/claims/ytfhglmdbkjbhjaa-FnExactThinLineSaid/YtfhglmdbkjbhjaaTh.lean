/-
  Some vectors of a line, on both sides: contracts. Conditions: none.
-/
import Derived.Test.YtfhglmdbkjbhjaaLn
import Derived.Test.YtfhglmdbkjbhjaaSu
import Derived.Test.YtfhglmdbkjbhjaaAm
namespace Go.Proofs.Ytfhglmdbkjbhjaa
open Go Go.RowKit

def keepB (x : Int) (n k : Nat) : Bool := decide ((k : Int).tmod x = 0) || decide ((k : Int) = (n : Int) - 1)
def thinL (F : Nat → V3) (x : Int) (n : Nat) : Nat → List V3
  | 0 => []
  | k + 1 => if keepB x n k = true then thinL F x n k ++ [F k] else thinL F x n k
def thinOk (n : Nat) (x : Int) : Bool := inB n 1 64 && inB x 1 64
def thinN (F : Nat → V3) (n : Nat) (x : Int) : Nat := if thinOk n x = true then (thinL F x n n).length else 0
def thinV (F : Nat → V3) (n : Nat) (x : Int) (j : Nat) : V3 := (thinL F x n n).getD j ⟨0, 0, 0⟩
theorem thinL_len {F : Nat → V3} {x : Int} {n : Nat} : ∀ k, (thinL F x n k).length ≤ k
  | 0 => Nat.le_refl _
  | k + 1 => by
    have := thinL_len (F := F) (x := x) (n := n) k
    unfold thinL
    split <;> simp <;> omega
theorem thinL_pre {F : Nat → V3} {x : Int} {n k : Nat} : ∀ m, ∃ t, thinL F x n (k + m) = thinL F x n k ++ t
  | 0 => ⟨[], by simp⟩
  | m + 1 => by
    obtain ⟨t, h⟩ := thinL_pre (F := F) (x := x) (n := n) (k := k) m
    rw [show k + (m + 1) = (k + m) + 1 by omega]
    rw [thinL.eq_def]
    simp only
    split
    · exact ⟨t ++ [F (k + m)], by rw [h, List.append_assoc]⟩
    · exact ⟨t, h⟩
theorem thin_at {F : Nat → V3} {x : Int} {n k : Nat} (hk : k < n) (hq : keepB x n k = true) : thinV F n x (thinL F x n k).length = F k := by
  obtain ⟨t, h⟩ := thinL_pre (F := F) (x := x) (n := n) (k := k + 1) (n - (k + 1))
  rw [show k + 1 + (n - (k + 1)) = n by omega] at h
  have h1 : thinL F x n (k + 1) = thinL F x n k ++ [F k] := if_pos hq
  unfold thinV
  rw [h, h1, List.append_assoc, List.getD_eq_getElem?_getD, List.getElem?_append_right (Nat.le_refl _), Nat.sub_self]
  rfl
theorem thinN_le {F : Nat → V3} {n : Nat} {x : Int} : thinN F n x ≤ 64 := by
  unfold thinN
  split
  · rename_i h
    have := thinL_len (F := F) (x := x) (n := n) n
    have := (inB_one (n := n) (h := 64) (by unfold thinOk at h; rw [Bool.and_eq_true] at h; exact h.1)).2
    omega
  · omega

set_option maxRecDepth 100000 in
set_option maxHeartbeats 2000000 in
theorem c_specThinLine {n : Nat} {F : Nat → V3} {x : Int} : Con Try.prog 15 [rs 3 n (vecC F), vv (.int .i64 x)] (RetRow 38 3 (thinN F n x) (vecC (thinV F n x)) fun sv => tup [vv sv, vv (.bool (thinOk n x))]) := by
  refine con_enter Try.func15 rfl (by kernel_rfl) Try.ntmps15 rfl fun w0 => ?_
  cases hb : inB n 1 64
  · have hbn : (!inB n 1 64) = true := by rw [hb]; rfl
    have hno : thinOk n x = false := by simp [thinOk, hb]
    rw [show thinN F n x = 0 from if_neg (by rw [hno]; simp), hno]
    (repeat (first | (refine gA ?_; first | refine aops_nil ?_ | (refine gA_gd ?_; first | refine gY ?_ | refine gN ?_ | refine gS ?_) | (refine gA_callf ?_; (first | refine sC (c_specLine) ?_ | refine sC (c_specIn) ?_)) | (refine gA_alloc ?_; refine sA ?_; intro _) | (refine gA_store ?_; refine sS ?_) | (refine gA_box ?_; refine sB ?_; intro _) | (refine gA_move ?_; refine sE_move ?_) | (refine gA_load ?_; refine sE_load ?_) | (refine gA_assign ?_; refine sE_assign ?_) | (refine gA_field ?_; refine sE_field ?_) | (refine gA_bin ?_; refine sE_bin ?_) | (refine gA_index ?_; refine sE_index ?_) | (refine gA_callb ?_; refine sE_callb ?_) | (refine gA_un ?_; refine sE_un ?_) | (refine gA_conv ?_; refine sE_conv ?_) | (refine gA_build ?_; refine sE_build ?_) | (refine gA_ext ?_; refine sE_ext ?_) | (refine gA_slice ?_; refine sE_slice ?_) | (refine gA_nilc ?_; refine sE_nilc ?_) | (refine gA_pick ?_; refine sE_pick ?_)) | (refine gW ?_; first | refine awp_seq ?_ | refine awp_region ?_ | refine awp_block ?_ | refine awp_skip ?_ | refine awp_ret ?_ | refine awp_exit ?_ | refine awp_label ?_ | refine cF ?_ | refine cT ?_) | (refine gX ?_; first | refine aex_then ?_ | refine aex_normal_block ?_ | refine aex_ret_then ?_ | refine aex_ret_block ?_ | refine aex_exit_then ?_ | refine aex_exit_here ?_ | refine aex_exit_out rfl ?_ | refine aex_nop ?_)))
    refine aex_nilrow (T := 38) (size := 3) (c := vecC (thinV F n x)) ?_
    exact aex_ret2_row rfl (resV_tmp (Opd.tmp rfl)) (resV_tmp (Opd.tmp rfl)) rfl (List.Mem.head _)
  obtain ⟨h1, h2⟩ := inB_one hb
  have hbn : (!inB n 1 64) = false := by rw [hb]; rfl
  cases hi : inB x 1 64
  · have hin : (!inB x 1 64) = true := by rw [hi]; rfl
    have hno : thinOk n x = false := by simp [thinOk, hi]
    rw [show thinN F n x = 0 from if_neg (by rw [hno]; simp), hno]
    (repeat (first | (refine gA ?_; first | refine aops_nil ?_ | (refine gA_gd ?_; first | refine gY ?_ | refine gN ?_ | refine gS ?_) | (refine gA_callf ?_; (first | refine sC (c_specLine) ?_ | refine sC (c_specIn) ?_)) | (refine gA_alloc ?_; refine sA ?_; intro _) | (refine gA_store ?_; refine sS ?_) | (refine gA_box ?_; refine sB ?_; intro _) | (refine gA_move ?_; refine sE_move ?_) | (refine gA_load ?_; refine sE_load ?_) | (refine gA_assign ?_; refine sE_assign ?_) | (refine gA_field ?_; refine sE_field ?_) | (refine gA_bin ?_; refine sE_bin ?_) | (refine gA_index ?_; refine sE_index ?_) | (refine gA_callb ?_; refine sE_callb ?_) | (refine gA_un ?_; refine sE_un ?_) | (refine gA_conv ?_; refine sE_conv ?_) | (refine gA_build ?_; refine sE_build ?_) | (refine gA_ext ?_; refine sE_ext ?_) | (refine gA_slice ?_; refine sE_slice ?_) | (refine gA_nilc ?_; refine sE_nilc ?_) | (refine gA_pick ?_; refine sE_pick ?_)) | (refine gW ?_; first | refine awp_seq ?_ | refine awp_region ?_ | refine awp_block ?_ | refine awp_skip ?_ | refine awp_ret ?_ | refine awp_exit ?_ | refine awp_label ?_ | refine cF ?_ | refine cT ?_) | (refine gX ?_; first | refine aex_then ?_ | refine aex_normal_block ?_ | refine aex_ret_then ?_ | refine aex_ret_block ?_ | refine aex_exit_then ?_ | refine aex_exit_here ?_ | refine aex_exit_out rfl ?_ | refine aex_nop ?_)))
    refine aex_nilrow (T := 38) (size := 3) (c := vecC (thinV F n x)) ?_
    exact aex_ret2_row rfl (resV_tmp (Opd.tmp rfl)) (resV_tmp (Opd.tmp rfl)) rfl (List.Mem.head _)
  have hin : (!inB x 1 64) = false := by rw [hi]; rfl
  have h3 : 1 ≤ x ∧ x ≤ 64 := by simpa [inB] using hi
  have hok : thinOk n x = true := by simp [thinOk, hb, hi]
  rw [show thinN F n x = (thinL F x n n).length from if_pos hok, hok]
  (repeat (first | (refine gA ?_; first | refine aops_nil ?_ | (refine gA_gd ?_; first | refine gY ?_ | refine gN ?_ | refine gS ?_) | (refine gA_callf ?_; (first | refine sC (c_specLine) ?_ | refine sC (c_specIn) ?_)) | (refine gA_alloc ?_; refine sA ?_; intro _) | (refine gA_store ?_; refine sS ?_) | (refine gA_box ?_; refine sB ?_; intro _) | (refine gA_bslice ?_; (refine s0 (vecC (thinV F n x)) ?_; intro _)) | (refine gA_move ?_; refine sE_move ?_) | (refine gA_load ?_; refine sE_load ?_) | (refine gA_assign ?_; refine sE_assign ?_) | (refine gA_field ?_; refine sE_field ?_) | (refine gA_bin ?_; refine sE_bin ?_) | (refine gA_index ?_; refine sE_index ?_) | (refine gA_callb ?_; refine sE_callb ?_) | (refine gA_un ?_; refine sE_un ?_) | (refine gA_conv ?_; refine sE_conv ?_) | (refine gA_build ?_; refine sE_build ?_) | (refine gA_ext ?_; refine sE_ext ?_) | (refine gA_slice ?_; refine sE_slice ?_) | (refine gA_nilc ?_; refine sE_nilc ?_) | (refine gA_pick ?_; refine sE_pick ?_)) | (refine gW ?_; first | refine awp_seq ?_ | refine awp_region ?_ | refine awp_block ?_ | refine awp_skip ?_ | refine awp_ret ?_ | refine awp_exit ?_ | refine awp_label ?_ | refine cF ?_ | refine cT ?_) | (refine gX ?_; first | refine aex_then ?_ | refine aex_normal_block ?_ | refine aex_ret_then ?_ | refine aex_ret_block ?_ | refine aex_exit_then ?_ | refine aex_exit_here ?_ | refine aex_exit_out rfl ?_ | refine aex_nop ?_)))
  rename_i v0
  refine awp_loopV (fun k v => ⟨42, [(0, rs 3 n (vecC F)), (1, vv (.int .i64 x)), (6, vv v), (7, vv (.int .i64 (k : Int)))], [.row v 38 3 (thinL F x n k).length (vecC (thinV F n x))]⟩) n v0 (imp_mk (by repeat (first | exact EnvImp.nil | refine EnvImp.cons (by first | exact Opd.tmp rfl | exact OpF.tmp rfl) ?_)) (by repeat (first | exact HSub.nil | refine HSub.keep ?_ | refine HSub.drop ?_))) (fun k v hk => ?_)
  (repeat (first | (refine gA ?_; first | refine aops_nil ?_ | (refine gA_gd ?_; first | refine gY ?_ | refine gN ?_ | refine gS ?_) | (refine gA_callf ?_; (first | refine sC (c_specLine) ?_ | refine sC (c_specIn) ?_)) | (refine gA_alloc ?_; refine sA ?_; intro _) | (refine gA_store ?_; refine sS ?_) | (refine gA_box ?_; refine sB ?_; intro _) | (refine gA_move ?_; refine sE_move ?_) | (refine gA_load ?_; refine sE_load ?_) | (refine gA_assign ?_; refine sE_assign ?_) | (refine gA_field ?_; refine sE_field ?_) | (refine gA_bin ?_; refine sE_bin ?_) | (refine gA_index ?_; refine sE_index ?_) | (refine gA_callb ?_; refine sE_callb ?_) | (refine gA_un ?_; refine sE_un ?_) | (refine gA_conv ?_; refine sE_conv ?_) | (refine gA_build ?_; refine sE_build ?_) | (refine gA_ext ?_; refine sE_ext ?_) | (refine gA_slice ?_; refine sE_slice ?_) | (refine gA_nilc ?_; refine sE_nilc ?_) | (refine gA_pick ?_; refine sE_pick ?_)) | (refine gW ?_; first | refine awp_seq ?_ | refine awp_region ?_ | refine awp_block ?_ | refine awp_skip ?_ | refine awp_ret ?_ | refine awp_exit ?_ | refine awp_label ?_) | (refine gX ?_; first | refine aex_then ?_ | refine aex_normal_block ?_ | refine aex_ret_then ?_ | refine aex_ret_block ?_ | refine aex_exit_then ?_ | refine aex_exit_here ?_ | refine aex_exit_out rfl ?_ | refine aex_nop ?_)))
  refine cC (fun hg => ?_) (fun hg => ?_)
  · have hkn : k < n := by simp at hg; omega
    clear hg
    have hlen := thinL_len (F := F) (x := x) (n := n) k
    (repeat (first | (refine gA ?_; first | refine aops_nil ?_ | (refine gA_gd ?_; first | refine gY ?_ | refine gN ?_ | refine gS ?_) | (refine gA_callf ?_; (first | refine sC (c_specLine) ?_ | refine sC (c_specIn) ?_)) | (refine gA_alloc ?_; refine sA ?_; intro _) | (refine gA_store ?_; refine sS ?_) | (refine gA_box ?_; refine sB ?_; intro _) | (refine gA_move ?_; refine sE_move ?_) | (refine gA_load ?_; refine sE_load ?_) | (refine gA_assign ?_; refine sE_assign ?_) | (refine gA_field ?_; refine sE_field ?_) | (refine gA_bin ?_; refine sE_bin ?_) | (refine gA_index ?_; refine sE_index ?_) | (refine gA_callb ?_; refine sE_callb ?_) | (refine gA_un ?_; refine sE_un ?_) | (refine gA_conv ?_; refine sE_conv ?_) | (refine gA_build ?_; refine sE_build ?_) | (refine gA_ext ?_; refine sE_ext ?_) | (refine gA_slice ?_; refine sE_slice ?_) | (refine gA_nilc ?_; refine sE_nilc ?_) | (refine gA_pick ?_; refine sE_pick ?_)) | (refine gW ?_; first | refine awp_seq ?_ | refine awp_region ?_ | refine awp_block ?_ | refine awp_skip ?_ | refine awp_ret ?_ | refine awp_exit ?_ | refine awp_label ?_) | (refine gX ?_; first | refine aex_then ?_ | refine aex_normal_block ?_ | refine aex_ret_then ?_ | refine aex_ret_block ?_ | refine aex_exit_then ?_ | refine aex_exit_here ?_ | refine aex_exit_out rfl ?_ | refine aex_nop ?_)))
    refine aops_ev (ev_irem64 rfl (Opd.tmp rfl) (Opd.tmp rfl) (by omega) (by omega) (by omega)) rfl ?_
    cases c1 : decide ((k : Int).tmod x = 0)
    · cases c2 : decide ((k : Int) = (n : Int) - 1)
      · have e : thinL F x n (k + 1) = thinL F x n k := if_neg (by rw [show keepB x n k = false by simp only [keepB, c1, c2]; rfl]; simp)
        (repeat (first | (refine gA ?_; first | refine aops_nil ?_ | (refine gA_gd ?_; first | refine gY ?_ | refine gN ?_ | refine gS ?_) | (refine gA_callf ?_; (first | refine sC (c_specLine) ?_ | refine sC (c_specIn) ?_)) | (refine gA_alloc ?_; refine sA ?_; intro _) | (refine gA_store ?_; refine sS ?_) | (refine gA_box ?_; refine sB ?_; intro _) | (refine gA_move ?_; refine sE_move ?_) | (refine gA_load ?_; refine sE_load ?_) | (refine gA_assign ?_; refine sE_assign ?_) | (refine gA_field ?_; refine sE_field ?_) | (refine gA_bin ?_; refine sE_bin ?_) | (refine gA_index ?_; refine sE_index ?_) | (refine gA_callb ?_; refine sE_callb ?_) | (refine gA_un ?_; refine sE_un ?_) | (refine gA_conv ?_; refine sE_conv ?_) | (refine gA_build ?_; refine sE_build ?_) | (refine gA_ext ?_; refine sE_ext ?_) | (refine gA_slice ?_; refine sE_slice ?_) | (refine gA_nilc ?_; refine sE_nilc ?_) | (refine gA_pick ?_; refine sE_pick ?_)) | (refine gW ?_; first | refine awp_seq ?_ | refine awp_region ?_ | refine awp_block ?_ | refine awp_skip ?_ | refine awp_ret ?_ | refine awp_exit ?_ | refine awp_label ?_ | refine cF ?_ | refine cT ?_) | (refine gX ?_; first | refine aex_then ?_ | refine aex_normal_block ?_ | refine aex_ret_then ?_ | refine aex_ret_block ?_ | refine aex_exit_then ?_ | refine aex_exit_here ?_ | refine aex_exit_out rfl ?_ | refine aex_nop ?_)))
        refine aex_agV v (by omega) ?_
        rw [e]
        exact (imp_mk (by repeat (first | exact EnvImp.nil | refine EnvImp.cons (by first | exact Opd.tmp rfl | exact OpF.tmp rfl) ?_)) (by repeat (first | exact HSub.nil | refine HSub.keep ?_ | refine HSub.drop ?_)))
      · have hq : keepB x n k = true := by simp only [keepB, c1, c2]; rfl
        have e : thinL F x n (k + 1) = thinL F x n k ++ [F k] := if_pos hq
        have hap : ∀ j, j < 1 → vecC (thinV F n x) ((thinL F x n k).length + j) = ((vecC F k).drop (j * 3)).take 3 := fun j hj => by
          obtain rfl : j = 0 := by omega
          rw [Nat.add_zero, show vecC (thinV F n x) (thinL F x n k).length = vecC F k from congrArg (fun A : V3 => [fl .f32 A.x, fl .f32 A.y, fl .f32 A.z]) (thin_at hkn hq)]
          rfl
        (repeat (first | (refine gA ?_; first | refine aops_nil ?_ | (refine gA_gd ?_; first | refine gY ?_ | refine gN ?_ | refine gS ?_) | (refine gA_callf ?_; (first | refine sC (c_specLine) ?_ | refine sC (c_specIn) ?_)) | (refine gA_alloc ?_; refine sA ?_; intro _) | (refine gA_store ?_; refine sS ?_) | (refine gA_box ?_; refine sB ?_; intro _) | (refine gA_bslice ?_; (refine sN ?_; intro _)) | (refine gA_app ?_; (refine sP (vecC (thinV F n x)) ?_ (hc2 := hap); intro _)) | (refine gA_move ?_; refine sE_move ?_) | (refine gA_load ?_; refine sE_load ?_) | (refine gA_assign ?_; refine sE_assign ?_) | (refine gA_field ?_; refine sE_field ?_) | (refine gA_bin ?_; refine sE_bin ?_) | (refine gA_index ?_; refine sE_index ?_) | (refine gA_callb ?_; refine sE_callb ?_) | (refine gA_un ?_; refine sE_un ?_) | (refine gA_conv ?_; refine sE_conv ?_) | (refine gA_build ?_; refine sE_build ?_) | (refine gA_ext ?_; refine sE_ext ?_) | (refine gA_slice ?_; refine sE_slice ?_) | (refine gA_nilc ?_; refine sE_nilc ?_) | (refine gA_pick ?_; refine sE_pick ?_)) | (refine gW ?_; first | refine awp_seq ?_ | refine awp_region ?_ | refine awp_block ?_ | refine awp_skip ?_ | refine awp_ret ?_ | refine awp_exit ?_ | refine awp_label ?_ | refine cF ?_ | refine cT ?_) | (refine gX ?_; first | refine aex_then ?_ | refine aex_normal_block ?_ | refine aex_ret_then ?_ | refine aex_ret_block ?_ | refine aex_exit_then ?_ | refine aex_exit_here ?_ | refine aex_exit_out rfl ?_ | refine aex_nop ?_)))
        rename_i v2
        refine aex_agV v2 (by omega) ?_
        rw [e, List.length_append]
        exact (imp_mk (by repeat (first | exact EnvImp.nil | refine EnvImp.cons (by first | exact Opd.tmp rfl | exact OpF.tmp rfl) ?_)) (by repeat (first | exact HSub.nil | refine HSub.keep ?_ | refine HSub.drop ?_)))
    · have hq : keepB x n k = true := by simp only [keepB, c1]; rfl
      have e : thinL F x n (k + 1) = thinL F x n k ++ [F k] := if_pos hq
      have hap : ∀ j, j < 1 → vecC (thinV F n x) ((thinL F x n k).length + j) = ((vecC F k).drop (j * 3)).take 3 := fun j hj => by
        obtain rfl : j = 0 := by omega
        rw [Nat.add_zero, show vecC (thinV F n x) (thinL F x n k).length = vecC F k from congrArg (fun A : V3 => [fl .f32 A.x, fl .f32 A.y, fl .f32 A.z]) (thin_at hkn hq)]
        rfl
      (repeat (first | (refine gA ?_; first | refine aops_nil ?_ | (refine gA_gd ?_; first | refine gY ?_ | refine gN ?_ | refine gS ?_) | (refine gA_callf ?_; (first | refine sC (c_specLine) ?_ | refine sC (c_specIn) ?_)) | (refine gA_alloc ?_; refine sA ?_; intro _) | (refine gA_store ?_; refine sS ?_) | (refine gA_box ?_; refine sB ?_; intro _) | (refine gA_bslice ?_; (refine sN ?_; intro _)) | (refine gA_app ?_; (refine sP (vecC (thinV F n x)) ?_ (hc2 := hap); intro _)) | (refine gA_move ?_; refine sE_move ?_) | (refine gA_load ?_; refine sE_load ?_) | (refine gA_assign ?_; refine sE_assign ?_) | (refine gA_field ?_; refine sE_field ?_) | (refine gA_bin ?_; refine sE_bin ?_) | (refine gA_index ?_; refine sE_index ?_) | (refine gA_callb ?_; refine sE_callb ?_) | (refine gA_un ?_; refine sE_un ?_) | (refine gA_conv ?_; refine sE_conv ?_) | (refine gA_build ?_; refine sE_build ?_) | (refine gA_ext ?_; refine sE_ext ?_) | (refine gA_slice ?_; refine sE_slice ?_) | (refine gA_nilc ?_; refine sE_nilc ?_) | (refine gA_pick ?_; refine sE_pick ?_)) | (refine gW ?_; first | refine awp_seq ?_ | refine awp_region ?_ | refine awp_block ?_ | refine awp_skip ?_ | refine awp_ret ?_ | refine awp_exit ?_ | refine awp_label ?_ | refine cF ?_ | refine cT ?_) | (refine gX ?_; first | refine aex_then ?_ | refine aex_normal_block ?_ | refine aex_ret_then ?_ | refine aex_ret_block ?_ | refine aex_exit_then ?_ | refine aex_exit_here ?_ | refine aex_exit_out rfl ?_ | refine aex_nop ?_)))
      rename_i v2
      refine aex_agV v2 (by omega) ?_
      rw [e, List.length_append]
      exact (imp_mk (by repeat (first | exact EnvImp.nil | refine EnvImp.cons (by first | exact Opd.tmp rfl | exact OpF.tmp rfl) ?_)) (by repeat (first | exact HSub.nil | refine HSub.keep ?_ | refine HSub.drop ?_)))
  · obtain rfl : k = n := by simp at hg; omega
    (repeat (first | (refine gA ?_; first | refine aops_nil ?_ | (refine gA_gd ?_; first | refine gY ?_ | refine gN ?_ | refine gS ?_) | (refine gA_callf ?_; (first | refine sC (c_specLine) ?_ | refine sC (c_specIn) ?_)) | (refine gA_alloc ?_; refine sA ?_; intro _) | (refine gA_store ?_; refine sS ?_) | (refine gA_box ?_; refine sB ?_; intro _) | (refine gA_move ?_; refine sE_move ?_) | (refine gA_load ?_; refine sE_load ?_) | (refine gA_assign ?_; refine sE_assign ?_) | (refine gA_field ?_; refine sE_field ?_) | (refine gA_bin ?_; refine sE_bin ?_) | (refine gA_index ?_; refine sE_index ?_) | (refine gA_callb ?_; refine sE_callb ?_) | (refine gA_un ?_; refine sE_un ?_) | (refine gA_conv ?_; refine sE_conv ?_) | (refine gA_build ?_; refine sE_build ?_) | (refine gA_ext ?_; refine sE_ext ?_) | (refine gA_slice ?_; refine sE_slice ?_) | (refine gA_nilc ?_; refine sE_nilc ?_) | (refine gA_pick ?_; refine sE_pick ?_)) | (refine gW ?_; first | refine awp_seq ?_ | refine awp_region ?_ | refine awp_block ?_ | refine awp_skip ?_ | refine awp_ret ?_ | refine awp_exit ?_ | refine awp_label ?_) | (refine gX ?_; first | refine aex_then ?_ | refine aex_normal_block ?_ | refine aex_ret_then ?_ | refine aex_ret_block ?_ | refine aex_exit_then ?_ | refine aex_exit_here ?_ | refine aex_exit_out rfl ?_ | refine aex_nop ?_)))
    exact aex_ret2_row rfl (resV_tmp (Opd.tmp rfl)) (resV_tmp (Opd.tmp rfl)) rfl (by repeat (first | exact List.Mem.head _ | apply List.Mem.tail))
set_option maxRecDepth 100000 in
set_option maxHeartbeats 2000000 in
theorem c_implThinLine {n : Nat} {F : Nat → V3} {x : Int} : Con Try.prog 17 [rs 3 n (vecC F), vv (.int .i64 x)] (RetRow 38 3 (thinN F n x) (vecC (thinV F n x)) fun sv => tup [vv sv, vv (.bool (thinOk n x))]) := by
  refine con_enter Try.func17 rfl (by kernel_rfl) Try.ntmps17 rfl fun w0 => ?_
  cases hb : inB n 1 64
  · have hbn : (!inB n 1 64) = true := by rw [hb]; rfl
    have hno : thinOk n x = false := by simp [thinOk, hb]
    rw [show thinN F n x = 0 from if_neg (by rw [hno]; simp), hno]
    (repeat (first | (refine gA ?_; first | refine aops_nil ?_ | (refine gA_gd ?_; first | refine gY ?_ | refine gN ?_ | refine gS ?_) | (refine gA_callf ?_; (first | refine sC (c_implLine) ?_ | refine sC (c_implWithin) ?_)) | (refine gA_alloc ?_; refine sA ?_; intro _) | (refine gA_store ?_; refine sS ?_) | (refine gA_box ?_; refine sB ?_; intro _) | (refine gA_move ?_; refine sE_move ?_) | (refine gA_load ?_; refine sE_load ?_) | (refine gA_assign ?_; refine sE_assign ?_) | (refine gA_field ?_; refine sE_field ?_) | (refine gA_bin ?_; refine sE_bin ?_) | (refine gA_index ?_; refine sE_index ?_) | (refine gA_callb ?_; refine sE_callb ?_) | (refine gA_un ?_; refine sE_un ?_) | (refine gA_conv ?_; refine sE_conv ?_) | (refine gA_build ?_; refine sE_build ?_) | (refine gA_ext ?_; refine sE_ext ?_) | (refine gA_slice ?_; refine sE_slice ?_) | (refine gA_nilc ?_; refine sE_nilc ?_) | (refine gA_pick ?_; refine sE_pick ?_)) | (refine gW ?_; first | refine awp_seq ?_ | refine awp_region ?_ | refine awp_block ?_ | refine awp_skip ?_ | refine awp_ret ?_ | refine awp_exit ?_ | refine awp_label ?_ | refine cF ?_ | refine cT ?_) | (refine gX ?_; first | refine aex_then ?_ | refine aex_normal_block ?_ | refine aex_ret_then ?_ | refine aex_ret_block ?_ | refine aex_exit_then ?_ | refine aex_exit_here ?_ | refine aex_exit_out rfl ?_ | refine aex_nop ?_)))
    refine aex_nilrow (T := 38) (size := 3) (c := vecC (thinV F n x)) ?_
    exact aex_ret2_row rfl (resV_tmp (Opd.tmp rfl)) (resV_tmp (Opd.tmp rfl)) rfl (List.Mem.head _)
  obtain ⟨h1, h2⟩ := inB_one hb
  have hbn : (!inB n 1 64) = false := by rw [hb]; rfl
  cases hi : inB x 1 64
  · have hin : (!inB x 1 64) = true := by rw [hi]; rfl
    have hno : thinOk n x = false := by simp [thinOk, hi]
    rw [show thinN F n x = 0 from if_neg (by rw [hno]; simp), hno]
    (repeat (first | (refine gA ?_; first | refine aops_nil ?_ | (refine gA_gd ?_; first | refine gY ?_ | refine gN ?_ | refine gS ?_) | (refine gA_callf ?_; (first | refine sC (c_implLine) ?_ | refine sC (c_implWithin) ?_)) | (refine gA_alloc ?_; refine sA ?_; intro _) | (refine gA_store ?_; refine sS ?_) | (refine gA_box ?_; refine sB ?_; intro _) | (refine gA_move ?_; refine sE_move ?_) | (refine gA_load ?_; refine sE_load ?_) | (refine gA_assign ?_; refine sE_assign ?_) | (refine gA_field ?_; refine sE_field ?_) | (refine gA_bin ?_; refine sE_bin ?_) | (refine gA_index ?_; refine sE_index ?_) | (refine gA_callb ?_; refine sE_callb ?_) | (refine gA_un ?_; refine sE_un ?_) | (refine gA_conv ?_; refine sE_conv ?_) | (refine gA_build ?_; refine sE_build ?_) | (refine gA_ext ?_; refine sE_ext ?_) | (refine gA_slice ?_; refine sE_slice ?_) | (refine gA_nilc ?_; refine sE_nilc ?_) | (refine gA_pick ?_; refine sE_pick ?_)) | (refine gW ?_; first | refine awp_seq ?_ | refine awp_region ?_ | refine awp_block ?_ | refine awp_skip ?_ | refine awp_ret ?_ | refine awp_exit ?_ | refine awp_label ?_ | refine cF ?_ | refine cT ?_) | (refine gX ?_; first | refine aex_then ?_ | refine aex_normal_block ?_ | refine aex_ret_then ?_ | refine aex_ret_block ?_ | refine aex_exit_then ?_ | refine aex_exit_here ?_ | refine aex_exit_out rfl ?_ | refine aex_nop ?_)))
    refine aex_nilrow (T := 38) (size := 3) (c := vecC (thinV F n x)) ?_
    exact aex_ret2_row rfl (resV_tmp (Opd.tmp rfl)) (resV_tmp (Opd.tmp rfl)) rfl (List.Mem.head _)
  have hin : (!inB x 1 64) = false := by rw [hi]; rfl
  have h3 : 1 ≤ x ∧ x ≤ 64 := by simpa [inB] using hi
  have hok : thinOk n x = true := by simp [thinOk, hb, hi]
  rw [show thinN F n x = (thinL F x n n).length from if_pos hok, hok]
  (repeat (first | (refine gA ?_; first | refine aops_nil ?_ | (refine gA_gd ?_; first | refine gY ?_ | refine gN ?_ | refine gS ?_) | (refine gA_callf ?_; (first | refine sC (c_implLine) ?_ | refine sC (c_implWithin) ?_)) | (refine gA_alloc ?_; refine sA ?_; intro _) | (refine gA_store ?_; refine sS ?_) | (refine gA_box ?_; refine sB ?_; intro _) | (refine gA_bslice ?_; (refine s0 (vecC (thinV F n x)) ?_; intro _)) | (refine gA_move ?_; refine sE_move ?_) | (refine gA_load ?_; refine sE_load ?_) | (refine gA_assign ?_; refine sE_assign ?_) | (refine gA_field ?_; refine sE_field ?_) | (refine gA_bin ?_; refine sE_bin ?_) | (refine gA_index ?_; refine sE_index ?_) | (refine gA_callb ?_; refine sE_callb ?_) | (refine gA_un ?_; refine sE_un ?_) | (refine gA_conv ?_; refine sE_conv ?_) | (refine gA_build ?_; refine sE_build ?_) | (refine gA_ext ?_; refine sE_ext ?_) | (refine gA_slice ?_; refine sE_slice ?_) | (refine gA_nilc ?_; refine sE_nilc ?_) | (refine gA_pick ?_; refine sE_pick ?_)) | (refine gW ?_; first | refine awp_seq ?_ | refine awp_region ?_ | refine awp_block ?_ | refine awp_skip ?_ | refine awp_ret ?_ | refine awp_exit ?_ | refine awp_label ?_ | refine cF ?_ | refine cT ?_) | (refine gX ?_; first | refine aex_then ?_ | refine aex_normal_block ?_ | refine aex_ret_then ?_ | refine aex_ret_block ?_ | refine aex_exit_then ?_ | refine aex_exit_here ?_ | refine aex_exit_out rfl ?_ | refine aex_nop ?_)))
  rename_i v0
  refine awp_loopV (fun k v => ⟨42, [(0, rs 3 n (vecC F)), (1, vv (.int .i64 x)), (6, vv v), (18, rs 3 n (vecC F)), (19, vv (.int .i64 (n : Int))), (20, vv (.int .i64 (k : Int)))], [.row v 38 3 (thinL F x n k).length (vecC (thinV F n x))]⟩) n v0 (imp_mk (by repeat (first | exact EnvImp.nil | refine EnvImp.cons (by first | exact Opd.tmp rfl | exact OpF.tmp rfl) ?_)) (by repeat (first | exact HSub.nil | refine HSub.keep ?_ | refine HSub.drop ?_))) (fun k v hk => ?_)
  (repeat (first | (refine gA ?_; first | refine aops_nil ?_ | (refine gA_gd ?_; first | refine gY ?_ | refine gN ?_ | refine gS ?_) | (refine gA_callf ?_; (first | refine sC (c_implLine) ?_ | refine sC (c_implWithin) ?_)) | (refine gA_alloc ?_; refine sA ?_; intro _) | (refine gA_store ?_; refine sS ?_) | (refine gA_box ?_; refine sB ?_; intro _) | (refine gA_move ?_; refine sE_move ?_) | (refine gA_load ?_; refine sE_load ?_) | (refine gA_assign ?_; refine sE_assign ?_) | (refine gA_field ?_; refine sE_field ?_) | (refine gA_bin ?_; refine sE_bin ?_) | (refine gA_index ?_; refine sE_index ?_) | (refine gA_callb ?_; refine sE_callb ?_) | (refine gA_un ?_; refine sE_un ?_) | (refine gA_conv ?_; refine sE_conv ?_) | (refine gA_build ?_; refine sE_build ?_) | (refine gA_ext ?_; refine sE_ext ?_) | (refine gA_slice ?_; refine sE_slice ?_) | (refine gA_nilc ?_; refine sE_nilc ?_) | (refine gA_pick ?_; refine sE_pick ?_)) | (refine gW ?_; first | refine awp_seq ?_ | refine awp_region ?_ | refine awp_block ?_ | refine awp_skip ?_ | refine awp_ret ?_ | refine awp_exit ?_ | refine awp_label ?_) | (refine gX ?_; first | refine aex_then ?_ | refine aex_normal_block ?_ | refine aex_ret_then ?_ | refine aex_ret_block ?_ | refine aex_exit_then ?_ | refine aex_exit_here ?_ | refine aex_exit_out rfl ?_ | refine aex_nop ?_)))
  refine cC (fun hg => ?_) (fun hg => ?_)
  · have hkn : k < n := by simp at hg; omega
    clear hg
    have hlen := thinL_len (F := F) (x := x) (n := n) k
    (repeat (first | (refine gA ?_; first | refine aops_nil ?_ | (refine gA_gd ?_; first | refine gY ?_ | refine gN ?_ | refine gS ?_) | (refine gA_callf ?_; (first | refine sC (c_implLine) ?_ | refine sC (c_implWithin) ?_)) | (refine gA_alloc ?_; refine sA ?_; intro _) | (refine gA_store ?_; refine sS ?_) | (refine gA_box ?_; refine sB ?_; intro _) | (refine gA_move ?_; refine sE_move ?_) | (refine gA_load ?_; refine sE_load ?_) | (refine gA_assign ?_; refine sE_assign ?_) | (refine gA_field ?_; refine sE_field ?_) | (refine gA_bin ?_; refine sE_bin ?_) | (refine gA_index ?_; refine sE_index ?_) | (refine gA_callb ?_; refine sE_callb ?_) | (refine gA_un ?_; refine sE_un ?_) | (refine gA_conv ?_; refine sE_conv ?_) | (refine gA_build ?_; refine sE_build ?_) | (refine gA_ext ?_; refine sE_ext ?_) | (refine gA_slice ?_; refine sE_slice ?_) | (refine gA_nilc ?_; refine sE_nilc ?_) | (refine gA_pick ?_; refine sE_pick ?_)) | (refine gW ?_; first | refine awp_seq ?_ | refine awp_region ?_ | refine awp_block ?_ | refine awp_skip ?_ | refine awp_ret ?_ | refine awp_exit ?_ | refine awp_label ?_) | (refine gX ?_; first | refine aex_then ?_ | refine aex_normal_block ?_ | refine aex_ret_then ?_ | refine aex_ret_block ?_ | refine aex_exit_then ?_ | refine aex_exit_here ?_ | refine aex_exit_out rfl ?_ | refine aex_nop ?_)))
    refine aops_ev (ev_irem64 rfl (Opd.tmp rfl) (Opd.tmp rfl) (by omega) (by omega) (by omega)) rfl ?_
    cases c1 : decide ((k : Int).tmod x = 0)
    · cases c2 : decide ((k : Int) = (n : Int) - 1)
      · have e : thinL F x n (k + 1) = thinL F x n k := if_neg (by rw [show keepB x n k = false by simp only [keepB, c1, c2]; rfl]; simp)
        (repeat (first | (refine gA ?_; first | refine aops_nil ?_ | (refine gA_gd ?_; first | refine gY ?_ | refine gN ?_ | refine gS ?_) | (refine gA_callf ?_; (first | refine sC (c_implLine) ?_ | refine sC (c_implWithin) ?_)) | (refine gA_alloc ?_; refine sA ?_; intro _) | (refine gA_store ?_; refine sS ?_) | (refine gA_box ?_; refine sB ?_; intro _) | (refine gA_move ?_; refine sE_move ?_) | (refine gA_load ?_; refine sE_load ?_) | (refine gA_assign ?_; refine sE_assign ?_) | (refine gA_field ?_; refine sE_field ?_) | (refine gA_bin ?_; refine sE_bin ?_) | (refine gA_index ?_; refine sE_index ?_) | (refine gA_callb ?_; refine sE_callb ?_) | (refine gA_un ?_; refine sE_un ?_) | (refine gA_conv ?_; refine sE_conv ?_) | (refine gA_build ?_; refine sE_build ?_) | (refine gA_ext ?_; refine sE_ext ?_) | (refine gA_slice ?_; refine sE_slice ?_) | (refine gA_nilc ?_; refine sE_nilc ?_) | (refine gA_pick ?_; refine sE_pick ?_)) | (refine gW ?_; first | refine awp_seq ?_ | refine awp_region ?_ | refine awp_block ?_ | refine awp_skip ?_ | refine awp_ret ?_ | refine awp_exit ?_ | refine awp_label ?_ | refine cF ?_ | refine cT ?_) | (refine gX ?_; first | refine aex_then ?_ | refine aex_normal_block ?_ | refine aex_ret_then ?_ | refine aex_ret_block ?_ | refine aex_exit_then ?_ | refine aex_exit_here ?_ | refine aex_exit_out rfl ?_ | refine aex_nop ?_)))
        refine aex_agV v (by omega) ?_
        rw [e]
        exact (imp_mk (by repeat (first | exact EnvImp.nil | refine EnvImp.cons (by first | exact Opd.tmp rfl | exact OpF.tmp rfl) ?_)) (by repeat (first | exact HSub.nil | refine HSub.keep ?_ | refine HSub.drop ?_)))
      · have hq : keepB x n k = true := by simp only [keepB, c1, c2]; rfl
        have e : thinL F x n (k + 1) = thinL F x n k ++ [F k] := if_pos hq
        have hap : ∀ j, j < 1 → vecC (thinV F n x) ((thinL F x n k).length + j) = ((vecC F k).drop (j * 3)).take 3 := fun j hj => by
          obtain rfl : j = 0 := by omega
          rw [Nat.add_zero, show vecC (thinV F n x) (thinL F x n k).length = vecC F k from congrArg (fun A : V3 => [fl .f32 A.x, fl .f32 A.y, fl .f32 A.z]) (thin_at hkn hq)]
          rfl
        (repeat (first | (refine gA ?_; first | refine aops_nil ?_ | (refine gA_gd ?_; first | refine gY ?_ | refine gN ?_ | refine gS ?_) | (refine gA_callf ?_; (first | refine sC (c_implLine) ?_ | refine sC (c_implWithin) ?_)) | (refine gA_alloc ?_; refine sA ?_; intro _) | (refine gA_store ?_; refine sS ?_) | (refine gA_box ?_; refine sB ?_; intro _) | (refine gA_bslice ?_; (refine sN ?_; intro _)) | (refine gA_app ?_; (refine sP (vecC (thinV F n x)) ?_ (hc2 := hap); intro _)) | (refine gA_move ?_; refine sE_move ?_) | (refine gA_load ?_; refine sE_load ?_) | (refine gA_assign ?_; refine sE_assign ?_) | (refine gA_field ?_; refine sE_field ?_) | (refine gA_bin ?_; refine sE_bin ?_) | (refine gA_index ?_; refine sE_index ?_) | (refine gA_callb ?_; refine sE_callb ?_) | (refine gA_un ?_; refine sE_un ?_) | (refine gA_conv ?_; refine sE_conv ?_) | (refine gA_build ?_; refine sE_build ?_) | (refine gA_ext ?_; refine sE_ext ?_) | (refine gA_slice ?_; refine sE_slice ?_) | (refine gA_nilc ?_; refine sE_nilc ?_) | (refine gA_pick ?_; refine sE_pick ?_)) | (refine gW ?_; first | refine awp_seq ?_ | refine awp_region ?_ | refine awp_block ?_ | refine awp_skip ?_ | refine awp_ret ?_ | refine awp_exit ?_ | refine awp_label ?_ | refine cF ?_ | refine cT ?_) | (refine gX ?_; first | refine aex_then ?_ | refine aex_normal_block ?_ | refine aex_ret_then ?_ | refine aex_ret_block ?_ | refine aex_exit_then ?_ | refine aex_exit_here ?_ | refine aex_exit_out rfl ?_ | refine aex_nop ?_)))
        rename_i v2
        refine aex_agV v2 (by omega) ?_
        rw [e, List.length_append]
        exact (imp_mk (by repeat (first | exact EnvImp.nil | refine EnvImp.cons (by first | exact Opd.tmp rfl | exact OpF.tmp rfl) ?_)) (by repeat (first | exact HSub.nil | refine HSub.keep ?_ | refine HSub.drop ?_)))
    · have hq : keepB x n k = true := by simp only [keepB, c1]; rfl
      have e : thinL F x n (k + 1) = thinL F x n k ++ [F k] := if_pos hq
      have hap : ∀ j, j < 1 → vecC (thinV F n x) ((thinL F x n k).length + j) = ((vecC F k).drop (j * 3)).take 3 := fun j hj => by
        obtain rfl : j = 0 := by omega
        rw [Nat.add_zero, show vecC (thinV F n x) (thinL F x n k).length = vecC F k from congrArg (fun A : V3 => [fl .f32 A.x, fl .f32 A.y, fl .f32 A.z]) (thin_at hkn hq)]
        rfl
      (repeat (first | (refine gA ?_; first | refine aops_nil ?_ | (refine gA_gd ?_; first | refine gY ?_ | refine gN ?_ | refine gS ?_) | (refine gA_callf ?_; (first | refine sC (c_implLine) ?_ | refine sC (c_implWithin) ?_)) | (refine gA_alloc ?_; refine sA ?_; intro _) | (refine gA_store ?_; refine sS ?_) | (refine gA_box ?_; refine sB ?_; intro _) | (refine gA_bslice ?_; (refine sN ?_; intro _)) | (refine gA_app ?_; (refine sP (vecC (thinV F n x)) ?_ (hc2 := hap); intro _)) | (refine gA_move ?_; refine sE_move ?_) | (refine gA_load ?_; refine sE_load ?_) | (refine gA_assign ?_; refine sE_assign ?_) | (refine gA_field ?_; refine sE_field ?_) | (refine gA_bin ?_; refine sE_bin ?_) | (refine gA_index ?_; refine sE_index ?_) | (refine gA_callb ?_; refine sE_callb ?_) | (refine gA_un ?_; refine sE_un ?_) | (refine gA_conv ?_; refine sE_conv ?_) | (refine gA_build ?_; refine sE_build ?_) | (refine gA_ext ?_; refine sE_ext ?_) | (refine gA_slice ?_; refine sE_slice ?_) | (refine gA_nilc ?_; refine sE_nilc ?_) | (refine gA_pick ?_; refine sE_pick ?_)) | (refine gW ?_; first | refine awp_seq ?_ | refine awp_region ?_ | refine awp_block ?_ | refine awp_skip ?_ | refine awp_ret ?_ | refine awp_exit ?_ | refine awp_label ?_ | refine cF ?_ | refine cT ?_) | (refine gX ?_; first | refine aex_then ?_ | refine aex_normal_block ?_ | refine aex_ret_then ?_ | refine aex_ret_block ?_ | refine aex_exit_then ?_ | refine aex_exit_here ?_ | refine aex_exit_out rfl ?_ | refine aex_nop ?_)))
      rename_i v2
      refine aex_agV v2 (by omega) ?_
      rw [e, List.length_append]
      exact (imp_mk (by repeat (first | exact EnvImp.nil | refine EnvImp.cons (by first | exact Opd.tmp rfl | exact OpF.tmp rfl) ?_)) (by repeat (first | exact HSub.nil | refine HSub.keep ?_ | refine HSub.drop ?_)))
  · obtain rfl : k = n := by simp at hg; omega
    (repeat (first | (refine gA ?_; first | refine aops_nil ?_ | (refine gA_gd ?_; first | refine gY ?_ | refine gN ?_ | refine gS ?_) | (refine gA_callf ?_; (first | refine sC (c_implLine) ?_ | refine sC (c_implWithin) ?_)) | (refine gA_alloc ?_; refine sA ?_; intro _) | (refine gA_store ?_; refine sS ?_) | (refine gA_box ?_; refine sB ?_; intro _) | (refine gA_move ?_; refine sE_move ?_) | (refine gA_load ?_; refine sE_load ?_) | (refine gA_assign ?_; refine sE_assign ?_) | (refine gA_field ?_; refine sE_field ?_) | (refine gA_bin ?_; refine sE_bin ?_) | (refine gA_index ?_; refine sE_index ?_) | (refine gA_callb ?_; refine sE_callb ?_) | (refine gA_un ?_; refine sE_un ?_) | (refine gA_conv ?_; refine sE_conv ?_) | (refine gA_build ?_; refine sE_build ?_) | (refine gA_ext ?_; refine sE_ext ?_) | (refine gA_slice ?_; refine sE_slice ?_) | (refine gA_nilc ?_; refine sE_nilc ?_) | (refine gA_pick ?_; refine sE_pick ?_)) | (refine gW ?_; first | refine awp_seq ?_ | refine awp_region ?_ | refine awp_block ?_ | refine awp_skip ?_ | refine awp_ret ?_ | refine awp_exit ?_ | refine awp_label ?_) | (refine gX ?_; first | refine aex_then ?_ | refine aex_normal_block ?_ | refine aex_ret_then ?_ | refine aex_ret_block ?_ | refine aex_exit_then ?_ | refine aex_exit_here ?_ | refine aex_exit_out rfl ?_ | refine aex_nop ?_)))
    exact aex_ret2_row rfl (resV_tmp (Opd.tmp rfl)) (resV_tmp (Opd.tmp rfl)) rfl (by repeat (first | exact List.Mem.head _ | apply List.Mem.tail))
end Go.Proofs.Ytfhglmdbkjbhjaa
