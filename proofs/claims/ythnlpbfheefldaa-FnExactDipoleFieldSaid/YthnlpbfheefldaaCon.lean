/-
  Contracts of the vector functions, in the abstract form. Conditions: none.
-/
import Derived.Test.YthnlpbfheefldaaVecB
import Derived.Test.YthnlpbfheefldaaTy
namespace Go.Proofs.Ythnlpbfheefldaa
open Go Go.RowKit

theorem c_implAdd {A B : V3} : Con Try.prog 69 [vec A, vec B] (RetA (vec (addV A B))) := con_of ⟨_, Try.func69, rfl, by kernel_rfl⟩ fun w vs h => by
  match vs, h with
  | [a, b], h =>
    exact (implAdd w (vec_Vb.1 h.1) (vec_Vb.1 h.2.1)).mono fun e w' ⟨v, he, hv, hb⟩ => ⟨v, he, hb, fun wx => vec_Vb.2 hv⟩
theorem c_specAdd {A B : V3} : Con Try.prog 67 [vec A, vec B] (RetA (vec (addV A B))) := con_of ⟨_, Try.func67, rfl, by kernel_rfl⟩ fun w vs h => by
  match vs, h with
  | [a, b], h =>
    exact (specAdd w (vec_Vb.1 h.1) (vec_Vb.1 h.2.1)).mono fun e w' ⟨v, he, hv, hb⟩ => ⟨v, he, hb, fun wx => vec_Vb.2 hv⟩
theorem c_implLess {A B : V3} : Con Try.prog 78 [vec A, vec B] (RetA (vec (lessV A B))) := con_of ⟨_, Try.func78, rfl, by kernel_rfl⟩ fun w vs h => by
  match vs, h with
  | [a, b], h =>
    exact (implLess w (vec_Vb.1 h.1) (vec_Vb.1 h.2.1)).mono fun e w' ⟨v, he, hv, hb⟩ => ⟨v, he, hb, fun wx => vec_Vb.2 hv⟩
theorem c_specLess {A B : V3} : Con Try.prog 82 [vec A, vec B] (RetA (vec (lessV A B))) := con_of ⟨_, Try.func82, rfl, by kernel_rfl⟩ fun w vs h => by
  match vs, h with
  | [a, b], h =>
    exact (specLess w (vec_Vb.1 h.1) (vec_Vb.1 h.2.1)).mono fun e w' ⟨v, he, hv, hb⟩ => ⟨v, he, hb, fun wx => vec_Vb.2 hv⟩
theorem c_implCross {A B : V3} : Con Try.prog 64 [vec A, vec B] (RetA (vec (crossV A B))) := con_of ⟨_, Try.func64, rfl, by kernel_rfl⟩ fun w vs h => by
  match vs, h with
  | [a, b], h =>
    exact (implCross w (vec_Vb.1 h.1) (vec_Vb.1 h.2.1)).mono fun e w' ⟨v, he, hv, hb⟩ => ⟨v, he, hb, fun wx => vec_Vb.2 hv⟩
theorem c_specCross {A B : V3} : Con Try.prog 63 [vec A, vec B] (RetA (vec (crossV A B))) := con_of ⟨_, Try.func63, rfl, by kernel_rfl⟩ fun w vs h => by
  match vs, h with
  | [a, b], h =>
    exact (specCross w (vec_Vb.1 h.1) (vec_Vb.1 h.2.1)).mono fun e w' ⟨v, he, hv, hb⟩ => ⟨v, he, hb, fun wx => vec_Vb.2 hv⟩
theorem c_implInner {A B : V3} : Con Try.prog 62 [vec A, vec B] (RetA (fl .f32 (innerV A B))) := con_of ⟨_, Try.func62, rfl, by kernel_rfl⟩ fun w vs h => by
  match vs, h with
  | [a, b], h =>
    exact (implInner w (vec_Vb.1 h.1) (vec_Vb.1 h.2.1)).mono fun e w' ⟨v, he, hv, hb⟩ => ⟨_, he, hb, fun wx => ⟨v, rfl, hv⟩⟩
theorem c_specInner {A B : V3} : Con Try.prog 61 [vec A, vec B] (RetA (fl .f32 (innerV A B))) := con_of ⟨_, Try.func61, rfl, by kernel_rfl⟩ fun w vs h => by
  match vs, h with
  | [a, b], h =>
    exact (specInner w (vec_Vb.1 h.1) (vec_Vb.1 h.2.1)).mono fun e w' ⟨v, he, hv, hb⟩ => ⟨_, he, hb, fun wx => ⟨v, rfl, hv⟩⟩
theorem c_implScale {A : V3} {S : Nat} : Con Try.prog 70 [vec A, fl .f32 S] (RetA (vec (scaleV A S))) := con_of ⟨_, Try.func70, rfl, by kernel_rfl⟩ fun w vs h => by
  match vs, h with
  | [a, b], h =>
    obtain ⟨x, rfl, hx⟩ := h.2.1
    exact (implScale w (vec_Vb.1 h.1) hx).mono fun e w' ⟨v, he, hv, hb⟩ => ⟨v, he, hb, fun wx => vec_Vb.2 hv⟩
theorem c_specScale {A : V3} {S : Nat} : Con Try.prog 68 [vec A, fl .f32 S] (RetA (vec (scaleV A S))) := con_of ⟨_, Try.func68, rfl, by kernel_rfl⟩ fun w vs h => by
  match vs, h with
  | [a, b], h =>
    obtain ⟨x, rfl, hx⟩ := h.2.1
    exact (specScale w (vec_Vb.1 h.1) hx).mono fun e w' ⟨v, he, hv, hb⟩ => ⟨v, he, hb, fun wx => vec_Vb.2 hv⟩
theorem c_implLong {A : V3} : Con Try.prog 79 [vec A] (RetA (fl .f32 (longV A))) := con_of ⟨_, Try.func79, rfl, by kernel_rfl⟩ fun w vs h => by
  match vs, h with
  | [a], h =>
    exact (implLong w (vec_Vb.1 h.1)).mono fun e w' ⟨v, he, hv, hb⟩ => ⟨_, he, hb, fun wx => ⟨v, rfl, hv⟩⟩
theorem c_specLong {A : V3} : Con Try.prog 83 [vec A] (RetA (fl .f32 (longV A))) := con_of ⟨_, Try.func83, rfl, by kernel_rfl⟩ fun w vs h => by
  match vs, h with
  | [a], h =>
    exact (specLong w (vec_Vb.1 h.1)).mono fun e w' ⟨v, he, hv, hb⟩ => ⟨_, he, hb, fun wx => ⟨v, rfl, hv⟩⟩
theorem c_implRoot {X : Nat} : Con Try.prog 89 [fl .f32 X] (RetA (fl .f32 (rootF X))) := con_of ⟨_, Try.func89, rfl, by kernel_rfl⟩ fun w vs h => by
  match vs, h with
  | [a], h =>
    obtain ⟨x, rfl, hx⟩ := h.1
    exact (implRoot w hx).mono fun e w' ⟨v, he, hv, hb⟩ => ⟨_, he, hb, fun wx => ⟨v, rfl, hv⟩⟩
theorem c_specSqrt {X : Nat} : Con Try.prog 90 [fl .f32 X] (RetA (fl .f32 (rootF X))) := con_of ⟨_, Try.func90, rfl, by kernel_rfl⟩ fun w vs h => by
  match vs, h with
  | [a], h =>
    obtain ⟨x, rfl, hx⟩ := h.1
    exact (specSqrt w hx).mono fun e w' ⟨v, he, hv, hb⟩ => ⟨_, he, hb, fun wx => ⟨v, rfl, hv⟩⟩
theorem c_implCube {X : Nat} : Con Try.prog 80 [fl .f32 X] (RetA (fl .f32 (cubeF X))) := by
  refine con_enter Try.func80 rfl (by kernel_rfl) Try.ntmps80 rfl fun w0 => ?_
  (repeat (first
      | (refine gA ?_; first
        | refine aops_nil ?_
        | (refine gA_assign ?_; first | refine aops_ev (ev_assignF rfl (by decide +kernel)) rfl ?_ | refine aops_ev (ev_assign rfl (by first | exact Opd.tmp rfl | exact Opd.c _ | exact Opd.func _)) rfl ?_)
        | (refine gA_move ?_; first | refine aops_ev (ev_moveF rfl (by decide +kernel)) rfl ?_ | refine aops_ev (ev_move rfl (by first | exact Opd.tmp rfl | exact Opd.c _ | exact Opd.func _)) rfl ?_)
        | (refine gA_pick ?_; first | refine aops_ev (ev_pickT rfl (by first | exact Opd.tmp rfl | exact Opd.c _ | exact Opd.func _) (by first | assumption | rfl) (by first | exact Opd.tmp rfl | exact Opd.c _ | exact Opd.func _)) rfl ?_ | refine aops_ev (ev_pickF rfl (by first | exact Opd.tmp rfl | exact Opd.c _ | exact Opd.func _) (by first | assumption | rfl) (by first | exact Opd.tmp rfl | exact Opd.c _ | exact Opd.func _)) rfl ?_)
        | (refine gA_load ?_; first | refine aops_ev (ev_loadP rfl (by first | exact Opd.tmp rfl | exact Opd.c _ | exact Opd.func _) tyP_f32 (by repeat (first | exact List.Mem.head _ | apply List.Mem.tail)) rfl) rfl ?_ | refine aops_ev (ev_loadRP rfl (by first | exact Opd.tmp rfl | exact Opd.c _ | exact Opd.func _) tyP_f32 rfl) rfl ?_ | refine aops_ev (ev_loadP rfl (by first | exact Opd.tmp rfl | exact Opd.c _ | exact Opd.func _) tyP_i64 (by repeat (first | exact List.Mem.head _ | apply List.Mem.tail)) rfl) rfl ?_ | refine aops_ev (ev_loadRP rfl (by first | exact Opd.tmp rfl | exact Opd.c _ | exact Opd.func _) tyP_i64 rfl) rfl ?_ | refine aops_ev (ev_loadP rfl (by first | exact Opd.tmp rfl | exact Opd.c _ | exact Opd.func _) tyP_int (by repeat (first | exact List.Mem.head _ | apply List.Mem.tail)) rfl) rfl ?_ | refine aops_ev (ev_loadRP rfl (by first | exact Opd.tmp rfl | exact Opd.c _ | exact Opd.func _) tyP_int rfl) rfl ?_ | refine aops_ev (ev_loadP rfl (by first | exact Opd.tmp rfl | exact Opd.c _ | exact Opd.func _) tyP_bool (by repeat (first | exact List.Mem.head _ | apply List.Mem.tail)) rfl) rfl ?_ | refine aops_ev (ev_loadRP rfl (by first | exact Opd.tmp rfl | exact Opd.c _ | exact Opd.func _) tyP_bool rfl) rfl ?_)
        | (refine gA_bin ?_; first | refine aops_ev (ev_fop rfl rfl (by first | exact OpF.tmp rfl | exact OpF.c (by decide +kernel)) (by first | exact OpF.tmp rfl | exact OpF.c (by decide +kernel))) rfl ?_ | refine aops_ev (ev_fcmp rfl rfl (by first | exact OpF.tmp rfl | exact OpF.c (by decide +kernel)) (by first | exact OpF.tmp rfl | exact OpF.c (by decide +kernel))) rfl ?_ | refine aops_ev (ev_icmp rfl (by first | exact Opd.tmp rfl | exact Opd.c _ | exact Opd.func _) (by first | exact Opd.tmp rfl | exact Opd.c _ | exact Opd.func _) rfl) rfl ?_ | refine aops_ev (ev_beq rfl (by first | exact Opd.tmp rfl | exact Opd.c _ | exact Opd.func _) (by first | exact Opd.tmp rfl | exact Opd.c _ | exact Opd.func _) Try.underlying4 rfl) rfl ?_ | refine aops_ev (ev_iar rfl (by first | exact Opd.tmp rfl | exact Opd.c _ | exact Opd.func _) (by first | exact Opd.tmp rfl | exact Opd.c _ | exact Opd.func _) rfl (IntWalk.i64_in _ (by omega))) rfl ?_)
        | (refine gA_un ?_; first | refine aops_ev (ev_not rfl (by first | exact Opd.tmp rfl | exact Opd.c _ | exact Opd.func _)) rfl ?_ | refine aops_ev (ev_fneg rfl (by first | exact OpF.tmp rfl | exact OpF.c (by decide +kernel))) rfl ?_)
        | (refine gA_ext ?_; first | refine aops_ev (ev_extract rfl (by first | exact Opd.tmp rfl | exact Opd.c _ | exact Opd.func _) rfl) rfl ?_)
        | (refine gA_nilc ?_; first | refine aops_ev (ev_nilc rfl (by first | exact Opd.tmp rfl | exact Opd.c _ | exact Opd.func _)) rfl ?_ | refine aops_ev (ev_nilcR rfl (by first | exact Opd.tmp rfl | exact Opd.c _ | exact Opd.func _)) rfl ?_)
        | (refine gA_conv ?_; first | refine aops_ev (ev_fcvt rfl Try.underlying22 Try.underlying34 (by decide) (by first | exact OpF.tmp rfl | exact OpF.c (by decide +kernel)) (fits_widen _)) rfl ?_ | refine aops_ev (ev_fcvt rfl Try.underlying34 Try.underlying22 (by decide) (by first | exact OpF.tmp rfl | exact OpF.c (by decide +kernel)) (by assumption)) rfl ?_ | refine aops_ev (ev_fsame rfl Try.underlying22 Try.underlying22 (by first | exact OpF.tmp rfl | exact OpF.c (by decide +kernel))) rfl ?_ | refine aops_ev (ev_itof rfl (by rw [Try.underlying3]; rfl) Try.underlying22 (by first | exact Opd.tmp rfl | exact Opd.c _ | exact Opd.func _)) rfl ?_ | refine aops_ev (ev_itof rfl (by rw [Try.underlying2]; rfl) Try.underlying22 (by first | exact Opd.tmp rfl | exact Opd.c _ | exact Opd.func _)) rfl ?_ | refine aops_ev (ev_itoi rfl (by rw [Try.underlying3]; rfl) Try.underlying2 (by first | exact Opd.tmp rfl | exact Opd.c _ | exact Opd.func _) (IntWalk.i64_in _ (by omega))) rfl ?_ | refine aops_ev (ev_itoi rfl (by rw [Try.underlying2]; rfl) Try.underlying3 (by first | exact Opd.tmp rfl | exact Opd.c _ | exact Opd.func _) (IntWalk.i64_in _ (by omega))) rfl ?_)
        | (refine gA_alloc ?_; first | (refine aops_alloc tyZ_f32 rfl ?_; intro _) | (refine aops_alloc tyZ_i64 rfl ?_; intro _) | (refine aops_alloc tyZ_int rfl ?_; intro _) | (refine aops_alloc tyZ_bool rfl ?_; intro _))
        | (refine gA_store ?_; first | refine aops_store (by first | exact Opd.tmp rfl | exact Opd.c _ | exact Opd.func _) (by first | exact Opd.tmp rfl | exact Opd.c _ | exact Opd.func _) (by first | exact cellsOf_agg _ | exact cellsOf_fl _ _ | exact cellsOf_vv rfl | exact cellsOf_rs _ _ _ | exact cellsOf_rp _ _) (by exact sz_f32) (by repeat (first | exact HPut.here | apply HPut.there)) rfl (by exact Nat.le_of_ble_eq_true rfl) ?_ | refine aops_store (by first | exact Opd.tmp rfl | exact Opd.c _ | exact Opd.func _) (by first | exact Opd.tmp rfl | exact Opd.c _ | exact Opd.func _) (by first | exact cellsOf_agg _ | exact cellsOf_fl _ _ | exact cellsOf_vv rfl | exact cellsOf_rs _ _ _ | exact cellsOf_rp _ _) (by exact sz_i64) (by repeat (first | exact HPut.here | apply HPut.there)) rfl (by exact Nat.le_of_ble_eq_true rfl) ?_ | refine aops_store (by first | exact Opd.tmp rfl | exact Opd.c _ | exact Opd.func _) (by first | exact Opd.tmp rfl | exact Opd.c _ | exact Opd.func _) (by first | exact cellsOf_agg _ | exact cellsOf_fl _ _ | exact cellsOf_vv rfl | exact cellsOf_rs _ _ _ | exact cellsOf_rp _ _) (by exact sz_int) (by repeat (first | exact HPut.here | apply HPut.there)) rfl (by exact Nat.le_of_ble_eq_true rfl) ?_ | refine aops_store (by first | exact Opd.tmp rfl | exact Opd.c _ | exact Opd.func _) (by first | exact Opd.tmp rfl | exact Opd.c _ | exact Opd.func _) (by first | exact cellsOf_agg _ | exact cellsOf_fl _ _ | exact cellsOf_vv rfl | exact cellsOf_rs _ _ _ | exact cellsOf_rp _ _) (by exact sz_bool) (by repeat (first | exact HPut.here | apply HPut.there)) rfl (by exact Nat.le_of_ble_eq_true rfl) ?_)
        | (refine gA_box ?_; refine aops_box (by first | exact Opd.tmp rfl | exact Opd.c _ | exact Opd.func _) (by first | exact cellsOf_agg _ | exact cellsOf_fl _ _ | exact cellsOf_vv rfl | exact cellsOf_rs _ _ _ | exact cellsOf_rp _ _) rfl ?_; intro _)
        | refine aops_gyes rfl rfl (by first | assumption | rfl | exact decide_eq_false (by omega) | exact decide_eq_true (by omega) | (simp; done)) ?_
        | refine aops_gno rfl rfl (by first | assumption | rfl | exact decide_eq_false (by omega) | exact decide_eq_true (by omega) | (simp; done)) rfl ?_
        | refine aops_gskip rfl rfl rfl ?_)
      | (refine gW ?_; first | refine awp_seq ?_ | refine awp_region ?_ | refine awp_block ?_ | refine awp_skip ?_ | refine awp_ret ?_ | refine awp_exit ?_ | refine awp_label ?_)
      | (refine gX ?_; first | refine aex_then ?_ | refine aex_normal_block ?_ | refine aex_ret_then ?_ | refine aex_ret_block ?_ | refine aex_exit_then ?_ | refine aex_exit_here ?_ | refine aex_exit_out rfl ?_)))
  exact aex_ret1 rfl (resV_tmp (Opd.tmp rfl)) rfl
theorem c_specCube {X : Nat} : Con Try.prog 84 [fl .f32 X] (RetA (fl .f32 (cubeF X))) := by
  refine con_enter Try.func84 rfl (by kernel_rfl) Try.ntmps84 rfl fun w0 => ?_
  (repeat (first
      | (refine gA ?_; first
        | refine aops_nil ?_
        | (refine gA_assign ?_; first | refine aops_ev (ev_assignF rfl (by decide +kernel)) rfl ?_ | refine aops_ev (ev_assign rfl (by first | exact Opd.tmp rfl | exact Opd.c _ | exact Opd.func _)) rfl ?_)
        | (refine gA_move ?_; first | refine aops_ev (ev_moveF rfl (by decide +kernel)) rfl ?_ | refine aops_ev (ev_move rfl (by first | exact Opd.tmp rfl | exact Opd.c _ | exact Opd.func _)) rfl ?_)
        | (refine gA_pick ?_; first | refine aops_ev (ev_pickT rfl (by first | exact Opd.tmp rfl | exact Opd.c _ | exact Opd.func _) (by first | assumption | rfl) (by first | exact Opd.tmp rfl | exact Opd.c _ | exact Opd.func _)) rfl ?_ | refine aops_ev (ev_pickF rfl (by first | exact Opd.tmp rfl | exact Opd.c _ | exact Opd.func _) (by first | assumption | rfl) (by first | exact Opd.tmp rfl | exact Opd.c _ | exact Opd.func _)) rfl ?_)
        | (refine gA_load ?_; first | refine aops_ev (ev_loadP rfl (by first | exact Opd.tmp rfl | exact Opd.c _ | exact Opd.func _) tyP_f32 (by repeat (first | exact List.Mem.head _ | apply List.Mem.tail)) rfl) rfl ?_ | refine aops_ev (ev_loadRP rfl (by first | exact Opd.tmp rfl | exact Opd.c _ | exact Opd.func _) tyP_f32 rfl) rfl ?_ | refine aops_ev (ev_loadP rfl (by first | exact Opd.tmp rfl | exact Opd.c _ | exact Opd.func _) tyP_i64 (by repeat (first | exact List.Mem.head _ | apply List.Mem.tail)) rfl) rfl ?_ | refine aops_ev (ev_loadRP rfl (by first | exact Opd.tmp rfl | exact Opd.c _ | exact Opd.func _) tyP_i64 rfl) rfl ?_ | refine aops_ev (ev_loadP rfl (by first | exact Opd.tmp rfl | exact Opd.c _ | exact Opd.func _) tyP_int (by repeat (first | exact List.Mem.head _ | apply List.Mem.tail)) rfl) rfl ?_ | refine aops_ev (ev_loadRP rfl (by first | exact Opd.tmp rfl | exact Opd.c _ | exact Opd.func _) tyP_int rfl) rfl ?_ | refine aops_ev (ev_loadP rfl (by first | exact Opd.tmp rfl | exact Opd.c _ | exact Opd.func _) tyP_bool (by repeat (first | exact List.Mem.head _ | apply List.Mem.tail)) rfl) rfl ?_ | refine aops_ev (ev_loadRP rfl (by first | exact Opd.tmp rfl | exact Opd.c _ | exact Opd.func _) tyP_bool rfl) rfl ?_)
        | (refine gA_bin ?_; first | refine aops_ev (ev_fop rfl rfl (by first | exact OpF.tmp rfl | exact OpF.c (by decide +kernel)) (by first | exact OpF.tmp rfl | exact OpF.c (by decide +kernel))) rfl ?_ | refine aops_ev (ev_fcmp rfl rfl (by first | exact OpF.tmp rfl | exact OpF.c (by decide +kernel)) (by first | exact OpF.tmp rfl | exact OpF.c (by decide +kernel))) rfl ?_ | refine aops_ev (ev_icmp rfl (by first | exact Opd.tmp rfl | exact Opd.c _ | exact Opd.func _) (by first | exact Opd.tmp rfl | exact Opd.c _ | exact Opd.func _) rfl) rfl ?_ | refine aops_ev (ev_beq rfl (by first | exact Opd.tmp rfl | exact Opd.c _ | exact Opd.func _) (by first | exact Opd.tmp rfl | exact Opd.c _ | exact Opd.func _) Try.underlying4 rfl) rfl ?_ | refine aops_ev (ev_iar rfl (by first | exact Opd.tmp rfl | exact Opd.c _ | exact Opd.func _) (by first | exact Opd.tmp rfl | exact Opd.c _ | exact Opd.func _) rfl (IntWalk.i64_in _ (by omega))) rfl ?_)
        | (refine gA_un ?_; first | refine aops_ev (ev_not rfl (by first | exact Opd.tmp rfl | exact Opd.c _ | exact Opd.func _)) rfl ?_ | refine aops_ev (ev_fneg rfl (by first | exact OpF.tmp rfl | exact OpF.c (by decide +kernel))) rfl ?_)
        | (refine gA_ext ?_; first | refine aops_ev (ev_extract rfl (by first | exact Opd.tmp rfl | exact Opd.c _ | exact Opd.func _) rfl) rfl ?_)
        | (refine gA_nilc ?_; first | refine aops_ev (ev_nilc rfl (by first | exact Opd.tmp rfl | exact Opd.c _ | exact Opd.func _)) rfl ?_ | refine aops_ev (ev_nilcR rfl (by first | exact Opd.tmp rfl | exact Opd.c _ | exact Opd.func _)) rfl ?_)
        | (refine gA_conv ?_; first | refine aops_ev (ev_fcvt rfl Try.underlying22 Try.underlying34 (by decide) (by first | exact OpF.tmp rfl | exact OpF.c (by decide +kernel)) (fits_widen _)) rfl ?_ | refine aops_ev (ev_fcvt rfl Try.underlying34 Try.underlying22 (by decide) (by first | exact OpF.tmp rfl | exact OpF.c (by decide +kernel)) (by assumption)) rfl ?_ | refine aops_ev (ev_fsame rfl Try.underlying22 Try.underlying22 (by first | exact OpF.tmp rfl | exact OpF.c (by decide +kernel))) rfl ?_ | refine aops_ev (ev_itof rfl (by rw [Try.underlying3]; rfl) Try.underlying22 (by first | exact Opd.tmp rfl | exact Opd.c _ | exact Opd.func _)) rfl ?_ | refine aops_ev (ev_itof rfl (by rw [Try.underlying2]; rfl) Try.underlying22 (by first | exact Opd.tmp rfl | exact Opd.c _ | exact Opd.func _)) rfl ?_ | refine aops_ev (ev_itoi rfl (by rw [Try.underlying3]; rfl) Try.underlying2 (by first | exact Opd.tmp rfl | exact Opd.c _ | exact Opd.func _) (IntWalk.i64_in _ (by omega))) rfl ?_ | refine aops_ev (ev_itoi rfl (by rw [Try.underlying2]; rfl) Try.underlying3 (by first | exact Opd.tmp rfl | exact Opd.c _ | exact Opd.func _) (IntWalk.i64_in _ (by omega))) rfl ?_)
        | (refine gA_alloc ?_; first | (refine aops_alloc tyZ_f32 rfl ?_; intro _) | (refine aops_alloc tyZ_i64 rfl ?_; intro _) | (refine aops_alloc tyZ_int rfl ?_; intro _) | (refine aops_alloc tyZ_bool rfl ?_; intro _))
        | (refine gA_store ?_; first | refine aops_store (by first | exact Opd.tmp rfl | exact Opd.c _ | exact Opd.func _) (by first | exact Opd.tmp rfl | exact Opd.c _ | exact Opd.func _) (by first | exact cellsOf_agg _ | exact cellsOf_fl _ _ | exact cellsOf_vv rfl | exact cellsOf_rs _ _ _ | exact cellsOf_rp _ _) (by exact sz_f32) (by repeat (first | exact HPut.here | apply HPut.there)) rfl (by exact Nat.le_of_ble_eq_true rfl) ?_ | refine aops_store (by first | exact Opd.tmp rfl | exact Opd.c _ | exact Opd.func _) (by first | exact Opd.tmp rfl | exact Opd.c _ | exact Opd.func _) (by first | exact cellsOf_agg _ | exact cellsOf_fl _ _ | exact cellsOf_vv rfl | exact cellsOf_rs _ _ _ | exact cellsOf_rp _ _) (by exact sz_i64) (by repeat (first | exact HPut.here | apply HPut.there)) rfl (by exact Nat.le_of_ble_eq_true rfl) ?_ | refine aops_store (by first | exact Opd.tmp rfl | exact Opd.c _ | exact Opd.func _) (by first | exact Opd.tmp rfl | exact Opd.c _ | exact Opd.func _) (by first | exact cellsOf_agg _ | exact cellsOf_fl _ _ | exact cellsOf_vv rfl | exact cellsOf_rs _ _ _ | exact cellsOf_rp _ _) (by exact sz_int) (by repeat (first | exact HPut.here | apply HPut.there)) rfl (by exact Nat.le_of_ble_eq_true rfl) ?_ | refine aops_store (by first | exact Opd.tmp rfl | exact Opd.c _ | exact Opd.func _) (by first | exact Opd.tmp rfl | exact Opd.c _ | exact Opd.func _) (by first | exact cellsOf_agg _ | exact cellsOf_fl _ _ | exact cellsOf_vv rfl | exact cellsOf_rs _ _ _ | exact cellsOf_rp _ _) (by exact sz_bool) (by repeat (first | exact HPut.here | apply HPut.there)) rfl (by exact Nat.le_of_ble_eq_true rfl) ?_)
        | (refine gA_box ?_; refine aops_box (by first | exact Opd.tmp rfl | exact Opd.c _ | exact Opd.func _) (by first | exact cellsOf_agg _ | exact cellsOf_fl _ _ | exact cellsOf_vv rfl | exact cellsOf_rs _ _ _ | exact cellsOf_rp _ _) rfl ?_; intro _)
        | refine aops_gyes rfl rfl (by first | assumption | rfl | exact decide_eq_false (by omega) | exact decide_eq_true (by omega) | (simp; done)) ?_
        | refine aops_gno rfl rfl (by first | assumption | rfl | exact decide_eq_false (by omega) | exact decide_eq_true (by omega) | (simp; done)) rfl ?_
        | refine aops_gskip rfl rfl rfl ?_)
      | (refine gW ?_; first | refine awp_seq ?_ | refine awp_region ?_ | refine awp_block ?_ | refine awp_skip ?_ | refine awp_ret ?_ | refine awp_exit ?_ | refine awp_label ?_)
      | (refine gX ?_; first | refine aex_then ?_ | refine aex_normal_block ?_ | refine aex_ret_then ?_ | refine aex_ret_block ?_ | refine aex_exit_then ?_ | refine aex_exit_here ?_ | refine aex_exit_out rfl ?_)))
  exact aex_ret1 rfl (resV_tmp (Opd.tmp rfl)) rfl
end Go.Proofs.Ythnlpbfheefldaa
