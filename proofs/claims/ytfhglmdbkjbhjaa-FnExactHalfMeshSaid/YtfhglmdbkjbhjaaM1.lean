/-
  Multiples of meshes: the law's walk. Conditions: none.
-/
import Derived.Test.YtfhglmdbkjbhjaaMd
import Derived.Test.YtfhglmdbkjbhjaaSu
namespace Go.Proofs.Ytfhglmdbkjbhjaa
open Go Go.RowKit

section
variable {P : Program} {w0 : World} {ops : Array Oper} {nt : Nat} {env : List (Nat × AV)} {H : List HE} {rest : List Oper} {Q : Exit → Act → World → Prop} {ty : TypeId} {pos : String} {after : Array Edge}
theorem aops_markA {d f T s n : Nat} {y z : Operand} {v : Value} {A : AV} {c : Nat → List AV} {mk : Int → Nat → List AV} {K : Int} {H2 : List HE} {ts : Array TypeId} (hc : ConM P f [A, vv (.int .i64 K)] [.row v T s n c] (fun _ : Unit => vv (.int .i64 (K + (s : Int) * n))) (fun _ => [.row v T s n (mk K)]))
    (hy : Opd ⟨nt, env, H⟩ y A) (hz : Opd ⟨nt, env, H⟩ z (vv (.int .i64 K))) (hr : HRep H (.row v T s n c) (.row v T s n (mk K)) H2) (hd : Nat.blt d nt = true) (k : AOps P w0 ops ⟨nt, (d, vv (.int .i64 (K + (s : Int) * n))) :: env, H2⟩ rest Q) : AOps P w0 ops ⟨nt, env, H⟩ (⟨some d, .call ⟨.value (.func f), #[y, z], ts⟩, ty, pos, after, none⟩ :: rest) Q := by
  refine ⟨fun a w hs => wpList_plain rfl fun KK hK => ?_⟩
  have ey : A.R w0 (a.eval y) := hy w0 a w hs
  have ez : a.eval z = .int .i64 K := hz w0 a w hs
  unfold Oper.wp
  rw [run_call hc.1 (.func f) #[y, z] ts rfl a rfl w]
  simp only [Oper.upon, List.map_toArray, List.map_cons, List.map_nil, ez]
  refine (hc.2 w0 w [a.eval y, .int .i64 K] hs.below ⟨ey, rfl, trivial⟩ ⟨hs.heap.get _ hr.mem, fun g hg => ⟨(hs.heap.foot _ hr.mem g hg).1, (hs.heap.foot _ hr.mem g hg).2, fun e he => by cases he⟩, trivial⟩).mono fun e w' h => ?_
  obtain ⟨u, i, rfl, hu, hb, hH, hsz, hk, hf⟩ := h
  refine hK _ _ (k.out _ _ (hs.step2 (dst := some d) hb hu hd (hr.ok (show ∀ g, (HE.row v T s n (mk K)).foot g → (HE.row v T s n c).foot g from fun _ h => h) hs.heap hsz (fun g hg hng => ?_) hH.1)))
  by_cases h0 : w0.heap.size ≤ g
  · exact hk g ⟨h0, hg, fun e he => by
      cases he with
      | head => exact hng
      | tail _ he => cases he⟩
  · rw [hb.block g (by omega), hs.below.block g (by omega)]
end
section
variable {w0 : World} {ops : Array Oper} {nt : Nat} {env : List (Nat × AV)} {H : List HE} {rest : List Oper} {Q : Exit → Act → World → Prop} {ty : TypeId} {pos : String} {after : Array Edge}
theorem sMm {d f T s n : Nat} {y z : Operand} {M : MH} {v : Value} {F : Nat → V3} {mk : Int → Nat → List AV} {K1 : Int} {H2 : List HE} {ts : Array TypeId} (hc : ∀ {M : MH} {v : Value} {n : Nat} {F : Nat → V3} {K : Int}, n ≤ 1048576 → 0 ≤ K → K ≤ 16777216 → ConM Try.prog f [mesh M (vv v), vv (.int .i64 K)] [.row v T s n (vecC F)] (fun _ : Unit => vv (.int .i64 (K + (s : Int) * n))) (fun _ => [.row v T s n (mk K)]))
    (k : AOps Try.prog w0 ops ⟨nt, (d, vv (.int .i64 (K1 + (s : Int) * n))) :: env, H2⟩ rest Q)
    (hy : Opd ⟨nt, env, H⟩ y (mesh M (vv v)) := by first | exact Opd.tmp rfl | exact Opd.c _)
    (hz : Opd ⟨nt, env, H⟩ z (vv (.int .i64 K1)) := by first | exact Opd.tmp rfl | exact Opd.c _)
    (hr : HRep H (.row v T s n (vecC F)) (.row v T s n (mk K1)) H2 := by repeat (first | exact HRep.here | apply HRep.there))
    (hn : n ≤ 1048576 := by omega) (h0 : 0 ≤ K1 := by omega) (h1 : K1 ≤ 16777216 := by omega) (hd : Nat.blt d nt = true := by exact rfl)
    : AOps Try.prog w0 ops ⟨nt, env, H⟩ (⟨some d, .call ⟨.value (.func f), #[y, z], ts⟩, ty, pos, after, none⟩ :: rest) Q := aops_markA (hc hn h0 h1) hy hz hr hd k
end
theorem scaleN_le {M : MH} {n : Nat} (hn : n ≤ 1048576) : scaleN M n ≤ 1048576 := by
  unfold scaleN
  split
  · exact hn
  · omega

set_option maxRecDepth 100000 in
set_option maxHeartbeats 2000000 in
theorem k_ScaleMesh {M : MH} {n : Nat} {F : Nat → V3} {X : Nat} (hm : n ≤ maxLen) : Con Try.prog 10 [mesh M (rs 3 n (vecC F)), fl .f32 X] (RetA (vv (.bool true))) := by
  refine con_enter Try.func10 rfl (by kernel_rfl) Try.ntmps10 rfl fun w0 => ?_
  by_cases hn : n ≤ 1048576
  · have hq := bne_self_eq_false (validB M n)
    have hs := scaleN_le (M := M) hn
    (repeat (first | (refine gA ?_; first | refine aops_nil ?_ | (refine gA_gd ?_; first | refine gY ?_ | refine gN ?_ | refine gS ?_) | (refine gA_callf ?_; (first | refine sC (c_lawsSzMesh (n := n) (L := 1048576) hm (by omega) (by omega) (by omega)) ?_ | refine sC (c_lawsEqMesh (M := keepM M n) (n := scaleN M n) (F := scaleF F X) hs) ?_ | refine sC (c_lawsEqMesh (M := M) (n := n) (F := F) hn) ?_ | refine sC (c_lawsHeldMesh (M := keepM M n) (n := scaleN M n) (K := 1) hs (by omega) (by omega)) ?_ | (refine sCr (c_lawsToMesh (M := M) (n := n) (F := F) hn) ?_; intro _) | (refine sCr (c_specScaleMesh (n := n) hn) ?_; intro _) | (refine sCr (c_implScaleMesh (n := n) hn) ?_; intro _) | refine sMm (c_lawsMarkMesh) ?_)) | (refine gA_alloc ?_; refine sA ?_; intro _) | (refine gA_store ?_; first | refine sS ?_ | refine sSr ?_) | (refine gA_box ?_; refine sB ?_; intro _) | (refine gA_move ?_; refine sE_move ?_) | (refine gA_load ?_; refine sE_load ?_) | (refine gA_assign ?_; refine sE_assign ?_) | (refine gA_field ?_; refine sE_field ?_) | (refine gA_bin ?_; refine sE_bin ?_) | (refine gA_index ?_; refine sE_index ?_) | (refine gA_callb ?_; refine sE_callb ?_) | (refine gA_un ?_; refine sE_un ?_) | (refine gA_conv ?_; refine sE_conv ?_) | (refine gA_build ?_; refine sE_build ?_) | (refine gA_ext ?_; refine sE_ext ?_) | (refine gA_slice ?_; refine sE_slice ?_) | (refine gA_nilc ?_; refine sE_nilc ?_) | (refine gA_pick ?_; refine sE_pick ?_) | (refine gA_func ?_; refine sE_func ?_)) | (refine gU ?_; first | refine du_nil ?_ | (refine gU_gd ?_; first | refine uY ?_ | refine uN ?_) | (refine gU_callf ?_; (first | refine uC (c_lawsSzMesh (n := n) (L := 1048576) hm (by omega) (by omega) (by omega)) ?_ | refine uC (c_lawsEqMesh (M := keepM M n) (n := scaleN M n) (F := scaleF F X) hs) ?_ | refine uC (c_lawsEqMesh (M := M) (n := n) (F := F) hn) ?_ | refine uC (c_lawsHeldMesh (M := keepM M n) (n := scaleN M n) (K := 1) hs (by omega) (by omega)) ?_ | refine uR (c_lawsToMesh (M := M) (n := n) (F := F) hn) ?_ | refine uR (c_specScaleMesh (n := n) hn) ?_ | refine uR (c_implScaleMesh (n := n) hn) ?_)) | (refine gU_alloc ?_; refine uA ?_) | (refine gU_move ?_; refine uE_move ?_) | (refine gU_load ?_; refine uE_load ?_) | (refine gU_assign ?_; refine uE_assign ?_) | (refine gU_field ?_; refine uE_field ?_) | (refine gU_bin ?_; refine uE_bin ?_) | (refine gU_index ?_; refine uE_index ?_) | (refine gU_callb ?_; refine uE_callb ?_) | (refine gU_un ?_; refine uE_un ?_) | (refine gU_conv ?_; refine uE_conv ?_) | (refine gU_build ?_; refine uE_build ?_) | (refine gU_ext ?_; refine uE_ext ?_) | (refine gU_slice ?_; refine uE_slice ?_) | (refine gU_nilc ?_; refine uE_nilc ?_) | (refine gU_pick ?_; refine uE_pick ?_) | (refine gU_func ?_; refine uE_func ?_)) | (refine gR ?_; first | refine adrop_zero ?_ | refine adrop_succ ?_) | (refine gV ?_; first | refine finv_nil rfl ?_ | (refine finv_box rfl ?_; intro _) | (refine finv_row rfl ?_; intro _)) | (refine gW ?_; first | refine awp_seq ?_ | refine awp_region ?_ | refine awp_block ?_ | refine awp_skip ?_ | refine awp_ret ?_ | refine awp_exit ?_ | refine awp_label ?_ | refine awp_drawU (id := 10) 4 rfl (by kernel_rfl) ?_ | refine cF ?_ | refine cT ?_) | (refine gX ?_; first | refine aex_then ?_ | refine aex_normal_block ?_ | refine aex_ret_then ?_ | refine aex_ret_block ?_ | refine aex_exit_then ?_ | refine aex_exit_here ?_ | refine aex_exit_out rfl ?_ | refine aex_nop ?_)))
    exact aex_ret1 rfl (resV_tmp (Opd.tmp rfl)) (by exact rfl)
  · (repeat (first | (refine gA ?_; first | refine aops_nil ?_ | (refine gA_gd ?_; first | refine gY ?_ | refine gN ?_ | refine gS ?_) | (refine gA_callf ?_; refine sC (c_lawsSzMesh_no (n := n) (L := 1048576) hm (by omega) (by omega) (by omega)) ?_) | (refine gA_alloc ?_; refine sA ?_; intro _) | (refine gA_store ?_; first | refine sS ?_ | refine sSr ?_) | (refine gA_box ?_; refine sB ?_; intro _) | (refine gA_move ?_; refine sE_move ?_) | (refine gA_load ?_; refine sE_load ?_) | (refine gA_assign ?_; refine sE_assign ?_) | (refine gA_field ?_; refine sE_field ?_) | (refine gA_bin ?_; refine sE_bin ?_) | (refine gA_index ?_; refine sE_index ?_) | (refine gA_callb ?_; refine sE_callb ?_) | (refine gA_un ?_; refine sE_un ?_) | (refine gA_conv ?_; refine sE_conv ?_) | (refine gA_build ?_; refine sE_build ?_) | (refine gA_ext ?_; refine sE_ext ?_) | (refine gA_slice ?_; refine sE_slice ?_) | (refine gA_nilc ?_; refine sE_nilc ?_) | (refine gA_pick ?_; refine sE_pick ?_) | (refine gA_func ?_; refine sE_func ?_)) | (refine gU ?_; first | refine du_nil ?_ | (refine gU_gd ?_; first | refine uY ?_ | refine uN ?_) | (refine gU_callf ?_; refine uC (c_lawsSzMesh_no (n := n) (L := 1048576) hm (by omega) (by omega) (by omega)) ?_) | (refine gU_alloc ?_; refine uA ?_) | (refine gU_move ?_; refine uE_move ?_) | (refine gU_load ?_; refine uE_load ?_) | (refine gU_assign ?_; refine uE_assign ?_) | (refine gU_field ?_; refine uE_field ?_) | (refine gU_bin ?_; refine uE_bin ?_) | (refine gU_index ?_; refine uE_index ?_) | (refine gU_callb ?_; refine uE_callb ?_) | (refine gU_un ?_; refine uE_un ?_) | (refine gU_conv ?_; refine uE_conv ?_) | (refine gU_build ?_; refine uE_build ?_) | (refine gU_ext ?_; refine uE_ext ?_) | (refine gU_slice ?_; refine uE_slice ?_) | (refine gU_nilc ?_; refine uE_nilc ?_) | (refine gU_pick ?_; refine uE_pick ?_) | (refine gU_func ?_; refine uE_func ?_)) | (refine gR ?_; first | refine adrop_zero ?_ | refine adrop_succ ?_) | (refine gV ?_; first | refine finv_nil rfl ?_ | (refine finv_box rfl ?_; intro _) | (refine finv_row rfl ?_; intro _)) | (refine gW ?_; first | refine awp_seq ?_ | refine awp_region ?_ | refine awp_block ?_ | refine awp_skip ?_ | refine awp_ret ?_ | refine awp_exit ?_ | refine awp_label ?_ | refine awp_drawU (id := 10) 4 rfl (by kernel_rfl) ?_ | refine cF ?_ | refine cT ?_) | (refine gX ?_; first | refine aex_then ?_ | refine aex_normal_block ?_ | refine aex_ret_then ?_ | refine aex_ret_block ?_ | refine aex_exit_then ?_ | refine aex_exit_here ?_ | refine aex_exit_out rfl ?_ | refine aex_nop ?_)))
    exact aex_ret1 rfl (resV_tmp (Opd.tmp rfl)) (by exact rfl)
end Go.Proofs.Ytfhglmdbkjbhjaa
