/-
  Angles of points, on both sides: contracts. Conditions: none.
-/
import Derived.Test.YtjkpnnbahhlopaaNd
namespace Go.Proofs.Ytjkpnnbahhlopaa
open Go Go.RowKit

theorem kV_end : ∀ j, j ≤ 8 → cmpB .geq .f64 (kV j) 4607182418800017408 = decide (j < 8) := by decide +kernel
theorem kV_next : ∀ j, j < 8 → fop .sub .f64 (kV j) 4611686018427387904 = kV (j + 1) := by decide +kernel
theorem kV_zero : 4624633867356078080 = kV 0 := by decide +kernel
theorem read_fin {X : Nat} (h : finB X = true) : ∃ s m i, FloatKind.f64.format.read (fcvt .f32 .f64 X) = .number s m i := by
  rw [← fin64_cvt, fin64_num] at h
  cases ex : FloatKind.f64.format.read (fcvt .f32 .f64 X) with
  | infinity s => rw [ex] at h; cases h
  | nan s t => rw [ex] at h; cases h
  | number s m i => exact ⟨s, m, i, rfl⟩
/-- The angle in 64 bits. -/
def wideV (Y X : Nat) : Nat := if (finB Y && finB X) = true then (if (cmpB .eql .f32 X 0 && cmpB .eql .f32 Y 0) = true then 0 else angW (absF (fcvt .f32 .f64 Y)) (absF (fcvt .f32 .f64 X)) (cmpB .lss .f32 X 0) (cmpB .lss .f32 Y 0)) else nanOf .f64
def turnV (Y X : Nat) : Nat := fcvt .f64 .f32 (wideV Y X)
theorem wide_fits (Y X : Nat) : fits .f64 .f32 (wideV Y X) := by
  unfold wideV
  split
  · rename_i h
    rw [Bool.and_eq_true] at h
    split
    · exact leN_fits (E := 1074) (.inr (le_leB (by decide +kernel))) (by omega)
    · rename_i h2
      have h3 : (cmpB .eql .f32 X 0 && cmpB .eql .f32 Y 0) = false := by simpa using h2
      exact leN_fits (leN_angW (angT_le h.2 h.1 h3)) (by omega)
  · exact fun h => by rw [isNan_nanOf] at h; cases h
theorem turn_zero : fcvt .f64 .f32 0 = 0 := by decide +kernel
theorem angT_yes {A B : Nat} (h : cmpB .gtr .f64 A B = true) : angT A B = fop .quo .f64 B A := if_pos h
theorem angT_no {A B : Nat} (h : cmpB .gtr .f64 A B = false) : angT A B = fop .quo .f64 A B := if_neg (by rw [h]; simp)
set_option maxRecDepth 100000 in
set_option maxHeartbeats 2000000 in
theorem c_implAngle {Y X : Nat} : Con Try.prog 17 [fl .f32 Y, fl .f32 X] (RetA (fl .f32 (turnV Y X))) := by
  refine con_enter Try.func17 rfl (by kernel_rfl) Try.ntmps17 rfl fun w0 => ?_
  cases hx : finB X
  · have n1 : (!finB X) = true := by rw [hx]; rfl
    have e : turnV Y X = noF := by unfold turnV wideV noF; rw [if_neg (by rw [hx]; simp)]
    rw [e]
    (repeat (first | (refine gA ?_; first | refine aops_nil ?_ | (refine gA_gd ?_; first | refine gY ?_ | refine gN ?_ | refine gS ?_) | (refine gA_callf ?_; (first | refine sC (c_implIsFinite) ?_ | refine sC (c_noNumber) ?_)) | (refine gA_alloc ?_; refine sA ?_; intro _) | (refine gA_store ?_; first | refine sS ?_ | refine sSr ?_) | (refine gA_box ?_; refine sB ?_; intro _) | (refine gA_move ?_; refine sE_move ?_) | (refine gA_load ?_; refine sE_load ?_) | (refine gA_assign ?_; refine sE_assign ?_) | (refine gA_field ?_; refine sE_field ?_) | (refine gA_bin ?_; refine sE_bin ?_) | (refine gA_index ?_; refine sE_index ?_) | (refine gA_callb ?_; refine sE_callb ?_) | (refine gA_un ?_; refine sE_un ?_) | (refine gA_conv ?_; refine sE_conv ?_) | (refine gA_build ?_; refine sE_build ?_) | (refine gA_ext ?_; refine sE_ext ?_) | (refine gA_slice ?_; refine sE_slice ?_) | (refine gA_nilc ?_; refine sE_nilc ?_) | (refine gA_pick ?_; refine sE_pick ?_) | (refine gA_func ?_; refine sE_func ?_)) | (refine gW ?_; first | refine awp_seq ?_ | refine awp_region ?_ | refine awp_block ?_ | refine awp_skip ?_ | refine awp_ret ?_ | refine awp_exit ?_ | refine awp_label ?_ | refine cF ?_ | refine cT ?_) | (refine gX ?_; first | refine aex_then ?_ | refine aex_normal_block ?_ | refine aex_ret_then ?_ | refine aex_ret_block ?_ | refine aex_exit_then ?_ | refine aex_exit_here ?_ | refine aex_exit_out rfl ?_)))
    exact aex_ret1 rfl (resV_tmp (Opd.tmp rfl)) (by exact rfl)
  have n1 : (!finB X) = false := by rw [hx]; rfl
  cases hy : finB Y
  · have n2 : (!finB Y) = true := by rw [hy]; rfl
    have e : turnV Y X = noF := by unfold turnV wideV noF; rw [if_neg (by rw [hy]; simp)]
    rw [e]
    (repeat (first | (refine gA ?_; first | refine aops_nil ?_ | (refine gA_gd ?_; first | refine gY ?_ | refine gN ?_ | refine gS ?_) | (refine gA_callf ?_; (first | refine sC (c_implIsFinite) ?_ | refine sC (c_noNumber) ?_)) | (refine gA_alloc ?_; refine sA ?_; intro _) | (refine gA_store ?_; first | refine sS ?_ | refine sSr ?_) | (refine gA_box ?_; refine sB ?_; intro _) | (refine gA_move ?_; refine sE_move ?_) | (refine gA_load ?_; refine sE_load ?_) | (refine gA_assign ?_; refine sE_assign ?_) | (refine gA_field ?_; refine sE_field ?_) | (refine gA_bin ?_; refine sE_bin ?_) | (refine gA_index ?_; refine sE_index ?_) | (refine gA_callb ?_; refine sE_callb ?_) | (refine gA_un ?_; refine sE_un ?_) | (refine gA_conv ?_; refine sE_conv ?_) | (refine gA_build ?_; refine sE_build ?_) | (refine gA_ext ?_; refine sE_ext ?_) | (refine gA_slice ?_; refine sE_slice ?_) | (refine gA_nilc ?_; refine sE_nilc ?_) | (refine gA_pick ?_; refine sE_pick ?_) | (refine gA_func ?_; refine sE_func ?_)) | (refine gW ?_; first | refine awp_seq ?_ | refine awp_region ?_ | refine awp_block ?_ | refine awp_skip ?_ | refine awp_ret ?_ | refine awp_exit ?_ | refine awp_label ?_ | refine cF ?_ | refine cT ?_) | (refine gX ?_; first | refine aex_then ?_ | refine aex_normal_block ?_ | refine aex_ret_then ?_ | refine aex_ret_block ?_ | refine aex_exit_then ?_ | refine aex_exit_here ?_ | refine aex_exit_out rfl ?_)))
    exact aex_ret1 rfl (resV_tmp (Opd.tmp rfl)) (by exact rfl)
  have n2 : (!finB Y) = false := by rw [hy]; rfl
  have e0 : turnV Y X = fcvt .f64 .f32 (if (cmpB .eql .f32 X 0 && cmpB .eql .f32 Y 0) = true then 0 else angW (absF (fcvt .f32 .f64 Y)) (absF (fcvt .f32 .f64 X)) (cmpB .lss .f32 X 0) (cmpB .lss .f32 Y 0)) := by unfold turnV wideV; rw [if_pos (by rw [hx, hy]; rfl)]
  rw [e0]
  have hf0 := wide_fits Y X
  rw [show wideV Y X = _ from if_pos (by rw [hx, hy]; rfl)] at hf0
  obtain ⟨sy, my, iy, ry⟩ := read_fin hy
  obtain ⟨sx, mx, ix, rx⟩ := read_fin hx
  obtain ⟨A, eA⟩ : ∃ A, absF (fcvt .f32 .f64 Y) = A := ⟨_, rfl⟩
  obtain ⟨B, eB⟩ : ∃ B, absF (fcvt .f32 .f64 X) = B := ⟨_, rfl⟩
  have ka : Con Try.prog 36 [fl .f64 (fcvt .f32 .f64 Y)] (RetA (fl .f64 A)) := eA ▸ c_abs ry
  have kb : Con Try.prog 36 [fl .f64 (fcvt .f32 .f64 X)] (RetA (fl .f64 B)) := eB ▸ c_abs rx
  rw [eA, eB] at hf0 ⊢
  obtain ⟨V, hV⟩ : ∃ V, fcvt .f64 .f32 (if (cmpB .eql .f32 X 0 && cmpB .eql .f32 Y 0) = true then 0 else angW A B (cmpB .lss .f32 X 0) (cmpB .lss .f32 Y 0)) = V := ⟨_, rfl⟩
  rw [hV]
  have tail : (cmpB .eql .f32 X 0 && cmpB .eql .f32 Y 0) = false → cmpB .eql .f32 X 0 = true ∧ cmpB .eql .f32 Y 0 = false ∨ cmpB .eql .f32 X 0 = false := by
    intro h
    cases h1 : cmpB .eql .f32 X 0
    · exact .inr rfl
    · rw [h1] at h; exact .inl ⟨rfl, h⟩
  cases hz : (cmpB .eql .f32 X 0 && cmpB .eql .f32 Y 0)
  · rw [hz, if_neg (by simp)] at hf0 hV
    unfold angW at hf0 hV
    rcases tail hz with ⟨z1, z2⟩ | z1
    all_goals
      cases hc : cmpB .gtr .f64 A B
    all_goals
      first | have et := (angT_no hc).symm | have et := (angT_yes hc).symm
      generalize hT : angT A B = T at hf0 hV et
      (repeat (first | (refine gA ?_; first | refine aops_nil ?_ | (refine gA_gd ?_; first | refine gY ?_ | refine gN ?_ | refine gS ?_) | (refine gA_callf ?_; (first | refine sC (c_implIsFinite) ?_ | refine sC (ka) ?_ | refine sC (kb) ?_)) | (refine gA_alloc ?_; refine sA ?_; intro _) | (refine gA_store ?_; first | refine sS ?_ | refine sSr ?_) | (refine gA_box ?_; refine sB ?_; intro _) | (refine gA_move ?_; refine sE_move ?_) | (refine gA_load ?_; refine sE_load ?_) | (refine gA_assign ?_; refine sE_assign ?_) | (refine gA_field ?_; refine sE_field ?_) | (refine gA_bin ?_; refine sE_bin ?_) | (refine gA_index ?_; refine sE_index ?_) | (refine gA_callb ?_; refine sE_callb ?_) | (refine gA_un ?_; refine sE_un ?_) | (refine gA_conv ?_; refine sE_conv ?_) | (refine gA_build ?_; refine sE_build ?_) | (refine gA_ext ?_; refine sE_ext ?_) | (refine gA_slice ?_; refine sE_slice ?_) | (refine gA_nilc ?_; refine sE_nilc ?_) | (refine gA_pick ?_; refine sE_pick ?_) | (refine gA_func ?_; refine sE_func ?_)) | (refine gW ?_; first | refine awp_seq ?_ | refine awp_region ?_ | refine awp_block ?_ | refine awp_skip ?_ | refine awp_ret ?_ | refine awp_exit ?_ | refine awp_label ?_ | refine cF ?_ | refine cT ?_) | (refine gX ?_; first | refine aex_then ?_ | refine aex_normal_block ?_ | refine aex_ret_then ?_ | refine aex_ret_block ?_ | refine aex_exit_then ?_ | refine aex_exit_here ?_ | refine aex_exit_out rfl ?_)))
      rw [et]
      refine awp_loopN (fun k => ⟨86, [(0, fl .f32 Y), (1, fl .f32 X), (5, fl .f64 A), (6, fl .f64 B), (7, fl .f64 (angS T k)), (42, vv (.int .i64 (k : Int)))], []⟩) 3 (imp_mk (by repeat (first | exact EnvImp.nil | refine EnvImp.cons (by first | exact Opd.tmp rfl | exact OpF.tmp rfl) ?_)) (by repeat (first | exact HSub.nil | refine HSub.keep ?_ | refine HSub.drop ?_))) (fun k hk => ?_)
      (repeat (first | (refine gA ?_; first | refine aops_nil ?_ | (refine gA_gd ?_; first | refine gY ?_ | refine gN ?_ | refine gS ?_) | (refine gA_callf ?_; refine sC (c_sqrt) ?_) | (refine gA_alloc ?_; refine sA ?_; intro _) | (refine gA_store ?_; first | refine sS ?_ | refine sSr ?_) | (refine gA_box ?_; refine sB ?_; intro _) | (refine gA_move ?_; refine sE_move ?_) | (refine gA_load ?_; refine sE_load ?_) | (refine gA_assign ?_; refine sE_assign ?_) | (refine gA_field ?_; refine sE_field ?_) | (refine gA_bin ?_; refine sE_bin ?_) | (refine gA_index ?_; refine sE_index ?_) | (refine gA_callb ?_; refine sE_callb ?_) | (refine gA_un ?_; refine sE_un ?_) | (refine gA_conv ?_; refine sE_conv ?_) | (refine gA_build ?_; refine sE_build ?_) | (refine gA_ext ?_; refine sE_ext ?_) | (refine gA_slice ?_; refine sE_slice ?_) | (refine gA_nilc ?_; refine sE_nilc ?_) | (refine gA_pick ?_; refine sE_pick ?_) | (refine gA_func ?_; refine sE_func ?_)) | (refine gW ?_; first | refine awp_seq ?_ | refine awp_region ?_ | refine awp_block ?_ | refine awp_skip ?_ | refine awp_ret ?_ | refine awp_exit ?_ | refine awp_label ?_) | (refine gX ?_; first | refine aex_then ?_ | refine aex_normal_block ?_ | refine aex_ret_then ?_ | refine aex_ret_block ?_ | refine aex_exit_then ?_ | refine aex_exit_here ?_ | refine aex_exit_out rfl ?_)))
      refine cC (fun hg => ?_) (fun hg => ?_)
      · have hk3 : k < 3 := by simp at hg; omega
        clear hg
        (repeat (first | (refine gA ?_; first | refine aops_nil ?_ | (refine gA_gd ?_; first | refine gY ?_ | refine gN ?_ | refine gS ?_) | (refine gA_callf ?_; refine sC (c_sqrt) ?_) | (refine gA_alloc ?_; refine sA ?_; intro _) | (refine gA_store ?_; first | refine sS ?_ | refine sSr ?_) | (refine gA_box ?_; refine sB ?_; intro _) | (refine gA_move ?_; refine sE_move ?_) | (refine gA_load ?_; refine sE_load ?_) | (refine gA_assign ?_; refine sE_assign ?_) | (refine gA_field ?_; refine sE_field ?_) | (refine gA_bin ?_; refine sE_bin ?_) | (refine gA_index ?_; refine sE_index ?_) | (refine gA_callb ?_; refine sE_callb ?_) | (refine gA_un ?_; refine sE_un ?_) | (refine gA_conv ?_; refine sE_conv ?_) | (refine gA_build ?_; refine sE_build ?_) | (refine gA_ext ?_; refine sE_ext ?_) | (refine gA_slice ?_; refine sE_slice ?_) | (refine gA_nilc ?_; refine sE_nilc ?_) | (refine gA_pick ?_; refine sE_pick ?_) | (refine gA_func ?_; refine sE_func ?_)) | (refine gW ?_; first | refine awp_seq ?_ | refine awp_region ?_ | refine awp_block ?_ | refine awp_skip ?_ | refine awp_ret ?_ | refine awp_exit ?_ | refine awp_label ?_) | (refine gX ?_; first | refine aex_then ?_ | refine aex_normal_block ?_ | refine aex_ret_then ?_ | refine aex_ret_block ?_ | refine aex_exit_then ?_ | refine aex_exit_here ?_ | refine aex_exit_out rfl ?_)))
        exact aex_agN (by omega) (imp_mk (by repeat (first | exact EnvImp.nil | refine EnvImp.cons (by first | exact Opd.tmp rfl | exact OpF.tmp rfl) ?_)) (by repeat (first | exact HSub.nil | refine HSub.keep ?_ | refine HSub.drop ?_)))
      · obtain rfl : k = 3 := by simp at hg; omega
        clear hg
        (repeat (first | (refine gA ?_; first | refine aops_nil ?_ | (refine gA_gd ?_; first | refine gY ?_ | refine gN ?_ | refine gS ?_) | (refine gA_callf ?_; refine sC (c_sqrt) ?_) | (refine gA_alloc ?_; refine sA ?_; intro _) | (refine gA_store ?_; first | refine sS ?_ | refine sSr ?_) | (refine gA_box ?_; refine sB ?_; intro _) | (refine gA_move ?_; refine sE_move ?_) | (refine gA_load ?_; refine sE_load ?_) | (refine gA_assign ?_; refine sE_assign ?_) | (refine gA_field ?_; refine sE_field ?_) | (refine gA_bin ?_; refine sE_bin ?_) | (refine gA_index ?_; refine sE_index ?_) | (refine gA_callb ?_; refine sE_callb ?_) | (refine gA_un ?_; refine sE_un ?_) | (refine gA_conv ?_; refine sE_conv ?_) | (refine gA_build ?_; refine sE_build ?_) | (refine gA_ext ?_; refine sE_ext ?_) | (refine gA_slice ?_; refine sE_slice ?_) | (refine gA_nilc ?_; refine sE_nilc ?_) | (refine gA_pick ?_; refine sE_pick ?_) | (refine gA_func ?_; refine sE_func ?_)) | (refine gW ?_; first | refine awp_seq ?_ | refine awp_region ?_ | refine awp_block ?_ | refine awp_skip ?_ | refine awp_ret ?_ | refine awp_exit ?_ | refine awp_label ?_) | (refine gX ?_; first | refine aex_then ?_ | refine aex_normal_block ?_ | refine aex_ret_then ?_ | refine aex_ret_block ?_ | refine aex_exit_then ?_ | refine aex_exit_here ?_ | refine aex_exit_out rfl ?_)))
        rw [kV_zero]
        refine awp_loopN (fun k => ⟨86, [(0, fl .f32 Y), (1, fl .f32 X), (5, fl .f64 A), (6, fl .f64 B), (7, fl .f64 (angS T 3)), (8, fl .f64 (fop .mul .f64 (angS T 3) (angS T 3))), (9, fl .f64 (angP (fop .mul .f64 (angS T 3) (angS T 3)) k)), (10, fl .f64 (kV k))], []⟩) 8 (imp_mk (by repeat (first | exact EnvImp.nil | refine EnvImp.cons (by first | exact Opd.tmp rfl | exact OpF.tmp rfl) ?_)) (by repeat (first | exact HSub.nil | refine HSub.keep ?_ | refine HSub.drop ?_))) (fun k hk => ?_)
        (repeat (first | (refine gA ?_; first | refine aops_nil ?_ | (refine gA_gd ?_; first | refine gY ?_ | refine gN ?_ | refine gS ?_) | (refine gA_callf ?_; refine sC (c_sqrt) ?_) | (refine gA_alloc ?_; refine sA ?_; intro _) | (refine gA_store ?_; first | refine sS ?_ | refine sSr ?_) | (refine gA_box ?_; refine sB ?_; intro _) | (refine gA_move ?_; refine sE_move ?_) | (refine gA_load ?_; refine sE_load ?_) | (refine gA_assign ?_; refine sE_assign ?_) | (refine gA_field ?_; refine sE_field ?_) | (refine gA_bin ?_; refine sE_bin ?_) | (refine gA_index ?_; refine sE_index ?_) | (refine gA_callb ?_; refine sE_callb ?_) | (refine gA_un ?_; refine sE_un ?_) | (refine gA_conv ?_; refine sE_conv ?_) | (refine gA_build ?_; refine sE_build ?_) | (refine gA_ext ?_; refine sE_ext ?_) | (refine gA_slice ?_; refine sE_slice ?_) | (refine gA_nilc ?_; refine sE_nilc ?_) | (refine gA_pick ?_; refine sE_pick ?_) | (refine gA_func ?_; refine sE_func ?_)) | (refine gW ?_; first | refine awp_seq ?_ | refine awp_region ?_ | refine awp_block ?_ | refine awp_skip ?_ | refine awp_ret ?_ | refine awp_exit ?_ | refine awp_label ?_) | (refine gX ?_; first | refine aex_then ?_ | refine aex_normal_block ?_ | refine aex_ret_then ?_ | refine aex_ret_block ?_ | refine aex_exit_then ?_ | refine aex_exit_here ?_ | refine aex_exit_out rfl ?_)))
        refine cC (fun hg => ?_) (fun hg => ?_)
        · have hk8 : k < 8 := by rw [kV_end k (by omega)] at hg; exact of_decide_eq_true hg
          clear hg
          (repeat (first | (refine gA ?_; first | refine aops_nil ?_ | (refine gA_gd ?_; first | refine gY ?_ | refine gN ?_ | refine gS ?_) | (refine gA_callf ?_; refine sC (c_sqrt) ?_) | (refine gA_alloc ?_; refine sA ?_; intro _) | (refine gA_store ?_; first | refine sS ?_ | refine sSr ?_) | (refine gA_box ?_; refine sB ?_; intro _) | (refine gA_move ?_; refine sE_move ?_) | (refine gA_load ?_; refine sE_load ?_) | (refine gA_assign ?_; refine sE_assign ?_) | (refine gA_field ?_; refine sE_field ?_) | (refine gA_bin ?_; refine sE_bin ?_) | (refine gA_index ?_; refine sE_index ?_) | (refine gA_callb ?_; refine sE_callb ?_) | (refine gA_un ?_; refine sE_un ?_) | (refine gA_conv ?_; refine sE_conv ?_) | (refine gA_build ?_; refine sE_build ?_) | (refine gA_ext ?_; refine sE_ext ?_) | (refine gA_slice ?_; refine sE_slice ?_) | (refine gA_nilc ?_; refine sE_nilc ?_) | (refine gA_pick ?_; refine sE_pick ?_) | (refine gA_func ?_; refine sE_func ?_)) | (refine gW ?_; first | refine awp_seq ?_ | refine awp_region ?_ | refine awp_block ?_ | refine awp_skip ?_ | refine awp_ret ?_ | refine awp_exit ?_ | refine awp_label ?_) | (refine gX ?_; first | refine aex_then ?_ | refine aex_normal_block ?_ | refine aex_ret_then ?_ | refine aex_ret_block ?_ | refine aex_exit_then ?_ | refine aex_exit_here ?_ | refine aex_exit_out rfl ?_)))
          rw [kV_next k hk8]
          exact aex_agN (by omega) (imp_mk (by repeat (first | exact EnvImp.nil | refine EnvImp.cons (by first | exact Opd.tmp rfl | exact OpF.tmp rfl) ?_)) (by repeat (first | exact HSub.nil | refine HSub.keep ?_ | refine HSub.drop ?_)))
        · obtain rfl : k = 8 := by rw [kV_end k (by omega)] at hg; have := of_decide_eq_false hg; omega
          clear hg
          cases hbx : cmpB .lss .f32 X 0
          all_goals
            cases hby : cmpB .lss .f32 Y 0
          all_goals
            have hf := hf0
            simp only [ang3, ang2, ang1, hc, hbx, hby, Bool.false_eq_true, if_false, if_true] at hf hV
            subst hV
            (repeat (first | (refine gA ?_; first | refine aops_nil ?_ | (refine gA_gd ?_; first | refine gY ?_ | refine gN ?_ | refine gS ?_) | (refine gA_callf ?_; refine sC (c_sqrt) ?_) | (refine gA_alloc ?_; refine sA ?_; intro _) | (refine gA_store ?_; first | refine sS ?_ | refine sSr ?_) | (refine gA_box ?_; refine sB ?_; intro _) | (refine gA_move ?_; refine sE_move ?_) | (refine gA_load ?_; refine sE_load ?_) | (refine gA_assign ?_; refine sE_assign ?_) | (refine gA_field ?_; refine sE_field ?_) | (refine gA_bin ?_; refine sE_bin ?_) | (refine gA_index ?_; refine sE_index ?_) | (refine gA_callb ?_; refine sE_callb ?_) | (refine gA_un ?_; refine sE_un ?_) | (refine gA_conv ?_; refine sE_conv ?_) | (refine gA_build ?_; refine sE_build ?_) | (refine gA_ext ?_; refine sE_ext ?_) | (refine gA_slice ?_; refine sE_slice ?_) | (refine gA_nilc ?_; refine sE_nilc ?_) | (refine gA_pick ?_; refine sE_pick ?_) | (refine gA_func ?_; refine sE_func ?_)) | (refine gW ?_; first | refine awp_seq ?_ | refine awp_region ?_ | refine awp_block ?_ | refine awp_skip ?_ | refine awp_ret ?_ | refine awp_exit ?_ | refine awp_label ?_ | refine cF ?_ | refine cT ?_) | (refine gX ?_; first | refine aex_then ?_ | refine aex_normal_block ?_ | refine aex_ret_then ?_ | refine aex_ret_block ?_ | refine aex_exit_then ?_ | refine aex_exit_here ?_ | refine aex_exit_out rfl ?_)))
            exact aex_ret1 rfl (resV_tmp (Opd.tmp rfl)) (by exact rfl)
  · rw [hz, if_pos rfl, turn_zero] at hV
    subst hV
    rw [Bool.and_eq_true] at hz
    obtain ⟨z1, z2⟩ := hz
    (repeat (first | (refine gA ?_; first | refine aops_nil ?_ | (refine gA_gd ?_; first | refine gY ?_ | refine gN ?_ | refine gS ?_) | (refine gA_callf ?_; refine sC (c_implIsFinite) ?_) | (refine gA_alloc ?_; refine sA ?_; intro _) | (refine gA_store ?_; first | refine sS ?_ | refine sSr ?_) | (refine gA_box ?_; refine sB ?_; intro _) | (refine gA_move ?_; refine sE_move ?_) | (refine gA_load ?_; refine sE_load ?_) | (refine gA_assign ?_; refine sE_assign ?_) | (refine gA_field ?_; refine sE_field ?_) | (refine gA_bin ?_; refine sE_bin ?_) | (refine gA_index ?_; refine sE_index ?_) | (refine gA_callb ?_; refine sE_callb ?_) | (refine gA_un ?_; refine sE_un ?_) | (refine gA_conv ?_; refine sE_conv ?_) | (refine gA_build ?_; refine sE_build ?_) | (refine gA_ext ?_; refine sE_ext ?_) | (refine gA_slice ?_; refine sE_slice ?_) | (refine gA_nilc ?_; refine sE_nilc ?_) | (refine gA_pick ?_; refine sE_pick ?_) | (refine gA_func ?_; refine sE_func ?_)) | (refine gW ?_; first | refine awp_seq ?_ | refine awp_region ?_ | refine awp_block ?_ | refine awp_skip ?_ | refine awp_ret ?_ | refine awp_exit ?_ | refine awp_label ?_ | refine cF ?_ | refine cT ?_) | (refine gX ?_; first | refine aex_then ?_ | refine aex_normal_block ?_ | refine aex_ret_then ?_ | refine aex_ret_block ?_ | refine aex_exit_then ?_ | refine aex_exit_here ?_ | refine aex_exit_out rfl ?_)))
    exact aex_ret1 rfl (resV_tmp (Opd.tmp rfl)) (by exact rfl)
end Go.Proofs.Ytjkpnnbahhlopaa
