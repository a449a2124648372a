/-
  Sines of turns, on both sides, for the arguments that rings need: contracts. Conditions: none.
-/
import Derived.Test.YtejpamlaacffaaaBC
import Derived.Test.YtejpamlaacffaaaLw
import Derived.Test.YtejpamlaacffaaaSu
import Derived.Test.YtejpamlaacffaaaAq
namespace Go.Proofs.Ytejpamlaacffaaa
open Go Go.RowKit

theorem ev_ftoi {P : Program} {s : AS} {o : Oper} {src dst : TypeId} {x : Operand} {k : FloatKind} {q : IntKind} {Z : Nat} {n : Int} (ho : o.op = .convert src dst x) (hs' : P.underlying src = some (.float k)) (hd : P.underlying dst = some (.int q)) (hx : OpF s x k Z) (hz : isNan k Z = false) (hn : (k.decode Z).toInt .zero = some n) (hr : q.min ≤ n ∧ n ≤ q.max) : Ev P s o (vv (.int q n)) := by
  refine ⟨fun w0 a w hs => ?_⟩
  obtain ⟨b, e, hb⟩ := hx w0 a w hs
  obtain rfl : b = Z := by
    have h1 := hb.can
    rw [can_num (by rw [hb.nan]; exact hz)] at h1
    exact h1
  have h : (convert src dst (.float k b)).run P w = .ok (.int q n) w := by
    simp [convert, run_underlying hs', run_underlying hd, Conv.floatToInt, hn, hr]
  simp only [execOp, ho, e, Sem.run_bind, Result.andThen_ok, h, Sem.run_pure]
  exact .of_val rfl
def truncZ (Z : Nat) : Int := ((FloatKind.f64.decode Z).toInt .zero).getD 2
/-- The steps of a sine. -/
def sinA (Y : Nat) : Nat := fop .sub .f64 Y (floatOfInt .f64 (truncZ Y))
def sinB (f : Nat) : Nat := if cmpB .lss .f64 f 0 = true then fop .add .f64 f 4607182418800017408 else f
def sinT (f : Nat) : Bool := cmpB .geq .f64 f 4602678819172646912
def sinC (f : Nat) : Nat := if sinT f = true then fop .sub .f64 f 4602678819172646912 else f
def sinD (f : Nat) : Nat := if cmpB .gtr .f64 f 4598175219545276416 = true then fop .sub .f64 4602678819172646912 f else f
def sinK (j : Nat) : Nat := floatOfInt .f64 (8 - (j : Int))
def sinN (j : Nat) : Nat := floatOfInt .f64 (2 * (8 - (j : Int)) * (2 * (8 - (j : Int)) + 1))
def sinP (u : Nat) : Nat → Nat
  | 0 => 4607182418800017408
  | j + 1 => fop .sub .f64 4607182418800017408 (fop .quo .f64 (fop .mul .f64 u (sinP u j)) (sinN j))
def sinZ (f : Nat) : Nat := fop .mul .f64 f 4618760256179416344
def sinO (f : Nat) : Nat := fop .mul .f64 (sinZ f) (sinP (fop .mul .f64 (sinZ f) (sinZ f)) 8)
def sinE (b : Bool) (f : Nat) : Nat := if b = true then fneg .f64 (sinO f) else sinO f
/-- The sine of a turn, in 64 bits. -/
def sinW (Y : Nat) : Nat := sinE (sinT (sinB (sinA Y))) (sinD (sinC (sinB (sinA Y))))
def sinV (X : Nat) : Nat := fcvt .f64 .f32 (sinW (fcvt .f32 .f64 X))
/-- The arguments that are looked at. -/
def sinI (X : Nat) : Bool := finB X && (match (FloatKind.f64.decode (fcvt .f32 .f64 X)).toInt .zero with
  | some n => decide (0 ≤ n) && decide (n ≤ 1)
  | none => false) && !cmpB .geq .f64 (absF (fcvt .f32 .f64 X)) 4841369599423283200 && !cmpB .geq .f64 (fcvt .f32 .f64 X) 4841369599423283200 && !cmpB .leq .f64 (fcvt .f32 .f64 X) 14064741636278059008 && leB .f64 1074 (sinD (sinC (sinB (sinA (fcvt .f32 .f64 X)))))
def ge1B (k : FloatKind) (X : Nat) : Bool := match k.format.read X with
  | .number _ m i => Nat.ble (2 ^ (-k.format.leastPlace).toNat) (m * 2 ^ (i - k.format.leastPlace).toNat) && decide (k.format.leastPlace ≤ i)
  | _ => false
theorem sinN_den : ∀ j, j < 8 → Ge1 .f64 (sinN j) := by
  intro j hj
  have : ∀ j, j < 8 → ge1B .f64 (sinN j) = true := by decide +kernel
  exact ge1_const (this j hj)
theorem leN_sinP {u : Nat} (h : LeN .f64 u 1080) : ∀ j, j ≤ 8 → LeN .f64 (sinP u j) (1074 + 7 * j)
  | 0, _ => .inr (le_leB (X := 4607182418800017408) (E := 1074) (by decide +kernel))
  | j + 1, hj => by
    have h1 : LeN .f64 (fop .mul .f64 u (sinP u j)) (1080 + 7 * j) := n64_mul h (leN_sinP h j (by omega)) (by omega) (by omega) (by omega)
    have h2 : LeN .f64 (fop .quo .f64 (fop .mul .f64 u (sinP u j)) (sinN j)) (1080 + 7 * j) := n64_quo h1 (.num (sinN_den j (by omega))) (by omega) (by omega)
    have h3 : LeN .f64 4607182418800017408 (1080 + 7 * j) := leN_mono (E := 1074) (.inr (le_leB (by decide +kernel))) (by omega)
    have h4 := n64_sub h3 h2 (by omega) (by omega)
    exact leN_mono h4 (by omega)
theorem sin_fits {f : Nat} {b : Bool} (h : leB .f64 1074 f = true) : fits .f64 .f32 (sinE b f) := by
  have h1 : LeN .f64 (sinZ f) 1077 := n64_mul (E := 1074) (F := 1077) (.inr (le_leB h)) (.inr (le_leB (by decide +kernel))) (by omega) (by omega) (by omega)
  have h2 : LeN .f64 (fop .mul .f64 (sinZ f) (sinZ f)) 1080 := n64_mul h1 h1 (by omega) (by omega) (by omega)
  have h3 := leN_sinP h2 8 (by omega)
  have h4 : LeN .f64 (sinO f) 1133 := n64_mul h1 h3 (by omega) (by omega) (by omega)
  unfold sinE
  split
  · exact leN_fits (leN_neg h4) (by omega)
  · exact leN_fits h4 (by omega)
theorem sin_parts {X : Nat} (h : sinI X = true) : finB X = true ∧ (∃ n, (FloatKind.f64.decode (fcvt .f32 .f64 X)).toInt .zero = some n ∧ 0 ≤ n ∧ n ≤ 1) ∧ cmpB .geq .f64 (absF (fcvt .f32 .f64 X)) 4841369599423283200 = false ∧ cmpB .geq .f64 (fcvt .f32 .f64 X) 4841369599423283200 = false ∧ cmpB .leq .f64 (fcvt .f32 .f64 X) 14064741636278059008 = false ∧ leB .f64 1074 (sinD (sinC (sinB (sinA (fcvt .f32 .f64 X))))) = true := by
  unfold sinI at h
  simp only [Bool.and_eq_true, Bool.not_eq_true'] at h
  obtain ⟨⟨⟨⟨⟨h1, h2⟩, h3⟩, h4⟩, h5⟩, h6⟩ := h
  refine ⟨h1, ?_, h3, h4, h5, h6⟩
  split at h2
  · rename_i n hn
    simp only [Bool.and_eq_true, decide_eq_true_eq] at h2
    exact ⟨n, hn, h2⟩
  · cases h2
theorem i64_small {n : Int} (h : 0 ≤ n ∧ n ≤ 1) : IntKind.i64.min ≤ n ∧ n ≤ IntKind.i64.max := by
  have h1 : IntKind.i64.min ≤ 0 := by decide
  have h2 : 1 ≤ IntKind.i64.max := by decide
  omega
theorem sinK_int : ∀ k : Nat, k < 8 → 0 ≤ 2 * (8 - (k : Int)) * (2 * (8 - (k : Int)) + 1) ∧ 2 * (8 - (k : Int)) * (2 * (8 - (k : Int)) + 1) ≤ 272 := by decide
set_option maxRecDepth 100000 in
set_option maxHeartbeats 2000000 in
theorem c_specSineWide {X : Nat} (h : sinI X = true) : Con Try.prog 65 [fl .f64 (fcvt .f32 .f64 X)] (RetA (fl .f64 (sinW (fcvt .f32 .f64 X)))) := by
  refine con_enter Try.func65 rfl (by kernel_rfl) Try.ntmps65 rfl fun w0 => ?_
  obtain ⟨hx, ⟨m, hm, hr⟩, g1, g2, g3, hle⟩ := sin_parts h
  have n1 : cmpB .neq .f64 (fop .sub .f64 (fcvt .f32 .f64 X) (fcvt .f32 .f64 X)) 0 = false := by rw [show cmpB .neq .f64 (fop .sub .f64 (fcvt .f32 .f64 X) (fcvt .f32 .f64 X)) 0 = !fin64 (fcvt .f32 .f64 X) from rfl, fin64_cvt, hx]; rfl
  have hnan := (num_cvt hx).2.1
  have et : truncZ (fcvt .f32 .f64 X) = m := by unfold truncZ; rw [hm]; rfl
  subst et
  have hf0 : True := trivial
  clear h hle hx
  generalize fcvt .f32 .f64 X = Y at hm g2 g3 hnan n1 hr ⊢
  obtain ⟨V, hV⟩ : ∃ V, sinW Y = V := ⟨_, rfl⟩
  rw [hV]
  unfold sinW sinA at hV
  generalize hA : fop .sub .f64 Y (floatOfInt .f64 (truncZ Y)) = f0 at hV
  (repeat (first | (refine gA ?_; first | refine aops_nil ?_ | (refine gA_gd ?_; first | refine gY ?_ | refine gN ?_ | refine gS ?_) | (refine gA_callf ?_; refine sC (c_nan) ?_) | (refine gA_alloc ?_; refine sA ?_; intro _) | (refine gA_store ?_; first | refine sS ?_ | refine sSr ?_) | (refine gA_box ?_; refine sB ?_; intro _) | (refine gA_move ?_; refine sE_move ?_) | (refine gA_load ?_; refine sE_load ?_) | (refine gA_assign ?_; refine sE_assign ?_) | (refine gA_field ?_; refine sE_field ?_) | (refine gA_bin ?_; refine sE_bin ?_) | (refine gA_index ?_; refine sE_index ?_) | (refine gA_callb ?_; refine sE_callb ?_) | (refine gA_un ?_; refine sE_un ?_) | (refine gA_conv ?_; refine sE_conv ?_) | (refine gA_build ?_; refine sE_build ?_) | (refine gA_ext ?_; refine sE_ext ?_) | (refine gA_slice ?_; refine sE_slice ?_) | (refine gA_nilc ?_; refine sE_nilc ?_) | (refine gA_pick ?_; refine sE_pick ?_) | (refine gA_func ?_; refine sE_func ?_)) | (refine gW ?_; first | refine awp_seq ?_ | refine awp_region ?_ | refine awp_block ?_ | refine awp_skip ?_ | refine awp_ret ?_ | refine awp_exit ?_ | refine awp_label ?_ | refine cF ?_ | refine cT ?_) | (refine gX ?_; first | refine aex_then ?_ | refine aex_normal_block ?_ | refine aex_ret_then ?_ | refine aex_ret_block ?_ | refine aex_exit_then ?_ | refine aex_exit_here ?_ | refine aex_exit_out rfl ?_ | refine aex_nop ?_)))
  refine aops_ev (ev_ftoi rfl Try.underlying42 Try.underlying2 (OpF.tmp rfl) hnan hm (i64_small hr)) rfl ?_
  (repeat (first | (refine gA ?_; first | refine aops_nil ?_ | (refine gA_gd ?_; first | refine gY ?_ | refine gN ?_ | refine gS ?_) | (refine gA_callf ?_; refine sC (c_nan) ?_) | (refine gA_alloc ?_; refine sA ?_; intro _) | (refine gA_store ?_; first | refine sS ?_ | refine sSr ?_) | (refine gA_box ?_; refine sB ?_; intro _) | (refine gA_move ?_; refine sE_move ?_) | (refine gA_load ?_; refine sE_load ?_) | (refine gA_assign ?_; refine sE_assign ?_) | (refine gA_field ?_; refine sE_field ?_) | (refine gA_bin ?_; refine sE_bin ?_) | (refine gA_index ?_; refine sE_index ?_) | (refine gA_callb ?_; refine sE_callb ?_) | (refine gA_un ?_; refine sE_un ?_) | (refine gA_conv ?_; refine sE_conv ?_) | (refine gA_build ?_; refine sE_build ?_) | (refine gA_ext ?_; refine sE_ext ?_) | (refine gA_slice ?_; refine sE_slice ?_) | (refine gA_nilc ?_; refine sE_nilc ?_) | (refine gA_pick ?_; refine sE_pick ?_) | (refine gA_func ?_; refine sE_func ?_)) | (refine gW ?_; first | refine awp_seq ?_ | refine awp_region ?_ | refine awp_block ?_ | refine awp_skip ?_ | refine awp_ret ?_ | refine awp_exit ?_ | refine awp_label ?_) | (refine gX ?_; first | refine aex_then ?_ | refine aex_normal_block ?_ | refine aex_ret_then ?_ | refine aex_ret_block ?_ | refine aex_exit_then ?_ | refine aex_exit_here ?_ | refine aex_exit_out rfl ?_ | refine aex_nop ?_)))
  rw [hA]
  cases c1 : cmpB .lss .f64 f0 0
  all_goals
    first | have e1 : sinB f0 = fop .add .f64 f0 4607182418800017408 := if_pos c1 | have e1 : sinB f0 = f0 := if_neg (by rw [c1]; simp)
    first | refine cT ?_ (hb := rfl) | refine cF ?_ (hb := rfl)
    (repeat (first | (refine gA ?_; first | refine aops_nil ?_ | (refine gA_gd ?_; first | refine gY ?_ | refine gN ?_ | refine gS ?_) | (refine gA_callf ?_; refine sC (c_nan) ?_) | (refine gA_alloc ?_; refine sA ?_; intro _) | (refine gA_store ?_; first | refine sS ?_ | refine sSr ?_) | (refine gA_box ?_; refine sB ?_; intro _) | (refine gA_move ?_; refine sE_move ?_) | (refine gA_load ?_; refine sE_load ?_) | (refine gA_assign ?_; refine sE_assign ?_) | (refine gA_field ?_; refine sE_field ?_) | (refine gA_bin ?_; refine sE_bin ?_) | (refine gA_index ?_; refine sE_index ?_) | (refine gA_callb ?_; refine sE_callb ?_) | (refine gA_un ?_; refine sE_un ?_) | (refine gA_conv ?_; refine sE_conv ?_) | (refine gA_build ?_; refine sE_build ?_) | (refine gA_ext ?_; refine sE_ext ?_) | (refine gA_slice ?_; refine sE_slice ?_) | (refine gA_nilc ?_; refine sE_nilc ?_) | (refine gA_pick ?_; refine sE_pick ?_) | (refine gA_func ?_; refine sE_func ?_)) | (refine gW ?_; first | refine awp_seq ?_ | refine awp_region ?_ | refine awp_block ?_ | refine awp_skip ?_ | refine awp_ret ?_ | refine awp_exit ?_ | refine awp_label ?_) | (refine gX ?_; first | refine aex_then ?_ | refine aex_normal_block ?_ | refine aex_ret_then ?_ | refine aex_ret_block ?_ | refine aex_exit_then ?_ | refine aex_exit_here ?_ | refine aex_exit_out rfl ?_ | refine aex_nop ?_)))
    rw [← e1]
    generalize sinB f0 = f1 at hV ⊢
    rw [show cmpB .geq .f64 f1 4602678819172646912 = sinT f1 from rfl]
    generalize ht : sinT f1 = tb at hV ⊢
    rcases Bool.eq_false_or_eq_true tb with hb | hb
    all_goals
      first | have e2 : sinC f1 = fop .sub .f64 f1 4602678819172646912 := if_pos (ht.trans hb) | have e2 : sinC f1 = f1 := if_neg (by rw [ht, hb]; simp)
      first | refine cT ?_ (hb := hb) | refine cF ?_ (hb := hb)
      (repeat (first | (refine gA ?_; first | refine aops_nil ?_ | (refine gA_gd ?_; first | refine gY ?_ | refine gN ?_ | refine gS ?_) | (refine gA_callf ?_; refine sC (c_nan) ?_) | (refine gA_alloc ?_; refine sA ?_; intro _) | (refine gA_store ?_; first | refine sS ?_ | refine sSr ?_) | (refine gA_box ?_; refine sB ?_; intro _) | (refine gA_move ?_; refine sE_move ?_) | (refine gA_load ?_; refine sE_load ?_) | (refine gA_assign ?_; refine sE_assign ?_) | (refine gA_field ?_; refine sE_field ?_) | (refine gA_bin ?_; refine sE_bin ?_) | (refine gA_index ?_; refine sE_index ?_) | (refine gA_callb ?_; refine sE_callb ?_) | (refine gA_un ?_; refine sE_un ?_) | (refine gA_conv ?_; refine sE_conv ?_) | (refine gA_build ?_; refine sE_build ?_) | (refine gA_ext ?_; refine sE_ext ?_) | (refine gA_slice ?_; refine sE_slice ?_) | (refine gA_nilc ?_; refine sE_nilc ?_) | (refine gA_pick ?_; refine sE_pick ?_) | (refine gA_func ?_; refine sE_func ?_)) | (refine gW ?_; first | refine awp_seq ?_ | refine awp_region ?_ | refine awp_block ?_ | refine awp_skip ?_ | refine awp_ret ?_ | refine awp_exit ?_ | refine awp_label ?_) | (refine gX ?_; first | refine aex_then ?_ | refine aex_normal_block ?_ | refine aex_ret_then ?_ | refine aex_ret_block ?_ | refine aex_exit_then ?_ | refine aex_exit_here ?_ | refine aex_exit_out rfl ?_ | refine aex_nop ?_)))
      rw [← e2]
      generalize sinC f1 = f2 at hV ⊢
      cases c3 : cmpB .gtr .f64 f2 4598175219545276416
      all_goals
        first | have e3 : sinD f2 = fop .sub .f64 4602678819172646912 f2 := if_pos c3 | have e3 : sinD f2 = f2 := if_neg (by rw [c3]; simp)
        first | refine cT ?_ (hb := rfl) | refine cF ?_ (hb := rfl)
        (repeat (first | (refine gA ?_; first | refine aops_nil ?_ | (refine gA_gd ?_; first | refine gY ?_ | refine gN ?_ | refine gS ?_) | (refine gA_callf ?_; refine sC (c_nan) ?_) | (refine gA_alloc ?_; refine sA ?_; intro _) | (refine gA_store ?_; first | refine sS ?_ | refine sSr ?_) | (refine gA_box ?_; refine sB ?_; intro _) | (refine gA_move ?_; refine sE_move ?_) | (refine gA_load ?_; refine sE_load ?_) | (refine gA_assign ?_; refine sE_assign ?_) | (refine gA_field ?_; refine sE_field ?_) | (refine gA_bin ?_; refine sE_bin ?_) | (refine gA_index ?_; refine sE_index ?_) | (refine gA_callb ?_; refine sE_callb ?_) | (refine gA_un ?_; refine sE_un ?_) | (refine gA_conv ?_; refine sE_conv ?_) | (refine gA_build ?_; refine sE_build ?_) | (refine gA_ext ?_; refine sE_ext ?_) | (refine gA_slice ?_; refine sE_slice ?_) | (refine gA_nilc ?_; refine sE_nilc ?_) | (refine gA_pick ?_; refine sE_pick ?_) | (refine gA_func ?_; refine sE_func ?_)) | (refine gW ?_; first | refine awp_seq ?_ | refine awp_region ?_ | refine awp_block ?_ | refine awp_skip ?_ | refine awp_ret ?_ | refine awp_exit ?_ | refine awp_label ?_) | (refine gX ?_; first | refine aex_then ?_ | refine aex_normal_block ?_ | refine aex_ret_then ?_ | refine aex_ret_block ?_ | refine aex_exit_then ?_ | refine aex_exit_here ?_ | refine aex_exit_out rfl ?_ | refine aex_nop ?_)))
        rw [← e3]
        generalize sinD f2 = f3 at hV ⊢
        refine awp_loopN (fun k => ⟨67, [(4, vv (.bool tb)), (5, fl .f64 (sinZ f3)), (6, fl .f64 (fop .mul .f64 (sinZ f3) (sinZ f3))), (7, fl .f64 (sinP (fop .mul .f64 (sinZ f3) (sinZ f3)) k)), (8, vv (.int .i64 (8 - (k : Int))))], []⟩) 8 (imp_mk (by repeat (first | exact EnvImp.nil | refine EnvImp.cons (by first | exact Opd.tmp rfl | exact OpF.tmp rfl) ?_)) (by repeat (first | exact HSub.nil | refine HSub.keep ?_ | refine HSub.drop ?_))) (fun k hk => ?_)
        (repeat (first | (refine gA ?_; first | refine aops_nil ?_ | (refine gA_gd ?_; first | refine gY ?_ | refine gN ?_ | refine gS ?_) | (refine gA_callf ?_; refine sC (c_nan) ?_) | (refine gA_alloc ?_; refine sA ?_; intro _) | (refine gA_store ?_; first | refine sS ?_ | refine sSr ?_) | (refine gA_box ?_; refine sB ?_; intro _) | (refine gA_move ?_; refine sE_move ?_) | (refine gA_load ?_; refine sE_load ?_) | (refine gA_assign ?_; refine sE_assign ?_) | (refine gA_field ?_; refine sE_field ?_) | (refine gA_bin ?_; refine sE_bin ?_) | (refine gA_index ?_; refine sE_index ?_) | (refine gA_callb ?_; refine sE_callb ?_) | (refine gA_un ?_; refine sE_un ?_) | (refine gA_conv ?_; refine sE_conv ?_) | (refine gA_build ?_; refine sE_build ?_) | (refine gA_ext ?_; refine sE_ext ?_) | (refine gA_slice ?_; refine sE_slice ?_) | (refine gA_nilc ?_; refine sE_nilc ?_) | (refine gA_pick ?_; refine sE_pick ?_) | (refine gA_func ?_; refine sE_func ?_)) | (refine gW ?_; first | refine awp_seq ?_ | refine awp_region ?_ | refine awp_block ?_ | refine awp_skip ?_ | refine awp_ret ?_ | refine awp_exit ?_ | refine awp_label ?_) | (refine gX ?_; first | refine aex_then ?_ | refine aex_normal_block ?_ | refine aex_ret_then ?_ | refine aex_ret_block ?_ | refine aex_exit_then ?_ | refine aex_exit_here ?_ | refine aex_exit_out rfl ?_ | refine aex_nop ?_)))
        refine cC (fun hg => ?_) (fun hg => ?_)
        · have hk8 : k < 8 := by simp at hg; omega
          clear hg
          have hpr := sinK_int k hk8
          have e5 : 8 - (k : Int) - 1 = 8 - ((k + 1 : Nat) : Int) := by omega
          (repeat (first | (refine gA ?_; first | refine aops_nil ?_ | (refine gA_gd ?_; first | refine gY ?_ | refine gN ?_ | refine gS ?_) | (refine gA_callf ?_; refine sC (c_nan) ?_) | (refine gA_alloc ?_; refine sA ?_; intro _) | (refine gA_store ?_; first | refine sS ?_ | refine sSr ?_) | (refine gA_box ?_; refine sB ?_; intro _) | (refine gA_move ?_; refine sE_move ?_) | (refine gA_load ?_; refine sE_load ?_) | (refine gA_assign ?_; refine sE_assign ?_) | (refine gA_field ?_; refine sE_field ?_) | (refine gA_bin ?_; refine sE_bin ?_) | (refine gA_index ?_; refine sE_index ?_) | (refine gA_callb ?_; refine sE_callb ?_) | (refine gA_un ?_; refine sE_un ?_) | (refine gA_conv ?_; refine sE_conv ?_) | (refine gA_build ?_; refine sE_build ?_) | (refine gA_ext ?_; refine sE_ext ?_) | (refine gA_slice ?_; refine sE_slice ?_) | (refine gA_nilc ?_; refine sE_nilc ?_) | (refine gA_pick ?_; refine sE_pick ?_) | (refine gA_func ?_; refine sE_func ?_)) | (refine gW ?_; first | refine awp_seq ?_ | refine awp_region ?_ | refine awp_block ?_ | refine awp_skip ?_ | refine awp_ret ?_ | refine awp_exit ?_ | refine awp_label ?_) | (refine gX ?_; first | refine aex_then ?_ | refine aex_normal_block ?_ | refine aex_ret_then ?_ | refine aex_ret_block ?_ | refine aex_exit_then ?_ | refine aex_exit_here ?_ | refine aex_exit_out rfl ?_ | refine aex_nop ?_)))
          rw [e5]
          exact aex_agN (by omega) (imp_mk (by repeat (first | exact EnvImp.nil | refine EnvImp.cons (by first | exact Opd.tmp rfl | exact OpF.tmp rfl) ?_)) (by repeat (first | exact HSub.nil | refine HSub.keep ?_ | refine HSub.drop ?_)))
        · obtain rfl : k = 8 := by simp at hg; omega
          clear hg
          simp only [sinE, hb, Bool.false_eq_true, if_false, if_true] at hV
          subst hV
          (repeat (first | (refine gA ?_; first | refine aops_nil ?_ | (refine gA_gd ?_; first | refine gY ?_ | refine gN ?_ | refine gS ?_) | (refine gA_callf ?_; refine sC (c_nan) ?_) | (refine gA_alloc ?_; refine sA ?_; intro _) | (refine gA_store ?_; first | refine sS ?_ | refine sSr ?_) | (refine gA_box ?_; refine sB ?_; intro _) | (refine gA_move ?_; refine sE_move ?_) | (refine gA_load ?_; refine sE_load ?_) | (refine gA_assign ?_; refine sE_assign ?_) | (refine gA_field ?_; refine sE_field ?_) | (refine gA_bin ?_; refine sE_bin ?_) | (refine gA_index ?_; refine sE_index ?_) | (refine gA_callb ?_; refine sE_callb ?_) | (refine gA_un ?_; refine sE_un ?_) | (refine gA_conv ?_; refine sE_conv ?_) | (refine gA_build ?_; refine sE_build ?_) | (refine gA_ext ?_; refine sE_ext ?_) | (refine gA_slice ?_; refine sE_slice ?_) | (refine gA_nilc ?_; refine sE_nilc ?_) | (refine gA_pick ?_; refine sE_pick ?_) | (refine gA_func ?_; refine sE_func ?_)) | (refine gW ?_; first | refine awp_seq ?_ | refine awp_region ?_ | refine awp_block ?_ | refine awp_skip ?_ | refine awp_ret ?_ | refine awp_exit ?_ | refine awp_label ?_ | refine cF ?_ | refine cT ?_) | (refine gX ?_; first | refine aex_then ?_ | refine aex_normal_block ?_ | refine aex_ret_then ?_ | refine aex_ret_block ?_ | refine aex_exit_then ?_ | refine aex_exit_here ?_ | refine aex_exit_out rfl ?_ | refine aex_nop ?_)))
          exact aex_ret1 rfl (resV_tmp (Opd.tmp rfl)) (by exact rfl)
set_option maxRecDepth 100000 in
set_option maxHeartbeats 2000000 in
theorem c_specSine {X : Nat} (h : sinI X = true) : Con Try.prog 55 [fl .f32 X] (RetA (fl .f32 (sinV X))) := by
  refine con_enter Try.func55 rfl (by kernel_rfl) Try.ntmps55 rfl fun w0 => ?_
  (repeat (first | (refine gA ?_; first | refine aops_nil ?_ | (refine gA_gd ?_; first | refine gY ?_ | refine gN ?_ | refine gS ?_) | (refine gA_callf ?_; (first | refine sC (c_specSineWide h) ?_ | refine sC (c_narrow (sin_fits (sin_parts h).2.2.2.2.2)) ?_)) | (refine gA_alloc ?_; refine sA ?_; intro _) | (refine gA_store ?_; first | refine sS ?_ | refine sSr ?_) | (refine gA_box ?_; refine sB ?_; intro _) | (refine gA_move ?_; refine sE_move ?_) | (refine gA_load ?_; refine sE_load ?_) | (refine gA_assign ?_; refine sE_assign ?_) | (refine gA_field ?_; refine sE_field ?_) | (refine gA_bin ?_; refine sE_bin ?_) | (refine gA_index ?_; refine sE_index ?_) | (refine gA_callb ?_; refine sE_callb ?_) | (refine gA_un ?_; refine sE_un ?_) | (refine gA_conv ?_; refine sE_conv ?_) | (refine gA_build ?_; refine sE_build ?_) | (refine gA_ext ?_; refine sE_ext ?_) | (refine gA_slice ?_; refine sE_slice ?_) | (refine gA_nilc ?_; refine sE_nilc ?_) | (refine gA_pick ?_; refine sE_pick ?_) | (refine gA_func ?_; refine sE_func ?_)) | (refine gW ?_; first | refine awp_seq ?_ | refine awp_region ?_ | refine awp_block ?_ | refine awp_skip ?_ | refine awp_ret ?_ | refine awp_exit ?_ | refine awp_label ?_) | (refine gX ?_; first | refine aex_then ?_ | refine aex_normal_block ?_ | refine aex_ret_then ?_ | refine aex_ret_block ?_ | refine aex_exit_then ?_ | refine aex_exit_here ?_ | refine aex_exit_out rfl ?_ | refine aex_nop ?_)))
  exact aex_ret1 rfl (resV_tmp (Opd.tmp rfl)) (by exact rfl)
end Go.Proofs.Ytejpamlaacffaaa
