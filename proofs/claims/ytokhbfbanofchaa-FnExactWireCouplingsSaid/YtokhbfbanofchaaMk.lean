/-
  Helpers of the laws over slices of floats, bools and relays: marks, copies, comparisons. Conditions: none.
-/
import Derived.Test.YtokhbfbanofchaaBB
import Derived.Test.YtokhbfbanofchaaFs
import Derived.Test.YtokhbfbanofchaaLn
namespace Go.Proofs.Ytokhbfbanofchaa
open Go Go.RowKit

section
variable {P : Program} {w0 : World} {ops : Array Oper} {nt : Nat} {env : List (Nat × AV)} {H : List HE} {rest : List Oper} {Q : Exit → Act → World → Prop} {ty : TypeId} {pos : String} {after : Array Edge}
theorem aops_markG {d f T s n : Nat} {y z : Operand} {v : Value} {c : Nat → List AV} {mk : Int → Nat → List AV} {K : Int} {H2 : List HE} {ts : Array TypeId} (hc : ConM P f [vv v, vv (.int .i64 K)] [.row v T s n c] (fun _ : Unit => vv (.int .i64 (K + (s : Int) * n))) (fun _ => [.row v T s n (mk K)]))
    (hy : Opd ⟨nt, env, H⟩ y (vv v)) (hz : Opd ⟨nt, env, H⟩ z (vv (.int .i64 K))) (hr : HRep H (.row v T s n c) (.row v T s n (mk K)) H2) (hd : Nat.blt d nt = true) (k : AOps P w0 ops ⟨nt, (d, vv (.int .i64 (K + (s : Int) * n))) :: env, H2⟩ rest Q) : AOps P w0 ops ⟨nt, env, H⟩ (⟨some d, .call ⟨.value (.func f), #[y, z], ts⟩, ty, pos, after, none⟩ :: rest) Q := by
  refine ⟨fun a w hs => wpList_plain rfl fun KK hK => ?_⟩
  have ey : a.eval y = v := hy w0 a w hs
  have ez : a.eval z = .int .i64 K := hz w0 a w hs
  unfold Oper.wp
  rw [run_call hc.1 (.func f) #[y, z] ts rfl a rfl w]
  simp only [Oper.upon, List.map_toArray, List.map_cons, List.map_nil, ey, ez]
  refine (hc.2 w0 w [v, .int .i64 K] hs.below ⟨rfl, rfl, trivial⟩ ⟨hs.heap.get _ hr.mem, fun g hg => ⟨(hs.heap.foot _ hr.mem g hg).1, (hs.heap.foot _ hr.mem g hg).2, fun e he => by cases he⟩, trivial⟩).mono fun e w' h => ?_
  obtain ⟨u, i, rfl, hu, hb, hH, hsz, hk, hf⟩ := h
  refine hK _ _ (k.out _ _ (hs.step2 (dst := some d) hb hu hd (hr.ok (show ∀ g, (HE.row v T s n (mk K)).foot g → (HE.row v T s n c).foot g from fun _ h => h) hs.heap hsz (fun g hg hng => ?_) hH.1)))
  by_cases h0 : w0.heap.size ≤ g
  · exact hk g ⟨h0, hg, fun e he => by
      cases he with
      | head => exact hng
      | tail _ he => cases he⟩
  · rw [hb.block g (by omega), hs.below.block g (by omega)]
theorem conM_enter1 {f : FuncId} {fn : Func} {c : Code} {As : List AV} {nt : Nat} {e : HE} {ι : Type} {A : ι → AV} {H' : ι → List HE} (hf : P.funcs[f]? = some fn) (hb : fn.body = some c) (hn : (fn.name == "runtime.NumGoroutine") = false) (ht : fn.ntmps = nt) (hl : Nat.ble As.length nt = true)
    (h : ∀ w0 w, AWp P w0 ⟨nt, zipEnv 0 As, [e, .fr w (Rest w0 w [e])]⟩ c (bodyPost P fn (RetM w0 w [e] A H'))) : ConM P f As [e] A H' := conM_enter hf hb hn ht hl h
theorem awp_rowc {s : AS} {cd : Code} {v : Value} {T size n : Nat} {c c' : Nat → List AV} {H' : List HE} (hr : HRep s.heap (.row v T size n c) (.row v T size n c') H') (hc : ∀ j, j < n → c' j = c j) (k : AWp P w0 ⟨s.nt, s.env, H'⟩ cd Q) : AWp P w0 s cd Q :=
  ⟨fun a w hs => k.out a w ⟨hs.below, hs.size, hs.defers, hs.env, hr.ok (show ∀ g, (HE.row v T size n c').foot g → (HE.row v T size n c).foot g from fun _ h => h) hs.heap (Nat.le_refl _) (fun _ _ _ => rfl) (by
    obtain ⟨xs, h1, h2, h3⟩ := hs.heap.get _ hr.mem
    exact ⟨xs, h1, fun j hj => by rw [hc j hj]; exact h2 j hj, h3⟩)⟩⟩
theorem aex_rowcH {s : AS} {e : Exit} {v : Value} {T size n : Nat} {c c' : Nat → List AV} {H' : List HE} (hr : HRep s.heap (.row v T size n c) (.row v T size n c') H') (hc : ∀ j, j < n → c' j = c j) (k : AEx w0 ⟨s.nt, s.env, H'⟩ e Q) : AEx w0 s e Q :=
  ⟨fun a w hs => k.out a w ⟨hs.below, hs.size, hs.defers, hs.env, hr.ok (show ∀ g, (HE.row v T size n c').foot g → (HE.row v T size n c).foot g from fun _ h => h) hs.heap (Nat.le_refl _) (fun _ _ _ => rfl) (by
    obtain ⟨xs, h1, h2, h3⟩ := hs.heap.get _ hr.mem
    exact ⟨xs, h1, fun j hj => by rw [hc j hj]; exact h2 j hj, h3⟩)⟩⟩
end
section
variable {w0 : World} {ops : Array Oper} {nt : Nat} {env : List (Nat × AV)} {H : List HE} {rest : List Oper} {Q : Exit → Act → World → Prop} {ty : TypeId} {pos : String} {after : Array Edge}
theorem sMk {d f T s n : Nat} {y z : Operand} {v : Value} {c : Nat → List AV} {mk : Int → Nat → List AV} {K1 : Int} {H2 : List HE} {ts : Array TypeId} (hc : ∀ {v : Value} {n : Nat} {c : Nat → List AV} {K : Int}, n ≤ 1048576 → 0 ≤ K → K ≤ 16777216 → ConM Try.prog f [vv v, vv (.int .i64 K)] [.row v T s n c] (fun _ : Unit => vv (.int .i64 (K + (s : Int) * n))) (fun _ => [.row v T s n (mk K)]))
    (k : AOps Try.prog w0 ops ⟨nt, (d, vv (.int .i64 (K1 + (s : Int) * n))) :: env, H2⟩ rest Q)
    (hy : Opd ⟨nt, env, H⟩ y (vv v) := by first | exact Opd.tmp rfl | exact Opd.c _)
    (hz : Opd ⟨nt, env, H⟩ z (vv (.int .i64 K1)) := by first | exact Opd.tmp rfl | exact Opd.c _)
    (hr : HRep H (.row v T s n c) (.row v T s n (mk K1)) H2 := by repeat (first | exact HRep.here | apply HRep.there))
    (hn : n ≤ 1048576 := by omega) (h0 : 0 ≤ K1 := by omega) (h1 : K1 ≤ 16777216 := by omega) (hd : Nat.blt d nt = true := by exact rfl)
    : AOps Try.prog w0 ops ⟨nt, env, H⟩ (⟨some d, .call ⟨.value (.func f), #[y, z], ts⟩, ty, pos, after, none⟩ :: rest) Q := aops_markG (hc hn h0 h1) hy hz hr hd k
/-- A call of a function value that stands in a slot. -/
theorem sCs {d f t : Nat} {A : AV} {As : List AV} {args : List Operand} {ts : Array TypeId} (hc : Con Try.prog f As (RetA A)) (k : AOps Try.prog w0 ops ⟨nt, (d, A) :: env, H⟩ rest Q)
    (hx : Opd ⟨nt, env, H⟩ (.tmp t) (vv (.func (.func f) #[] #[])) := by exact Opd.tmp rfl)
    (hg : Givs ⟨nt, env, H⟩ args As := by repeat (first | exact Givs.nil | refine Givs.cons (by first | exact Giv.of (Opd.tmp rfl) | exact Giv.of (Opd.c _)) ?_))
    (hd : Nat.blt d nt = true := by exact rfl)
    : AOps Try.prog w0 ops ⟨nt, env, H⟩ (⟨some d, .call ⟨.value (.tmp t), args.toArray, ts⟩, ty, pos, after, none⟩ :: rest) Q := aops_ev (ev_call rfl hx hc hg) hd k
end

def mixC (a b : Nat → List AV) (k j : Nat) : List AV := if j < k then a j else b j
theorem mixC_at {a b : Nat → List AV} {k : Nat} : mixC a b (k + 1) k = a k := if_pos (Nat.lt_succ_self k)
theorem mixC_other {a b : Nat → List AV} {k : Nat} : ∀ j, j ≠ k → mixC a b (k + 1) j = mixC a b k j := fun j hj => by
  unfold mixC
  by_cases h : j < k
  · rw [if_pos h, if_pos (by omega)]
  · rw [if_neg h, if_neg (by omega)]
theorem mixC_zero {a b : Nat → List AV} {n : Nat} : ∀ j, j < n → mixC a b 0 j = b j := fun j _ => if_neg (Nat.not_lt_zero j)
theorem mixC_all {a b : Nat → List AV} {n : Nat} : ∀ j, j < n → a j = mixC a b n j := fun j hj => (if_pos hj).symm

theorem mark_neq (n : Int) : cmpB .neq .f32 (floatOfInt .f32 n) (floatOfInt .f32 n) = false := by
  have := order_mark n
  simp [cmpB, this]

def boolC (B : Nat → Bool) (k : Nat) : List AV := [vv (.bool (B k))]
def markB (K : Int) (k : Nat) : List AV := [vv (.bool (decide ((K + ((k * 1 + 0 : Nat) : Int)).tmod 3 = 0)))]
set_option maxRecDepth 100000 in
set_option maxHeartbeats 2000000 in
theorem c_lawsMarkFloat32S {v : Value} {n : Nat} {c : Nat → List AV} {K : Int} (hn : n ≤ 1048576) (h0 : 0 ≤ K) (h1 : K ≤ 16777216) : ConM Try.prog 43 [vv v, vv (.int .i64 K)] [.row v 22 1 n c] (fun _ : Unit => vv (.int .i64 (K + ((1 : Nat) : Int) * n))) (fun _ => [.row v 22 1 n (markC 1 K)]) := by
  refine conM_enter1 Try.func43 rfl (by kernel_rfl) Try.ntmps43 rfl fun w0 w => ?_
  (repeat (first | (refine gA ?_; first | refine aops_nil ?_ | (refine gA_gd ?_; first | refine gY ?_ | refine gN ?_ | refine gS ?_) | (refine gA_alloc ?_; refine sA ?_; intro _) | (refine gA_store ?_; first | refine sS ?_ | refine sSr ?_) | (refine gA_box ?_; refine sB ?_; intro _) | (refine gA_move ?_; refine sE_move ?_) | (refine gA_load ?_; refine sE_load ?_) | (refine gA_assign ?_; refine sE_assign ?_) | (refine gA_field ?_; refine sE_field ?_) | (refine gA_bin ?_; refine sE_bin ?_) | (refine gA_index ?_; refine sE_index ?_) | (refine gA_callb ?_; refine sE_callb ?_) | (refine gA_un ?_; refine sE_un ?_) | (refine gA_conv ?_; refine sE_conv ?_) | (refine gA_build ?_; refine sE_build ?_) | (refine gA_ext ?_; refine sE_ext ?_) | (refine gA_slice ?_; refine sE_slice ?_) | (refine gA_nilc ?_; refine sE_nilc ?_) | (refine gA_pick ?_; refine sE_pick ?_) | (refine gA_func ?_; refine sE_func ?_)) | (refine gW ?_; first | refine awp_seq ?_ | refine awp_region ?_ | refine awp_block ?_ | refine awp_skip ?_ | refine awp_ret ?_ | refine awp_exit ?_ | refine awp_label ?_) | (refine gX ?_; first | refine aex_then ?_ | refine aex_normal_block ?_ | refine aex_ret_then ?_ | refine aex_ret_block ?_ | refine aex_exit_then ?_ | refine aex_exit_here ?_ | refine aex_exit_out rfl ?_)))
  refine awp_rowc (c' := mixC (markC 1 K) c 0) (by first | ((repeat (first | exact HRep.here | apply HRep.there)); done) | fail) mixC_zero ?_
  refine awp_loopN (fun k => ⟨20, [(0, vv v), (1, vv (.int .i64 (K + ((k * 1 + 0 : Nat) : Int)))), (5, vv (.int .i64 (k : Int)))], [.row v 22 1 n (mixC (markC 1 K) c k), .fr w (Rest w0 w [.row v 22 1 n c])]⟩) n ?_ (fun k hk => ?_)
  · rw [show K + ((0 * 1 + 0 : Nat) : Int) = K by omega]
    exact (imp_mk (by repeat (first | exact EnvImp.nil | refine EnvImp.cons (by first | exact Opd.tmp rfl | exact OpF.tmp rfl) ?_)) (by repeat (first | exact HSub.nil | refine HSub.keep ?_ | refine HSub.drop ?_)))
  (repeat (first | (refine gA ?_; first | refine aops_nil ?_ | (refine gA_gd ?_; first | refine gY ?_ | refine gN ?_ | refine gS ?_) | (refine gA_alloc ?_; refine sA ?_; intro _) | (refine gA_store ?_; first | refine sS ?_ | refine sSr ?_) | (refine gA_box ?_; refine sB ?_; intro _) | (refine gA_move ?_; refine sE_move ?_) | (refine gA_load ?_; refine sE_load ?_) | (refine gA_assign ?_; refine sE_assign ?_) | (refine gA_field ?_; refine sE_field ?_) | (refine gA_bin ?_; refine sE_bin ?_) | (refine gA_index ?_; refine sE_index ?_) | (refine gA_callb ?_; refine sE_callb ?_) | (refine gA_un ?_; refine sE_un ?_) | (refine gA_conv ?_; refine sE_conv ?_) | (refine gA_build ?_; refine sE_build ?_) | (refine gA_ext ?_; refine sE_ext ?_) | (refine gA_slice ?_; refine sE_slice ?_) | (refine gA_nilc ?_; refine sE_nilc ?_) | (refine gA_pick ?_; refine sE_pick ?_) | (refine gA_func ?_; refine sE_func ?_)) | (refine gW ?_; first | refine awp_seq ?_ | refine awp_region ?_ | refine awp_block ?_ | refine awp_skip ?_ | refine awp_ret ?_ | refine awp_exit ?_ | refine awp_label ?_) | (refine gX ?_; first | refine aex_then ?_ | refine aex_normal_block ?_ | refine aex_ret_then ?_ | refine aex_ret_block ?_ | refine aex_exit_then ?_ | refine aex_exit_here ?_ | refine aex_exit_out rfl ?_)))
  refine cC (fun hg => ?_) (fun hg => ?_)
  · have hkn : k < n := by simp at hg; omega
    clear hg
    refine awp_rowcase (n := n) (by first | ((repeat (first | exact List.Mem.head _ | apply List.Mem.tail)); done) | fail) (by omega) (fun g cap e => ?_)
    subst e
    (repeat (first | (refine gA ?_; first | refine aops_nil ?_ | (refine gA_gd ?_; first | refine gY ?_ | refine gN ?_ | refine gS ?_) | (refine gA_alloc ?_; refine sA ?_; intro _) | (refine gA_store ?_; first | refine sS ?_ | refine sSr ?_) | (refine gA_box ?_; refine sB ?_; intro _) | (refine gA_move ?_; refine sE_move ?_) | (refine gA_load ?_; refine sE_load ?_) | (refine gA_assign ?_; refine sE_assign ?_) | (refine gA_field ?_; refine sE_field ?_) | (refine gA_bin ?_; refine sE_bin ?_) | (refine gA_index ?_; refine sE_index ?_) | (refine gA_callb ?_; refine sE_callb ?_) | (refine gA_un ?_; refine sE_un ?_) | (refine gA_conv ?_; refine sE_conv ?_) | (refine gA_build ?_; refine sE_build ?_) | (refine gA_ext ?_; refine sE_ext ?_) | (refine gA_slice ?_; refine sE_slice ?_) | (refine gA_nilc ?_; refine sE_nilc ?_) | (refine gA_pick ?_; refine sE_pick ?_) | (refine gA_func ?_; refine sE_func ?_)) | (refine gW ?_; first | refine awp_seq ?_ | refine awp_region ?_ | refine awp_block ?_ | refine awp_skip ?_ | refine awp_ret ?_ | refine awp_exit ?_ | refine awp_label ?_) | (refine gX ?_; first | refine aex_then ?_ | refine aex_normal_block ?_ | refine aex_ret_then ?_ | refine aex_ret_block ?_ | refine aex_exit_then ?_ | refine aex_exit_here ?_ | refine aex_exit_out rfl ?_)))
    first
    | (refine aops_ev (ev_irem64 rfl (Opd.tmp rfl) (Opd.c _) (by omega) (by omega) (by omega)) rfl ?_
       (repeat (first | (refine gA ?_; first | refine aops_nil ?_ | (refine gA_gd ?_; first | refine gY ?_ | refine gN ?_ | refine gS ?_) | (refine gA_alloc ?_; refine sA ?_; intro _) | (refine gA_store ?_; first | refine sS ?_ | refine sSr ?_) | (refine gA_box ?_; refine sB ?_; intro _) | (refine gA_move ?_; refine sE_move ?_) | (refine gA_load ?_; refine sE_load ?_) | (refine gA_assign ?_; refine sE_assign ?_) | (refine gA_field ?_; refine sE_field ?_) | (refine gA_bin ?_; refine sE_bin ?_) | (refine gA_index ?_; refine sE_index ?_) | (refine gA_callb ?_; refine sE_callb ?_) | (refine gA_un ?_; refine sE_un ?_) | (refine gA_conv ?_; refine sE_conv ?_) | (refine gA_build ?_; refine sE_build ?_) | (refine gA_ext ?_; refine sE_ext ?_) | (refine gA_slice ?_; refine sE_slice ?_) | (refine gA_nilc ?_; refine sE_nilc ?_) | (refine gA_pick ?_; refine sE_pick ?_) | (refine gA_func ?_; refine sE_func ?_)) | (refine gW ?_; first | refine awp_seq ?_ | refine awp_region ?_ | refine awp_block ?_ | refine awp_skip ?_ | refine awp_ret ?_ | refine awp_exit ?_ | refine awp_label ?_) | (refine gX ?_; first | refine aex_then ?_ | refine aex_normal_block ?_ | refine aex_ret_then ?_ | refine aex_ret_block ?_ | refine aex_exit_then ?_ | refine aex_exit_here ?_ | refine aex_exit_out rfl ?_))))
    | skip
    refine aops_ev (ev_indexOwn rfl (Opd.tmp rfl) (Opd.tmp rfl) tyS_f32 (hkn)) rfl ?_
    refine aops_storeRow (c' := mixC (markC 1 K) c (k + 1)) (Opd.tmp rfl) (Opd.tmp rfl) (cellsOf_fl _ _) sz_f32 rfl (by first | ((repeat (first | exact HRep.here | apply HRep.there)); done) | fail) hkn mixC_at mixC_other ?_
    (repeat (first | (refine gA ?_; first | refine aops_nil ?_ | (refine gA_gd ?_; first | refine gY ?_ | refine gN ?_ | refine gS ?_) | (refine gA_alloc ?_; refine sA ?_; intro _) | (refine gA_store ?_; first | refine sS ?_ | refine sSr ?_) | (refine gA_box ?_; refine sB ?_; intro _) | (refine gA_move ?_; refine sE_move ?_) | (refine gA_load ?_; refine sE_load ?_) | (refine gA_assign ?_; refine sE_assign ?_) | (refine gA_field ?_; refine sE_field ?_) | (refine gA_bin ?_; refine sE_bin ?_) | (refine gA_index ?_; refine sE_index ?_) | (refine gA_callb ?_; refine sE_callb ?_) | (refine gA_un ?_; refine sE_un ?_) | (refine gA_conv ?_; refine sE_conv ?_) | (refine gA_build ?_; refine sE_build ?_) | (refine gA_ext ?_; refine sE_ext ?_) | (refine gA_slice ?_; refine sE_slice ?_) | (refine gA_nilc ?_; refine sE_nilc ?_) | (refine gA_pick ?_; refine sE_pick ?_) | (refine gA_func ?_; refine sE_func ?_)) | (refine gW ?_; first | refine awp_seq ?_ | refine awp_region ?_ | refine awp_block ?_ | refine awp_skip ?_ | refine awp_ret ?_ | refine awp_exit ?_ | refine awp_label ?_) | (refine gX ?_; first | refine aex_then ?_ | refine aex_normal_block ?_ | refine aex_ret_then ?_ | refine aex_ret_block ?_ | refine aex_exit_then ?_ | refine aex_exit_here ?_ | refine aex_exit_out rfl ?_)))
    refine aex_agN (by omega) ?_
    rw [show K + (((k + 1) * 1 + 0 : Nat) : Int) = K + ((k * 1 + 0 : Nat) : Int) + 1 by omega]
    exact (imp_mk (by repeat (first | exact EnvImp.nil | refine EnvImp.cons (by first | exact Opd.tmp rfl | exact OpF.tmp rfl) ?_)) (by repeat (first | exact HSub.nil | refine HSub.keep ?_ | refine HSub.drop ?_)))
  · obtain rfl : k = n := by simp at hg; omega
    (repeat (first | (refine gA ?_; first | refine aops_nil ?_ | (refine gA_gd ?_; first | refine gY ?_ | refine gN ?_ | refine gS ?_) | (refine gA_alloc ?_; refine sA ?_; intro _) | (refine gA_store ?_; first | refine sS ?_ | refine sSr ?_) | (refine gA_box ?_; refine sB ?_; intro _) | (refine gA_move ?_; refine sE_move ?_) | (refine gA_load ?_; refine sE_load ?_) | (refine gA_assign ?_; refine sE_assign ?_) | (refine gA_field ?_; refine sE_field ?_) | (refine gA_bin ?_; refine sE_bin ?_) | (refine gA_index ?_; refine sE_index ?_) | (refine gA_callb ?_; refine sE_callb ?_) | (refine gA_un ?_; refine sE_un ?_) | (refine gA_conv ?_; refine sE_conv ?_) | (refine gA_build ?_; refine sE_build ?_) | (refine gA_ext ?_; refine sE_ext ?_) | (refine gA_slice ?_; refine sE_slice ?_) | (refine gA_nilc ?_; refine sE_nilc ?_) | (refine gA_pick ?_; refine sE_pick ?_) | (refine gA_func ?_; refine sE_func ?_)) | (refine gW ?_; first | refine awp_seq ?_ | refine awp_region ?_ | refine awp_block ?_ | refine awp_skip ?_ | refine awp_ret ?_ | refine awp_exit ?_ | refine awp_label ?_) | (refine gX ?_; first | refine aex_then ?_ | refine aex_normal_block ?_ | refine aex_ret_then ?_ | refine aex_ret_block ?_ | refine aex_exit_then ?_ | refine aex_exit_here ?_ | refine aex_exit_out rfl ?_)))
    refine aex_rowcH (c' := markC 1 K) (by first | ((repeat (first | exact HRep.here | apply HRep.there)); done) | fail) mixC_all ?_
    exact aex_retM () rfl (resV_as (Opd.tmp rfl) (congrArg (fun z => vv (.int .i64 z)) (by omega))) (by repeat (first | exact HSub.nil | refine HSub.keep ?_ | refine HSub.drop ?_))
set_option maxRecDepth 100000 in
set_option maxHeartbeats 2000000 in
theorem c_lawsHeldFloat32S {n : Nat} {K : Int} (hn : n ≤ 1048576) (h0 : 0 ≤ K) (h1 : K ≤ 16777216) : Con Try.prog 44 [rs 1 n (markC 1 K), vv (.int .i64 K)] (RetA (vv (.int .i64 (K + ((1 : Nat) : Int) * n)))) := by
  refine con_enter Try.func44 rfl (by kernel_rfl) Try.ntmps44 rfl fun w0 => ?_
  (repeat (first | (refine gA ?_; first | refine aops_nil ?_ | (refine gA_gd ?_; first | refine gY ?_ | refine gN ?_ | refine gS ?_) | (refine gA_alloc ?_; refine sA ?_; intro _) | (refine gA_store ?_; first | refine sS ?_ | refine sSr ?_) | (refine gA_box ?_; refine sB ?_; intro _) | (refine gA_move ?_; refine sE_move ?_) | (refine gA_load ?_; refine sE_load ?_) | (refine gA_assign ?_; refine sE_assign ?_) | (refine gA_field ?_; refine sE_field ?_) | (refine gA_bin ?_; refine sE_bin ?_) | (refine gA_index ?_; refine sE_index ?_) | (refine gA_callb ?_; refine sE_callb ?_) | (refine gA_un ?_; refine sE_un ?_) | (refine gA_conv ?_; refine sE_conv ?_) | (refine gA_build ?_; refine sE_build ?_) | (refine gA_ext ?_; refine sE_ext ?_) | (refine gA_slice ?_; refine sE_slice ?_) | (refine gA_nilc ?_; refine sE_nilc ?_) | (refine gA_pick ?_; refine sE_pick ?_) | (refine gA_func ?_; refine sE_func ?_)) | (refine gW ?_; first | refine awp_seq ?_ | refine awp_region ?_ | refine awp_block ?_ | refine awp_skip ?_ | refine awp_ret ?_ | refine awp_exit ?_ | refine awp_label ?_) | (refine gX ?_; first | refine aex_then ?_ | refine aex_normal_block ?_ | refine aex_ret_then ?_ | refine aex_ret_block ?_ | refine aex_exit_then ?_ | refine aex_exit_here ?_ | refine aex_exit_out rfl ?_)))
  refine awp_loopN (fun k => ⟨22, [(0, rs 1 n (markC 1 K)), (1, vv (.int .i64 (K + ((k * 1 + 0 : Nat) : Int)))), (5, vv (.int .i64 (k : Int)))], []⟩) n ?_ (fun k hk => ?_)
  · rw [show K + ((0 * 1 + 0 : Nat) : Int) = K by omega]
    exact (imp_mk (by repeat (first | exact EnvImp.nil | refine EnvImp.cons (by first | exact Opd.tmp rfl | exact OpF.tmp rfl) ?_)) (by repeat (first | exact HSub.nil | refine HSub.keep ?_ | refine HSub.drop ?_)))
  (repeat (first | (refine gA ?_; first | refine aops_nil ?_ | (refine gA_gd ?_; first | refine gY ?_ | refine gN ?_ | refine gS ?_) | (refine gA_alloc ?_; refine sA ?_; intro _) | (refine gA_store ?_; first | refine sS ?_ | refine sSr ?_) | (refine gA_box ?_; refine sB ?_; intro _) | (refine gA_move ?_; refine sE_move ?_) | (refine gA_load ?_; refine sE_load ?_) | (refine gA_assign ?_; refine sE_assign ?_) | (refine gA_field ?_; refine sE_field ?_) | (refine gA_bin ?_; refine sE_bin ?_) | (refine gA_index ?_; refine sE_index ?_) | (refine gA_callb ?_; refine sE_callb ?_) | (refine gA_un ?_; refine sE_un ?_) | (refine gA_conv ?_; refine sE_conv ?_) | (refine gA_build ?_; refine sE_build ?_) | (refine gA_ext ?_; refine sE_ext ?_) | (refine gA_slice ?_; refine sE_slice ?_) | (refine gA_nilc ?_; refine sE_nilc ?_) | (refine gA_pick ?_; refine sE_pick ?_) | (refine gA_func ?_; refine sE_func ?_)) | (refine gW ?_; first | refine awp_seq ?_ | refine awp_region ?_ | refine awp_block ?_ | refine awp_skip ?_ | refine awp_ret ?_ | refine awp_exit ?_ | refine awp_label ?_) | (refine gX ?_; first | refine aex_then ?_ | refine aex_normal_block ?_ | refine aex_ret_then ?_ | refine aex_ret_block ?_ | refine aex_exit_then ?_ | refine aex_exit_here ?_ | refine aex_exit_out rfl ?_)))
  refine cC (fun hg => ?_) (fun hg => ?_)
  · have hkn : k < n := by simp at hg; omega
    clear hg
    have hq := mark_neq (K + ((k * 1 + 0 : Nat) : Int))
    (repeat (first | (refine gA ?_; first | refine aops_nil ?_ | (refine gA_gd ?_; first | refine gY ?_ | refine gN ?_ | refine gS ?_) | (refine gA_alloc ?_; refine sA ?_; intro _) | (refine gA_store ?_; first | refine sS ?_ | refine sSr ?_) | (refine gA_box ?_; refine sB ?_; intro _) | (refine gA_move ?_; refine sE_move ?_) | (refine gA_load ?_; refine sE_load ?_) | (refine gA_assign ?_; refine sE_assign ?_) | (refine gA_field ?_; refine sE_field ?_) | (refine gA_bin ?_; refine sE_bin ?_) | (refine gA_index ?_; refine sE_index ?_) | (refine gA_callb ?_; refine sE_callb ?_) | (refine gA_un ?_; refine sE_un ?_) | (refine gA_conv ?_; refine sE_conv ?_) | (refine gA_build ?_; refine sE_build ?_) | (refine gA_ext ?_; refine sE_ext ?_) | (refine gA_slice ?_; refine sE_slice ?_) | (refine gA_nilc ?_; refine sE_nilc ?_) | (refine gA_pick ?_; refine sE_pick ?_) | (refine gA_func ?_; refine sE_func ?_)) | (refine gW ?_; first | refine awp_seq ?_ | refine awp_region ?_ | refine awp_block ?_ | refine awp_skip ?_ | refine awp_ret ?_ | refine awp_exit ?_ | refine awp_label ?_ | refine cF ?_ | refine cT ?_) | (refine gX ?_; first | refine aex_then ?_ | refine aex_normal_block ?_ | refine aex_ret_then ?_ | refine aex_ret_block ?_ | refine aex_exit_then ?_ | refine aex_exit_here ?_ | refine aex_exit_out rfl ?_)))
    first
    | (refine aops_ev (ev_irem64 rfl (Opd.tmp rfl) (Opd.c _) (by omega) (by omega) (by omega)) rfl ?_
       have hq2 := bne_self_eq_false (decide ((K + ((k * 1 + 0 : Nat) : Int)).tmod 3 = 0))
       (repeat (first | (refine gA ?_; first | refine aops_nil ?_ | (refine gA_gd ?_; first | refine gY ?_ | refine gN ?_ | refine gS ?_) | (refine gA_alloc ?_; refine sA ?_; intro _) | (refine gA_store ?_; first | refine sS ?_ | refine sSr ?_) | (refine gA_box ?_; refine sB ?_; intro _) | (refine gA_move ?_; refine sE_move ?_) | (refine gA_load ?_; refine sE_load ?_) | (refine gA_assign ?_; refine sE_assign ?_) | (refine gA_field ?_; refine sE_field ?_) | (refine gA_bin ?_; refine sE_bin ?_) | (refine gA_index ?_; refine sE_index ?_) | (refine gA_callb ?_; refine sE_callb ?_) | (refine gA_un ?_; refine sE_un ?_) | (refine gA_conv ?_; refine sE_conv ?_) | (refine gA_build ?_; refine sE_build ?_) | (refine gA_ext ?_; refine sE_ext ?_) | (refine gA_slice ?_; refine sE_slice ?_) | (refine gA_nilc ?_; refine sE_nilc ?_) | (refine gA_pick ?_; refine sE_pick ?_) | (refine gA_func ?_; refine sE_func ?_)) | (refine gW ?_; first | refine awp_seq ?_ | refine awp_region ?_ | refine awp_block ?_ | refine awp_skip ?_ | refine awp_ret ?_ | refine awp_exit ?_ | refine awp_label ?_ | refine cF ?_ | refine cT ?_) | (refine gX ?_; first | refine aex_then ?_ | refine aex_normal_block ?_ | refine aex_ret_then ?_ | refine aex_ret_block ?_ | refine aex_exit_then ?_ | refine aex_exit_here ?_ | refine aex_exit_out rfl ?_))))
    | skip
    refine aex_agN (by omega) ?_
    rw [show K + (((k + 1) * 1 + 0 : Nat) : Int) = K + ((k * 1 + 0 : Nat) : Int) + 1 by omega]
    exact (imp_mk (by repeat (first | exact EnvImp.nil | refine EnvImp.cons (by first | exact Opd.tmp rfl | exact OpF.tmp rfl) ?_)) (by repeat (first | exact HSub.nil | refine HSub.keep ?_ | refine HSub.drop ?_)))
  · obtain rfl : k = n := by simp at hg; omega
    (repeat (first | (refine gA ?_; first | refine aops_nil ?_ | (refine gA_gd ?_; first | refine gY ?_ | refine gN ?_ | refine gS ?_) | (refine gA_alloc ?_; refine sA ?_; intro _) | (refine gA_store ?_; first | refine sS ?_ | refine sSr ?_) | (refine gA_box ?_; refine sB ?_; intro _) | (refine gA_move ?_; refine sE_move ?_) | (refine gA_load ?_; refine sE_load ?_) | (refine gA_assign ?_; refine sE_assign ?_) | (refine gA_field ?_; refine sE_field ?_) | (refine gA_bin ?_; refine sE_bin ?_) | (refine gA_index ?_; refine sE_index ?_) | (refine gA_callb ?_; refine sE_callb ?_) | (refine gA_un ?_; refine sE_un ?_) | (refine gA_conv ?_; refine sE_conv ?_) | (refine gA_build ?_; refine sE_build ?_) | (refine gA_ext ?_; refine sE_ext ?_) | (refine gA_slice ?_; refine sE_slice ?_) | (refine gA_nilc ?_; refine sE_nilc ?_) | (refine gA_pick ?_; refine sE_pick ?_) | (refine gA_func ?_; refine sE_func ?_)) | (refine gW ?_; first | refine awp_seq ?_ | refine awp_region ?_ | refine awp_block ?_ | refine awp_skip ?_ | refine awp_ret ?_ | refine awp_exit ?_ | refine awp_label ?_) | (refine gX ?_; first | refine aex_then ?_ | refine aex_normal_block ?_ | refine aex_ret_then ?_ | refine aex_ret_block ?_ | refine aex_exit_then ?_ | refine aex_exit_here ?_ | refine aex_exit_out rfl ?_)))
    exact aex_ret1 rfl (resV_as (Opd.tmp rfl) (congrArg (fun z => vv (.int .i64 z)) (by omega))) (by exact rfl)
end Go.Proofs.Ytokhbfbanofchaa
