/-
  Memory of lists of wires that is marked: partial stores, deep copies, the mark's contract. Conditions: none.
-/
import Derived.Test.YtokhbfbanofchaaWr
import Derived.Test.YtokhbfbanofchaaSu
namespace Go.Proofs.Ytokhbfbanofchaa
open Go Go.RowKit

theorem splice_get {l la : List AV} {i p : Nat} (h : i + la.length ≤ l.length) : (splice l i la)[p]? = if p < i then l[p]? else if p < i + la.length then la[p - i]? else l[p]? := upd_get l la i p h
section
variable {P : Program} {w0 : World} {ops : Array Oper} {nt : Nat} {env : List (Nat × AV)} {H : List HE} {rest : List Oper} {Q : Exit → Act → World → Prop} {ty : TypeId} {pos : String} {after : Array Edge}
/-- Some cells of an element of a slice of the call's own are written. -/
theorem aops_storeRowAt {t : TypeId} {x y : Operand} {g size n cap k r T i : Nat} {c c' : Nat → List AV} {la : List AV} {A : AV} {H' : List HE} (hx : Opd ⟨nt, env, H⟩ x (ptr g i)) (hi : i = k * size + r) (hy : Opd ⟨nt, env, H⟩ y A) (hc : CellsOf A la) (ht : (P.info? t).map (·.size) = some la.length) (hla : r + la.length ≤ size)
    (hr : HRep H (.row (.slice (some ⟨g, 0, none⟩) n cap) T size n c) (.row (.slice (some ⟨g, 0, none⟩) n cap) T size n c') H') (hk : k < n) (hc1 : c' k = splice (c k) r la) (hc2 : ∀ j, j ≠ k → c' j = c j)
    (kk : AOps P w0 ops ⟨nt, env, H'⟩ rest Q) : AOps P w0 ops ⟨nt, env, H⟩ (⟨none, .store t x y, ty, pos, after, none⟩ :: rest) Q := by
  subst hi
  refine ⟨fun a w hs => ?_⟩
  exact wpList_plain rfl fun K hK => by
    have hv := hc _ _ (hy w0 a w hs)
    have e : a.eval x = .pointer (some ⟨g, k * size + r, none⟩) := hx w0 a w hs
    obtain ⟨xs, ⟨hlen, h1⟩, hrow, hone⟩ := hs.heap.get _ hr.mem
    have hgf := hs.heap.foot _ hr.mem g rfl
    rcases h1 with ⟨h1, _⟩ | ⟨g', cap', cur, hvv, hg, hh, hnc, hcm, hcs, htk⟩
    · cases h1
    injection hvv with q1 q2 q3
    injection q1 with q1
    injection q1 with q1 q4
    subst q1
    subst q3
    have hlen2 := hv.1.length
    have hkn : k * size + size ≤ n * size := by
      have : (k + 1) * size ≤ n * size := Nat.mul_le_mul_right _ (by omega)
      rw [Nat.add_mul, Nat.one_mul] at this
      omega
    have hnN : n * size ≤ cur.size := by rw [hcs]; exact Nat.mul_le_mul_right _ hnc
    have hst := run_storeCells_at (P := P) g (k * size + r) T (a.eval y).cells.toList 0 cur w hh (by rw [hlen2]; omega) hv.2
    obtain ⟨ii, hii, his⟩ : ∃ ii, P.info? t = some ii ∧ ii.size = la.length := by
      cases hq : P.info? t with
      | none => rw [hq] at ht; cases ht
      | some ii => rw [hq] at ht; exact ⟨ii, rfl, by simpa using ht⟩
    have hr' : (execOp a.eval (⟨none, .store t x y, ty, pos, after, none⟩ : Oper)).run P w = .ok .skip (w.setRow g (cur.toList.take (k * size + r + 0) ++ (a.eval y).cells.toList ++ cur.toList.drop (k * size + r + 0 + (a.eval y).cells.toList.length)).toArray) := by
      have hsz : (a.eval y).cells.size = ii.size := by rw [his, ← hlen2]; simp
      simp only [execOp, e, Instr.storeAt, Instr.sureAddr, storeVar, sizeOf, typeInfo, Sem.run_bind, Sem.run_pure, Result.andThen_ok, run_program, hii, Sem.run_map]
      rw [Sem.run_ite, if_neg (by simpa using hsz)]
      simp only [Sem.run_bind, Sem.run_pure, Result.andThen_ok, hst]
    unfold Oper.wp
    rw [hr']
    rw [Nat.add_zero]
    have hys : (a.eval y).cells.toList.length = la.length := hlen2
    generalize hys0 : (a.eval y).cells.toList = ys at *
    refine hK _ _ (kk.out _ _ ?_)
    have hset : ∀ b, b ≠ g → (w.setRow g (cur.toList.take (k * size + r) ++ ys ++ cur.toList.drop (k * size + r + ys.length)).toArray).heap[b]? = w.heap[b]? := fun b hb => by
      simp only [World.setRow, Array.getElem?_modify]
      rw [if_neg (by omega)]
    have hset2 : (w.setRow g (cur.toList.take (k * size + r) ++ ys ++ cur.toList.drop (k * size + r + ys.length)).toArray).heap[g]? = some (.cells (cur.toList.take (k * size + r) ++ ys ++ cur.toList.drop (k * size + r + ys.length)).toArray T (0, 0)) := by
      simp [World.setRow, Array.getElem?_modify, hh]
    have hsz' : (w.setRow g (cur.toList.take (k * size + r) ++ ys ++ cur.toList.drop (k * size + r + ys.length)).toArray).heap.size = w.heap.size := by simp [World.setRow]
    have hcl : cur.toList.length = cur.size := by simp
    have hPl : k * size + r + ys.length ≤ cur.toList.length := by rw [hcl, hys]; omega
    have hLl : (cur.toList.take (k * size + r) ++ ys ++ cur.toList.drop (k * size + r + ys.length)).length = cur.size := by
      simp only [List.length_append, List.length_take, List.length_drop, hcl]
      omega
    have hget : ∀ p, (cur.toList.take (k * size + r) ++ ys ++ cur.toList.drop (k * size + r + ys.length))[p]? = if p < k * size + r then cur.toList[p]? else if p < k * size + r + ys.length then ys[p - (k * size + r)]? else cur.toList[p]? := fun p => upd_get _ _ _ _ hPl
    have hold : ∀ j, j < n → ∀ p, p < size → (((cur.toList.take (n * size)).drop (j * size)).take size)[p]? = cur.toList[j * size + p]? := fun j hj p hp => by
      have : (j + 1) * size ≤ n * size := Nat.mul_le_mul_right _ (by omega)
      rw [Nat.add_mul, Nat.one_mul] at this
      rw [List.getElem?_take, if_pos hp, List.getElem?_drop, List.getElem?_take, if_pos (by omega)]
    have hnew : ∀ j, j < n → ∀ p, p < size → ((((cur.toList.take (k * size + r) ++ ys ++ cur.toList.drop (k * size + r + ys.length)).take (n * size)).drop (j * size)).take size)[p]? = if j * size + p < k * size + r then cur.toList[j * size + p]? else if j * size + p < k * size + r + ys.length then ys[j * size + p - (k * size + r)]? else cur.toList[j * size + p]? := fun j hj p hp => by
      have : (j + 1) * size ≤ n * size := Nat.mul_le_mul_right _ (by omega)
      rw [Nat.add_mul, Nat.one_mul] at this
      rw [List.getElem?_take, if_pos hp, List.getElem?_drop, List.getElem?_take, if_pos (by omega), hget]
    have hlenO : ∀ j, j < n → (((cur.toList.take (n * size)).drop (j * size)).take size).length = size := fun j hj => by
      have : (j + 1) * size ≤ n * size := Nat.mul_le_mul_right _ (by omega)
      rw [Nat.add_mul, Nat.one_mul] at this
      simp only [List.length_take, List.length_drop, hcl]
      omega
    have hlenN : ∀ j, j < n → ((((cur.toList.take (k * size + r) ++ ys ++ cur.toList.drop (k * size + r + ys.length)).take (n * size)).drop (j * size)).take size).length = size := fun j hj => by
      have : (j + 1) * size ≤ n * size := Nat.mul_le_mul_right _ (by omega)
      rw [Nat.add_mul, Nat.one_mul] at this
      rw [List.length_take, List.length_drop, List.length_take, hLl]
      omega
    have hff : ∀ b, (HE.row (.slice (some ⟨g, 0, none⟩) n cap) T size n c').foot b → (HE.row (.slice (some ⟨g, 0, none⟩) n cap) T size n c).foot b := fun _ h => h
    have hfg : ∀ b, ¬ (HE.row (.slice (some ⟨g, 0, none⟩) n cap) T size n c).foot b → b ≠ g := fun b hb q => hb (by subst q; rfl)
    have hone' : ∀ p, p < n * size → ∀ u, cur.toList[p]? = some u → u.oneCell' = true := fun p hp u h => hone u (by rw [← htk]; exact List.mem_iff_getElem?.2 ⟨p, by rw [List.getElem?_take, if_pos hp]; exact h⟩)
    refine Sat.step (dst := none) (A := vv undef) (v := undef) hs ⟨rfl, rfl, rfl, by omega, fun b hb => hset b (by have := hgf.1; omega)⟩ rfl rfl
      (hr.ok hff hs.heap (by omega) (fun b _ hb => hset b (hfg b hb)) ⟨(cur.toList.take (k * size + r) ++ ys ++ cur.toList.drop (k * size + r + ys.length)).take (n * size), ⟨?_, .inr ⟨g, cap, _, rfl, hg, hset2, hnc, hcm, ?_, by simp⟩⟩, fun j hj => ?_, fun u hu => ?_⟩)
    · rw [List.length_take, hLl]; omega
    · rw [List.size_toArray, hLl, hcs]
    · have hr0 := hrow j hj
      rw [← htk] at hr0
      have hcj : (c j).length = size := by rw [← hr0.length]; exact hlenO j hj
      have hjs : j ≠ k → j * size + size ≤ k * size ∨ k * size + size ≤ j * size := fun hjk => by
        rcases Nat.lt_or_gt_of_ne hjk with h | h
        · left
          have : (j + 1) * size ≤ k * size := Nat.mul_le_mul_right _ (by omega)
          rw [Nat.add_mul, Nat.one_mul] at this
          omega
        · right
          have : (k + 1) * size ≤ j * size := Nat.mul_le_mul_right _ (by omega)
          rw [Nat.add_mul, Nat.one_mul] at this
          omega
      refine All.of_get ?_ fun p B hB => ?_
      · rw [hlenN j hj]
        by_cases hjk : j = k
        · subst hjk
          rw [hc1]
          have : (splice (c j) r la).length = (c j).length := by unfold splice; simp; omega
          rw [this, hcj]
        · rw [hc2 j hjk, hcj]
      · have hp : p < size := by
          by_cases hjk : j = k
          · subst hjk
            rw [hc1] at hB
            have : (splice (c j) r la).length = (c j).length := by unfold splice; simp; omega
            have := (List.getElem?_eq_some_iff.1 hB).1
            omega
          · rw [hc2 j hjk] at hB
            have := (List.getElem?_eq_some_iff.1 hB).1
            omega
        rw [hnew j hj p hp]
        by_cases hjk : j = k
        · subst hjk
          rw [hc1, splice_get (by omega)] at hB
          by_cases h1 : p < r
          · rw [if_pos h1] at hB
            rw [if_pos (by omega)]
            obtain ⟨u, hu, hru⟩ := hr0.get hB
            rw [hold j hj p hp] at hu
            exact ⟨u, hu, hru⟩
          · rw [if_neg h1] at hB
            rw [if_neg (by omega)]
            by_cases h2 : p < r + la.length
            · rw [if_pos h2] at hB
              rw [if_pos (by omega)]
              obtain ⟨u, hu, hru⟩ := hv.1.get hB
              exact ⟨u, by rw [show j * size + p - (j * size + r) = p - r by omega]; exact hu, hru⟩
            · rw [if_neg h2] at hB
              rw [if_neg (by omega)]
              obtain ⟨u, hu, hru⟩ := hr0.get hB
              rw [hold j hj p hp] at hu
              exact ⟨u, hu, hru⟩
        · rw [hc2 j hjk] at hB
          obtain ⟨u, hu, hru⟩ := hr0.get hB
          rw [hold j hj p hp] at hu
          refine ⟨u, ?_, hru⟩
          rcases hjs hjk with h | h
          · rw [if_pos (by omega)]; exact hu
          · rw [if_neg (by omega), if_neg (by omega)]; exact hu
    · obtain ⟨p, hp⟩ := List.mem_iff_getElem?.1 hu
      rw [List.getElem?_take] at hp
      split at hp
      · rename_i hpN
        rw [hget] at hp
        split at hp
        · exact hone' p hpN u hp
        · split at hp
          · exact hv.2 u (List.mem_of_getElem? hp)
          · exact hone' p hpN u hp
      · cases hp
end

/-- The memory of a list of wires: the slice and the points of each wire lie apart, in blocks between two worlds. -/
structure WMem (wa w1 : World) (v : Value) (sv : Nat → Value) (n : Nat) (W : Nat → WI) : Prop where
  row : (HE.row v 51 3 n (wireV sv W)).ok wa w1
  out : ∀ g, v.ownBlock = some g → Span wa w1 g
  inn : ∀ j, j < n → (HE.row (sv j) 29 3 (W j).m (vecC (W j).F)).ok wa w1
  ino : ∀ j, j < n → ∀ g, (sv j).ownBlock = some g → Span wa w1 g ∧ v.ownBlock ≠ some g ∧ ∀ i, i < n → i ≠ j → (sv i).ownBlock ≠ some g
def RetDeep (n : Nat) (W : Nat → WI) (w : World) (v : Value) (w' : World) : Prop := RetFresh (rs 3 n (wireC W)) w v w' ∧ ∃ sv, WMem w w' v sv n W
theorem WMem.fresh {wa w1 : World} {v : Value} {sv : Nat → Value} {n : Nat} {W : Nat → WI} (h : WMem wa w1 v sv n W) : RetFresh (rs 3 n (wireC W)) wa v w1 := fun w2 hsz hsame =>
  rs_wires (sv := sv) (rs_pure (fun _ => rfl) (h.row.keep hsz fun x hx => hsame x (h.out x hx).1 (h.out x hx).2) fun x hx => Nat.lt_of_lt_of_le (h.out x hx).2 hsz) fun j hj =>
    rs_pure (fun _ => rfl) ((h.inn j hj).keep hsz fun x hx => hsame x ((h.ino j hj x hx).1).1 ((h.ino j hj x hx).1).2) fun x hx => Nat.lt_of_lt_of_le ((h.ino j hj x hx).1).2 hsz
section
variable {P : Program} {w0 : World} {s : AS}
theorem aex_ret1_deep {fn : Func} {r : ResultVar} {v : Value} {n : Nat} {W : Nat → WI} (hf : fn.results = #[r]) (h : ResV P s r (vv v)) (hA : ∀ a w, Sat w0 s a w → ∃ sv, WMem w0 w v sv n W) : AEx w0 s .ret (bodyPost P fn (RetQ w0 (RetDeep n W))) := by
  refine ⟨fun a w hs => ?_⟩
  obtain ⟨u, hr, hv⟩ := h w0 a w hs
  obtain rfl : u = v := hv
  obtain ⟨sv, hm⟩ := hA a w hs
  refine ⟨hs.defers, u, ?_, u, rfl, hs.below, hm.fresh, sv, hm⟩
  rw [results_eq, hf]
  simp [hr]
end
set_option maxRecDepth 100000 in
set_option maxHeartbeats 2000000 in
theorem c_deepWireS {n : Nat} {W : Nat → WI} (hn : n ≤ 1048576) (hm : ∀ k, k < n → (W k).m ≤ 1048576) : Con Try.prog 16 [rs 3 n (wireC W)] (RetDeep n W) := by
  refine con_enter Try.func16 rfl (by kernel_rfl) Try.ntmps16 rfl fun w0 => ?_
  (repeat (first | (refine gA ?_; first | refine aops_nil ?_ | (refine gA_gd ?_; first | refine gY ?_ | refine gN ?_ | refine gS ?_) | (refine gA_alloc ?_; refine sA ?_; intro _) | (refine gA_store ?_; first | refine sS ?_ | refine sSr ?_) | (refine gA_box ?_; refine sB ?_; intro _) | (refine gA_move ?_; refine sE_move ?_) | (refine gA_load ?_; refine sE_load ?_) | (refine gA_assign ?_; refine sE_assign ?_) | (refine gA_field ?_; refine sE_field ?_) | (refine gA_bin ?_; refine sE_bin ?_) | (refine gA_index ?_; refine sE_index ?_) | (refine gA_callb ?_; refine sE_callb ?_) | (refine gA_un ?_; refine sE_un ?_) | (refine gA_conv ?_; refine sE_conv ?_) | (refine gA_build ?_; refine sE_build ?_) | (refine gA_ext ?_; refine sE_ext ?_) | (refine gA_slice ?_; refine sE_slice ?_) | (refine gA_nilc ?_; refine sE_nilc ?_) | (refine gA_pick ?_; refine sE_pick ?_) | (refine gA_func ?_; refine sE_func ?_)) | (refine gW ?_; first | refine awp_seq ?_ | refine awp_region ?_ | refine awp_block ?_ | refine awp_skip ?_ | refine awp_ret ?_ | refine awp_exit ?_ | refine awp_label ?_) | (refine gX ?_; first | refine aex_then ?_ | refine aex_normal_block ?_ | refine aex_ret_then ?_ | refine aex_ret_block ?_ | refine aex_exit_then ?_ | refine aex_exit_here ?_ | refine aex_exit_out rfl ?_ | refine aex_nop ?_)))
  refine aops_make tyE_Wire tyZ_Wire (Opd.tmp rfl) (Opd.tmp rfl) hn rfl (fun g => ?_)
  (repeat (first | (refine gA ?_; first | refine aops_nil ?_ | (refine gA_gd ?_; first | refine gY ?_ | refine gN ?_ | refine gS ?_) | (refine gA_alloc ?_; refine sA ?_; intro _) | (refine gA_store ?_; first | refine sS ?_ | refine sSr ?_) | (refine gA_box ?_; refine sB ?_; intro _) | (refine gA_move ?_; refine sE_move ?_) | (refine gA_load ?_; refine sE_load ?_) | (refine gA_assign ?_; refine sE_assign ?_) | (refine gA_field ?_; refine sE_field ?_) | (refine gA_bin ?_; refine sE_bin ?_) | (refine gA_index ?_; refine sE_index ?_) | (refine gA_callb ?_; refine sE_callb ?_) | (refine gA_un ?_; refine sE_un ?_) | (refine gA_conv ?_; refine sE_conv ?_) | (refine gA_build ?_; refine sE_build ?_) | (refine gA_ext ?_; refine sE_ext ?_) | (refine gA_slice ?_; refine sE_slice ?_) | (refine gA_nilc ?_; refine sE_nilc ?_) | (refine gA_pick ?_; refine sE_pick ?_) | (refine gA_func ?_; refine sE_func ?_)) | (refine gW ?_; first | refine awp_seq ?_ | refine awp_region ?_ | refine awp_block ?_ | refine awp_skip ?_ | refine awp_ret ?_ | refine awp_exit ?_ | refine awp_label ?_) | (refine gX ?_; first | refine aex_then ?_ | refine aex_normal_block ?_ | refine aex_ret_then ?_ | refine aex_ret_block ?_ | refine aex_exit_then ?_ | refine aex_exit_here ?_ | refine aex_exit_out rfl ?_ | refine aex_nop ?_)))
  refine awp_rowc (c' := mixC (wireV (fun _ => .slice none 0 0) W) (fun _ => zeroW) 0) (by first | ((repeat (first | exact HRep.here | apply HRep.there)); done) | fail) mixC_zero ?_
  refine awp_fz (fun w1 => ?_)
  refine awp_loop (fun (i : Nat × World × (Nat → Value)) => ⟨23, [(0, rs 3 n (wireC W)), (3, vv (.slice (some ⟨g, 0, none⟩) n n)), (4, vv (.int .i64 (i.1 : Int)))], [.row (.slice (some ⟨g, 0, none⟩) n n) 51 3 n (mixC (wireV i.2.2 W) (fun _ => zeroW) i.1), .fr i.2.1 (Fz w0 i.2.1 g)]⟩)
    (fun i => i.1 ≤ n ∧ (∀ j, j < i.1 → (HE.row (i.2.2 j) 29 3 (W j).m (vecC (W j).F)).ok w0 i.2.1 ∧ ∀ x, (i.2.2 j).ownBlock = some x → Fz w0 i.2.1 g x) ∧ ∀ j j', j < i.1 → j' < i.1 → j' ≠ j → ∀ x, (i.2.2 j).ownBlock = some x → (i.2.2 j').ownBlock ≠ some x) (fun i => n - i.1) (0, w1, fun _ => .slice none 0 0) ⟨Nat.zero_le _, fun j hj => absurd hj (by omega), fun j j' hj => absurd hj (by omega)⟩ (imp_mk (by repeat (first | exact EnvImp.nil | refine EnvImp.cons (by first | exact Opd.tmp rfl | exact OpF.tmp rfl) ?_)) (by repeat (first | exact HSub.nil | refine HSub.keep ?_ | refine HSub.drop ?_))) (fun i hi => ?_)
  obtain ⟨k, w1, sv⟩ := i
  dsimp only at hi ⊢
  obtain ⟨hk, hI, hD⟩ := hi
  (repeat (first | (refine gA ?_; first | refine aops_nil ?_ | (refine gA_gd ?_; first | refine gY ?_ | refine gN ?_ | refine gS ?_) | (refine gA_alloc ?_; refine sA ?_; intro _) | (refine gA_store ?_; first | refine sS ?_ | refine sSr ?_) | (refine gA_box ?_; refine sB ?_; intro _) | (refine gA_move ?_; refine sE_move ?_) | (refine gA_load ?_; refine sE_load ?_) | (refine gA_assign ?_; refine sE_assign ?_) | (refine gA_field ?_; refine sE_field ?_) | (refine gA_bin ?_; refine sE_bin ?_) | (refine gA_index ?_; refine sE_index ?_) | (refine gA_callb ?_; refine sE_callb ?_) | (refine gA_un ?_; refine sE_un ?_) | (refine gA_conv ?_; refine sE_conv ?_) | (refine gA_build ?_; refine sE_build ?_) | (refine gA_ext ?_; refine sE_ext ?_) | (refine gA_slice ?_; refine sE_slice ?_) | (refine gA_nilc ?_; refine sE_nilc ?_) | (refine gA_pick ?_; refine sE_pick ?_) | (refine gA_func ?_; refine sE_func ?_)) | (refine gW ?_; first | refine awp_seq ?_ | refine awp_region ?_ | refine awp_block ?_ | refine awp_skip ?_ | refine awp_ret ?_ | refine awp_exit ?_ | refine awp_label ?_) | (refine gX ?_; first | refine aex_then ?_ | refine aex_normal_block ?_ | refine aex_ret_then ?_ | refine aex_ret_block ?_ | refine aex_exit_then ?_ | refine aex_exit_here ?_ | refine aex_exit_out rfl ?_ | refine aex_nop ?_)))
  refine cC (fun hg => ?_) (fun hg => ?_)
  · have hkn : k < n := by simp at hg; omega
    clear hg
    (repeat (first | (refine gA ?_; first | refine aops_nil ?_ | (refine gA_gd ?_; first | refine gY ?_ | refine gN ?_ | refine gS ?_) | (refine gA_callf ?_; (refine sCr (c_lawsToWire (m := (W k).m) (F := (W k).F) (hm k hkn)) ?_; intro _)) | (refine gA_alloc ?_; refine sA ?_; intro _) | (refine gA_store ?_; first | refine sS ?_ | refine sSr ?_) | (refine gA_box ?_; refine sB ?_; intro _) | (refine gA_move ?_; refine sE_move ?_) | (refine gA_load ?_; refine sE_load ?_) | (refine gA_assign ?_; refine sE_assign ?_) | (refine gA_field ?_; refine sE_field ?_) | (refine gA_bin ?_; refine sE_bin ?_) | (refine gA_index ?_; refine sE_index ?_) | (refine gA_callb ?_; refine sE_callb ?_) | (refine gA_un ?_; refine sE_un ?_) | (refine gA_conv ?_; refine sE_conv ?_) | (refine gA_build ?_; refine sE_build ?_) | (refine gA_ext ?_; refine sE_ext ?_) | (refine gA_slice ?_; refine sE_slice ?_) | (refine gA_nilc ?_; refine sE_nilc ?_) | (refine gA_pick ?_; refine sE_pick ?_) | (refine gA_func ?_; refine sE_func ?_)) | (refine gW ?_; first | refine awp_seq ?_ | refine awp_region ?_ | refine awp_block ?_ | refine awp_skip ?_ | refine awp_ret ?_ | refine awp_exit ?_ | refine awp_label ?_) | (refine gX ?_; first | refine aex_then ?_ | refine aex_normal_block ?_ | refine aex_ret_then ?_ | refine aex_ret_block ?_ | refine aex_exit_then ?_ | refine aex_exit_here ?_ | refine aex_exit_out rfl ?_ | refine aex_nop ?_)))
    rename_i s0
    refine aops_ev (ev_indexOwn rfl (Opd.tmp rfl) (Opd.tmp rfl) tyS_Wire (hkn)) rfl ?_
    refine aops_storeRow (c' := mixC (wireV (setV sv k s0) W) (fun _ => zeroW) (k + 1)) (Opd.tmp rfl) (Opd.tmp rfl) (cellsOf_agg _) sz_Wire rfl (by first | ((repeat (first | exact HRep.here | apply HRep.there)); done) | fail) hkn (mixC_at.trans set_at) set_other ?_
    (repeat (first | (refine gA ?_; first | refine aops_nil ?_ | (refine gA_gd ?_; first | refine gY ?_ | refine gN ?_ | refine gS ?_) | (refine gA_alloc ?_; refine sA ?_; intro _) | (refine gA_store ?_; first | refine sS ?_ | refine sSr ?_) | (refine gA_box ?_; refine sB ?_; intro _) | (refine gA_move ?_; refine sE_move ?_) | (refine gA_load ?_; refine sE_load ?_) | (refine gA_assign ?_; refine sE_assign ?_) | (refine gA_field ?_; refine sE_field ?_) | (refine gA_bin ?_; refine sE_bin ?_) | (refine gA_index ?_; refine sE_index ?_) | (refine gA_callb ?_; refine sE_callb ?_) | (refine gA_un ?_; refine sE_un ?_) | (refine gA_conv ?_; refine sE_conv ?_) | (refine gA_build ?_; refine sE_build ?_) | (refine gA_ext ?_; refine sE_ext ?_) | (refine gA_slice ?_; refine sE_slice ?_) | (refine gA_nilc ?_; refine sE_nilc ?_) | (refine gA_pick ?_; refine sE_pick ?_) | (refine gA_func ?_; refine sE_func ?_)) | (refine gW ?_; first | refine awp_seq ?_ | refine awp_region ?_ | refine awp_block ?_ | refine awp_skip ?_ | refine awp_ret ?_ | refine awp_exit ?_ | refine awp_label ?_) | (refine gX ?_; first | refine aex_then ?_ | refine aex_normal_block ?_ | refine aex_ret_then ?_ | refine aex_ret_block ?_ | refine aex_exit_then ?_ | refine aex_exit_here ?_ | refine aex_exit_out rfl ?_ | refine aex_nop ?_)))
    refine aex_freeze (fun w => (k + 1, w, setV sv k s0)) (fun a w hs => ⟨⟨by show k + 1 ≤ n; omega, fun j hj => ?_, fun j j' hj hj' hne x hx hx' => ?_⟩, by show n - (k + 1) < n - k; omega, fz_sat ((imp_mk (by repeat (first | exact EnvImp.nil | refine EnvImp.cons (by first | exact Opd.tmp rfl | exact OpF.tmp rfl) ?_)) (by repeat (first | exact HSub.nil | refine HSub.keep ?_ | refine HSub.drop ?_))) w0 a w hs)⟩)
    · have h3 := hs.heap.2.2.2.2.1
      have hj : j < k + 1 := hj
      show (HE.row (setV sv k s0 j) _ 3 (W j).m (vecC (W j).F)).ok w0 w ∧ ∀ x, (setV sv k s0 j).ownBlock = some x → Fz w0 w g x
      by_cases hjk : j = k
      · rw [show setV sv k s0 j = s0 from if_pos hjk, hjk]
        refine ⟨hs.heap.1, fun x hx => ?_⟩
        obtain ⟨f1, f2, f3⟩ := hs.heap.2.1 x hx
        refine ⟨f1, f2, fun h => f3 _ (.head _) ?_⟩
        subst h
        rfl
      · rw [show setV sv k s0 j = sv j from if_neg hjk]
        obtain ⟨f1, f2⟩ := hI j (by omega)
        exact ⟨f1.keep h3.1 fun x hx => h3.2 x (f2 x hx), fun x hx => ⟨(f2 x hx).1, Nat.lt_of_lt_of_le (f2 x hx).2.1 h3.1, (f2 x hx).2.2⟩⟩
    · have hj : j < k + 1 := hj
      have hj' : j' < k + 1 := hj'
      have hx : (setV sv k s0 j).ownBlock = some x := hx
      have hx' : (setV sv k s0 j').ownBlock = some x := hx'
      -- the new block is none of the old ones
      have hnew : ∀ i, i < k → s0.ownBlock = some x → (sv i).ownBlock ≠ some x := fun i hi h0 h1 => by
        obtain ⟨_, _, f3⟩ := hs.heap.2.1 x h0
        exact f3 _ (.tail _ (.head _)) ((hI i hi).2 x h1)
      by_cases hjk : j = k
      · rw [show setV sv k s0 j = s0 from if_pos hjk] at hx
        rw [show setV sv k s0 j' = sv j' from if_neg (by omega)] at hx'
        exact hnew j' (by omega) hx hx'
      · rw [show setV sv k s0 j = sv j from if_neg hjk] at hx
        by_cases hjk' : j' = k
        · rw [show setV sv k s0 j' = s0 from if_pos hjk'] at hx'
          exact hnew j (by omega) hx' hx
        · rw [show setV sv k s0 j' = sv j' from if_neg hjk'] at hx'
          exact hD j j' (by omega) (by omega) hne x hx hx'
  · obtain rfl : k = n := by simp at hg; omega
    (repeat (first | (refine gA ?_; first | refine aops_nil ?_ | (refine gA_gd ?_; first | refine gY ?_ | refine gN ?_ | refine gS ?_) | (refine gA_alloc ?_; refine sA ?_; intro _) | (refine gA_store ?_; first | refine sS ?_ | refine sSr ?_) | (refine gA_box ?_; refine sB ?_; intro _) | (refine gA_move ?_; refine sE_move ?_) | (refine gA_load ?_; refine sE_load ?_) | (refine gA_assign ?_; refine sE_assign ?_) | (refine gA_field ?_; refine sE_field ?_) | (refine gA_bin ?_; refine sE_bin ?_) | (refine gA_index ?_; refine sE_index ?_) | (refine gA_callb ?_; refine sE_callb ?_) | (refine gA_un ?_; refine sE_un ?_) | (refine gA_conv ?_; refine sE_conv ?_) | (refine gA_build ?_; refine sE_build ?_) | (refine gA_ext ?_; refine sE_ext ?_) | (refine gA_slice ?_; refine sE_slice ?_) | (refine gA_nilc ?_; refine sE_nilc ?_) | (refine gA_pick ?_; refine sE_pick ?_) | (refine gA_func ?_; refine sE_func ?_)) | (refine gW ?_; first | refine awp_seq ?_ | refine awp_region ?_ | refine awp_block ?_ | refine awp_skip ?_ | refine awp_ret ?_ | refine awp_exit ?_ | refine awp_label ?_) | (refine gX ?_; first | refine aex_then ?_ | refine aex_normal_block ?_ | refine aex_ret_then ?_ | refine aex_ret_block ?_ | refine aex_exit_then ?_ | refine aex_exit_here ?_ | refine aex_exit_out rfl ?_ | refine aex_nop ?_)))
    refine aex_ret1_deep rfl (resV_tmp (Opd.tmp rfl)) (fun a w hs => ⟨sv, ?_⟩)
    have h3 := hs.heap.2.2.1
    refine ⟨?_, fun x hx => ⟨(hs.heap.2.1 x hx).1, (hs.heap.2.1 x hx).2.1⟩, fun j hj => ?_, fun j hj x hx => ?_⟩
    · obtain ⟨xs, a1, a2, a3⟩ := hs.heap.1
      exact ⟨xs, a1, fun j hj => by rw [mixC_all (a := wireV sv W) (b := fun _ => zeroW) j hj]; exact a2 j hj, a3⟩
    · obtain ⟨f1, f2⟩ := hI j hj
      exact f1.keep h3.1 fun x hx => h3.2 x (f2 x hx)
    · obtain ⟨f1, f2⟩ := hI j hj
      refine ⟨⟨(f2 x hx).1, Nat.lt_of_lt_of_le (f2 x hx).2.1 h3.1⟩, fun h => (f2 x hx).2.2 ?_, fun i hi hne h => hD j i hj hi hne x hx h⟩
      simpa [Value.ownBlock, eq_comm] using h

/-- The blocks of the points. -/
def Inn (sv : Nat → Value) (n g : Nat) : Prop := ∃ j, j < n ∧ (sv j).ownBlock = some g
def MRest (w0 w : World) (v : Value) (sv : Nat → Value) (n g : Nat) : Prop := w0.heap.size ≤ g ∧ g < w.heap.size ∧ v.ownBlock ≠ some g ∧ ¬ Inn sv n g
def markN (W : Nat → WI) : Nat → Nat
  | 0 => 0
  | k + 1 => markN W k + 3 * (W k).m + 2
theorem markN_le {W : Nat → WI} : ∀ k, markN W k = 3 * sumM W k + 2 * k
  | 0 => rfl
  | k + 1 => by show markN W k + 3 * (W k).m + 2 = 3 * (sumM W k + (W k).m) + 2 * (k + 1); rw [markN_le k]; omega
def MarkQ (w0 w : World) (v : Value) (sv : Nat → Value) (n : Nat) (R : Int) (e : Ending) (w' : World) : Prop :=
  ∃ u, e = .returned u ∧ u = .int .i64 R ∧ Below w0.heap.size w0 w' ∧ w.heap.size ≤ w'.heap.size ∧ ∀ g, MRest w0 w v sv n g → w'.heap[g]? = w.heap[g]?
def MarkC (P : Program) (f : FuncId) : Prop := Can P f ∧ ∀ (w0 w : World) (v : Value) (sv : Nat → Value) (n : Nat) (W : Nat → WI) (K : Int), n + sumM W n ≤ 1048576 → 0 ≤ K → K ≤ 1048576 → Below w0.heap.size w0 w → WMem w0 w v sv n W →
  Calls P f #[v, .int .i64 K] w (MarkQ w0 w v sv n (K + (markN W n : Nat)))
section
variable {P : Program} {w0 : World} {s : AS} {ops : Array Oper} {nt : Nat} {env : List (Nat × AV)} {H : List HE} {rest : List Oper} {Q : Exit → Act → World → Prop} {ty : TypeId} {pos : String} {after : Array Edge}
theorem aw_enter {f : FuncId} {fn : Func} {c : Code} {As : List AV} {nt : Nat} {H : List HE} {Q : Ending → World → Prop} {w0 w : World} {vs : List Value} (hf : P.funcs[f]? = some fn) (hb : fn.body = some c) (ht : fn.ntmps = nt) (hl : Nat.ble As.length nt = true) (hbel : Below w0.heap.size w0 w) (hv : All w0 As vs) (hH : HOk w0 w H)
    (h : AWp P w0 ⟨nt, zipEnv 0 As, H⟩ c (bodyPost P fn Q)) : Calls P f vs.toArray w Q := by
  refine calls_of_wp hf hb (h.out _ w ⟨hbel, ?_, rfl, fun t A e => ?_, hH⟩)
  · have := hv.length
    have hl' : As.length ≤ nt := Nat.ble_eq ▸ hl
    simp [ht]
    omega
  · obtain ⟨j, rfl, u, hu, hr⟩ := zipEnv_look 0 hv t A e
    have hj : j < vs.length := (List.getElem?_eq_some_iff.1 hu).1
    have : (vs.toArray ++ Array.replicate (fn.ntmps - vs.toArray.size) undef).getD (0 + j) undef = u := by
      rw [Array.getD_eq_getD_getElem?, Nat.zero_add, Array.getElem?_append_left (by simpa using hj)]
      simp [hu]
    rw [this]
    exact hr
theorem aex_retMark {fn : Func} {r : ResultVar} {R : Int} {w : World} {v : Value} {sv : Nat → Value} {n : Nat} (hf : fn.results = #[r]) (h : ResV P s r (vv (.int .i64 R))) (hm : HE.fr w (MRest w0 w v sv n) ∈ s.heap) : AEx w0 s .ret (bodyPost P fn (MarkQ w0 w v sv n R)) := by
  refine ⟨fun a w' hs => ?_⟩
  obtain ⟨u, hr, hv⟩ := h w0 a w' hs
  obtain rfl : u = .int .i64 R := hv
  have hh := hs.heap.get _ hm
  refine ⟨hs.defers, _, ?_, _, rfl, rfl, hs.below, hh.1, fun g hg => hh.2 g hg⟩
  rw [results_eq, hf]
  simp [hr]
/-- Some blocks are thawed: an entry of its own for them. -/
theorem aops_split {l : List Oper} {e : HE} {w1 : World} {p p' : Nat → Prop} {H' : List HE} (ht : HTake H (.fr w1 p) H') (hok : e.ok w0 w1) (h1 : ∀ g, e.foot g → p g) (h2 : ∀ g, p' g → p g ∧ ¬ e.foot g) (k : AOps P w0 ops ⟨nt, env, e :: .fr w1 p' :: H'⟩ l Q) : AOps P w0 ops ⟨nt, env, H⟩ l Q := by
  refine ⟨fun a w hs => k.out a w ⟨hs.below, hs.size, hs.defers, hs.env, ?_⟩⟩
  obtain ⟨f1, f2, f3⟩ := ht.ok hs.heap
  refine ⟨hok.keep f1.1 fun g hg => f1.2 g (h1 g hg), fun g hg => ⟨(f3 g (h1 g hg)).1, (f3 g (h1 g hg)).2.1, fun e' he' hf => ?_⟩, ⟨f1.1, fun g hg => f1.2 g (h2 g hg).1⟩, fun g hg => f3 g (h2 g hg).1, f2⟩
  cases he' with
  | head => exact (h2 g hf).2 hg
  | tail _ he' => exact (f3 g (h1 g hg)).2.2 e' he' hf
end
def upd (c : Nat → List AV) (i : Nat) (x : List AV) (j : Nat) : List AV := if j = i then x else c j
theorem upd_at {c : Nat → List AV} {i : Nat} {x : List AV} : upd c i x i = x := if_pos rfl
theorem upd_no {c : Nat → List AV} {i : Nat} {x : List AV} : ∀ j, j ≠ i → upd c i x j = c j := fun j h => if_neg h
set_option maxRecDepth 100000 in
set_option maxHeartbeats 2000000 in
theorem c_lawsMarkWireS : MarkC Try.prog 35 := by
  refine ⟨⟨_, Try.func35, rfl, by kernel_rfl⟩, fun w0 wB v sv n W K hb h0 h1 hbel hM => ?_⟩
  refine aw_enter (As := [vv v, vv (.int .i64 K)]) (vs := [v, .int .i64 K]) (H := [.row v 51 3 n (wireV sv W), .fr wB (Inn sv n), .fr wB (MRest w0 wB v sv n)]) Try.func35 rfl Try.ntmps35 rfl hbel ⟨rfl, rfl, trivial⟩ ?_ ?_
  · refine ⟨hM.row, fun g hg => ⟨(hM.out g hg).1, (hM.out g hg).2, fun e he hf => ?_⟩, ⟨Nat.le_refl _, fun _ _ => rfl⟩, fun g hg => ?_, ⟨Nat.le_refl _, fun _ _ => rfl⟩, fun g hg => ⟨hg.1, hg.2.1, fun e he => by cases he⟩, trivial⟩
    · cases he with
      | head => obtain ⟨j, hj, hjg⟩ := hf; exact ((hM.ino j hj g hjg).2.1) hg
      | tail _ he => cases he with
        | head => exact hf.2.2.1 hg
        | tail _ he => cases he
    · obtain ⟨j, hj, hjg⟩ := hg
      refine ⟨((hM.ino j hj g hjg).1).1, ((hM.ino j hj g hjg).1).2, fun e he hf => ?_⟩
      cases he with
      | head => exact hf.2.2.2 ⟨j, hj, hjg⟩
      | tail _ he => cases he
  (repeat (first | (refine gA ?_; first | refine aops_nil ?_ | (refine gA_gd ?_; first | refine gY ?_ | refine gN ?_ | refine gS ?_) | (refine gA_alloc ?_; refine sA ?_; intro _) | (refine gA_store ?_; first | refine sS ?_ | refine sSr ?_) | (refine gA_box ?_; refine sB ?_; intro _) | (refine gA_move ?_; refine sE_move ?_) | (refine gA_load ?_; refine sE_load ?_) | (refine gA_assign ?_; refine sE_assign ?_) | (refine gA_field ?_; refine sE_field ?_) | (refine gA_bin ?_; refine sE_bin ?_) | (refine gA_index ?_; refine sE_index ?_) | (refine gA_callb ?_; refine sE_callb ?_) | (refine gA_un ?_; refine sE_un ?_) | (refine gA_conv ?_; refine sE_conv ?_) | (refine gA_build ?_; refine sE_build ?_) | (refine gA_ext ?_; refine sE_ext ?_) | (refine gA_slice ?_; refine sE_slice ?_) | (refine gA_nilc ?_; refine sE_nilc ?_) | (refine gA_pick ?_; refine sE_pick ?_) | (refine gA_func ?_; refine sE_func ?_)) | (refine gW ?_; first | refine awp_seq ?_ | refine awp_region ?_ | refine awp_block ?_ | refine awp_skip ?_ | refine awp_ret ?_ | refine awp_exit ?_ | refine awp_label ?_) | (refine gX ?_; first | refine aex_then ?_ | refine aex_normal_block ?_ | refine aex_ret_then ?_ | refine aex_ret_block ?_ | refine aex_exit_then ?_ | refine aex_exit_here ?_ | refine aex_exit_out rfl ?_ | refine aex_nop ?_)))
  refine awp_loop (fun (i : Nat × World × (Nat → List AV)) => ⟨37, [(0, vv v), (1, vv (.int .i64 (K + (markN W i.1 : Nat)))), (5, vv (.int .i64 (i.1 : Int)))], [.row v 51 3 n i.2.2, .fr i.2.1 (Inn sv n), .fr wB (MRest w0 wB v sv n)]⟩)
    (fun i => i.1 ≤ n ∧ (∀ j, i.1 ≤ j → i.2.2 j = wireV sv W j) ∧ ∀ j, i.1 ≤ j → j < n → (HE.row (sv j) 29 3 (W j).m (vecC (W j).F)).ok w0 i.2.1) (fun i => n - i.1) (0, wB, wireV sv W) ⟨Nat.zero_le _, fun _ _ => rfl, fun j _ hj => hM.inn j hj⟩ ?_ (fun i hi => ?_)
  · dsimp only
    rw [show K + ((markN W 0 : Nat) : Int) = K by show K + 0 = K; omega]
    exact (imp_mk (by repeat (first | exact EnvImp.nil | refine EnvImp.cons (by first | exact Opd.tmp rfl | exact OpF.tmp rfl) ?_)) (by repeat (first | exact HSub.nil | refine HSub.keep ?_ | refine HSub.drop ?_)))
  obtain ⟨i, w1, c⟩ := i
  dsimp only at hi ⊢
  obtain ⟨hi, hC, hI⟩ := hi
  (repeat (first | (refine gA ?_; first | refine aops_nil ?_ | (refine gA_gd ?_; first | refine gY ?_ | refine gN ?_ | refine gS ?_) | (refine gA_alloc ?_; refine sA ?_; intro _) | (refine gA_store ?_; first | refine sS ?_ | refine sSr ?_) | (refine gA_box ?_; refine sB ?_; intro _) | (refine gA_move ?_; refine sE_move ?_) | (refine gA_load ?_; refine sE_load ?_) | (refine gA_assign ?_; refine sE_assign ?_) | (refine gA_field ?_; refine sE_field ?_) | (refine gA_bin ?_; refine sE_bin ?_) | (refine gA_index ?_; refine sE_index ?_) | (refine gA_callb ?_; refine sE_callb ?_) | (refine gA_un ?_; refine sE_un ?_) | (refine gA_conv ?_; refine sE_conv ?_) | (refine gA_build ?_; refine sE_build ?_) | (refine gA_ext ?_; refine sE_ext ?_) | (refine gA_slice ?_; refine sE_slice ?_) | (refine gA_nilc ?_; refine sE_nilc ?_) | (refine gA_pick ?_; refine sE_pick ?_) | (refine gA_func ?_; refine sE_func ?_)) | (refine gW ?_; first | refine awp_seq ?_ | refine awp_region ?_ | refine awp_block ?_ | refine awp_skip ?_ | refine awp_ret ?_ | refine awp_exit ?_ | refine awp_label ?_) | (refine gX ?_; first | refine aex_then ?_ | refine aex_normal_block ?_ | refine aex_ret_then ?_ | refine aex_ret_block ?_ | refine aex_exit_then ?_ | refine aex_exit_here ?_ | refine aex_exit_out rfl ?_ | refine aex_nop ?_)))
  refine cC (fun hg => ?_) (fun hg => ?_)
  · have hin : i < n := by simp at hg; omega
    clear hg
    have b1 : markN W i ≤ 5 * 1048576 := by
      rw [markN_le]
      have := sumM_le (W := W) (Nat.le_of_lt hin)
      omega
    have b2 : (W i).m ≤ 1048576 := by have := sumM_at (W := W) hin; omega
    have b3 : K + ((markN W i : Nat) : Int) + ((3 : Nat) : Int) * ((W i).m : Int) + 1 + 1 = K + ((markN W (i + 1) : Nat) : Int) := by
      show _ = K + ((markN W i + 3 * (W i).m + 2 : Nat) : Int)
      omega
    refine awp_rowcase (n := n) (v := v) (by first | ((repeat (first | exact List.Mem.head _ | apply List.Mem.tail)); done) | fail) (by omega) (fun g cap e => ?_)
    subst e
    (repeat (first | (refine gA ?_; first | refine aops_nil ?_ | (refine gA_gd ?_; first | refine gY ?_ | refine gN ?_ | refine gS ?_) | (refine gA_alloc ?_; refine sA ?_; intro _) | (refine gA_store ?_; first | refine sS ?_ | refine sSr ?_) | (refine gA_box ?_; refine sB ?_; intro _) | (refine gA_move ?_; refine sE_move ?_) | (refine gA_load ?_; refine sE_load ?_) | (refine gA_assign ?_; refine sE_assign ?_) | (refine gA_field ?_; refine sE_field ?_) | (refine gA_bin ?_; refine sE_bin ?_) | (refine gA_index ?_; refine sE_index ?_) | (refine gA_callb ?_; refine sE_callb ?_) | (refine gA_un ?_; refine sE_un ?_) | (refine gA_conv ?_; refine sE_conv ?_) | (refine gA_build ?_; refine sE_build ?_) | (refine gA_ext ?_; refine sE_ext ?_) | (refine gA_slice ?_; refine sE_slice ?_) | (refine gA_nilc ?_; refine sE_nilc ?_) | (refine gA_pick ?_; refine sE_pick ?_) | (refine gA_func ?_; refine sE_func ?_)) | (refine gW ?_; first | refine awp_seq ?_ | refine awp_region ?_ | refine awp_block ?_ | refine awp_skip ?_ | refine awp_ret ?_ | refine awp_exit ?_ | refine awp_label ?_) | (refine gX ?_; first | refine aex_then ?_ | refine aex_normal_block ?_ | refine aex_ret_then ?_ | refine aex_ret_block ?_ | refine aex_exit_then ?_ | refine aex_exit_here ?_ | refine aex_exit_out rfl ?_ | refine aex_nop ?_)))
    refine aops_ev (ev_indexOwn rfl (Opd.tmp rfl) (Opd.tmp rfl) tyS_Wire (hin)) rfl ?_
    (repeat (first | (refine gA ?_; first | refine aops_nil ?_ | (refine gA_gd ?_; first | refine gY ?_ | refine gN ?_ | refine gS ?_) | (refine gA_alloc ?_; refine sA ?_; intro _) | (refine gA_store ?_; first | refine sS ?_ | refine sSr ?_) | (refine gA_box ?_; refine sB ?_; intro _) | (refine gA_move ?_; refine sE_move ?_) | (refine gA_load ?_; refine sE_load ?_) | (refine gA_assign ?_; refine sE_assign ?_) | (refine gA_field ?_; refine sE_field ?_) | (refine gA_bin ?_; refine sE_bin ?_) | (refine gA_index ?_; refine sE_index ?_) | (refine gA_callb ?_; refine sE_callb ?_) | (refine gA_un ?_; refine sE_un ?_) | (refine gA_conv ?_; refine sE_conv ?_) | (refine gA_build ?_; refine sE_build ?_) | (refine gA_ext ?_; refine sE_ext ?_) | (refine gA_slice ?_; refine sE_slice ?_) | (refine gA_nilc ?_; refine sE_nilc ?_) | (refine gA_pick ?_; refine sE_pick ?_) | (refine gA_func ?_; refine sE_func ?_)) | (refine gW ?_; first | refine awp_seq ?_ | refine awp_region ?_ | refine awp_block ?_ | refine awp_skip ?_ | refine awp_ret ?_ | refine awp_exit ?_ | refine awp_label ?_) | (refine gX ?_; first | refine aex_then ?_ | refine aex_normal_block ?_ | refine aex_ret_then ?_ | refine aex_ret_block ?_ | refine aex_exit_then ?_ | refine aex_exit_here ?_ | refine aex_exit_out rfl ?_ | refine aex_nop ?_)))
    refine aops_ev (ev_loadRow (k := i) (r := 0) (A := vv (sv i)) rfl (Opd.tmp rfl) tyP_sVector (by first | ((repeat (first | exact List.Mem.head _ | apply List.Mem.tail)); done) | fail) rfl hin (by rw [hC i (Nat.le_refl i)]; rfl)) rfl ?_
    refine aops_split (e := .row (sv i) 29 3 (W i).m (vecC (W i).F)) (w1 := w1) (p' := fun g => Inn sv n g ∧ (sv i).ownBlock ≠ some g) (by first | ((repeat (first | exact HTake.here | apply HTake.there)); done) | fail) (hI i (Nat.le_refl i) hin) (fun g hg => ⟨i, hin, hg⟩) (fun g hg => ⟨hg.1, hg.2⟩) ?_
    (repeat (first | (refine gA ?_; first | refine aops_nil ?_ | (refine gA_gd ?_; first | refine gY ?_ | refine gN ?_ | refine gS ?_) | (refine gA_callf ?_; refine sM can_markVectorS m_VectorS (flat_vec _ _) ?_) | (refine gA_alloc ?_; refine sA ?_; intro _) | (refine gA_store ?_; first | refine sS ?_ | refine sSr ?_) | (refine gA_box ?_; refine sB ?_; intro _) | (refine gA_move ?_; refine sE_move ?_) | (refine gA_load ?_; refine sE_load ?_) | (refine gA_assign ?_; refine sE_assign ?_) | (refine gA_field ?_; refine sE_field ?_) | (refine gA_bin ?_; refine sE_bin ?_) | (refine gA_index ?_; refine sE_index ?_) | (refine gA_callb ?_; refine sE_callb ?_) | (refine gA_un ?_; refine sE_un ?_) | (refine gA_conv ?_; refine sE_conv ?_) | (refine gA_build ?_; refine sE_build ?_) | (refine gA_ext ?_; refine sE_ext ?_) | (refine gA_slice ?_; refine sE_slice ?_) | (refine gA_nilc ?_; refine sE_nilc ?_) | (refine gA_pick ?_; refine sE_pick ?_) | (refine gA_func ?_; refine sE_func ?_)) | (refine gW ?_; first | refine awp_seq ?_ | refine awp_region ?_ | refine awp_block ?_ | refine awp_skip ?_ | refine awp_ret ?_ | refine awp_exit ?_ | refine awp_label ?_) | (refine gX ?_; first | refine aex_then ?_ | refine aex_normal_block ?_ | refine aex_ret_then ?_ | refine aex_ret_block ?_ | refine aex_exit_then ?_ | refine aex_exit_here ?_ | refine aex_exit_out rfl ?_ | refine aex_nop ?_)))
    refine aops_ev (ev_irem64 rfl (Opd.tmp rfl) (Opd.c _) (by omega) (by omega) (by omega)) rfl ?_
    (repeat (first | (refine gA ?_; first | refine aops_nil ?_ | (refine gA_gd ?_; first | refine gY ?_ | refine gN ?_ | refine gS ?_) | (refine gA_alloc ?_; refine sA ?_; intro _) | (refine gA_store ?_; first | refine sS ?_ | refine sSr ?_) | (refine gA_box ?_; refine sB ?_; intro _) | (refine gA_move ?_; refine sE_move ?_) | (refine gA_load ?_; refine sE_load ?_) | (refine gA_assign ?_; refine sE_assign ?_) | (refine gA_field ?_; refine sE_field ?_) | (refine gA_bin ?_; refine sE_bin ?_) | (refine gA_index ?_; refine sE_index ?_) | (refine gA_callb ?_; refine sE_callb ?_) | (refine gA_un ?_; refine sE_un ?_) | (refine gA_conv ?_; refine sE_conv ?_) | (refine gA_build ?_; refine sE_build ?_) | (refine gA_ext ?_; refine sE_ext ?_) | (refine gA_slice ?_; refine sE_slice ?_) | (refine gA_nilc ?_; refine sE_nilc ?_) | (refine gA_pick ?_; refine sE_pick ?_) | (refine gA_func ?_; refine sE_func ?_)) | (refine gW ?_; first | refine awp_seq ?_ | refine awp_region ?_ | refine awp_block ?_ | refine awp_skip ?_ | refine awp_ret ?_ | refine awp_exit ?_ | refine awp_label ?_) | (refine gX ?_; first | refine aex_then ?_ | refine aex_normal_block ?_ | refine aex_ret_then ?_ | refine aex_ret_block ?_ | refine aex_exit_then ?_ | refine aex_exit_here ?_ | refine aex_exit_out rfl ?_ | refine aex_nop ?_)))
    refine aops_ev (ev_indexOwn rfl (Opd.tmp rfl) (Opd.tmp rfl) tyS_Wire (hin)) rfl ?_
    (repeat (first | (refine gA ?_; first | refine aops_nil ?_ | (refine gA_gd ?_; first | refine gY ?_ | refine gN ?_ | refine gS ?_) | (refine gA_alloc ?_; refine sA ?_; intro _) | (refine gA_store ?_; first | refine sS ?_ | refine sSr ?_) | (refine gA_box ?_; refine sB ?_; intro _) | (refine gA_move ?_; refine sE_move ?_) | (refine gA_load ?_; refine sE_load ?_) | (refine gA_assign ?_; refine sE_assign ?_) | (refine gA_field ?_; refine sE_field ?_) | (refine gA_bin ?_; refine sE_bin ?_) | (refine gA_index ?_; refine sE_index ?_) | (refine gA_callb ?_; refine sE_callb ?_) | (refine gA_un ?_; refine sE_un ?_) | (refine gA_conv ?_; refine sE_conv ?_) | (refine gA_build ?_; refine sE_build ?_) | (refine gA_ext ?_; refine sE_ext ?_) | (refine gA_slice ?_; refine sE_slice ?_) | (refine gA_nilc ?_; refine sE_nilc ?_) | (refine gA_pick ?_; refine sE_pick ?_) | (refine gA_func ?_; refine sE_func ?_)) | (refine gW ?_; first | refine awp_seq ?_ | refine awp_region ?_ | refine awp_block ?_ | refine awp_skip ?_ | refine awp_ret ?_ | refine awp_exit ?_ | refine awp_label ?_) | (refine gX ?_; first | refine aex_then ?_ | refine aex_normal_block ?_ | refine aex_ret_then ?_ | refine aex_ret_block ?_ | refine aex_exit_then ?_ | refine aex_exit_here ?_ | refine aex_exit_out rfl ?_ | refine aex_nop ?_)))
    refine aops_storeRowAt (k := i) (r := 1) (c' := upd c i (splice (c i) 1 [vv (.bool (decide ((K + ((markN W i : Nat) : Int) + ((3 : Nat) : Int) * ((W i).m : Int)).tmod 3 = 0)))])) (Opd.tmp rfl) rfl (Opd.tmp rfl) (cellsOf_vv rfl) sz_bool (by show 1 + 1 ≤ 3; omega) (by first | ((repeat (first | exact HRep.here | apply HRep.there)); done) | fail) hin upd_at upd_no ?_
    (repeat (first | (refine gA ?_; first | refine aops_nil ?_ | (refine gA_gd ?_; first | refine gY ?_ | refine gN ?_ | refine gS ?_) | (refine gA_alloc ?_; refine sA ?_; intro _) | (refine gA_store ?_; first | refine sS ?_ | refine sSr ?_) | (refine gA_box ?_; refine sB ?_; intro _) | (refine gA_move ?_; refine sE_move ?_) | (refine gA_load ?_; refine sE_load ?_) | (refine gA_assign ?_; refine sE_assign ?_) | (refine gA_field ?_; refine sE_field ?_) | (refine gA_bin ?_; refine sE_bin ?_) | (refine gA_index ?_; refine sE_index ?_) | (refine gA_callb ?_; refine sE_callb ?_) | (refine gA_un ?_; refine sE_un ?_) | (refine gA_conv ?_; refine sE_conv ?_) | (refine gA_build ?_; refine sE_build ?_) | (refine gA_ext ?_; refine sE_ext ?_) | (refine gA_slice ?_; refine sE_slice ?_) | (refine gA_nilc ?_; refine sE_nilc ?_) | (refine gA_pick ?_; refine sE_pick ?_) | (refine gA_func ?_; refine sE_func ?_)) | (refine gW ?_; first | refine awp_seq ?_ | refine awp_region ?_ | refine awp_block ?_ | refine awp_skip ?_ | refine awp_ret ?_ | refine awp_exit ?_ | refine awp_label ?_) | (refine gX ?_; first | refine aex_then ?_ | refine aex_normal_block ?_ | refine aex_ret_then ?_ | refine aex_ret_block ?_ | refine aex_exit_then ?_ | refine aex_exit_here ?_ | refine aex_exit_out rfl ?_ | refine aex_nop ?_)))
    refine aops_ev (ev_indexOwn rfl (Opd.tmp rfl) (Opd.tmp rfl) tyS_Wire (hin)) rfl ?_
    (repeat (first | (refine gA ?_; first | refine aops_nil ?_ | (refine gA_gd ?_; first | refine gY ?_ | refine gN ?_ | refine gS ?_) | (refine gA_alloc ?_; refine sA ?_; intro _) | (refine gA_store ?_; first | refine sS ?_ | refine sSr ?_) | (refine gA_box ?_; refine sB ?_; intro _) | (refine gA_move ?_; refine sE_move ?_) | (refine gA_load ?_; refine sE_load ?_) | (refine gA_assign ?_; refine sE_assign ?_) | (refine gA_field ?_; refine sE_field ?_) | (refine gA_bin ?_; refine sE_bin ?_) | (refine gA_index ?_; refine sE_index ?_) | (refine gA_callb ?_; refine sE_callb ?_) | (refine gA_un ?_; refine sE_un ?_) | (refine gA_conv ?_; refine sE_conv ?_) | (refine gA_build ?_; refine sE_build ?_) | (refine gA_ext ?_; refine sE_ext ?_) | (refine gA_slice ?_; refine sE_slice ?_) | (refine gA_nilc ?_; refine sE_nilc ?_) | (refine gA_pick ?_; refine sE_pick ?_) | (refine gA_func ?_; refine sE_func ?_)) | (refine gW ?_; first | refine awp_seq ?_ | refine awp_region ?_ | refine awp_block ?_ | refine awp_skip ?_ | refine awp_ret ?_ | refine awp_exit ?_ | refine awp_label ?_) | (refine gX ?_; first | refine aex_then ?_ | refine aex_normal_block ?_ | refine aex_ret_then ?_ | refine aex_ret_block ?_ | refine aex_exit_then ?_ | refine aex_exit_here ?_ | refine aex_exit_out rfl ?_ | refine aex_nop ?_)))
    generalize hc1 : upd c i (splice (c i) 1 [vv (.bool (decide ((K + ((markN W i : Nat) : Int) + ((3 : Nat) : Int) * ((W i).m : Int)).tmod 3 = 0)))]) = c1
    refine aops_storeRowAt (k := i) (r := 2) (c' := upd c1 i (splice (c1 i) 2 [fl .f32 (floatOfInt .f32 (K + ((markN W i : Nat) : Int) + ((3 : Nat) : Int) * ((W i).m : Int) + 1))])) (Opd.tmp rfl) rfl (Opd.tmp rfl) (cellsOf_fl _ _) sz_f32 (by show 2 + 1 ≤ 3; omega) (by first | ((repeat (first | exact HRep.here | apply HRep.there)); done) | fail) hin upd_at upd_no ?_
    (repeat (first | (refine gA ?_; first | refine aops_nil ?_ | (refine gA_gd ?_; first | refine gY ?_ | refine gN ?_ | refine gS ?_) | (refine gA_alloc ?_; refine sA ?_; intro _) | (refine gA_store ?_; first | refine sS ?_ | refine sSr ?_) | (refine gA_box ?_; refine sB ?_; intro _) | (refine gA_move ?_; refine sE_move ?_) | (refine gA_load ?_; refine sE_load ?_) | (refine gA_assign ?_; refine sE_assign ?_) | (refine gA_field ?_; refine sE_field ?_) | (refine gA_bin ?_; refine sE_bin ?_) | (refine gA_index ?_; refine sE_index ?_) | (refine gA_callb ?_; refine sE_callb ?_) | (refine gA_un ?_; refine sE_un ?_) | (refine gA_conv ?_; refine sE_conv ?_) | (refine gA_build ?_; refine sE_build ?_) | (refine gA_ext ?_; refine sE_ext ?_) | (refine gA_slice ?_; refine sE_slice ?_) | (refine gA_nilc ?_; refine sE_nilc ?_) | (refine gA_pick ?_; refine sE_pick ?_) | (refine gA_func ?_; refine sE_func ?_)) | (refine gW ?_; first | refine awp_seq ?_ | refine awp_region ?_ | refine awp_block ?_ | refine awp_skip ?_ | refine awp_ret ?_ | refine awp_exit ?_ | refine awp_label ?_) | (refine gX ?_; first | refine aex_then ?_ | refine aex_normal_block ?_ | refine aex_ret_then ?_ | refine aex_ret_block ?_ | refine aex_exit_then ?_ | refine aex_exit_here ?_ | refine aex_exit_out rfl ?_ | refine aex_nop ?_)))
    rw [b3]
    generalize hc2 : upd c1 i (splice (c1 i) 2 [fl .f32 (floatOfInt .f32 (K + ((markN W i : Nat) : Int) + ((3 : Nat) : Int) * ((W i).m : Int) + 1))]) = c2
    have hC2 : ∀ j, i + 1 ≤ j → c2 j = wireV sv W j := fun j hj => by
      rw [← hc2, ← hc1]
      show upd _ i _ j = _
      rw [upd_no j (by omega), upd_no j (by omega)]
      exact hC j (by omega)
    refine aex_freeze (fun w => (i + 1, w, c2)) (fun a w hs => ⟨⟨by show i + 1 ≤ n; omega, hC2, fun j hj hjn => ?_⟩, by show n - (i + 1) < n - i; omega, ?_⟩)
    · have f3 := hs.heap.2.2.1
      have hj : i + 1 ≤ j := hj
      refine (hI j (by omega) hjn).keep f3.1 fun x hx => f3.2 x ⟨⟨j, hjn, hx⟩, ?_⟩
      exact (hM.ino j hjn x hx).2.2 i hin (by omega)
    · have hs2 : Sat w0 ⟨37, [(0, vv (.slice (some ⟨g, 0, none⟩) n cap)), (1, vv (.int .i64 (K + (markN W (i + 1) : Nat)))), (5, vv (.int .i64 ((i + 1 : Nat) : Int)))], [.row (.slice (some ⟨g, 0, none⟩) n cap) 51 3 n c2, .fr wB (MRest w0 wB (.slice (some ⟨g, 0, none⟩) n cap) sv n)]⟩ a w := (imp_mk (by repeat (first | exact EnvImp.nil | refine EnvImp.cons (by first | exact Opd.tmp rfl | exact OpF.tmp rfl) ?_)) (by repeat (first | exact HSub.nil | refine HSub.keep ?_ | refine HSub.drop ?_))) w0 a w hs
      have hsz := hs2.heap.2.2.1.1
      refine ⟨hs2.below, hs2.size, hs2.defers, hs2.env, hs2.heap.1, fun x hx => ⟨(hs2.heap.2.1 x hx).1, (hs2.heap.2.1 x hx).2.1, fun e he hf => ?_⟩, ⟨Nat.le_refl _, fun _ _ => rfl⟩, fun x hx => ?_, hs2.heap.2.2⟩
      · cases he with
        | head =>
          obtain ⟨j, hj, hjx⟩ := hf
          exact (hM.ino j hj x hjx).2.1 hx
        | tail _ he => exact (hs2.heap.2.1 x hx).2.2 e he hf
      · obtain ⟨j, hj, hjx⟩ := hx
        have hr := (hM.ino j hj x hjx).1
        refine ⟨hr.1, Nat.lt_of_lt_of_le hr.2 hsz, fun e he hf => ?_⟩
        cases he with
        | head => exact hf.2.2.2 ⟨j, hj, hjx⟩
        | tail _ he => cases he
  · obtain rfl : i = n := by simp at hg; omega
    (repeat (first | (refine gA ?_; first | refine aops_nil ?_ | (refine gA_gd ?_; first | refine gY ?_ | refine gN ?_ | refine gS ?_) | (refine gA_alloc ?_; refine sA ?_; intro _) | (refine gA_store ?_; first | refine sS ?_ | refine sSr ?_) | (refine gA_box ?_; refine sB ?_; intro _) | (refine gA_move ?_; refine sE_move ?_) | (refine gA_load ?_; refine sE_load ?_) | (refine gA_assign ?_; refine sE_assign ?_) | (refine gA_field ?_; refine sE_field ?_) | (refine gA_bin ?_; refine sE_bin ?_) | (refine gA_index ?_; refine sE_index ?_) | (refine gA_callb ?_; refine sE_callb ?_) | (refine gA_un ?_; refine sE_un ?_) | (refine gA_conv ?_; refine sE_conv ?_) | (refine gA_build ?_; refine sE_build ?_) | (refine gA_ext ?_; refine sE_ext ?_) | (refine gA_slice ?_; refine sE_slice ?_) | (refine gA_nilc ?_; refine sE_nilc ?_) | (refine gA_pick ?_; refine sE_pick ?_) | (refine gA_func ?_; refine sE_func ?_)) | (refine gW ?_; first | refine awp_seq ?_ | refine awp_region ?_ | refine awp_block ?_ | refine awp_skip ?_ | refine awp_ret ?_ | refine awp_exit ?_ | refine awp_label ?_) | (refine gX ?_; first | refine aex_then ?_ | refine aex_normal_block ?_ | refine aex_ret_then ?_ | refine aex_ret_block ?_ | refine aex_exit_then ?_ | refine aex_exit_here ?_ | refine aex_exit_out rfl ?_ | refine aex_nop ?_)))
    exact aex_retMark rfl (resV_tmp (Opd.tmp rfl)) (by first | ((repeat (first | exact List.Mem.head _ | apply List.Mem.tail)); done) | fail)
end Go.Proofs.Ytokhbfbanofchaa
