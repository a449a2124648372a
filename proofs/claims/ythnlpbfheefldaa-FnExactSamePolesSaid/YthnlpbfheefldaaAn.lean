/-
  Slices made by 'make', and elements written: slices of the call's own. Conditions: none.
-/
import Derived.Test.YthnlpbfheefldaaAm
import Derived.Test.YthnlpbfheefldaaHr
namespace Go.Proofs.Ythnlpbfheefldaa
open Go Go.RowKit

theorem upd_get {α : Type} (A ys : List α) (i p : Nat) (hi : i + ys.length ≤ A.length) : (A.take i ++ ys ++ A.drop (i + ys.length))[p]? = if p < i then A[p]? else if p < i + ys.length then ys[p - i]? else A[p]? := by
  have h1 : (A.take i).length = i := by simp; omega
  by_cases hp : p < i
  · rw [if_pos hp, List.append_assoc, List.getElem?_append_left (by omega), List.getElem?_take, if_pos hp]
  · rw [if_neg hp]
    by_cases hq : p < i + ys.length
    · rw [if_pos hq, List.append_assoc, List.getElem?_append_right (by omega), h1, List.getElem?_append_left (by omega)]
    · rw [if_neg hq, List.getElem?_append_right (by simp; omega)]
      rw [List.getElem?_drop]
      congr 1
      simp
      omega
theorem blk_same {α : Type} {A ys : List α} {k j s N : Nat} (hs : ys.length = s) (hi : k * s + s ≤ A.length) (hj : j ≠ k) : (((A.take (k * s) ++ ys ++ A.drop (k * s + ys.length)).take N).drop (j * s)).take s = ((A.take N).drop (j * s)).take s := by
  apply List.ext_getElem?
  intro p
  simp only [List.getElem?_take, List.getElem?_drop]
  split
  · split
    · rename_i hp _
      rw [upd_get A ys (k * s) (j * s + p) (by omega)]
      rcases Nat.lt_or_gt_of_ne hj with h | h
      · have : (j + 1) * s ≤ k * s := Nat.mul_le_mul_right _ h
        rw [Nat.add_mul, Nat.one_mul] at this
        rw [if_pos (by omega)]
      · have : (k + 1) * s ≤ j * s := Nat.mul_le_mul_right _ h
        rw [Nat.add_mul, Nat.one_mul] at this
        rw [if_neg (by omega), if_neg (by omega)]
    · rfl
  · rfl
theorem blk_at {α : Type} {A ys : List α} {k s n : Nat} (hs : ys.length = s) (hi : k * s + s ≤ A.length) (hk : k < n) : (((A.take (k * s) ++ ys ++ A.drop (k * s + ys.length)).take (n * s)).drop (k * s)).take s = ys := by
  have hn : (k + 1) * s ≤ n * s := Nat.mul_le_mul_right _ hk
  rw [Nat.add_mul, Nat.one_mul] at hn
  apply List.ext_getElem?
  intro p
  simp only [List.getElem?_take, List.getElem?_drop]
  split
  · rename_i hp
    rw [if_pos (by omega), upd_get A ys (k * s) (k * s + p) (by omega), if_neg (by omega), if_pos (by omega)]
    congr 1
    omega
  · rename_i hp
    rw [List.getElem?_eq_none (by omega)]

section
variable {P : Program} {s : AS} {o : Oper}
/-- The address of an element of a slice of the call's own. -/
theorem ev_indexOwn {t e : TypeId} {x y : Operand} {q : IntKind} {g size n cap k : Nat} (ho : o.op = .indexAddr t x y) (hx : Opd s x (vv (.slice (some ⟨g, 0, none⟩) n cap))) (hy : Opd s y (vv (.int q (k : Int)))) (ht : TyS P t e size) (hk : k < n) : Ev P s o (ptr g (k * size)) := by
  refine ⟨fun w0 a w hs => ?_⟩
  have ex : a.eval x = .slice (some ⟨g, 0, none⟩) n cap := hx w0 a w hs
  have ey : a.eval y = .int q (k : Int) := hy w0 a w hs
  obtain ⟨i, hu, hi, hs'⟩ := ht
  have : (Instr.indexAt t (.slice (some ⟨g, 0, none⟩) n cap) (.int q (k : Int))).run P w = .ok (.pointer (some ⟨g, k * size, none⟩)) w := by
    simp [Instr.indexAt, asIntOf, run_underlying hu, sizeOf, typeInfo, hi, hs', add_lit]
    omega
  simp only [execOp, ho, ex, ey, this, Sem.run_bind, Sem.run_pure, Result.andThen_ok]
  exact .of_val rfl
end

section
variable {P : Program} {w0 : World} {ops : Array Oper} {nt : Nat} {env : List (Nat × AV)} {H : List HE} {rest : List Oper} {Q : Exit → Act → World → Prop} {ty : TypeId} {pos : String} {after : Array Edge}
/-- An element of a slice of the call's own is written. -/
theorem aops_storeRow {t : TypeId} {x y : Operand} {g size n cap k T : Nat} {c c' : Nat → List AV} {la : List AV} {A : AV} {H' : List HE} (hx : Opd ⟨nt, env, H⟩ x (ptr g (k * size))) (hy : Opd ⟨nt, env, H⟩ y A) (hc : CellsOf A la) (ht : (P.info? t).map (·.size) = some size) (hla : la.length = size)
    (hr : HRep H (.row (.slice (some ⟨g, 0, none⟩) n cap) T size n c) (.row (.slice (some ⟨g, 0, none⟩) n cap) T size n c') H') (hk : k < n) (hc1 : c' k = la) (hc2 : ∀ j, j ≠ k → c' j = c j)
    (kk : AOps P w0 ops ⟨nt, env, H'⟩ rest Q) : AOps P w0 ops ⟨nt, env, H⟩ (⟨none, .store t x y, ty, pos, after, none⟩ :: rest) Q := by
  refine ⟨fun a w hs => ?_⟩
  exact wpList_plain rfl fun K hK => by
    have hv := hc _ _ (hy w0 a w hs)
    have e : a.eval x = .pointer (some ⟨g, k * size, none⟩) := hx w0 a w hs
    obtain ⟨xs, ⟨hlen, h1⟩, hrow, hone⟩ := hs.heap.get _ hr.mem
    have hgf := hs.heap.foot _ hr.mem g rfl
    rcases h1 with ⟨h1, _⟩ | ⟨g', cap', cur, hvv, hg, hh, hnc, hcm, hcs, htk⟩
    · cases h1
    injection hvv with q1 q2 q3
    injection q1 with q1
    injection q1 with q1 q4
    subst q1
    subst q3
    have hlen2 := hv.1.length
    have hb : k * size + size ≤ cur.size := by
      have : (k + 1) * size ≤ cap * size := Nat.mul_le_mul_right _ (by omega)
      rw [Nat.add_mul, Nat.one_mul] at this
      omega
    have hst := run_storeCells_at (P := P) g (k * size) T (a.eval y).cells.toList 0 cur w hh (by rw [hlen2, hla]; omega) hv.2
    obtain ⟨ii, hii, his⟩ : ∃ ii, P.info? t = some ii ∧ ii.size = size := by
      cases hq : P.info? t with
      | none => rw [hq] at ht; cases ht
      | some ii => rw [hq] at ht; exact ⟨ii, rfl, by simpa using ht⟩
    have hr' : (execOp a.eval (⟨none, .store t x y, ty, pos, after, none⟩ : Oper)).run P w = .ok .skip (w.setRow g (cur.toList.take (k * size + 0) ++ (a.eval y).cells.toList ++ cur.toList.drop (k * size + 0 + (a.eval y).cells.toList.length)).toArray) := by
      have hsz : (a.eval y).cells.size = ii.size := by rw [his, ← hla, ← hlen2]; simp
      simp only [execOp, e, Instr.storeAt, Instr.sureAddr, storeVar, sizeOf, typeInfo, Sem.run_bind, Sem.run_pure, Result.andThen_ok, run_program, hii, Sem.run_map]
      rw [Sem.run_ite, if_neg (by simpa using hsz)]
      simp only [Sem.run_bind, Sem.run_pure, Result.andThen_ok, hst]
    unfold Oper.wp
    rw [hr']
    rw [Nat.add_zero]
    have hys : (a.eval y).cells.toList.length = size := by rw [hlen2, hla]
    generalize hys0 : (a.eval y).cells.toList = ys at *
    refine hK _ _ (kk.out _ _ ?_)
    have hset : ∀ b, b ≠ g → (w.setRow g (cur.toList.take (k * size) ++ ys ++ cur.toList.drop (k * size + ys.length)).toArray).heap[b]? = w.heap[b]? := fun b hb => by
      simp only [World.setRow, Array.getElem?_modify]
      rw [if_neg (by omega)]
    have hset2 : (w.setRow g (cur.toList.take (k * size) ++ ys ++ cur.toList.drop (k * size + ys.length)).toArray).heap[g]? = some (.cells (cur.toList.take (k * size) ++ ys ++ cur.toList.drop (k * size + ys.length)).toArray T (0, 0)) := by
      simp [World.setRow, Array.getElem?_modify, hh]
    have hsz' : (w.setRow g (cur.toList.take (k * size) ++ ys ++ cur.toList.drop (k * size + ys.length)).toArray).heap.size = w.heap.size := by simp [World.setRow]
    have hcl : cur.toList.length = cur.size := by simp
    have hLl : (cur.toList.take (k * size) ++ ys ++ cur.toList.drop (k * size + ys.length)).length = cur.size := by
      simp only [List.length_append, List.length_take, List.length_drop, hcl]
      omega
    have hnN : n * size ≤ cur.size := by rw [hcs]; exact Nat.mul_le_mul_right _ hnc
    have hff : ∀ b, (HE.row (.slice (some ⟨g, 0, none⟩) n cap) T size n c').foot b → (HE.row (.slice (some ⟨g, 0, none⟩) n cap) T size n c).foot b := fun _ h => h
    have hfg : ∀ b, ¬ (HE.row (.slice (some ⟨g, 0, none⟩) n cap) T size n c).foot b → b ≠ g := fun b hb q => hb (by subst q; rfl)
    refine Sat.step (dst := none) (A := vv undef) (v := undef) hs ⟨rfl, rfl, rfl, by omega, fun b hb => hset b (by have := hgf.1; omega)⟩ rfl rfl
      (hr.ok hff hs.heap (by omega) (fun b _ hb => hset b (hfg b hb)) ⟨(cur.toList.take (k * size) ++ ys ++ cur.toList.drop (k * size + ys.length)).take (n * size), ⟨?_, .inr ⟨g, cap, _, rfl, hg, hset2, hnc, hcm, ?_, by simp⟩⟩, fun j hj => ?_, fun u hu => ?_⟩)
    · rw [List.length_take, hLl]; omega
    · rw [List.size_toArray, hLl, hcs]
    · by_cases hjk : j = k
      · subst hjk
        rw [blk_at hys (by omega) hj, hc1]
        exact hv.1
      · rw [blk_same hys (by omega) hjk, hc2 j hjk, htk]
        exact hrow j hj
    · obtain ⟨p, hp⟩ := List.mem_iff_getElem?.1 hu
      rw [List.getElem?_take] at hp
      split at hp
      · rename_i hpN
        rw [upd_get cur.toList ys (k * size) p (by omega)] at hp
        have hA : cur.toList[p]? = some u → u.oneCell' = true := fun h => hone u (by rw [← htk]; exact List.mem_iff_getElem?.2 ⟨p, by rw [List.getElem?_take, if_pos hpN]; exact h⟩)
        split at hp
        · exact hA hp
        · split at hp
          · exact hv.2 u (List.mem_of_getElem? hp)
          · exact hA hp
      · cases hp
theorem made1 (z : Value) (n : Nat) : (madeCells #[z] n).toList = List.replicate n z := by
  apply List.ext_getElem?
  intro p
  by_cases hp : p < n
  · rw [List.getElem?_replicate, if_pos hp]
    simp [madeCells, hp, Nat.mod_one]
  · rw [List.getElem?_eq_none (by simp [size_madeCells]; omega), List.getElem?_eq_none (by simp; omega)]
/-- 'make([]T, n)', T of one cell. -/
theorem aops_make1 {d t e bytes n : Nat} {x y : Operand} {kl kc : IntKind} {A0 : AV} (ht : TyE P t e 1 bytes) (hz : TyZ P e [A0]) (hx : Opd ⟨nt, env, H⟩ x (vv (.int kl (n : Int)))) (hy : Opd ⟨nt, env, H⟩ y (vv (.int kc (n : Int)))) (hn : n ≤ 1048576) (hd : Nat.blt d nt = true)
    (k : ∀ g, AOps P w0 ops ⟨nt, (d, vv (.slice (some ⟨g, 0, none⟩) n n)) :: env, .row (.slice (some ⟨g, 0, none⟩) n n) e 1 n (fun _ => [A0]) :: H⟩ rest Q) : AOps P w0 ops ⟨nt, env, H⟩ (⟨some d, .makeSlice t x y, ty, pos, after, none⟩ :: rest) Q := by
  obtain ⟨i, z, hu, hi, hz0, hsz, hby, hzs, hpos, hsm, hbm, hz1⟩ := ht
  obtain ⟨i2, z2, hi2, hz2, hl⟩ := hz
  obtain rfl : i = i2 := by rw [hi] at hi2; exact Option.some.inj hi2
  obtain rfl : z = z2 := by rw [hz0] at hz2; exact Option.some.inj hz2
  refine ⟨fun a w hs => wpList_make_full w rfl x y t rfl w0.heap.size e i z 1 hu hi hz0 hsz kl kc _ _ n (hx w0 a w hs) (hy w0 a w hs) rfl rfl (by rw [hby]; exact Nat.le_trans (Nat.mul_le_mul hbm hn) (by decide)) (by simp [maxLen]; omega) hs.below.size fun w' hown hg => ?_⟩
  have hb : Below w.heap.size w w' := (Below.refl _ _).grown hg (Nat.le_refl _) (fun k h => by cases h)
  obtain ⟨u0, hu0⟩ : ∃ u0, z.cells = #[u0] := by
    have : z.cells.size = 1 := hzs
    match hc : z.cells, this with
    | ⟨[u]⟩, _ => exact ⟨u, rfl⟩
  have hlt := World.ownsRow.lt hown w.heap.size rfl
  rw [Nat.mul_one, hu0, made1] at hown
  have hR : A0.R w0 u0 := by have := (hl w0).1; rw [hu0] at this; exact this.1
  have h1c : u0.oneCell' = true := (hl w0).2 u0 (by rw [hu0]; simp)
  refine (k w.heap.size).out _ _ (row_sat hs (hb.mono hs.below.size) hd (hs.heap.below hb) ⟨_, hown, fun j hj => ?_, fun u hu => ?_⟩ fun g hg => ?_)
  · rw [Nat.mul_one, List.drop_replicate, List.take_replicate, show min 1 (n - j) = 1 by omega]
    exact ⟨hR, trivial⟩
  · obtain ⟨_, rfl⟩ := List.mem_replicate.1 hu
    exact h1c
  · obtain rfl : w.heap.size = g := by simpa [Value.ownBlock] using hg
    exact ⟨hs.below.size, hlt.2, fun e' he' hf => absurd (hs.heap.foot e' he' _ hf).2 (by omega)⟩
/-- What a row holds, in other words. -/
theorem aex_rowc {e : Exit} {v : Value} {T size n : Nat} {c c' : Nat → List AV} (hc : ∀ j, j < n → c' j = c j) (k : AEx w0 ⟨nt, env, .row v T size n c' :: H⟩ e Q) : AEx w0 ⟨nt, env, .row v T size n c :: H⟩ e Q :=
  ⟨fun a w hs => k.out a w ⟨hs.below, hs.size, hs.defers, hs.env, by
    obtain ⟨⟨xs, h1, h2, h3⟩, hf, hr⟩ := hs.heap
    exact ⟨⟨xs, h1, fun j hj => by rw [hc j hj]; exact h2 j hj, h3⟩, hf, hr⟩⟩⟩
end
end Go.Proofs.Ythnlpbfheefldaa
