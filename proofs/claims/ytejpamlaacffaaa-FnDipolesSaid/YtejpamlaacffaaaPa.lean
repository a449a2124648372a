/-
  A literal slice as a slice of the call's own; loops with facts and a slice that grows. Conditions: none.
-/
import Derived.Test.YtejpamlaacffaaaBB
import Derived.Test.YtejpamlaacffaaaSu
namespace Go.Proofs.Ytejpamlaacffaaa
open Go Go.RowKit

theorem splice_len {l la : List AV} {i : Nat} (h : i + la.length ≤ l.length) : (splice l i la).length = l.length := by
  unfold splice
  simp
  omega
theorem fillA_len {place : Nat → Option (Nat × Nat)} : ∀ {pl : List (Nat × List AV)} {l l' : List AV}, fillA place pl l = some l' → l'.length = l.length
  | [], l, l', h => by
    unfold fillA at h
    injection h with h
    rw [h]
  | (i, la) :: r, l, l', h => by
    unfold fillA at h
    split at h
    · cases h
    · rename_i off size _
      split at h
      · rename_i hb
        rw [Bool.and_eq_true] at hb
        rw [fillA_len h]
        exact splice_len (Nat.le_of_ble_eq_true hb.2)
      · cases h
section
variable {P : Program} {w0 : World} {ops : Array Oper} {nt : Nat} {env : List (Nat × AV)} {H : List HE} {rest : List Oper} {Q : Exit → Act → World → Prop} {ty : TypeId} {pos : String} {after : Array Edge}
/-- '[]T{x, ..}' as a slice of the call's own. -/
theorem aops_sliceRow {d t e n size bytes : Nat} {parts : List (Nat × Operand)} {pl : List (Nat × List AV)} {l' : List AV} {c : Nat → List AV} (ht : TyE P t e size bytes) (hn : 0 < n ∧ n ≤ 100) (hp : Parts ⟨nt, env, H⟩ parts pl) (hf : fillA (fun i => some (i * size, size)) pl (List.replicate (n * size) top) = some l') (hc : ∀ k, k < n → c k = (l'.drop (k * size)).take size) (hd : Nat.blt d nt = true)
    (k : ∀ b, AOps P w0 ops ⟨nt, (d, vv (.slice (some ⟨b, 0, none⟩) n n)) :: env, .row (.slice (some ⟨b, 0, none⟩) n n) e size n c :: H⟩ rest Q) : AOps P w0 ops ⟨nt, env, H⟩ (⟨some d, .buildSlice t n parts.toArray, ty, pos, after, none⟩ :: rest) Q := by
  refine ⟨fun a w hs => ?_⟩
  exact wpList_plain rfl fun K hK => by
    obtain ⟨i, z, hu, hi, hz, hsz, hby, hzs, hpos, hsm, hbm, hz1⟩ := ht
    obtain ⟨h1, h2⟩ := hp.vals hs
    have hnn : n * size ≤ 100 * 64 := Nat.mul_le_mul hn.2 hsm
    have hpos2 : 0 < n * size := Nat.mul_pos hn.1 hpos
    have hbase1 : ((Array.range (n * size)).map (z.cells[· % z.cells.size]!)).toList.length = n * size := by simp
    obtain ⟨cs, g1, g2, g3⟩ := fill_of (w0 := w0) (place := fun i => some (i * size, size)) (cs := (Array.range (n * size)).map (z.cells[· % z.cells.size]!)) h1 h2 (l := List.replicate (n * size) top)
      (All.of_get (by simp) fun j A hA => by
        have hj : j < n * size := by simpa using (List.getElem?_eq_some_iff.1 hA).1
        obtain rfl : A = top := by
          rw [List.getElem?_replicate, if_pos hj] at hA
          simpa using hA.symm
        exact ⟨_, List.getElem?_eq_getElem (by rw [hbase1]; exact hj), trivial⟩)
      (fun u hu => by
        simp only [Array.toList_map, List.mem_map] at hu
        obtain ⟨j, _, rfl⟩ := hu
        have hlt : j % z.cells.size < z.cells.size := Nat.mod_lt _ (by omega)
        rw [getElem!_pos z.cells _ hlt]
        exact hz1 _ (by simp)) hf
    subst hsz
    have hr := run_buildSlice (P := P) w t e n (parts.map fun (i, x) => (i, a.eval x)).toArray cs i z hu hi hz (by omega) (by omega) (by simpa using g1)
    have he : (parts.toArray.map fun (i, x) => (i, a.eval x)) = (parts.map fun (i, x) => (i, a.eval x)).toArray := by simp
    have hr2 : (execOp a.eval (⟨some d, .buildSlice t n parts.toArray, ty, pos, after, none⟩ : Oper)).run P w = .ok (.value (.slice (some ⟨w.heap.size, 0, none⟩) n n)) (w.alloc (.cells cs e)) := by
      simp only [execOp, he, Sem.run_bind, hr, Result.andThen_ok, Sem.run_pure]
    unfold Oper.wp
    rw [hr2]
    have hb : Below w.heap.size w (w.alloc (.cells cs e)) := (Below.refl _ _).alloc (Nat.le_refl _) _
    have hsz' : (w.alloc (.cells cs e)).heap.size = w.heap.size + 1 := by simp
    have hl1 := g2.length
    have hl2 := fillA_len hf
    rw [List.length_replicate] at hl2
    have hcs : cs.size = n * i.size := by rw [← hl2, ← hl1]; simp
    refine hK _ _ ((k _).out _ _ (row_sat hs (hb.mono hs.below.size) hd (hs.heap.below hb) ⟨cs.toList, ⟨by rw [hl1, hl2], .inr ⟨w.heap.size, n, cs, rfl, hs.below.size, heap_alloc_new w _, Nat.le_refl _, by simp [maxLen]; omega, hcs, List.take_of_length_le (by rw [hl1, hl2]; exact Nat.le_refl _)⟩⟩, fun k hk => by rw [hc k hk]; exact (g2.drop _).take _, g3⟩ fun g hg => ?_))
    obtain rfl : w.heap.size = g := by simpa [Value.ownBlock] using hg
    exact ⟨hs.below.size, by omega, fun e' he' hf => absurd (hs.heap.foot e' he' _ hf).2 (by omega)⟩
end
end Go.Proofs.Ytejpamlaacffaaa
