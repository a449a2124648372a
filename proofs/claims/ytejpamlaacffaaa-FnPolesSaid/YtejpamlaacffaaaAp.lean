/-
  Literals in regions that draw; appends of what is the call's own. Conditions: none.
-/
import Derived.Test.YtejpamlaacffaaaSu
namespace Go.Proofs.Ytejpamlaacffaaa
open Go Go.RowKit

section
variable {P : Program} {w0 : World} {ops : Array Oper} {nt : Nat} {env : List (Nat × AV)} {H : List HE} {rest : List Oper} {Q : Exit → Act → World → Prop} {ty : TypeId} {pos : String} {after : Array Edge}
/-- 'append(s, x...)', s of the call's own, x of the call's own too. -/
theorem aops_appendO {d t e size bytes n m : Nat} {XS xx : Operand} {v : Value} {c c2 cm : Nat → List AV} {vx : Value} {T : Nat} {H' : List HE} (ht : TyE P t e size bytes) (hs' : Opd ⟨nt, env, H⟩ XS (vv v)) (hx : Opd ⟨nt, env, H⟩ xx (vv vx)) (hmx : HE.row vx T size m cm ∈ H) (hm0 : 0 < m)
    (htk : HTake H (.row v e size n c) H') (hn : n + m ≤ 1048576)
    (hc1 : ∀ k, k < n → c2 k = c k) (hc2 : ∀ k, k < m → c2 (n + k) = cm k) (hd : Nat.blt d nt = true)
    (k : ∀ v', AOps P w0 ops ⟨nt, (d, vv v') :: env, .row v' e size (n + m) c2 :: H'⟩ rest Q) : AOps P w0 ops ⟨nt, env, H⟩ (⟨some d, .call { callee := .builtin .append, args := #[XS, xx], argTypes := #[t, t] }, ty, pos, after, none⟩ :: rest) Q := by
  refine ⟨fun a w hs => ?_⟩
  obtain ⟨i, z, hu, hi, hz, hsz, hby, hzs, hpos, hsm, hbm, hz1⟩ := ht
  have e1 : a.eval XS = v := hs' w0 a w hs
  have e2 : a.eval xx = vx := hx w0 a w hs
  obtain ⟨⟨ys, hown, hrow, hy1⟩, hH', hfoot⟩ := htk.ok hs.heap
  have fin : ∀ (news : List Value), news.length = m * size → (∀ u ∈ news, u.oneCell' = true) → (∀ k, k < m → All w0 (cm k) ((news.drop (k * size)).take size)) → ∀ v' w', w'.ownsRow w0.heap.size e size v' (n + m) (ys ++ news) → w.grownBy w' v.ownBlock → (v'.ownBlock = v.ownBlock ∨ v'.ownBlock = some w.heap.size) → wpList P ops Q rest (a.put (some d) v') w' := by
    intro news hnl h3 hall v' w' k1 k2 hat
    have hb : Below w0.heap.size w0 w' := hs.below.trans ((Below.refl w0.heap.size w).grown k2 hs.below.size fun q hq => (hfoot q hq).1)
    have hlenY := hown.1
    refine (k v').out _ _ (hs.step (A := vv v') (dst := some d) ((Below.refl _ _).grown k2 hs.below.size fun q hq => (hfoot q hq).1) rfl hd ((hH'.keep k2.size fun e' he' q hq => k2.block q (hH'.foot e' he' q hq).2 fun hv => ?_).cons ⟨_, k1, fun j hj => ?_, fun u hu => ?_⟩ fun q hq => ?_))
    · exact (hfoot q hv.symm).2.2 e' he' hq
    · by_cases hjn : j < n
      · have := hrow j hjn
        rw [hc1 j hjn]
        have e3 : (ys ++ news).drop (j * size) = ys.drop (j * size) ++ news := by
          rw [List.drop_append_of_le_length]
          rw [hlenY]
          exact Nat.mul_le_mul_right _ (by omega)
        rw [e3, List.take_append_of_le_length]
        · exact this
        · rw [List.length_drop, hlenY]
          have : (j + 1) * size ≤ n * size := Nat.mul_le_mul_right _ (by omega)
          rw [Nat.add_mul, Nat.one_mul] at this
          omega
      · obtain ⟨r, rfl⟩ : ∃ r, j = n + r := ⟨j - n, by omega⟩
        rw [hc2 r (by omega)]
        have e3 : (ys ++ news).drop ((n + r) * size) = news.drop (r * size) := by
          rw [Nat.add_mul, ← hlenY, ← List.drop_drop, List.drop_left]
        rw [e3]
        exact hall r (by omega)
    · rcases List.mem_append.1 hu with hu | hu
      · exact hy1 u hu
      · exact h3 u hu
    · have hq : v'.ownBlock = some q := hq
      obtain ⟨q1, q2⟩ := World.ownsRow.lt k1 q hq
      refine ⟨q1, q2, fun e' he' hf => ?_⟩
      rcases hat with hat | hat
      · rw [hat] at hq
        exact (hfoot q hq).2.2 e' he' hf
      · rw [hat] at hq
        injection hq with hq
        exact absurd (hH'.foot e' he' q hf).2 (by omega)
  have hbytes : (n + m) * bytes ≤ 140737488355328 := Nat.le_trans (Nat.mul_le_mul hn hbm) (by decide)
  obtain ⟨xs, ⟨q1, h1⟩, q4, q3⟩ := hs.heap.get _ hmx
  rcases h1 with ⟨_, h0⟩ | ⟨g, cap, cur, rfl, _, hg, hnc, _, hcs, htx⟩
  · omega
  · refine wpList_append_own_at w rfl XS xx t rfl w0.heap.size e i z size bytes hu hi hz hsz hby hzs hpos v n ys e1 hown _ m cap xs e2 q1 (fun j u hj => ?_) q3 (by simp [maxLen]; omega) hbytes hs.below.size
      fun v' w' k1 k2 _ hat => fin xs q1 q3 q4 v' w' k1 k2 hat
    rw [add_lit, Nat.zero_add, cell_of_row w g j cur _ (0, 0) hg, ← Array.getElem?_toList]
    rw [← htx, List.getElem?_take] at hj
    split at hj
    · exact hj
    · cases hj
end
section
variable {P : Program} {nt : Nat} {env : List (Nat × AV)} {H : List HE} {ops : Array Oper} {rest : List Oper} {ty : TypeId} {pos : String} {after : Array Edge} {ns : NS} {K : AS → NS → Prop}
/-- '[]T{x}' in a region that draws. -/
theorem du_slice1 {d j t e size bytes : Nat} {x : Operand} {A : AV} {l : List AV} (ht : TyE P t e size bytes) (hx : Opd ⟨nt, env, H⟩ x A) (hc : CellsOf A l) (hl : l.length = size) (hd : Nat.blt d nt = true) (k : DWU P ops ⟨nt, (d, top) :: env, H⟩ (ns.add d (.row e size 1 (fun _ => l) fun sv => vv sv)) j rest K) : DWU P ops ⟨nt, env, H⟩ ns (j + 1) (⟨some d, .buildSlice t 1 #[(0, x)], ty, pos, after, none⟩ :: rest) K :=
  ⟨⟨hd, .inl ⟨gon_none, .inr ⟨d, _, rfl, ⟨fun w0 a w hs _ => by
    obtain ⟨i, z, hu, hi, hz, hsz, hby, hzs, hpos, hsm, hbm, hz1⟩ := ht
    have hp : Parts ⟨nt, env, H⟩ [(0, x)] [(0, l)] := ⟨⟨rfl, A, hx, hc⟩, trivial⟩
    obtain ⟨h1, h2⟩ := hp.vals hs
    obtain ⟨cs, g1, g2, g3⟩ := fill_of (w0 := w0) (l' := l) (place := fun i => some (i * size, size)) (cs := (Array.range (1 * size)).map (z.cells[· % z.cells.size]!)) h1 h2 (l := List.replicate (1 * size) top)
      (All.of_get (by simp) fun j A hA => by
        have hj : j < 1 * size := by simpa using (List.getElem?_eq_some_iff.1 hA).1
        obtain rfl : A = top := by
          rw [List.getElem?_replicate, if_pos hj] at hA
          simpa using hA.symm
        have hj' : j < size := by omega
        exact ⟨z.cells[j % z.cells.size]!, by simp [hj'], trivial⟩)
      (fun u hu => by
        simp only [Array.toList_map, List.mem_map] at hu
        obtain ⟨j, _, rfl⟩ := hu
        have hlt : j % z.cells.size < z.cells.size := Nat.mod_lt _ (by omega)
        rw [getElem!_pos z.cells _ hlt]
        exact hz1 _ (by simp)) (by
          subst hl
          have e1 : Nat.beq l.length l.length = true := Nat.beq_refl _
          have e2 : Nat.ble (0 * l.length + l.length) (List.replicate (1 * l.length) top).length = true := Nat.ble_eq ▸ (by simp)
          simp only [fillA, e1, e2, Bool.and_self]
          simp [splice])
    subst hsz
    have hr := run_buildSlice (P := P) w t e 1 ([(0, x)].map fun (i, x) => (i, a.eval x)).toArray cs i z hu hi hz (by omega) (by omega) (by simpa using g1)
    have hr2 : (execOp a.eval (⟨some d, .buildSlice t 1 #[(0, x)], ty, pos, after, none⟩ : Oper)).run P w = .ok (.value (.slice (some ⟨w.heap.size, 0, none⟩) 1 1)) (w.alloc (.cells cs e)) := by
      have he : ((#[(0, x)] : Array (Nat × Operand)).map fun (i, x) => (i, a.eval x)) = ([(0, x)].map fun (i, x) => (i, a.eval x)).toArray := by simp
      simp only [execOp, he, hr, Sem.run_bind, Sem.run_pure, Result.andThen_ok]
    rw [hr2]
    have hb : Below w.heap.size w (w.alloc (.cells cs e)) := (Below.refl _ _).alloc (Nat.le_refl _) _
    have hsz' : (w.alloc (.cells cs e)).heap.size = w.heap.size + 1 := by simp
    have hcl : cs.toList.length = i.size := by rw [g2.length, hl]
    refine ⟨hb, ⟨_, rfl, fun g hg => ?_, cs.toList, ⟨by rw [hcl, Nat.one_mul], .inr ⟨w.heap.size, 1, cs, rfl, hs.below.size, heap_alloc_new w _, Nat.le_refl _, by simp [maxLen], by rw [Nat.one_mul, ← hcl, Array.length_toList], ?_⟩⟩, fun k hk => ?_, g3⟩, fun g hg => ?_⟩
    · obtain rfl : w.heap.size = g := by simpa [Value.ownBlock] using hg
      omega
    · exact List.take_of_length_le (by rw [hcl, Nat.one_mul]; exact Nat.le_refl _)
    · obtain rfl : k = 0 := by omega
      rw [Nat.zero_mul, List.drop_zero, List.take_of_length_le (by rw [hcl]; exact Nat.le_refl _)]
      exact g2
    · obtain ⟨sv, h1, h2⟩ := hg
      obtain rfl : _ = sv := h1
      obtain rfl : w.heap.size = g := by simpa [Value.ownBlock] using h2
      omega⟩, k.out⟩⟩⟩⟩
end
section
variable {w0 : World} {nt : Nat} {env : List (Nat × AV)} {H : List HE} {ops : Array Oper} {rest : List Oper} {Q : Exit → Act → World → Prop} {ty : TypeId} {pos : String} {after : Array Edge} {ns : NS} {K : AS → NS → Prop}
theorem uL {d j t e size bytes : Nat} {x : Operand} {A : AV} {l : List AV} (ht : TyE Try.prog t e size bytes) (k : DWU Try.prog ops ⟨nt, (d, top) :: env, H⟩ (ns.add d (.row e size 1 (fun _ => l) fun sv => vv sv)) j rest K)
    (hx : Opd ⟨nt, env, H⟩ x A := by first | exact Opd.tmp rfl | exact Opd.c _)
    (hc : CellsOf A l := by first | exact cellsOf_agg _ | exact cellsOf_fl _ _ | exact cellsOf_vv rfl | exact cellsOf_rs _ _ _ | exact cellsOf_rp _ _) (hl : l.length = size := by exact rfl) (hd : Nat.blt d nt = true := by exact rfl)
    : DWU Try.prog ops ⟨nt, env, H⟩ ns (j + 1) (⟨some d, .buildSlice t 1 #[(0, x)], ty, pos, after, none⟩ :: rest) K := du_slice1 ht hx hc hl hd k
theorem sPo {d t e size bytes n : Nat} {xs xx : Operand} {v vx : Value} {c cm : Nat → List AV} {T : Nat} {H2 : List HE} (c2 : Nat → List AV) (ht : TyE Try.prog t e size bytes) (k : ∀ v2, AOps Try.prog w0 ops ⟨nt, (d, vv v2) :: env, .row v2 e size (n + 1) c2 :: H2⟩ rest Q)
    (hs : Opd ⟨nt, env, H⟩ xs (vv v) := by exact Opd.tmp rfl) (hx : Opd ⟨nt, env, H⟩ xx (vv vx) := by exact Opd.tmp rfl)
    (hmx : HE.row vx T size 1 cm ∈ H := by first | ((repeat (first | exact List.Mem.head _ | apply List.Mem.tail)); done) | fail)
    (htk : HTake H (.row v e size n c) H2 := by first | ((repeat (first | exact HTake.here | apply HTake.there)); done) | fail)
    (hn : n + 1 ≤ 1048576 := by omega) (hc1 : ∀ k, k < n → c2 k = c k := by exact fun _ _ => rfl) (hc2 : c2 n = cm 0 := by exact rfl) (hd : Nat.blt d nt = true := by exact rfl)
    : AOps Try.prog w0 ops ⟨nt, env, H⟩ (⟨some d, .call { callee := .builtin .append, args := #[xs, xx], argTypes := #[t, t] }, ty, pos, after, none⟩ :: rest) Q :=
  aops_appendO ht hs hx hmx (by omega) htk hn hc1 (fun k hk => by obtain rfl : k = 0 := (by omega); exact hc2) hd k
end
end Go.Proofs.Ytejpamlaacffaaa
