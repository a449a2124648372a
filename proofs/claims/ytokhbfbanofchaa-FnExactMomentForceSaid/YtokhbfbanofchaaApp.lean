/-
  Appending one element of floats to a slice of the call's own. Conditions: none.
-/
import Derived.Test.YtokhbfbanofchaaBA
import Derived.Maps.AppendAt
import Derived.OwnWalk
import Derived.Lib.Hide
namespace Go.Proofs.Ytokhbfbanofchaa
open Go Go.RowKit

theorem Ow.appended {w w' : World} {lo top : Nat} {T : TypeId} {size n m : Nat} {v v' : Value} {X Y : List Nat} {xs news : List Value} (hx : w.ownsRow lo T size v n xs) (hX : FL X xs) (hY : FL Y news) (hlo : lo ≤ w.heap.size) (htop : ∀ g, v.ownBlock = some g → g < top)
    (hown : w'.ownsRow lo T size v' (n + m) (xs ++ news)) (hg : w.grownBy w' v.ownBlock) : Ow w' lo w'.heap.size T size v' (n + m) (X ++ Y) ∧ Below lo w w' ∧ Only lo top w w' := by
  refine ⟨⟨⟨_, hown, hX.append hY⟩, fun g hgb => (hown.lt g hgb).2, Nat.le_refl _⟩, ?_, ?_⟩
  · exact (Below.refl _ _).grown hg hlo fun k hk => (hx.lt k hk).1
  · exact ⟨hg.os, hg.tape, hg.output, hg.size, fun k hk hor => hg.block k hk fun e => by
      have h1 := (hx.lt k e.symm).1
      have h2 := htop k e.symm
      omega⟩

section
variable {P : Program} (w : World)
theorem wp_append_ow {o : Oper} {a : Act} {K : Act → World → Prop} {Q : Exit → Act → World → Prop} (s x : Operand) (t : TypeId)
    (ho : o.op = .call { callee := .builtin .append, args := #[s, x], argTypes := #[t, t] })
    (T : TypeId) (i : TypeInfo) (z : Value) (size bytes : Nat) (ht : P.underlying t = some (.slice T)) (hi : P.info? T = some i) (hz : i.zero = some z)
    (hsize : i.size = size) (hby : i.bytes = bytes) (hzs : z.cells.size = size) (hsz : 0 < size)
    {lo top n : Nat} {v : Value} {X Y : List Nat} (hs : a.eval s = v) (hown : Ow w lo top T size v n X) (g c : Nat) (hx : a.eval x = .slice (some ⟨g, 0, none⟩) 1 c) (l : List Value) {fr : Nat × Nat} (hb : w.heap[g]? = some (.cells l.toArray T fr)) (hl : l.length = size)
    (hY : FL Y l) (h63 : n + 1 ≤ 1048576) (hb24 : bytes ≤ 24) (hlo : lo ≤ w.heap.size)
    (h : ∀ v' w', Ow w' lo w'.heap.size T size v' (n + 1) (X ++ Y) → Below lo w w' → Only lo top w w' → K (a.put o.dst v') w') : o.wp P a w K Q := by
  obtain ⟨xs, h1, h2⟩ := hown.own
  have hbytes : (n + 1) * bytes ≤ 140737488355328 := Nat.le_trans (Nat.mul_le_mul h63 hb24) (by decide)
  refine wp_append_own w s x t ho lo T i z size bytes ht hi hz hsize hby hzs hsz v n xs hs h1 ⟨g, 0, none⟩ 1 c l hx (by rw [hl, Nat.one_mul]) ?_ hY.one_cell (by simp [maxLen]; omega) hbytes hlo ?_
  · exact World.news_of_block (cs := l.toArray) hb
  · intro v' w' k1 k2 _
    have := Ow.appended h1 h2 hY hlo hown.top k1 k2
    exact h v' w' this.1 this.2.1 this.2.2

theorem wpList_append_ow {ops : Array Oper} {rest : List Oper} {o : Oper} {a : Act} {Q : Exit → Act → World → Prop} (hgd : o.guard = none) (s x : Operand) (t : TypeId)
    (ho : o.op = .call { callee := .builtin .append, args := #[s, x], argTypes := #[t, t] })
    (T : TypeId) (i : TypeInfo) (z : Value) (size bytes : Nat) (ht : P.underlying t = some (.slice T)) (hi : P.info? T = some i) (hz : i.zero = some z)
    (hsize : i.size = size) (hby : i.bytes = bytes) (hzs : z.cells.size = size) (hsz : 0 < size)
    {lo top n : Nat} {v : Value} {X Y : List Nat} (hs : a.eval s = v) (hown : Ow w lo top T size v n X) (g c : Nat) (hx : a.eval x = .slice (some ⟨g, 0, none⟩) 1 c) (l : List Value) {fr : Nat × Nat} (hb : w.heap[g]? = some (.cells l.toArray T fr)) (hl : l.length = size)
    (hY : FL Y l) (h63 : n + 1 ≤ 1048576) (hb24 : bytes ≤ 24) (hlo : lo ≤ w.heap.size)
    (h : ∀ v' w', Ow w' lo w'.heap.size T size v' (n + 1) (X ++ Y) → Below lo w w' → Only lo top w w' → wpList P ops Q rest (a.put o.dst v') w') : wpList P ops Q (o :: rest) a w :=
  wpList_plain hgd fun _ hK => wp_append_ow w s x t ho T i z size bytes ht hi hz hsize hby hzs hsz hs hown g c hx l hb hl hY h63 hb24 hlo fun v' w' h2 h3 h4 => hK _ _ (h v' w' h2 h3 h4)

theorem step_append_ow {ops : Array Oper} {o : Oper} {a : Act} {K : Act → World → Prop} {Q : Exit → Act → World → Prop} {E : Prop} (hgd : o.guard = none) (s x : Operand) (t : TypeId)
    (ho : o.op = .call { callee := .builtin .append, args := #[s, x], argTypes := #[t, t] })
    (T : TypeId) (i : TypeInfo) (z : Value) (size bytes : Nat) (ht : P.underlying t = some (.slice T)) (hi : P.info? T = some i) (hz : i.zero = some z)
    (hsize : i.size = size) (hby : i.bytes = bytes) (hzs : z.cells.size = size) (hsz : 0 < size)
    {lo top n : Nat} {v : Value} {X Y : List Nat} (hs : a.eval s = v) (hown : Ow w lo top T size v n X) (g c : Nat) (hx : a.eval x = .slice (some ⟨g, 0, none⟩) 1 c) (l : List Value) {fr : Nat × Nat} (hb : w.heap[g]? = some (.cells l.toArray T fr)) (hl : l.length = size)
    (hY : FL Y l) (h63 : n + 1 ≤ 1048576) (hb24 : bytes ≤ 24) (hlo : lo ≤ w.heap.size)
    (h : ∀ v' w', Ow w' lo w'.heap.size T size v' (n + 1) (X ++ Y) → Below lo w w' → Only lo top w w' → K (a.put o.dst v') w') : if Region.wanted o (yielded ops a.tmps) = true then Oper.wp P o a w K Q else E := by
  have hw : Region.wanted o (yielded ops a.tmps) = true := by simp [Region.wanted, hgd]
  rw [if_pos hw]
  exact wp_append_ow w s x t ho T i z size bytes ht hi hz hsize hby hzs hsz hs hown g c hx l hb hl hY h63 hb24 hlo h
end

/-- A list of vectors, laid out flat. -/
def flatV (l : List V3) : List Nat := l.flatMap fun v => [v.x, v.y, v.z]
theorem flatV_snoc (l : List V3) (v : V3) : flatV (l ++ [v]) = flatV l ++ [v.x, v.y, v.z] := by simp [flatV]
/-- The k-th vector of a flat list. -/
def v3at (X : List Nat) (k : Nat) : V3 := ⟨X.getD (k * 3) 0, X.getD (k * 3 + 1) 0, X.getD (k * 3 + 2) 0⟩
/-- The first k of what f gives. -/
def mapTo (f : Nat → V3) (k : Nat) : List Nat := flatV ((List.range k).map f)
theorem mapTo_succ (f : Nat → V3) (k : Nat) : mapTo f (k + 1) = mapTo f k ++ [(f k).x, (f k).y, (f k).z] := by
  unfold mapTo
  rw [List.range_succ, List.map_append, List.map_singleton, flatV_snoc]
/-- A vector of a slice that is read, at place k. -/
theorem Rd.vec {w : World} {B n : Nat} {A : Option Addr} {X : List Nat} (h : Rd w B 3 A n X) {k : Nat} (hk : k < n) : ∃ b o x y z, A = some ⟨b, o, none⟩ ∧ b < B ∧
    w.cell? ⟨b, o + k * 3, none⟩ = some (.float .f32 x) ∧ w.cell? ⟨b, o + k * 3 + 1, none⟩ = some (.float .f32 y) ∧ w.cell? ⟨b, o + k * 3 + 2, none⟩ = some (.float .f32 z) ∧
    Fb .f32 (v3at X k).x x ∧ Fb .f32 (v3at X k).y y ∧ Fb .f32 (v3at X k).z z := by
  have hl := h.len
  obtain ⟨b, o, e, hb, hc⟩ := h.adr (by omega)
  have hd : ∀ j, j < X.length → X[j]? = some (X.getD j 0) := fun j hj => by
    rw [List.getD_eq_getElem?_getD, List.getElem?_eq_getElem hj]
    rfl
  obtain ⟨x, q0, f0⟩ := hc _ _ (hd (k * 3) (by omega))
  obtain ⟨y, q1, f1⟩ := hc _ _ (hd (k * 3 + 1) (by omega))
  obtain ⟨z, q2, f2⟩ := hc _ _ (hd (k * 3 + 2) (by omega))
  exact ⟨b, o, x, y, z, e, hb, q0, q1, q2, f0, f1, f2⟩

/-- The same for a list of poles. -/
structure P4 where
  at_ : V3
  s : Nat
def flatP (l : List P4) : List Nat := l.flatMap fun v => [v.at_.x, v.at_.y, v.at_.z, v.s]
theorem flatP_snoc (l : List P4) (v : P4) : flatP (l ++ [v]) = flatP l ++ [v.at_.x, v.at_.y, v.at_.z, v.s] := by simp [flatP]
def p4at (X : List Nat) (k : Nat) : P4 := ⟨⟨X.getD (k * 4) 0, X.getD (k * 4 + 1) 0, X.getD (k * 4 + 2) 0⟩, X.getD (k * 4 + 3) 0⟩
def mapToP (f : Nat → P4) (k : Nat) : List Nat := flatP ((List.range k).map f)
theorem mapToP_succ (f : Nat → P4) (k : Nat) : mapToP f (k + 1) = mapToP f k ++ [(f k).at_.x, (f k).at_.y, (f k).at_.z, (f k).s] := by
  unfold mapToP
  rw [List.range_succ, List.map_append, List.map_singleton, flatP_snoc]
theorem Rd.pole {w : World} {B n : Nat} {A : Option Addr} {X : List Nat} (h : Rd w B 4 A n X) {k : Nat} (hk : k < n) : ∃ b o x y z s, A = some ⟨b, o, none⟩ ∧ b < B ∧
    w.cell? ⟨b, o + k * 4, none⟩ = some (.float .f32 x) ∧ w.cell? ⟨b, o + k * 4 + 1, none⟩ = some (.float .f32 y) ∧ w.cell? ⟨b, o + k * 4 + 2, none⟩ = some (.float .f32 z) ∧ w.cell? ⟨b, o + k * 4 + 3, none⟩ = some (.float .f32 s) ∧
    Fb .f32 (p4at X k).at_.x x ∧ Fb .f32 (p4at X k).at_.y y ∧ Fb .f32 (p4at X k).at_.z z ∧ Fb .f32 (p4at X k).s s := by
  have hl := h.len
  obtain ⟨b, o, e, hb, hc⟩ := h.adr (by omega)
  have hd : ∀ j, j < X.length → X[j]? = some (X.getD j 0) := fun j hj => by
    rw [List.getD_eq_getElem?_getD, List.getElem?_eq_getElem hj]
    rfl
  obtain ⟨x, q0, f0⟩ := hc _ _ (hd (k * 4) (by omega))
  obtain ⟨y, q1, f1⟩ := hc _ _ (hd (k * 4 + 1) (by omega))
  obtain ⟨z, q2, f2⟩ := hc _ _ (hd (k * 4 + 2) (by omega))
  obtain ⟨s, q3, f3⟩ := hc _ _ (hd (k * 4 + 3) (by omega))
  exact ⟨b, o, x, y, z, s, e, hb, q0, q1, q2, q3, f0, f1, f2, f3⟩

end Go.Proofs.Ytokhbfbanofchaa
