/-
  Slices of floats in memory: what is read, what the call owns. Conditions: none.
-/
import Derived.Test.YthnlpbfheefldaaPlain
import Derived.Laws.OwnMore
import Derived.Deep.AppendLies
namespace Go.Proofs.Ythnlpbfheefldaa
open Go Go.RowKit

theorem block_of_add (a : Addr) (n : Nat) : (a.add n).block = a.block := by unfold Addr.add; split <;> rfl
theorem add_of_add (a : Addr) (i j : Nat) : (a.add i).add j = a.add (i + j) := by
  unfold Addr.add
  by_cases hi : i = 0 <;> by_cases hj : j = 0 <;> simp [hi, hj, Nat.add_assoc]

/-- The values are floats that stand for X. -/
structure FL (X : List Nat) (xs : List Value) : Prop where
  len : xs.length = X.length
  at_ : ∀ (i : Nat) (x : Nat), X[i]? = some x → ∃ b : Nat, xs[i]? = some (Value.float .f32 b) ∧ Fb .f32 x b

theorem FL.nil : FL [] [] := ⟨rfl, fun i x h => by simp at h⟩
theorem FL.append {X Y : List Nat} {xs ys : List Value} (h : FL X xs) (k : FL Y ys) : FL (X ++ Y) (xs ++ ys) := by
  refine ⟨by simp [h.len, k.len], fun i x hx => ?_⟩
  by_cases hi : i < X.length
  · rw [List.getElem?_append_left hi] at hx
    rw [List.getElem?_append_left (by rw [h.len]; exact hi)]
    exact h.at_ i x hx
  · rw [List.getElem?_append_right (by omega)] at hx
    rw [List.getElem?_append_right (by rw [h.len]; omega), h.len]
    exact k.at_ _ x hx
theorem FL.take {X : List Nat} {xs : List Value} (h : FL X xs) (n : Nat) : FL (X.take n) (xs.take n) := by
  refine ⟨by simp [h.len], fun i x hx => ?_⟩
  rw [List.getElem?_take] at hx
  split at hx
  · rename_i hi
    rw [List.getElem?_take, if_pos hi]
    exact h.at_ i x hx
  · cases hx
theorem FL.one {X x : Nat} (h : Fb .f32 X x) : FL [X] [.float .f32 x] := ⟨rfl, fun i y hy => by
  match i with
  | 0 => simp at hy; subst hy; exact ⟨x, rfl, h⟩
  | i + 1 => simp at hy⟩
theorem FL.three {X Y Z x y z : Nat} (hx : Fb .f32 X x) (hy : Fb .f32 Y y) (hz : Fb .f32 Z z) : FL [X, Y, Z] [.float .f32 x, .float .f32 y, .float .f32 z] := ((FL.one hx).append (FL.one hy)).append (FL.one hz)
theorem FL.four {X Y Z S x y z s : Nat} (hx : Fb .f32 X x) (hy : Fb .f32 Y y) (hz : Fb .f32 Z z) (hs : Fb .f32 S s) : FL [X, Y, Z, S] [.float .f32 x, .float .f32 y, .float .f32 z, .float .f32 s] := (FL.three hx hy hz).append (FL.one hs)
theorem FL.one_cell {X : List Nat} {xs : List Value} (h : FL X xs) : ∀ u ∈ xs, u.oneCell' = true := by
  intro u hu
  obtain ⟨i, hi, rfl⟩ := List.getElem_of_mem hu
  have hi' : i < X.length := by rw [← h.len]; exact hi
  obtain ⟨b, hb, _⟩ := h.at_ i X[i] (List.getElem?_eq_getElem hi')
  rw [List.getElem?_eq_getElem hi] at hb
  injection hb with hb
  rw [hb]
  rfl

/-- A slice of n elements at A reads as X (size floats an element), below block B. -/
structure Rd (w : World) (B size : Nat) (A : Option Addr) (n : Nat) (X : List Nat) : Prop where
  len : X.length = n * size
  adr : 0 < n → ∃ b o, A = some ⟨b, o, none⟩ ∧ b < B ∧ ∀ (j : Nat) (x : Nat), X[j]? = some x → ∃ u : Nat, w.cell? ⟨b, o + j, none⟩ = some (Value.float .f32 u) ∧ Fb .f32 x u

theorem Rd.keep {w w' : World} {B size n : Nat} {A : Option Addr} {X : List Nat} (h : Rd w B size A n X) (hk : ∀ k, k < B → w'.heap[k]? = w.heap[k]?) : Rd w' B size A n X :=
  ⟨h.len, fun hn => by
    obtain ⟨b, o, e, hb, hc⟩ := h.adr hn
    refine ⟨b, o, e, hb, fun j x hx => ?_⟩
    obtain ⟨u, h1, h2⟩ := hc j x hx
    exact ⟨u, by rw [World.cell?_of_block (w := w) (hk b hb)]; exact h1, h2⟩⟩
theorem Rd.below {w w' : World} {B B' size n : Nat} {A : Option Addr} {X : List Nat} (h : Rd w B size A n X) (hb : Below B' w w') (hB : B ≤ B') : Rd w' B size A n X := h.keep fun k hk => hb.block k (by omega)
theorem Rd.more {w : World} {B B' size n : Nat} {A : Option Addr} {X : List Nat} (h : Rd w B size A n X) (hB : B ≤ B') : Rd w B' size A n X :=
  ⟨h.len, fun hn => by
    obtain ⟨b, o, e, hb, hc⟩ := h.adr hn
    exact ⟨b, o, e, by omega, hc⟩⟩

/-- What the call owns: a slice of its own, in a block from lo on, before hi, that reads as X. -/
structure Ow (w : World) (lo hi : Nat) (T : TypeId) (size : Nat) (v : Value) (n : Nat) (X : List Nat) : Prop where
  own : ∃ xs, w.ownsRow lo T size v n xs ∧ FL X xs
  top : ∀ g, v.ownBlock = some g → g < hi
  hiw : hi ≤ w.heap.size

theorem Ow.len {w : World} {lo hi : Nat} {T : TypeId} {size : Nat} {v : Value} {n : Nat} {X : List Nat} (h : Ow w lo hi T size v n X) : X.length = n * size := by
  obtain ⟨xs, h1, h2⟩ := h.own
  rw [← h2.len]
  exact h1.1
theorem Ow.nil {w : World} {lo hi : Nat} (T : TypeId) (size : Nat) (h : hi ≤ w.heap.size) : Ow w lo hi T size (.slice none 0 0) 0 [] := ⟨⟨[], World.ownsRow_nil _ _ _ _, FL.nil⟩, fun g h => by simp [Value.ownBlock] at h, h⟩
/-- The shape of an owned slice. -/
theorem Ow.shape {w : World} {lo hi : Nat} {T : TypeId} {size : Nat} {v : Value} {n : Nat} {X : List Nat} (h : Ow w lo hi T size v n X) : ∃ A c, v = .slice A n c ∧ n ≤ c ∧ c ≤ maxLen ∧ Rd w hi size A n X := by
  obtain ⟨xs, ⟨hl, h1⟩, h2⟩ := h.own
  have hlX : X.length = n * size := by rw [← h2.len]; exact hl
  rcases h1 with ⟨rfl, rfl⟩ | ⟨g, cap, cur, rfl, hg, hh, hnc, hcm, hcs, htake⟩
  · exact ⟨none, 0, rfl, Nat.le_refl _, by simp [maxLen], hlX, fun hn => absurd hn (by omega)⟩
  · refine ⟨some ⟨g, 0, none⟩, cap, rfl, hnc, hcm, hlX, fun _ => ⟨g, 0, rfl, h.top g rfl, fun j x hx => ?_⟩⟩
    obtain ⟨u, hu, hf⟩ := h2.at_ j x hx
    refine ⟨u, ?_, hf⟩
    rw [Nat.zero_add, cell_of_row w g j cur T (0, 0) hh, ← Array.getElem?_toList]
    rw [← htake, List.getElem?_take] at hu
    split at hu
    · exact hu
    · cases hu
theorem Ow.keep {w w' : World} {lo hi : Nat} {T : TypeId} {size : Nat} {v : Value} {n : Nat} {X : List Nat} (h : Ow w lo hi T size v n X) (hs : w.heap.size ≤ w'.heap.size) (hk : ∀ k, lo ≤ k → k < hi → w'.heap[k]? = w.heap[k]?) : Ow w' lo hi T size v n X := by
  obtain ⟨xs, ⟨hl, h1⟩, h2⟩ := h.own
  refine ⟨⟨xs, ⟨hl, ?_⟩, h2⟩, h.top, Nat.le_trans h.hiw hs⟩
  rcases h1 with h1 | ⟨g, cap, cur, rfl, hg, hh, r⟩
  · exact .inl h1
  · exact .inr ⟨g, cap, cur, rfl, hg, by rw [hk g hg (h.top g rfl)]; exact hh, r⟩
theorem Ow.below {w w' : World} {B lo hi : Nat} {T : TypeId} {size : Nat} {v : Value} {n : Nat} {X : List Nat} (h : Ow w lo hi T size v n X) (hb : Below B w w') (hB : hi ≤ B) : Ow w' lo hi T size v n X :=
  h.keep hb.size fun k _ hk => hb.block k (by omega)
theorem Ow.more {w : World} {lo lo' hi hi' : Nat} {T : TypeId} {size : Nat} {v : Value} {n : Nat} {X : List Nat} (h : Ow w lo hi T size v n X) (hl : lo' ≤ lo) (hh : hi ≤ hi') (hw : hi' ≤ w.heap.size) : Ow w lo' hi' T size v n X := by
  obtain ⟨xs, ⟨hlen, h1⟩, h2⟩ := h.own
  refine ⟨⟨xs, ⟨hlen, ?_⟩, h2⟩, fun g hg => Nat.lt_of_lt_of_le (h.top g hg) hh, hw⟩
  rcases h1 with h1 | ⟨g, cap, cur, rfl, hg, r⟩
  · exact .inl h1
  · exact .inr ⟨g, cap, cur, rfl, by omega, r⟩

/-- Block g is just the cells cs of element type t, none frozen. -/
def Blk (w : World) (g : Nat) (t : TypeId) (cs : Array Value) : Prop := w.heap[g]? = some (.cells cs t (0, 0))
section
variable {w w' : World} {g : Nat} {t : TypeId} {cs : Array Value}
theorem Blk.lt (h : Blk w g t cs) : g < w.heap.size := by
  rcases Nat.lt_or_ge g w.heap.size with hlt | hge
  · exact hlt
  · unfold Blk at h; rw [Array.getElem?_eq_none hge] at h; cases h
theorem Blk.cell (h : Blk w g t cs) (i : Nat) : w.cell? ⟨g, i, none⟩ = cs[i]? := cell_of_row w g i cs t (0, 0) h
theorem Blk.frozen (h : Blk w g t cs) (i : Nat) : w.frozen? ⟨g, i, none⟩ = false := by
  unfold Blk at h
  simp [World.frozen?, h]
theorem Blk.set_ (h : Blk w g t cs) (i : Nat) (u : Value) : Blk (w.setCell ⟨g, i, none⟩ u) g t (cs.setIfInBounds i u) := by
  unfold Blk at h ⊢
  simp [World.setCell, Array.getElem?_modify, h]
theorem Blk.below {B : Nat} (h : Blk w g t cs) (hb : Below B w w') (hg : g < B) : Blk w' g t cs := (hb.block g hg).trans h
end

/-- The cells up to m stand for X up to m. -/
def CellsTo (cs : Array Value) (X : List Nat) (m : Nat) : Prop := ∀ j x, j < m → X[j]? = some x → ∃ u : Nat, cs[j]? = some (Value.float .f32 u) ∧ Fb .f32 x u
theorem CellsTo.zero (cs : Array Value) (X : List Nat) : CellsTo cs X 0 := fun j x h => absurd h (by omega)
theorem CellsTo.step {cs : Array Value} {X : List Nat} {m x u : Nat} (h : CellsTo cs X m) (hm : m < cs.size) (hx : X[m]? = some x) (hu : Fb .f32 x u) : CellsTo (cs.setIfInBounds m (Value.float .f32 u)) X (m + 1) := by
  intro j y hj hy
  by_cases hjm : j = m
  · subst hjm
    rw [hx] at hy
    injection hy with hy
    subst hy
    exact ⟨u, by simp [hm], hu⟩
  · obtain ⟨v, hv, hf⟩ := h j y (by omega) hy
    refine ⟨v, ?_, hf⟩
    rw [Array.getElem?_setIfInBounds, if_neg (by omega)]
    exact hv

/-- What a loop that fills a slice of its own has done after k rounds. -/
def Filled (w wr : World) (T size n k : Nat) (X : List Nat) : Prop :=
  Below w.heap.size w wr ∧ w.heap.size < wr.heap.size ∧ ∃ cs : Array Value, Blk wr w.heap.size T cs ∧ cs.size = n * size ∧ CellsTo cs X (k * size)

theorem Filled.start {w wm : World} {T : TypeId} {size n : Nat} {X : List Nat} {ys : List Value} (hown : wm.ownsRow w.heap.size T size (.slice (some ⟨w.heap.size, 0, none⟩) n n) n ys) (hg : w.grownBy wm none) : Filled w wm T size n 0 X := by
  rcases hown.2 with ⟨h, _⟩ | ⟨g, cap, cur, hv, hgb, hh, hnc, hcm, hcs, _⟩
  · cases h
  · injection hv with h1 h2 h3
    injection h1 with h1
    injection h1 with h1 h4
    subst h1
    subst h3
    refine ⟨(Below.refl _ _).grown hg (Nat.le_refl _) (fun k h => by cases h), ?_, cur, hh, hcs, by rw [Nat.zero_mul]; exact CellsTo.zero _ _⟩
    exact Blk.lt (t := T) (cs := cur) hh
theorem Filled.done {w wr : World} {T : TypeId} {size n : Nat} {X : List Nat} (h : Filled w wr T size n n X) (hl : X.length = n * size) (hn : n ≤ maxLen) : Ow wr w.heap.size wr.heap.size T size (.slice (some ⟨w.heap.size, 0, none⟩) n n) n X := by
  obtain ⟨hb, hlt, cs, hblk, hsz, hc⟩ := h
  refine ⟨⟨cs.toList, ⟨by simpa using hsz, .inr ⟨w.heap.size, n, cs, rfl, Nat.le_refl _, hblk, Nat.le_refl _, hn, hsz, List.take_of_length_le (by simp [hsz])⟩⟩, by simp [hsz, hl], fun i x hx => ?_⟩, fun g hg => ?_, Nat.le_refl _⟩
  · have hi : i < X.length := (List.getElem?_eq_some_iff.1 hx).1
    obtain ⟨u, hu, hf⟩ := hc i x (by omega) hx
    exact ⟨u, by simpa using hu, hf⟩
  · simp [Value.ownBlock] at hg
    omega

theorem Filled.step1 {w wr w1 : World} {T : TypeId} {n k : Nat} {X : List Nat} {x0 r0 : Nat} {cs : Array Value} (hk : k < n) (hbw : Below w.heap.size w wr) (hlt : w.heap.size < wr.heap.size) (hblk : Blk wr w.heap.size T cs) (hcs : cs.size = n * 1) (hct : CellsTo cs X (k * 1))
    (hb : Below wr.heap.size wr w1) (hx0 : X[k * 1]? = some x0) (hr0 : Fb .f32 x0 r0) : Filled w (w1.setCell ⟨w.heap.size, k * 1, none⟩ (.float .f32 r0)) T 1 n (k + 1) X := by
  have hz := hb.size
  refine ⟨((hbw.trans (hb.mono (by omega))).setCell (Nat.le_refl _) _), ?_, _, ((hblk.below hb hlt).set_ (k * 1) (.float .f32 r0)), by simpa using hcs, ?_⟩
  · simp [World.setCell]; omega
  · have e : (k + 1) * 1 = k * 1 + 1 := by omega
    rw [e]
    exact (hct.step (by simp [hcs]; omega) hx0 hr0)
theorem Filled.step3 {w wr w1 : World} {T : TypeId} {n k : Nat} {X : List Nat} {x0 x1 x2 r0 r1 r2 : Nat} {cs : Array Value} (hk : k < n) (hbw : Below w.heap.size w wr) (hlt : w.heap.size < wr.heap.size) (hblk : Blk wr w.heap.size T cs) (hcs : cs.size = n * 3) (hct : CellsTo cs X (k * 3))
    (hb : Below wr.heap.size wr w1) (hx0 : X[k * 3]? = some x0) (hx1 : X[k * 3 + 1]? = some x1) (hx2 : X[k * 3 + 2]? = some x2) (hr0 : Fb .f32 x0 r0) (hr1 : Fb .f32 x1 r1) (hr2 : Fb .f32 x2 r2) : Filled w (((w1.setCell ⟨w.heap.size, k * 3, none⟩ (.float .f32 r0)).setCell ⟨w.heap.size, k * 3 + 1, none⟩ (.float .f32 r1)).setCell ⟨w.heap.size, k * 3 + 2, none⟩ (.float .f32 r2)) T 3 n (k + 1) X := by
  have hz := hb.size
  refine ⟨((((hbw.trans (hb.mono (by omega))).setCell (Nat.le_refl _) _).setCell (Nat.le_refl _) _).setCell (Nat.le_refl _) _), ?_, _, ((((hblk.below hb hlt).set_ (k * 3) (.float .f32 r0)).set_ (k * 3 + 1) (.float .f32 r1)).set_ (k * 3 + 2) (.float .f32 r2)), by simpa using hcs, ?_⟩
  · simp [World.setCell]; omega
  · have e : (k + 1) * 3 = k * 3 + 1 + 1 + 1 := by omega
    rw [e]
    exact (((hct.step (by simp [hcs]; omega) hx0 hr0).step (by simp [hcs]; omega) hx1 hr1).step (by simp [hcs]; omega) hx2 hr2)
theorem Filled.step4 {w wr w1 : World} {T : TypeId} {n k : Nat} {X : List Nat} {x0 x1 x2 x3 r0 r1 r2 r3 : Nat} {cs : Array Value} (hk : k < n) (hbw : Below w.heap.size w wr) (hlt : w.heap.size < wr.heap.size) (hblk : Blk wr w.heap.size T cs) (hcs : cs.size = n * 4) (hct : CellsTo cs X (k * 4))
    (hb : Below wr.heap.size wr w1) (hx0 : X[k * 4]? = some x0) (hx1 : X[k * 4 + 1]? = some x1) (hx2 : X[k * 4 + 2]? = some x2) (hx3 : X[k * 4 + 3]? = some x3) (hr0 : Fb .f32 x0 r0) (hr1 : Fb .f32 x1 r1) (hr2 : Fb .f32 x2 r2) (hr3 : Fb .f32 x3 r3) : Filled w ((((w1.setCell ⟨w.heap.size, k * 4, none⟩ (.float .f32 r0)).setCell ⟨w.heap.size, k * 4 + 1, none⟩ (.float .f32 r1)).setCell ⟨w.heap.size, k * 4 + 2, none⟩ (.float .f32 r2)).setCell ⟨w.heap.size, k * 4 + 3, none⟩ (.float .f32 r3)) T 4 n (k + 1) X := by
  have hz := hb.size
  refine ⟨(((((hbw.trans (hb.mono (by omega))).setCell (Nat.le_refl _) _).setCell (Nat.le_refl _) _).setCell (Nat.le_refl _) _).setCell (Nat.le_refl _) _), ?_, _, (((((hblk.below hb hlt).set_ (k * 4) (.float .f32 r0)).set_ (k * 4 + 1) (.float .f32 r1)).set_ (k * 4 + 2) (.float .f32 r2)).set_ (k * 4 + 3) (.float .f32 r3)), by simpa using hcs, ?_⟩
  · simp [World.setCell]; omega
  · have e : (k + 1) * 4 = k * 4 + 1 + 1 + 1 + 1 := by omega
    rw [e]
    exact ((((hct.step (by simp [hcs]; omega) hx0 hr0).step (by simp [hcs]; omega) hx1 hr1).step (by simp [hcs]; omega) hx2 hr2).step (by simp [hcs]; omega) hx3 hr3)

/-- Only the blocks from lo on, before hi, and new ones, have turned. -/
structure Only (lo hi : Nat) (w w' : World) : Prop where
  os : w'.os = w.os
  tape : w'.tape = w.tape
  output : w'.output = w.output
  size : w.heap.size ≤ w'.heap.size
  block : ∀ k, k < w.heap.size → (k < lo ∨ hi ≤ k) → w'.heap[k]? = w.heap[k]?
theorem Only.refl (lo hi : Nat) (w : World) : Only lo hi w w := ⟨rfl, rfl, rfl, Nat.le_refl _, fun _ _ _ => rfl⟩
theorem Only.set_ {lo hi : Nat} {w w' : World} (h : Only lo hi w w') {g : Nat} (h1 : lo ≤ g) (h2 : g < hi) (i : Nat) (u : Value) : Only lo hi w (w'.setCell ⟨g, i, none⟩ u) :=
  ⟨h.os, h.tape, h.output, by simpa [World.setCell] using h.size, fun k hk hor => (Below.heap_setCell w' ⟨g, i, none⟩ u k (by show k ≠ g; omega)).trans (h.block k hk hor)⟩
theorem Only.below {lo hi B : Nat} {w w' : World} (h : Only lo hi w w') (hB : B ≤ lo) (hw : B ≤ w.heap.size) : Below B w w' := ⟨h.os, h.tape, h.output, h.size, fun k hk => h.block k (by omega) (by omega)⟩
theorem Only.cell {lo hi g : Nat} {w w' : World} (h : Only lo hi w w') (hg : g < w.heap.size) (hor : g < lo ∨ hi ≤ g) (o : Nat) : w'.cell? ⟨g, o, none⟩ = w.cell? ⟨g, o, none⟩ := World.cell?_of_block (w := w) (a := ⟨g, o, none⟩) (h.block g hg hor)
theorem Only.ow {lo hi lo' hi' : Nat} {w w' : World} {T : TypeId} {size : Nat} {v : Value} {n : Nat} {X : List Nat} (h : Only lo hi w w') (ho : Ow w lo' hi' T size v n X) (hd : hi' ≤ lo ∨ hi ≤ lo') : Ow w' lo' hi' T size v n X :=
  ho.keep h.size fun k h1 h2 => h.block k (by have := ho.hiw; omega) (by omega)
theorem Only.rd {lo hi B size n : Nat} {w w' : World} {A : Option Addr} {X : List Nat} (h : Only lo hi w w') (hr : Rd w B size A n X) (hd : B ≤ lo) (hB : B ≤ w.heap.size) : Rd w' B size A n X :=
  hr.keep fun k hk => h.block k (by omega) (by omega)

/-- What marking writes: the numbers from K on. -/
def marks (K : Int) (m : Nat) : List Nat := (List.range m).map fun (j : Nat) => floatOfInt .f32 (K + (j : Int))
theorem marks_len (K : Int) (m : Nat) : (marks K m).length = m := by simp [marks]
theorem marks_at (K : Int) {m j : Nat} (h : j < m) : (marks K m)[j]? = some (floatOfInt .f32 (K + (j : Int))) := by simp [marks, h]
theorem order_mark (n : Int) : FloatKind.f32.format.order (floatOfInt .f32 n) (floatOfInt .f32 n) = some .eq := by
  have h : isNan .f32 (floatOfInt .f32 n) = false := encode_num .f32 (d := .number (n < 0) n.natAbs 0) rfl
  unfold isNan at h
  unfold Ieee.Format.order
  cases he : FloatKind.f32.format.read (floatOfInt .f32 n) with
  | nan s t => rw [he] at h; cases h
  | infinity s => cases s <;> rfl
  | number s m e => simp [Ieee.Datum.order]
theorem mark_bits {n : Int} {u : Nat} (h : Fb .f32 (floatOfInt .f32 n) u) : u = floatOfInt .f32 n := by
  have hn : isNan .f32 (floatOfInt .f32 n) = false := encode_num .f32 (d := .number (n < 0) n.natAbs 0) rfl
  rw [← h.can, can_num (by rw [h.nan]; exact hn)]

/-- An owned slice of one element or more is the head of a block. -/
theorem Ow.block {w : World} {lo hi : Nat} {T : TypeId} {size : Nat} {v : Value} {n : Nat} {X : List Nat} (h : Ow w lo hi T size v n X) (hn : 0 < n) :
    ∃ g c cs, v = .slice (some ⟨g, 0, none⟩) n c ∧ lo ≤ g ∧ g < hi ∧ Blk w g T cs ∧ n ≤ c ∧ c ≤ maxLen ∧ cs.size = c * size := by
  obtain ⟨xs, ⟨hl, h1⟩, h2⟩ := h.own
  rcases h1 with ⟨rfl, rfl⟩ | ⟨g, cap, cur, rfl, hg, hh, hnc, hcm, hcs, htake⟩
  · omega
  · exact ⟨g, cap, cur, rfl, hg, h.top g rfl, hh, hnc, hcm, hcs⟩

/-- What a loop that marks a slice has done after k rounds. -/
def Marking (w wr : World) (lo hi g : Nat) (T size c n k : Nat) (K : Int) : Prop :=
  Only lo hi w wr ∧ ∃ cs : Array Value, Blk wr g T cs ∧ cs.size = c * size ∧ CellsTo cs (marks K (n * size)) (k * size)
theorem Marking.done {w wr : World} {lo hi g T size c n : Nat} {K : Int} (h : Marking w wr lo hi g T size c n n K) (hg : lo ≤ g) (hg2 : g < hi) (hnc : n ≤ c) (hc : c ≤ maxLen) (hw : hi ≤ w.heap.size) :
    Ow wr lo hi T size (.slice (some ⟨g, 0, none⟩) n c) n (marks K (n * size)) := by
  obtain ⟨ho, cs, hb, hs, hct⟩ := h
  have hmul : n * size ≤ c * size := Nat.mul_le_mul_right _ hnc
  refine ⟨⟨cs.toList.take (n * size), ⟨by rw [List.length_take, Array.length_toList, hs]; exact Nat.min_eq_left hmul, .inr ⟨g, c, cs, rfl, hg, hb, hnc, hc, hs, rfl⟩⟩, by rw [List.length_take, Array.length_toList, hs, marks_len]; exact Nat.min_eq_left hmul, fun i x hx => ?_⟩, fun k hk => ?_, Nat.le_trans hw ho.size⟩
  · have hi : i < n * size := by have := (List.getElem?_eq_some_iff.1 hx).1; rwa [marks_len] at this
    obtain ⟨u, hu, hf⟩ := hct i x hi hx
    exact ⟨u, by rw [List.getElem?_take, if_pos hi]; simpa using hu, hf⟩
  · simp [Value.ownBlock] at hk
    omega

theorem Marking.step1 {w wr : World} {lo hi g T c n k : Nat} {K : Int} (hk : k < n) (hnc : n ≤ c) (hg : lo ≤ g) (hg2 : g < hi) (h : Marking w wr lo hi g T 1 c n k K) : Marking w (wr.setCell ⟨g, k * 1, none⟩ (.float .f32 (floatOfInt .f32 (K + 1 * (k : Int))))) lo hi g T 1 c n (k + 1) K := by
  obtain ⟨ho, cs, hb, hs, hct⟩ := h
  refine ⟨(ho.set_ hg hg2 _ _), _, (hb.set_ (k * 1) (.float .f32 (floatOfInt .f32 (K + 1 * (k : Int))))), by simpa using hs, ?_⟩
  have e : (k + 1) * 1 = k * 1 + 1 := by omega
  rw [e]
  exact (hct.step (by simp [hs]; omega) (by rw [marks_at _ (by omega)]; exact congrArg (fun z => some (floatOfInt .f32 z)) (by omega)) (Fb_ofInt _ _))

theorem Marking.step3 {w wr : World} {lo hi g T c n k : Nat} {K : Int} (hk : k < n) (hnc : n ≤ c) (hg : lo ≤ g) (hg2 : g < hi) (h : Marking w wr lo hi g T 3 c n k K) : Marking w (((wr.setCell ⟨g, k * 3, none⟩ (.float .f32 (floatOfInt .f32 (K + 3 * (k : Int))))).setCell ⟨g, k * 3 + 1, none⟩ (.float .f32 (floatOfInt .f32 (K + 3 * (k : Int) + 1)))).setCell ⟨g, k * 3 + 2, none⟩ (.float .f32 (floatOfInt .f32 (K + 3 * (k : Int) + 1 + 1)))) lo hi g T 3 c n (k + 1) K := by
  obtain ⟨ho, cs, hb, hs, hct⟩ := h
  refine ⟨(((ho.set_ hg hg2 _ _).set_ hg hg2 _ _).set_ hg hg2 _ _), _, (((hb.set_ (k * 3) (.float .f32 (floatOfInt .f32 (K + 3 * (k : Int))))).set_ (k * 3 + 1) (.float .f32 (floatOfInt .f32 (K + 3 * (k : Int) + 1)))).set_ (k * 3 + 2) (.float .f32 (floatOfInt .f32 (K + 3 * (k : Int) + 1 + 1)))), by simpa using hs, ?_⟩
  have e : (k + 1) * 3 = k * 3 + 1 + 1 + 1 := by omega
  rw [e]
  exact (((hct.step (by simp [hs]; omega) (by rw [marks_at _ (by omega)]; exact congrArg (fun z => some (floatOfInt .f32 z)) (by omega)) (Fb_ofInt _ _)).step (by simp [hs]; omega) (by rw [marks_at _ (by omega)]; exact congrArg (fun z => some (floatOfInt .f32 z)) (by omega)) (Fb_ofInt _ _)).step (by simp [hs]; omega) (by rw [marks_at _ (by omega)]; exact congrArg (fun z => some (floatOfInt .f32 z)) (by omega)) (Fb_ofInt _ _))

theorem Marking.step4 {w wr : World} {lo hi g T c n k : Nat} {K : Int} (hk : k < n) (hnc : n ≤ c) (hg : lo ≤ g) (hg2 : g < hi) (h : Marking w wr lo hi g T 4 c n k K) : Marking w ((((wr.setCell ⟨g, k * 4, none⟩ (.float .f32 (floatOfInt .f32 (K + 4 * (k : Int))))).setCell ⟨g, k * 4 + 1, none⟩ (.float .f32 (floatOfInt .f32 (K + 4 * (k : Int) + 1)))).setCell ⟨g, k * 4 + 2, none⟩ (.float .f32 (floatOfInt .f32 (K + 4 * (k : Int) + 1 + 1)))).setCell ⟨g, k * 4 + 3, none⟩ (.float .f32 (floatOfInt .f32 (K + 4 * (k : Int) + 1 + 1 + 1)))) lo hi g T 4 c n (k + 1) K := by
  obtain ⟨ho, cs, hb, hs, hct⟩ := h
  refine ⟨((((ho.set_ hg hg2 _ _).set_ hg hg2 _ _).set_ hg hg2 _ _).set_ hg hg2 _ _), _, ((((hb.set_ (k * 4) (.float .f32 (floatOfInt .f32 (K + 4 * (k : Int))))).set_ (k * 4 + 1) (.float .f32 (floatOfInt .f32 (K + 4 * (k : Int) + 1)))).set_ (k * 4 + 2) (.float .f32 (floatOfInt .f32 (K + 4 * (k : Int) + 1 + 1)))).set_ (k * 4 + 3) (.float .f32 (floatOfInt .f32 (K + 4 * (k : Int) + 1 + 1 + 1)))), by simpa using hs, ?_⟩
  have e : (k + 1) * 4 = k * 4 + 1 + 1 + 1 + 1 := by omega
  rw [e]
  exact ((((hct.step (by simp [hs]; omega) (by rw [marks_at _ (by omega)]; exact congrArg (fun z => some (floatOfInt .f32 z)) (by omega)) (Fb_ofInt _ _)).step (by simp [hs]; omega) (by rw [marks_at _ (by omega)]; exact congrArg (fun z => some (floatOfInt .f32 z)) (by omega)) (Fb_ofInt _ _)).step (by simp [hs]; omega) (by rw [marks_at _ (by omega)]; exact congrArg (fun z => some (floatOfInt .f32 z)) (by omega)) (Fb_ofInt _ _)).step (by simp [hs]; omega) (by rw [marks_at _ (by omega)]; exact congrArg (fun z => some (floatOfInt .f32 z)) (by omega)) (Fb_ofInt _ _))

/-- A slice literal. -/
theorem Ow.lit {w0 : World} {lo n T size : Nat} {cs : Array Value} {X : List Nat} (hlo : lo ≤ w0.heap.size) (hsz : cs.size = n * size) (hn : n ≤ maxLen) (hf : FL X cs.toList) :
    Ow (w0.alloc (.cells cs T)) lo (w0.alloc (.cells cs T)).heap.size T size (.slice (some ⟨w0.heap.size, 0, none⟩) n n) n X :=
  ⟨⟨cs.toList, ⟨by simpa using hsz, .inr ⟨w0.heap.size, n, cs, rfl, hlo, heap_alloc_new w0 _, Nat.le_refl _, hn, hsz, List.take_of_length_le (by simp [hsz])⟩⟩, hf⟩, fun g hg => by
    simp [Value.ownBlock] at hg
    subst hg
    simp, Nat.le_refl _⟩
theorem Ow.lit' {w0 : World} {g lo n T size : Nat} {l : List Value} {X : List Nat} (hg : w0.heap.size = g) (hlo : lo ≤ g) (hsz : l.length = n * size) (hn : n ≤ maxLen) (hf : FL X l) :
    Ow (w0.alloc (.cells l.toArray T)) lo (w0.alloc (.cells l.toArray T)).heap.size T size (.slice (some ⟨g, 0, none⟩) n n) n X := by
  subst hg
  exact Ow.lit hlo (by simpa using hsz) hn (by simpa using hf)
theorem some_at {X : List Nat} {i : Nat} (h : i < X.length) : ∃ x, X[i]? = some x := ⟨_, List.getElem?_eq_getElem h⟩
theorem some_cell {cs : Array Value} {i : Nat} (h : i < cs.size) : ∃ x, cs[i]? = some x := ⟨_, Array.getElem?_eq_getElem h⟩

/-- The call returns a new slice of n elements that reads as X, a block of its own; nothing that was there has turned. -/
def RetS (T : TypeId) (size n : Nat) (X : List Nat) (w : World) (e : Ending) (w' : World) : Prop := ∃ v, e = .returned v ∧ Ow w' w.heap.size w'.heap.size T size v n X ∧ Below w.heap.size w w'
/-- The same with true behind it. -/
def RetSB (T : TypeId) (size n : Nat) (X : List Nat) (ok : Bool) (w : World) (e : Ending) (w' : World) : Prop := ∃ v, e = .returned (.tuple #[v, .bool ok]) ∧ Ow w' w.heap.size w'.heap.size T size v n X ∧ Below w.heap.size w w'

end Go.Proofs.Ythnlpbfheefldaa
