/-
  Arguments opened: floats, vectors, dipoles, poles, by value. Conditions: none.
-/
import Derived.Test.YtokhbfbanofchaaRows
import Derived.Test.YtokhbfbanofchaaBA
import Derived.ProofKit
import Derived.OpenShut
import Derived.ChangeOld
import Derived.Deep.Slices
namespace Go.Proofs.Ytokhbfbanofchaa
open Go Go.RowKit Go.ChangeShapes Go.WideShapes
set_option maxRecDepth 100000

section
variable {H : Type} {enc : TypeId × Value → H} {P : Program} {w : World} {base : Nat} {spare : Nat → Bool} {held : Bool} {fuel : Nat} {t : TypeId} {cs : List Value} {x : DataW H × List MemPlace}

theorem trodF {k : FloatKind} (ht : P.underlying t = some (.float k)) (h : DataW.trod enc P w base spare held fuel t cs = some x) : ∃ b, cs = [.float k b] ∧ Fb k (can k b) b := by
  cases fuel with
  | zero => simp [DataW.trod] at h
  | succ n =>
    unfold DataW.trod at h
    rw [ht] at h
    simp only at h
    split at h
    case h_3 =>
      rename_i k1 k2 b hq
      injection hq with hq
      injection hq with hq
      subst hq
      split at h
      · rename_i hw
        obtain ⟨rfl, hw2⟩ := hw
        exact ⟨_, rfl, Fb.of_wf hw2⟩
      · cases h
    all_goals first | (cases h; done) | (rename_i hq; cases hq)

theorem list1 {l : List Value} {c : Value} (n : Nat) (h : (l.drop n).take 1 = [c]) : l[n]? = some c := by
  have : ((l.drop n).take 1)[0]? = some c := by rw [h]; rfl
  simpa [List.getElem?_take, List.getElem?_drop] using this
theorem list3 {l : List Value} {a b c : Value} (n : Nat) (h : (l.drop n).take 3 = [a, b, c]) : l[n]? = some a ∧ l[n + 1]? = some b ∧ l[n + 2]? = some c := by
  have h0 : ((l.drop n).take 3)[0]? = some a := by rw [h]; rfl
  have h1 : ((l.drop n).take 3)[1]? = some b := by rw [h]; rfl
  have h2 : ((l.drop n).take 3)[2]? = some c := by rw [h]; rfl
  refine ⟨?_, ?_, ?_⟩
  · simpa [List.getElem?_take, List.getElem?_drop] using h0
  · simpa [List.getElem?_take, List.getElem?_drop] using h1
  · simpa [List.getElem?_take, List.getElem?_drop] using h2

/-- A struct of three floats. -/
theorem trod3F {f : TypeId} {n0 n1 n2 : Field} (hs : P.underlying t = some (.struct #[n0, n1, n2])) (hf : P.underlying f = some (.float .f32)) (hc : P.cellsOf f = 1) (hC : P.cellsOf t = 3)
    (h0 : n0.type = f ∧ n0.offset = 0) (h1 : n1.type = f ∧ n1.offset = 1) (h2 : n2.type = f ∧ n2.offset = 2) (h : DataW.trod enc P w base spare held fuel t cs = some x) :
    ∃ a b c, cs = [.float .f32 a, .float .f32 b, .float .f32 c] ∧ Fb .f32 (can .f32 a) a ∧ Fb .f32 (can .f32 b) b ∧ Fb .f32 (can .f32 c) c := by
  obtain ⟨xs, n, _, _, hl, hlen, hg⟩ := DataW.trod_struct hs h
  rw [hC] at hl
  match xs, hlen with
  | [y0, y1, y2], _ =>
    have g0 := hg 0 n0 rfl
    have g1 := hg 1 n1 rfl
    have g2 := hg 2 n2 rfl
    rw [h0.1, h0.2, hc] at g0
    rw [h1.1, h1.2, hc] at g1
    rw [h2.1, h2.2, hc] at g2
    obtain ⟨a, e0, ha⟩ := trodF hf g0
    obtain ⟨b, e1, hb⟩ := trodF hf g1
    obtain ⟨c, e2, hc'⟩ := trodF hf g2
    have k0 := list1 _ e0
    have k1 := list1 _ e1
    have k2 := list1 _ e2
    match cs, hl with
    | [c0, c1, c2], _ =>
      simp at k0 k1 k2
      subst k0; subst k1; subst k2
      exact ⟨a, b, c, rfl, ha, hb, hc'⟩

end
section
variable {H : Type} {enc : TypeId × Value → H} {w : World} {base : Nat} {spare : Nat → Bool} {held : Bool} {fuel : Nat} {cs : List Value} {x : DataW H × List MemPlace}

theorem trodVec (h : DataW.trod enc Try.prog w base spare held fuel 24 cs = some x) :
    ∃ a b c, cs = [.float .f32 a, .float .f32 b, .float .f32 c] ∧ Fb .f32 (can .f32 a) a ∧ Fb .f32 (can .f32 b) b ∧ Fb .f32 (can .f32 c) c :=
  trod3F Try.underlying24 Try.underlying22 (by kernel_rfl) (by kernel_rfl) ⟨rfl, rfl⟩ ⟨rfl, rfl⟩ ⟨rfl, rfl⟩ h




variable {r : Reach} {b0 : Nat} {v : Value} {d : DataW H} {p : List MemPlace}
theorem openVec (hv : Value.okWide Try.prog w r b0 24 v) (h : DataW.Trod enc Try.prog w base spare held 24 v d p) : ∃ A, Vb A v := by
  obtain ⟨⟨l⟩, rfl, _⟩ := okWide_struct Try.underlying24 hv
  obtain ⟨fuel, hf⟩ := h
  obtain ⟨a, b, c, e, ha, hb, hc⟩ := trodVec hf
  have e' : l = _ := e
  subst e'
  exact ⟨_, Vb.of ha hb hc⟩
end
theorem list_of_cells {w : World} {a : Addr} (n m : Nat) (h : ∀ i, i < n → ∃ L : List Nat, L.length = m ∧ ∀ j, j < m → ∃ x : Nat, w.cell? ((a.add (i * m)).add j) = some (Value.float .f32 (L.getD j 0)) ∧ Fb .f32 x (L.getD j 0)) :
    ∃ X : List Nat, X.length = n * m ∧ ∀ (j x : Nat), X[j]? = some x → ∃ u : Nat, w.cell? (a.add j) = some (Value.float .f32 u) ∧ Fb .f32 x u := by
  induction n with
  | zero => exact ⟨[], by simp, fun j x h => by simp at h⟩
  | succ n ih =>
    obtain ⟨X, hX, hc⟩ := ih (fun i hi => h i (by omega))
    obtain ⟨L, hL, hl⟩ := h n (by omega)
    refine ⟨X ++ L.map (can .f32), by simp [hX, hL]; rw [Nat.succ_mul], fun j x hx => ?_⟩
    by_cases hj : j < X.length
    · rw [List.getElem?_append_left hj] at hx
      exact hc j x hx
    · rw [List.getElem?_append_right (by omega)] at hx
      have hjm : j - X.length < m := by
        have := (List.getElem?_eq_some_iff.1 hx).1
        simpa [hL] using this
      obtain ⟨y, h1, h2⟩ := hl _ hjm
      have hd : L[j - X.length]? = some (L.getD (j - X.length) 0) := by
        rw [List.getD_eq_getElem?_getD, List.getElem?_eq_getElem (by omega)]
        rfl
      rw [List.getElem?_map, hd] at hx
      simp only [Option.map_some, Option.some.injEq] at hx
      refine ⟨_, ?_, ⟨h2.lt, hx⟩⟩
      rw [add_of_add] at h1
      rw [← h1, hX]
      congr 2
      omega
theorem rd_of_cells {w : World} {a : Addr} {n m : Nat} {X : List Nat} (hm : 0 < m) (h : X.length = n * m ∧ ∀ (j x : Nat), X[j]? = some x → ∃ u : Nat, w.cell? (a.add j) = some (Value.float .f32 u) ∧ Fb .f32 x u) : Rd w w.heap.size m (some a) n X := by
  refine ⟨h.1, fun hn => ?_⟩
  have hpos : 0 < X.length := by rw [h.1]; exact Nat.mul_pos hn hm
  obtain ⟨x, hx⟩ := some_at hpos
  obtain ⟨u, hu, _⟩ := h.2 0 x hx
  obtain ⟨b, o, s⟩ := a
  have hs : s = none := World.cell?_spot (by simpa [Addr.add] using hu)
  subst hs
  refine ⟨b, o, rfl, ?_, fun j y hy => ?_⟩
  · rcases Nat.lt_or_ge b w.heap.size with hlt | hge
    · exact hlt
    · have : w.cell? ⟨b, o, none⟩ = none := by simp [World.cell?, hge]
      rw [show (⟨b, o, none⟩ : Addr).add 0 = ⟨b, o, none⟩ from rfl] at hu
      rw [this] at hu
      cases hu
  · obtain ⟨v, hv, hf⟩ := h.2 j y hy
    exact ⟨v, by rw [← hv, Addr.add_lit], hf⟩
section
variable {H : Type} {enc : TypeId × Value → H} {w : World} {base : Nat} {spare : Nat → Bool} {held : Bool} {r : Reach} {b0 : Nat} {v : Value} {d : DataW H} {p : List MemPlace}
theorem openVecS (hv : Value.okWide Try.prog w r b0 44 v) (h : DataW.Trod enc Try.prog w base spare held 44 v d p) : ∃ A n c X, v = .slice A n c ∧ Rd w w.heap.size 3 A n X ∧ n ≤ maxLen := by
  obtain ⟨A, n, c, rfl⟩ := okWide_slice Try.underlying44 hv
  obtain ⟨fuel, hf⟩ := h
  have hC : Try.prog.cellsOf 24 = 3 := by kernel_rfl
  rcases Go.Deep.open_slice Try.underlying44 hf with ⟨e, _⟩ | ⟨a, len, cap, m, n2, D, Pl, e, _, hl, hm, hmm, _, hx⟩
  · have e' : [Value.slice A n c] = _ := e
    injection e' with e1
    injection e1 with e2 e3 e4
    subst e2; subst e3; subst e4
    exact ⟨none, 0, 0, [], rfl, ⟨by simp, fun h => absurd h (by omega)⟩, by simp [maxLen]⟩
  · have e' : [Value.slice A n c] = _ := e
    injection e' with e1
    injection e1 with e2 e3 e4
    subst e2; subst e3; subst e4
    have hmn : n ≤ m := by rw [hmm]; split <;> omega
    obtain ⟨X, hX⟩ := list_of_cells (w := w) (a := a) n 3 (fun i hi => by
      obtain ⟨cs', h1, h2⟩ := hx i (by omega)
      rw [hC] at h1
      obtain ⟨_, _, hat⟩ := World.cells?_some h1
      obtain ⟨a, b, c, e0, ha, hb, hc⟩ := trodVec h2
      subst e0
      exact ⟨[a, b, c], rfl, fun j hj => by
        have := hat j hj
        match j, hj with
        | 0, _ => exact ⟨_, this, ha⟩
        | 1, _ => exact ⟨_, this, hb⟩
        | 2, _ => exact ⟨_, this, hc⟩⟩)
    exact ⟨some a, n, c, X, rfl, rd_of_cells (by omega) hX, by omega⟩
theorem openF32 (hv : Value.okWide Try.prog w r b0 22 v) (h : DataW.Trod enc Try.prog w base spare held 22 v d p) : ∃ X x, v = .float .f32 x ∧ Fb .f32 X x := by
  obtain ⟨x, rfl⟩ := okWide_float Try.underlying22 hv
  obtain ⟨fuel, hf⟩ := h
  obtain ⟨b, e, hb⟩ := trodF Try.underlying22 hf
  have e' : [Value.float .f32 x] = _ := e
  injection e' with e1
  injection e1 with _ e2
  subst e2
  exact ⟨_, _, rfl, hb⟩
theorem own : ownKnob Try.prog.godebug = none := by kernel_rfl
theorem laidOut : laidOutB Try.prog = true := by kernel_rfl
end
end Go.Proofs.Ytokhbfbanofchaa
