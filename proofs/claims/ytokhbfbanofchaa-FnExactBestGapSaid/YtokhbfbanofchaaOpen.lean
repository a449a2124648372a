/-
  Arguments opened: floats, vectors, dipoles, poles, by value. Conditions: none.
-/
import Derived.Test.YtokhbfbanofchaaRows
import Derived.Test.YtokhbfbanofchaaBA
import Derived.ProofKit
import Derived.OpenShut
import Derived.ChangeOld
import Derived.Deep.Slices
namespace Go.Proofs.Ytokhbfbanofchaa
open Go Go.RowKit Go.ChangeShapes Go.WideShapes
set_option maxRecDepth 100000

section
variable {H : Type} {enc : TypeId × Value → H} {P : Program} {w : World} {base : Nat} {spare : Nat → Bool} {held : Bool} {fuel : Nat} {t : TypeId} {cs : List Value} {x : DataW H × List MemPlace}

theorem trodF {k : FloatKind} (ht : P.underlying t = some (.float k)) (h : DataW.trod enc P w base spare held fuel t cs = some x) : ∃ b, cs = [.float k b] ∧ Fb k (can k b) b := by
  cases fuel with
  | zero => simp [DataW.trod] at h
  | succ n =>
    unfold DataW.trod at h
    rw [ht] at h
    simp only at h
    split at h
    case h_3 =>
      rename_i k1 k2 b hq
      injection hq with hq
      injection hq with hq
      subst hq
      split at h
      · rename_i hw
        obtain ⟨rfl, hw2⟩ := hw
        exact ⟨_, rfl, Fb.of_wf hw2⟩
      · cases h
    all_goals first | (cases h; done) | (rename_i hq; cases hq)

end
section
variable {H : Type} {enc : TypeId × Value → H} {w : World} {base : Nat} {spare : Nat → Bool} {held : Bool} {fuel : Nat} {cs : List Value} {x : DataW H × List MemPlace}

variable {r : Reach} {b0 : Nat} {v : Value} {d : DataW H} {p : List MemPlace}
end
theorem list_of_cells {w : World} {a : Addr} (n m : Nat) (h : ∀ i, i < n → ∃ L : List Nat, L.length = m ∧ ∀ j, j < m → ∃ x : Nat, w.cell? ((a.add (i * m)).add j) = some (Value.float .f32 (L.getD j 0)) ∧ Fb .f32 x (L.getD j 0)) :
    ∃ X : List Nat, X.length = n * m ∧ ∀ (j x : Nat), X[j]? = some x → ∃ u : Nat, w.cell? (a.add j) = some (Value.float .f32 u) ∧ Fb .f32 x u := by
  induction n with
  | zero => exact ⟨[], by simp, fun j x h => by simp at h⟩
  | succ n ih =>
    obtain ⟨X, hX, hc⟩ := ih (fun i hi => h i (by omega))
    obtain ⟨L, hL, hl⟩ := h n (by omega)
    refine ⟨X ++ L.map (can .f32), by simp [hX, hL]; rw [Nat.succ_mul], fun j x hx => ?_⟩
    by_cases hj : j < X.length
    · rw [List.getElem?_append_left hj] at hx
      exact hc j x hx
    · rw [List.getElem?_append_right (by omega)] at hx
      have hjm : j - X.length < m := by
        have := (List.getElem?_eq_some_iff.1 hx).1
        simpa [hL] using this
      obtain ⟨y, h1, h2⟩ := hl _ hjm
      have hd : L[j - X.length]? = some (L.getD (j - X.length) 0) := by
        rw [List.getD_eq_getElem?_getD, List.getElem?_eq_getElem (by omega)]
        rfl
      rw [List.getElem?_map, hd] at hx
      simp only [Option.map_some, Option.some.injEq] at hx
      refine ⟨_, ?_, ⟨h2.lt, hx⟩⟩
      rw [add_of_add] at h1
      rw [← h1, hX]
      congr 2
      omega
theorem rd_of_cells {w : World} {a : Addr} {n m : Nat} {X : List Nat} (hm : 0 < m) (h : X.length = n * m ∧ ∀ (j x : Nat), X[j]? = some x → ∃ u : Nat, w.cell? (a.add j) = some (Value.float .f32 u) ∧ Fb .f32 x u) : Rd w w.heap.size m (some a) n X := by
  refine ⟨h.1, fun hn => ?_⟩
  have hpos : 0 < X.length := by rw [h.1]; exact Nat.mul_pos hn hm
  obtain ⟨x, hx⟩ := some_at hpos
  obtain ⟨u, hu, _⟩ := h.2 0 x hx
  obtain ⟨b, o, s⟩ := a
  have hs : s = none := World.cell?_spot (by simpa [Addr.add] using hu)
  subst hs
  refine ⟨b, o, rfl, ?_, fun j y hy => ?_⟩
  · rcases Nat.lt_or_ge b w.heap.size with hlt | hge
    · exact hlt
    · have : w.cell? ⟨b, o, none⟩ = none := by simp [World.cell?, hge]
      rw [show (⟨b, o, none⟩ : Addr).add 0 = ⟨b, o, none⟩ from rfl] at hu
      rw [this] at hu
      cases hu
  · obtain ⟨v, hv, hf⟩ := h.2 j y hy
    exact ⟨v, by rw [← hv, Addr.add_lit], hf⟩
section
variable {H : Type} {enc : TypeId × Value → H} {w : World} {base : Nat} {spare : Nat → Bool} {held : Bool} {r : Reach} {b0 : Nat} {v : Value} {d : DataW H} {p : List MemPlace}
theorem openF32 (hv : Value.okWide Try.prog w r b0 22 v) (h : DataW.Trod enc Try.prog w base spare held 22 v d p) : ∃ X x, v = .float .f32 x ∧ Fb .f32 X x := by
  obtain ⟨x, rfl⟩ := okWide_float Try.underlying22 hv
  obtain ⟨fuel, hf⟩ := h
  obtain ⟨b, e, hb⟩ := trodF Try.underlying22 hf
  have e' : [Value.float .f32 x] = _ := e
  injection e' with e1
  injection e1 with _ e2
  subst e2
  exact ⟨_, _, rfl, hb⟩
theorem own : ownKnob Try.prog.godebug = none := by kernel_rfl
theorem laidOut : laidOutB Try.prog = true := by kernel_rfl
end
end Go.Proofs.Ytokhbfbanofchaa
