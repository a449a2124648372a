/-
  Wires and lists of wires opened. Conditions: none.
-/
import Derived.Test.YtokhbfbanofchaaOw
import Derived.Test.YtokhbfbanofchaaWr
namespace Go.Proofs.Ytokhbfbanofchaa
open Go Go.RowKit Go.ChangeShapes Go.WideShapes
set_option maxRecDepth 100000

section
variable {H : Type} {enc : TypeId × Value → H} {w : World} {base : Nat} {spare : Nat → Bool} {held : Bool} {r : Reach} {b0 : Nat} {v : Value} {d : DataW H} {p : List MemPlace}
theorem cells_WireL : Opens enc Try.prog w base spare held 46 3 fun l => ∃ W : WI, W.m ≤ maxLen ∧ l = [rs 3 W.m (vecC W.F), vv (.bool W.c), fl .f32 W.X] := by
  intro fuel cs x hf
  obtain ⟨hl, hg⟩ := trod_fields Try.underlying46 hf
  rw [show Try.prog.cellsOf 46 = 3 by kernel_rfl] at hl
  obtain ⟨_, _, g0⟩ := hg (j := 0) (f := 44) (o := 0) (s := 1) rfl rfl rfl (by kernel_rfl)
  obtain ⟨_, _, g1⟩ := hg (j := 1) (f := 4) (o := 1) (s := 1) rfl rfl rfl (by kernel_rfl)
  obtain ⟨_, _, g2⟩ := hg (j := 2) (f := 22) (o := 2) (s := 1) rfl rfl rfl (by kernel_rfl)
  match cs, hl with
  | [c0, c1, c2], _ =>
    obtain ⟨l5, hl5, ⟨n, cc, hn, hS, rfl⟩, h5, o5⟩ := cells_slice Try.underlying44 (s := 3) (by kernel_rfl) (by omega) cells_VecL g0
    obtain ⟨l2, hl2, ⟨b, rfl⟩, h2, _⟩ := cells_bool Try.underlying4 g1
    obtain ⟨l1, hl1, ⟨X, rfl⟩, hX, _⟩ := cells_f32 Try.underlying22 g2
    obtain ⟨q1, rfl, _⟩ := hX.1
    obtain rfl : c1 = _ := h2.1
    have h5' : (rs 3 n cc).R w c0 := h5.1
    refine ⟨_, rfl, ⟨⟨n, fun k => if hk : k < n then Classical.choose (hS k hk) else ⟨0, 0, 0⟩, b, X⟩, hn, rfl⟩, ⟨rs_conv (fun k hk => ?_) h5', rfl, hX.1, trivial⟩, fun u hu => ?_⟩
    · have := Classical.choose_spec (hS k hk)
      rw [this]
      simp only [vecC, dif_pos hk]
    · simp at hu
      rcases hu with rfl | rfl | rfl
      any_goals rfl
      obtain ⟨_, _, rfl, _⟩ := h5'
      rfl
theorem openWire (hv : Value.okWide Try.prog w r b0 46 v) (h : DataW.Trod enc Try.prog w base spare held 46 v d p) : ∃ W : WI, (wire (rs 3 W.m (vecC W.F)) W.c W.X).R w v ∧ W.m ≤ maxLen := by
  obtain ⟨⟨l⟩, rfl, _⟩ := okWide_struct Try.underlying46 hv
  obtain ⟨fuel, hf⟩ := h
  obtain ⟨l', hl, ⟨W, hn, rfl⟩, hall, h1⟩ := cells_WireL hf
  exact ⟨W, ⟨l, rfl, hall, h1⟩, hn⟩
theorem openWireR (hv : Value.okWide Try.prog w r b0 25 v) (h : DataW.Trod enc Try.prog w base spare held 25 v d p) : ∃ (n : Nat) (W : Nat → WI), (rs 3 n (wireC W)).R w v ∧ n ≤ maxLen ∧ ∀ k, k < n → (W k).m ≤ maxLen := by
  obtain ⟨a, n0, c0, rfl⟩ := okWide_slice Try.underlying25 hv
  obtain ⟨A, ⟨n, c, hn, hS, he⟩, hA⟩ := open_one (cells_slice Try.underlying25 (s := 3) (by kernel_rfl) (by omega) cells_WireL) rfl h
  injection he with he
  subst he
  refine ⟨n, fun k => if hk : k < n then Classical.choose (hS k hk) else ⟨0, fun _ => ⟨0, 0, 0⟩, false, 0⟩, rs_conv (fun k hk => ?_) hA, hn, fun k hk => ?_⟩
  · have := (Classical.choose_spec (hS k hk)).2
    rw [this]
    simp only [wireC, dif_pos hk]
  · simp only [dif_pos hk]
    exact (Classical.choose_spec (hS k hk)).1
end
end Go.Proofs.Ytokhbfbanofchaa
