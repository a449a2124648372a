/-
  Meshes and wires opened. Conditions: none.
-/
import Derived.Test.YtjkpnnbahhlopaaOs
import Derived.Test.YtjkpnnbahhlopaaBB
namespace Go.Proofs.Ytjkpnnbahhlopaa
open Go Go.RowKit Go.ChangeShapes Go.WideShapes
set_option maxRecDepth 100000

section
variable {H : Type} {enc : TypeId × Value → H} {P : Program} {w : World} {base : Nat} {spare : Nat → Bool} {held : Bool}
theorem trod_fields {t : TypeId} {fs : Array Field} {fuel : Nat} {cs : List Value} {x : DataW H × List MemPlace} (hs : P.underlying t = some (.struct fs)) (h : DataW.trod enc P w base spare held fuel t cs = some x) :
    cs.length = P.cellsOf t ∧ ∀ {j : Nat} {fd : Field} {f o s : Nat}, fs[j]? = some fd → fd.type = f → fd.offset = o → P.cellsOf f = s → ∃ n y, DataW.trod enc P w base spare held n f ((cs.drop o).take s) = some y := by
  obtain ⟨xs, n, _, _, hl, hlen, hg⟩ := DataW.trod_struct hs h
  refine ⟨hl, fun {j fd f o s} hj ht ho hc => ?_⟩
  have hj2 : j < xs.length := by
    have := (Array.getElem?_eq_some_iff.1 hj).1
    rw [hlen]; simpa using this
  have := hg j fd (by simpa using hj)
  subst ht; subst ho; subst hc
  exact ⟨n, xs[j], this.trans (List.getElem?_eq_getElem hj2)⟩
end
section
variable {H : Type} {enc : TypeId × Value → H} {w : World} {base : Nat} {spare : Nat → Bool} {held : Bool} {r : Reach} {b0 : Nat} {v : Value} {d : DataW H} {p : List MemPlace}
theorem cells_VecL : Opens enc Try.prog w base spare held 24 3 fun l => ∃ A : V3, l = [fl .f32 A.x, fl .f32 A.y, fl .f32 A.z] := by
  intro fuel cs x hf
  obtain ⟨a, b, c, rfl, ha, hb, hc⟩ := trodVec hf
  exact ⟨_, rfl, ⟨⟨can .f32 a, can .f32 b, can .f32 c⟩, rfl⟩, ⟨⟨a, rfl, ha⟩, ⟨b, rfl, hb⟩, ⟨c, rfl, hc⟩, trivial⟩, fun u hu => by simp at hu; rcases hu with rfl | rfl | rfl <;> rfl⟩
theorem cells_Mesh : Opens enc Try.prog w base spare held 33 8 fun l => ∃ (M : MH) (n : Nat) (F : Nat → V3), n ≤ maxLen ∧ l = [fl .f32 M.F.x, fl .f32 M.F.y, fl .f32 M.F.z, fl .f32 M.S, vv (.int .i64 M.a), vv (.int .i64 M.b), vv (.int .i64 M.c), rs 3 n (vecC F)] := by
  intro fuel cs x hf
  obtain ⟨hl, hg⟩ := trod_fields Try.underlying33 hf
  rw [show Try.prog.cellsOf 33 = 8 by kernel_rfl] at hl
  obtain ⟨_, _, g0⟩ := hg (j := 0) (f := 24) (o := 0) (s := 3) rfl rfl rfl (by kernel_rfl)
  obtain ⟨_, _, g1⟩ := hg (j := 1) (f := 22) (o := 3) (s := 1) rfl rfl rfl (by kernel_rfl)
  obtain ⟨_, _, g2⟩ := hg (j := 2) (f := 2) (o := 4) (s := 1) rfl rfl rfl (by kernel_rfl)
  obtain ⟨_, _, g3⟩ := hg (j := 3) (f := 2) (o := 5) (s := 1) rfl rfl rfl (by kernel_rfl)
  obtain ⟨_, _, g4⟩ := hg (j := 4) (f := 2) (o := 6) (s := 1) rfl rfl rfl (by kernel_rfl)
  obtain ⟨_, _, g5⟩ := hg (j := 5) (f := 31) (o := 7) (s := 1) rfl rfl rfl (by kernel_rfl)
  match cs, hl with
  | [c0, c1, c2, c3, c4, c5, c6, c7], _ =>
    obtain ⟨a, b, c, e0, ha, hb, hc⟩ := trodVec g0
    simp at e0
    obtain ⟨rfl, rfl, rfl⟩ := e0
    obtain ⟨l1, hl1, ⟨X, rfl⟩, hX, _⟩ := cells_f32 Try.underlying22 g1
    obtain ⟨l2, hl2, ⟨i2, rfl⟩, h2, _⟩ := cells_i64 Try.underlying2 g2
    obtain ⟨l3, hl3, ⟨i3, rfl⟩, h3, _⟩ := cells_i64 Try.underlying2 g3
    obtain ⟨l4, hl4, ⟨i4, rfl⟩, h4, _⟩ := cells_i64 Try.underlying2 g4
    obtain ⟨l5, hl5, ⟨n, cc, hn, hS, rfl⟩, h5, o5⟩ := cells_slice Try.underlying31 (s := 3) (by kernel_rfl) (by omega) cells_VecL g5
    obtain ⟨q1, rfl, _⟩ := hX.1
    obtain rfl : c4 = _ := h2.1
    obtain rfl : c5 = _ := h3.1
    obtain rfl : c6 = _ := h4.1
    have h5' : (rs 3 n cc).R w c7 := h5.1
    refine ⟨_, rfl, ⟨⟨⟨can .f32 a, can .f32 b, can .f32 c⟩, X, i2, i3, i4⟩, n, fun k => if hk : k < n then Classical.choose (hS k hk) else ⟨0, 0, 0⟩, hn, rfl⟩, ⟨⟨a, rfl, ha⟩, ⟨b, rfl, hb⟩, ⟨c, rfl, hc⟩, hX.1, rfl, rfl, rfl, rs_conv (fun k hk => ?_) h5', trivial⟩, fun u hu => ?_⟩
    · have := Classical.choose_spec (hS k hk)
      rw [this]
      simp only [vecC, dif_pos hk]
    · simp at hu
      rcases hu with rfl | rfl | rfl | rfl | rfl | rfl | rfl | rfl
      any_goals rfl
      obtain ⟨_, _, rfl, _⟩ := h5'
      rfl
theorem openMesh (hv : Value.okWide Try.prog w r b0 33 v) (h : DataW.Trod enc Try.prog w base spare held 33 v d p) : ∃ M n F, (mesh M (rs 3 n (vecC F))).R w v ∧ n ≤ maxLen := by
  obtain ⟨⟨l⟩, rfl, _⟩ := okWide_struct Try.underlying33 hv
  obtain ⟨fuel, hf⟩ := h
  obtain ⟨l', hl, ⟨M, n, F, hn, rfl⟩, hall, h1⟩ := cells_Mesh hf
  exact ⟨M, n, F, ⟨l, rfl, hall, h1⟩, hn⟩
end
end Go.Proofs.Ytjkpnnbahhlopaa
