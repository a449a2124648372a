/-
  Arguments opened: floats, vectors, dipoles, poles, by value. Conditions: none.
-/
import Derived.Test.YtjkpnnbahhlopaaRows
import Derived.Test.YtjkpnnbahhlopaaBA
import Derived.ProofKit
import Derived.OpenShut
import Derived.ChangeOld
import Derived.Deep.Slices
namespace Go.Proofs.Ytjkpnnbahhlopaa
open Go Go.RowKit Go.ChangeShapes Go.WideShapes
set_option maxRecDepth 100000

section
variable {H : Type} {enc : TypeId × Value → H} {P : Program} {w : World} {base : Nat} {spare : Nat → Bool} {held : Bool} {fuel : Nat} {t : TypeId} {cs : List Value} {x : DataW H × List MemPlace}

theorem trodF {k : FloatKind} (ht : P.underlying t = some (.float k)) (h : DataW.trod enc P w base spare held fuel t cs = some x) : ∃ b, cs = [.float k b] ∧ Fb k (can k b) b := by
  cases fuel with
  | zero => simp [DataW.trod] at h
  | succ n =>
    unfold DataW.trod at h
    rw [ht] at h
    simp only at h
    split at h
    case h_3 =>
      rename_i k1 k2 b hq
      injection hq with hq
      injection hq with hq
      subst hq
      split at h
      · rename_i hw
        obtain ⟨rfl, hw2⟩ := hw
        exact ⟨_, rfl, Fb.of_wf hw2⟩
      · cases h
    all_goals first | (cases h; done) | (rename_i hq; cases hq)

theorem list1 {l : List Value} {c : Value} (n : Nat) (h : (l.drop n).take 1 = [c]) : l[n]? = some c := by
  have : ((l.drop n).take 1)[0]? = some c := by rw [h]; rfl
  simpa [List.getElem?_take, List.getElem?_drop] using this
/-- A struct of three floats. -/
theorem trod3F {f : TypeId} {n0 n1 n2 : Field} (hs : P.underlying t = some (.struct #[n0, n1, n2])) (hf : P.underlying f = some (.float .f32)) (hc : P.cellsOf f = 1) (hC : P.cellsOf t = 3)
    (h0 : n0.type = f ∧ n0.offset = 0) (h1 : n1.type = f ∧ n1.offset = 1) (h2 : n2.type = f ∧ n2.offset = 2) (h : DataW.trod enc P w base spare held fuel t cs = some x) :
    ∃ a b c, cs = [.float .f32 a, .float .f32 b, .float .f32 c] ∧ Fb .f32 (can .f32 a) a ∧ Fb .f32 (can .f32 b) b ∧ Fb .f32 (can .f32 c) c := by
  obtain ⟨xs, n, _, _, hl, hlen, hg⟩ := DataW.trod_struct hs h
  rw [hC] at hl
  match xs, hlen with
  | [y0, y1, y2], _ =>
    have g0 := hg 0 n0 rfl
    have g1 := hg 1 n1 rfl
    have g2 := hg 2 n2 rfl
    rw [h0.1, h0.2, hc] at g0
    rw [h1.1, h1.2, hc] at g1
    rw [h2.1, h2.2, hc] at g2
    obtain ⟨a, e0, ha⟩ := trodF hf g0
    obtain ⟨b, e1, hb⟩ := trodF hf g1
    obtain ⟨c, e2, hc'⟩ := trodF hf g2
    have k0 := list1 _ e0
    have k1 := list1 _ e1
    have k2 := list1 _ e2
    match cs, hl with
    | [c0, c1, c2], _ =>
      simp at k0 k1 k2
      subst k0; subst k1; subst k2
      exact ⟨a, b, c, rfl, ha, hb, hc'⟩

end
section
variable {H : Type} {enc : TypeId × Value → H} {w : World} {base : Nat} {spare : Nat → Bool} {held : Bool} {fuel : Nat} {cs : List Value} {x : DataW H × List MemPlace}

theorem trodVec (h : DataW.trod enc Try.prog w base spare held fuel 24 cs = some x) :
    ∃ a b c, cs = [.float .f32 a, .float .f32 b, .float .f32 c] ∧ Fb .f32 (can .f32 a) a ∧ Fb .f32 (can .f32 b) b ∧ Fb .f32 (can .f32 c) c :=
  trod3F Try.underlying24 Try.underlying22 (by kernel_rfl) (by kernel_rfl) ⟨rfl, rfl⟩ ⟨rfl, rfl⟩ ⟨rfl, rfl⟩ h




variable {r : Reach} {b0 : Nat} {v : Value} {d : DataW H} {p : List MemPlace}
end
section
variable {H : Type} {enc : TypeId × Value → H} {w : World} {base : Nat} {spare : Nat → Bool} {held : Bool} {r : Reach} {b0 : Nat} {v : Value} {d : DataW H} {p : List MemPlace}
theorem own : ownKnob Try.prog.godebug = none := by kernel_rfl
theorem laidOut : laidOutB Try.prog = true := by kernel_rfl
end
end Go.Proofs.Ytjkpnnbahhlopaa
