/-
  Arguments opened: floats, vectors, dipoles, poles, by value. Conditions: none.
-/
import Derived.Test.YthnlpbfheefldaaRows
import Derived.Test.YthnlpbfheefldaaPlain
import Derived.ProofKit
import Derived.OpenShut
import Derived.ChangeOld
import Derived.Deep.Slices
namespace Go.Proofs.Ythnlpbfheefldaa
open Go Go.RowKit Go.ChangeShapes Go.WideShapes

section
variable {H : Type} {enc : TypeId × Value → H} {P : Program} {w : World} {base : Nat} {spare : Nat → Bool} {held : Bool} {fuel : Nat} {t : TypeId} {cs : List Value} {x : DataW H × List MemPlace}

theorem trodF {k : FloatKind} (ht : P.underlying t = some (.float k)) (h : DataW.trod enc P w base spare held fuel t cs = some x) : ∃ b, cs = [.float k b] ∧ Fb k (can k b) b := by
  cases fuel with
  | zero => simp [DataW.trod] at h
  | succ n =>
    unfold DataW.trod at h
    rw [ht] at h
    simp only at h
    split at h
    case h_3 =>
      rename_i k1 k2 b hq
      injection hq with hq
      injection hq with hq
      subst hq
      split at h
      · rename_i hw
        obtain ⟨rfl, hw2⟩ := hw
        exact ⟨_, rfl, Fb.of_wf hw2⟩
      · cases h
    all_goals first | (cases h; done) | (rename_i hq; cases hq)

theorem list1 {l : List Value} {c : Value} (n : Nat) (h : (l.drop n).take 1 = [c]) : l[n]? = some c := by
  have : ((l.drop n).take 1)[0]? = some c := by rw [h]; rfl
  simpa [List.getElem?_take, List.getElem?_drop] using this
theorem list3 {l : List Value} {a b c : Value} (n : Nat) (h : (l.drop n).take 3 = [a, b, c]) : l[n]? = some a ∧ l[n + 1]? = some b ∧ l[n + 2]? = some c := by
  have h0 : ((l.drop n).take 3)[0]? = some a := by rw [h]; rfl
  have h1 : ((l.drop n).take 3)[1]? = some b := by rw [h]; rfl
  have h2 : ((l.drop n).take 3)[2]? = some c := by rw [h]; rfl
  refine ⟨?_, ?_, ?_⟩
  · simpa [List.getElem?_take, List.getElem?_drop] using h0
  · simpa [List.getElem?_take, List.getElem?_drop] using h1
  · simpa [List.getElem?_take, List.getElem?_drop] using h2

/-- A struct of three floats. -/
theorem trod3F {f : TypeId} {n0 n1 n2 : Field} (hs : P.underlying t = some (.struct #[n0, n1, n2])) (hf : P.underlying f = some (.float .f32)) (hc : P.cellsOf f = 1) (hC : P.cellsOf t = 3)
    (h0 : n0.type = f ∧ n0.offset = 0) (h1 : n1.type = f ∧ n1.offset = 1) (h2 : n2.type = f ∧ n2.offset = 2) (h : DataW.trod enc P w base spare held fuel t cs = some x) :
    ∃ a b c, cs = [.float .f32 a, .float .f32 b, .float .f32 c] ∧ Fb .f32 (can .f32 a) a ∧ Fb .f32 (can .f32 b) b ∧ Fb .f32 (can .f32 c) c := by
  obtain ⟨xs, n, _, _, hl, hlen, hg⟩ := DataW.trod_struct hs h
  rw [hC] at hl
  match xs, hlen with
  | [y0, y1, y2], _ =>
    have g0 := hg 0 n0 rfl
    have g1 := hg 1 n1 rfl
    have g2 := hg 2 n2 rfl
    rw [h0.1, h0.2, hc] at g0
    rw [h1.1, h1.2, hc] at g1
    rw [h2.1, h2.2, hc] at g2
    obtain ⟨a, e0, ha⟩ := trodF hf g0
    obtain ⟨b, e1, hb⟩ := trodF hf g1
    obtain ⟨c, e2, hc'⟩ := trodF hf g2
    have k0 := list1 _ e0
    have k1 := list1 _ e1
    have k2 := list1 _ e2
    match cs, hl with
    | [c0, c1, c2], _ =>
      simp at k0 k1 k2
      subst k0; subst k1; subst k2
      exact ⟨a, b, c, rfl, ha, hb, hc'⟩

end
section
variable {H : Type} {enc : TypeId × Value → H} {w : World} {base : Nat} {spare : Nat → Bool} {held : Bool} {fuel : Nat} {cs : List Value} {x : DataW H × List MemPlace}

theorem trodVec (h : DataW.trod enc Try.prog w base spare held fuel 24 cs = some x) :
    ∃ a b c, cs = [.float .f32 a, .float .f32 b, .float .f32 c] ∧ Fb .f32 (can .f32 a) a ∧ Fb .f32 (can .f32 b) b ∧ Fb .f32 (can .f32 c) c :=
  trod3F Try.underlying24 Try.underlying22 (by kernel_rfl) (by kernel_rfl) ⟨rfl, rfl⟩ ⟨rfl, rfl⟩ ⟨rfl, rfl⟩ h


theorem trodDip (h : DataW.trod enc Try.prog w base spare held fuel 26 cs = some x) :
    ∃ a b c d e f, cs = [.float .f32 a, .float .f32 b, .float .f32 c, .float .f32 d, .float .f32 e, .float .f32 f] ∧ Fb .f32 (can .f32 a) a ∧ Fb .f32 (can .f32 b) b ∧ Fb .f32 (can .f32 c) c ∧ Fb .f32 (can .f32 d) d ∧ Fb .f32 (can .f32 e) e ∧ Fb .f32 (can .f32 f) f := by
  obtain ⟨y0, y1, n, _, hl, g0, g1⟩ := trod_struct2 Try.underlying26 h
  have hC : Try.prog.cellsOf 26 = 6 := by kernel_rfl
  have hc : Try.prog.cellsOf 24 = 3 := by kernel_rfl
  rw [hC] at hl
  simp only [hc] at g0 g1
  obtain ⟨a, b, c, e0, ha, hb, hc⟩ := trodVec g0
  obtain ⟨d, e, f, e1, hd, he, hf⟩ := trodVec g1
  match cs, hl with
  | [c0, c1, c2, c3, c4, c5], _ =>
    simp at e0 e1
    obtain ⟨rfl, rfl, rfl⟩ := e0
    obtain ⟨rfl, rfl, rfl⟩ := e1
    exact ⟨a, b, c, d, e, f, rfl, ha, hb, hc, hd, he, hf⟩

theorem trodPole (h : DataW.trod enc Try.prog w base spare held fuel 56 cs = some x) :
    ∃ a b c d, cs = [.float .f32 a, .float .f32 b, .float .f32 c, .float .f32 d] ∧ Fb .f32 (can .f32 a) a ∧ Fb .f32 (can .f32 b) b ∧ Fb .f32 (can .f32 c) c ∧ Fb .f32 (can .f32 d) d := by
  obtain ⟨y0, y1, n, _, hl, g0, g1⟩ := trod_struct2 Try.underlying56 h
  have hC : Try.prog.cellsOf 56 = 4 := by kernel_rfl
  have hc : Try.prog.cellsOf 24 = 3 := by kernel_rfl
  have hc1 : Try.prog.cellsOf 22 = 1 := by kernel_rfl
  rw [hC] at hl
  simp only [hc, hc1] at g0 g1
  obtain ⟨a, b, c, e0, ha, hb, hc⟩ := trodVec g0
  obtain ⟨d, e1, hd⟩ := trodF Try.underlying22 g1
  match cs, hl with
  | [c0, c1, c2, c3], _ =>
    simp at e0 e1
    obtain ⟨rfl, rfl, rfl⟩ := e0
    subst e1
    exact ⟨a, b, c, d, rfl, ha, hb, hc, hd⟩

variable {r : Reach} {b0 : Nat} {v : Value} {d : DataW H} {p : List MemPlace}
theorem openVec (hv : Value.okWide Try.prog w r b0 24 v) (h : DataW.Trod enc Try.prog w base spare held 24 v d p) : ∃ A, Vb A v := by
  obtain ⟨⟨l⟩, rfl, _⟩ := okWide_struct Try.underlying24 hv
  obtain ⟨fuel, hf⟩ := h
  obtain ⟨a, b, c, e, ha, hb, hc⟩ := trodVec hf
  have e' : l = _ := e
  subst e'
  exact ⟨_, Vb.of ha hb hc⟩
theorem openDip (hv : Value.okWide Try.prog w r b0 26 v) (h : DataW.Trod enc Try.prog w base spare held 26 v d p) : ∃ A M, Db A M v := by
  obtain ⟨⟨l⟩, rfl, _⟩ := okWide_struct Try.underlying26 hv
  obtain ⟨fuel, hf⟩ := h
  obtain ⟨a, b, c, d, e, f, e0, ha, hb, hc, hd, he, hg⟩ := trodDip hf
  have e' : l = _ := e0
  subst e'
  exact ⟨⟨can .f32 a, can .f32 b, can .f32 c⟩, ⟨can .f32 d, can .f32 e, can .f32 f⟩, Db.eta ha hb hc hd he hg⟩
theorem openPole (hv : Value.okWide Try.prog w r b0 56 v) (h : DataW.Trod enc Try.prog w base spare held 56 v d p) : ∃ A S, Pb A S v := by
  obtain ⟨⟨l⟩, rfl, _⟩ := okWide_struct Try.underlying56 hv
  obtain ⟨fuel, hf⟩ := h
  obtain ⟨a, b, c, d, e0, ha, hb, hc, hd⟩ := trodPole hf
  have e' : l = _ := e0
  subst e'
  exact ⟨⟨can .f32 a, can .f32 b, can .f32 c⟩, can .f32 d, Pb.eta ha hb hc hd⟩
theorem openF32 (hv : Value.okWide Try.prog w r b0 22 v) (h : DataW.Trod enc Try.prog w base spare held 22 v d p) : ∃ X x, v = .float .f32 x ∧ Fb .f32 X x := by
  obtain ⟨x, rfl⟩ := okWide_float Try.underlying22 hv
  obtain ⟨fuel, hf⟩ := h
  obtain ⟨b, e, hb⟩ := trodF Try.underlying22 hf
  have e' : [Value.float .f32 x] = _ := e
  injection e' with e1
  injection e1 with _ e2
  subst e2
  exact ⟨_, _, rfl, hb⟩
theorem own : ownKnob Try.prog.godebug = none := by kernel_rfl
theorem laidOut : laidOutB Try.prog = true := by kernel_rfl
end
end Go.Proofs.Ythnlpbfheefldaa
