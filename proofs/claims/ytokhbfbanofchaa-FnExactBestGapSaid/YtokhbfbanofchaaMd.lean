/-
  Meshes that are like others: multiples; contracts on both sides. Conditions: none.
-/
import Derived.Test.YtokhbfbanofchaaMn
import Derived.Test.YtokhbfbanofchaaSu
import Derived.Test.YtokhbfbanofchaaAp
namespace Go.Proofs.Ytokhbfbanofchaa
open Go Go.RowKit

section
variable {P : Program} {w0 : World} {s : AS} {Q : Exit → Act → World → Prop}
theorem awp_nilrow {cd : Code} {T size : Nat} {c : Nat → List AV} (k : AWp P w0 ⟨s.nt, s.env, .row (.slice none 0 0) T size 0 c :: s.heap⟩ cd Q) : AWp P w0 s cd Q :=
  ⟨fun a w hs => k.out a w ⟨hs.below, hs.size, hs.defers, hs.env, ⟨⟨[], World.ownsRow_nil _ _ _ _, fun k hk => absurd hk (by omega), fun u hu => by simp at hu⟩, fun g hg => by simp [HE.foot, Value.ownBlock] at hg, hs.heap⟩⟩⟩
theorem awp_rowone {cd : Code} {v : Value} {T size n : Nat} {c : Nat → List AV} (hm : HE.row v T size n c ∈ s.heap) (k : v.oneCell' = true → AWp P w0 s cd Q) : AWp P w0 s cd Q :=
  ⟨fun a w hs => (k (row_one (hs.heap.get _ hm))).out a w hs⟩
theorem awp_front {cd : Code} {e : HE} {H' : List HE} (ht : HTake s.heap e H') (k : AWp P w0 ⟨s.nt, s.env, e :: H'⟩ cd Q) : AWp P w0 s cd Q :=
  ⟨fun a w hs => k.out a w ⟨hs.below, hs.size, hs.defers, hs.env, by
    obtain ⟨h1, h2, h3⟩ := ht.ok hs.heap
    exact h2.cons h1 h3⟩⟩
end
def scaleF (F : Nat → V3) (X k : Nat) : V3 := scaleV (F k) X
def scaleN (M : MH) (n : Nat) : Nat := if validB M n = true then n else 0
def zeroM : MH := ⟨⟨0, 0, 0⟩, 0, 0, 0, 0⟩
def keepM (M : MH) (n : Nat) : MH := if validB M n = true then M else zeroM
end Go.Proofs.Ytokhbfbanofchaa
