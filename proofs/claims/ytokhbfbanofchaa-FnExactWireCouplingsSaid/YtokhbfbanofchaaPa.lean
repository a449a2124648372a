/-
  A literal slice as a slice of the call's own; loops with facts and a slice that grows. Conditions: none.
-/
import Derived.Test.YtokhbfbanofchaaWx
import Derived.Test.YtokhbfbanofchaaSu
namespace Go.Proofs.Ytokhbfbanofchaa
open Go Go.RowKit

section
variable {P : Program} {w0 : World} {ops : Array Oper} {nt : Nat} {env : List (Nat × AV)} {H : List HE} {rest : List Oper} {Q : Exit → Act → World → Prop} {ty : TypeId} {pos : String} {after : Array Edge}
theorem awp_head {s : AS} {cd : Code} {e : HE} {H' : List HE} (ht : HTake s.heap e H') (k : AWp P w0 ⟨s.nt, s.env, e :: H'⟩ cd Q) : AWp P w0 s cd Q :=
  ⟨fun a w hs => k.out a w ⟨hs.below, hs.size, hs.defers, hs.env, by
    obtain ⟨h1, h2, h3⟩ := ht.ok hs.heap
    exact h2.cons h1 h3⟩⟩
end
end Go.Proofs.Ytokhbfbanofchaa
