/-
  Helpers of the laws over slices of floats, bools and relays: marks, copies, comparisons. Conditions: none.
-/
import Derived.Test.YtjkpnnbahhlopaaBB
import Derived.Test.YtjkpnnbahhlopaaFs
import Derived.Test.YtjkpnnbahhlopaaLn
namespace Go.Proofs.Ytjkpnnbahhlopaa
open Go Go.RowKit

section
variable {P : Program} {w0 : World} {ops : Array Oper} {nt : Nat} {env : List (Nat × AV)} {H : List HE} {rest : List Oper} {Q : Exit → Act → World → Prop} {ty : TypeId} {pos : String} {after : Array Edge}
theorem conM_enter1 {f : FuncId} {fn : Func} {c : Code} {As : List AV} {nt : Nat} {e : HE} {ι : Type} {A : ι → AV} {H' : ι → List HE} (hf : P.funcs[f]? = some fn) (hb : fn.body = some c) (hn : (fn.name == "runtime.NumGoroutine") = false) (ht : fn.ntmps = nt) (hl : Nat.ble As.length nt = true)
    (h : ∀ w0 w, AWp P w0 ⟨nt, zipEnv 0 As, [e, .fr w (Rest w0 w [e])]⟩ c (bodyPost P fn (RetM w0 w [e] A H'))) : ConM P f As [e] A H' := conM_enter hf hb hn ht hl h
end
section
variable {w0 : World} {ops : Array Oper} {nt : Nat} {env : List (Nat × AV)} {H : List HE} {rest : List Oper} {Q : Exit → Act → World → Prop} {ty : TypeId} {pos : String} {after : Array Edge}
end

def mixC (a b : Nat → List AV) (k j : Nat) : List AV := if j < k then a j else b j
def boolC (B : Nat → Bool) (k : Nat) : List AV := [vv (.bool (B k))]
def markB (K : Int) (k : Nat) : List AV := [vv (.bool (decide ((K + ((k * 1 + 0 : Nat) : Int)).tmod 3 = 0)))]
end Go.Proofs.Ytjkpnnbahhlopaa
