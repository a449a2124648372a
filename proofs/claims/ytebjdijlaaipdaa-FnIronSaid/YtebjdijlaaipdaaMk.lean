/-
  Helpers of the laws over slices of floats, bools and relays: marks, copies, comparisons. Conditions: none.
-/
import Derived.Test.YtebjdijlaaipdaaBB
import Derived.Test.YtebjdijlaaipdaaFs
import Derived.Test.YtebjdijlaaipdaaLn
namespace Go.Proofs.Ytebjdijlaaipdaa
open Go Go.RowKit

section
variable {P : Program} {w0 : World} {ops : Array Oper} {nt : Nat} {env : List (Nat × AV)} {H : List HE} {rest : List Oper} {Q : Exit → Act → World → Prop} {ty : TypeId} {pos : String} {after : Array Edge}
theorem awp_rowc {s : AS} {cd : Code} {v : Value} {T size n : Nat} {c c' : Nat → List AV} {H' : List HE} (hr : HRep s.heap (.row v T size n c) (.row v T size n c') H') (hc : ∀ j, j < n → c' j = c j) (k : AWp P w0 ⟨s.nt, s.env, H'⟩ cd Q) : AWp P w0 s cd Q :=
  ⟨fun a w hs => k.out a w ⟨hs.below, hs.size, hs.defers, hs.env, hr.ok (show ∀ g, (HE.row v T size n c').foot g → (HE.row v T size n c).foot g from fun _ h => h) hs.heap (Nat.le_refl _) (fun _ _ _ => rfl) (by
    obtain ⟨xs, h1, h2, h3⟩ := hs.heap.get _ hr.mem
    exact ⟨xs, h1, fun j hj => by rw [hc j hj]; exact h2 j hj, h3⟩)⟩⟩
theorem aex_rowcH {s : AS} {e : Exit} {v : Value} {T size n : Nat} {c c' : Nat → List AV} {H' : List HE} (hr : HRep s.heap (.row v T size n c) (.row v T size n c') H') (hc : ∀ j, j < n → c' j = c j) (k : AEx w0 ⟨s.nt, s.env, H'⟩ e Q) : AEx w0 s e Q :=
  ⟨fun a w hs => k.out a w ⟨hs.below, hs.size, hs.defers, hs.env, hr.ok (show ∀ g, (HE.row v T size n c').foot g → (HE.row v T size n c).foot g from fun _ h => h) hs.heap (Nat.le_refl _) (fun _ _ _ => rfl) (by
    obtain ⟨xs, h1, h2, h3⟩ := hs.heap.get _ hr.mem
    exact ⟨xs, h1, fun j hj => by rw [hc j hj]; exact h2 j hj, h3⟩)⟩⟩
end
section
variable {w0 : World} {ops : Array Oper} {nt : Nat} {env : List (Nat × AV)} {H : List HE} {rest : List Oper} {Q : Exit → Act → World → Prop} {ty : TypeId} {pos : String} {after : Array Edge}
/-- A call of a function value that stands in a slot. -/
theorem sCs {d f t : Nat} {A : AV} {As : List AV} {args : List Operand} {ts : Array TypeId} (hc : Con Try.prog f As (RetA A)) (k : AOps Try.prog w0 ops ⟨nt, (d, A) :: env, H⟩ rest Q)
    (hx : Opd ⟨nt, env, H⟩ (.tmp t) (vv (.func (.func f) #[] #[])) := by exact Opd.tmp rfl)
    (hg : Givs ⟨nt, env, H⟩ args As := by repeat (first | exact Givs.nil | refine Givs.cons (by first | exact Giv.of (Opd.tmp rfl) | exact Giv.of (Opd.c _)) ?_))
    (hd : Nat.blt d nt = true := by exact rfl)
    : AOps Try.prog w0 ops ⟨nt, env, H⟩ (⟨some d, .call ⟨.value (.tmp t), args.toArray, ts⟩, ty, pos, after, none⟩ :: rest) Q := aops_ev (ev_call rfl hx hc hg) hd k
end

def mixC (a b : Nat → List AV) (k j : Nat) : List AV := if j < k then a j else b j
theorem mixC_at {a b : Nat → List AV} {k : Nat} : mixC a b (k + 1) k = a k := if_pos (Nat.lt_succ_self k)
theorem mixC_other {a b : Nat → List AV} {k : Nat} : ∀ j, j ≠ k → mixC a b (k + 1) j = mixC a b k j := fun j hj => by
  unfold mixC
  by_cases h : j < k
  · rw [if_pos h, if_pos (by omega)]
  · rw [if_neg h, if_neg (by omega)]
theorem mixC_zero {a b : Nat → List AV} {n : Nat} : ∀ j, j < n → mixC a b 0 j = b j := fun j _ => if_neg (Nat.not_lt_zero j)
theorem mixC_all {a b : Nat → List AV} {n : Nat} : ∀ j, j < n → a j = mixC a b n j := fun j hj => (if_pos hj).symm

def boolC (B : Nat → Bool) (k : Nat) : List AV := [vv (.bool (B k))]
def markB (K : Int) (k : Nat) : List AV := [vv (.bool (decide ((K + ((k * 1 + 0 : Nat) : Int)).tmod 3 = 0)))]
end Go.Proofs.Ytebjdijlaaipdaa
