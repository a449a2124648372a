/-
  Memory of lists of wires that is marked: partial stores, deep copies, the mark's contract. Conditions: none.
-/
import Derived.Test.YtokhbfbanofchaaWr
import Derived.Test.YtokhbfbanofchaaSu
namespace Go.Proofs.Ytokhbfbanofchaa
open Go Go.RowKit

section
variable {P : Program} {w0 : World} {ops : Array Oper} {nt : Nat} {env : List (Nat × AV)} {H : List HE} {rest : List Oper} {Q : Exit → Act → World → Prop} {ty : TypeId} {pos : String} {after : Array Edge}
end

/-- The memory of a list of wires: the slice and the points of each wire lie apart, in blocks between two worlds. -/
structure WMem (wa w1 : World) (v : Value) (sv : Nat → Value) (n : Nat) (W : Nat → WI) : Prop where
  row : (HE.row v 51 3 n (wireV sv W)).ok wa w1
  out : ∀ g, v.ownBlock = some g → Span wa w1 g
  inn : ∀ j, j < n → (HE.row (sv j) 29 3 (W j).m (vecC (W j).F)).ok wa w1
  ino : ∀ j, j < n → ∀ g, (sv j).ownBlock = some g → Span wa w1 g ∧ v.ownBlock ≠ some g ∧ ∀ i, i < n → i ≠ j → (sv i).ownBlock ≠ some g
def RetDeep (n : Nat) (W : Nat → WI) (w : World) (v : Value) (w' : World) : Prop := RetFresh (rs 3 n (wireC W)) w v w' ∧ ∃ sv, WMem w w' v sv n W
theorem WMem.fresh {wa w1 : World} {v : Value} {sv : Nat → Value} {n : Nat} {W : Nat → WI} (h : WMem wa w1 v sv n W) : RetFresh (rs 3 n (wireC W)) wa v w1 := fun w2 hsz hsame =>
  rs_wires (sv := sv) (rs_pure (fun _ => rfl) (h.row.keep hsz fun x hx => hsame x (h.out x hx).1 (h.out x hx).2) fun x hx => Nat.lt_of_lt_of_le (h.out x hx).2 hsz) fun j hj =>
    rs_pure (fun _ => rfl) ((h.inn j hj).keep hsz fun x hx => hsame x ((h.ino j hj x hx).1).1 ((h.ino j hj x hx).1).2) fun x hx => Nat.lt_of_lt_of_le ((h.ino j hj x hx).1).2 hsz
section
variable {P : Program} {w0 : World} {s : AS}
end
/-- The blocks of the points. -/
def Inn (sv : Nat → Value) (n g : Nat) : Prop := ∃ j, j < n ∧ (sv j).ownBlock = some g
def MRest (w0 w : World) (v : Value) (sv : Nat → Value) (n g : Nat) : Prop := w0.heap.size ≤ g ∧ g < w.heap.size ∧ v.ownBlock ≠ some g ∧ ¬ Inn sv n g
def markN (W : Nat → WI) : Nat → Nat
  | 0 => 0
  | k + 1 => markN W k + 3 * (W k).m + 2
def MarkQ (w0 w : World) (v : Value) (sv : Nat → Value) (n : Nat) (R : Int) (e : Ending) (w' : World) : Prop :=
  ∃ u, e = .returned u ∧ u = .int .i64 R ∧ Below w0.heap.size w0 w' ∧ w.heap.size ≤ w'.heap.size ∧ ∀ g, MRest w0 w v sv n g → w'.heap[g]? = w.heap[g]?
def MarkC (P : Program) (f : FuncId) : Prop := Can P f ∧ ∀ (w0 w : World) (v : Value) (sv : Nat → Value) (n : Nat) (W : Nat → WI) (K : Int), n + sumM W n ≤ 1048576 → 0 ≤ K → K ≤ 1048576 → Below w0.heap.size w0 w → WMem w0 w v sv n W →
  Calls P f #[v, .int .i64 K] w (MarkQ w0 w v sv n (K + (markN W n : Nat)))
section
variable {P : Program} {w0 : World} {s : AS} {ops : Array Oper} {nt : Nat} {env : List (Nat × AV)} {H : List HE} {rest : List Oper} {Q : Exit → Act → World → Prop} {ty : TypeId} {pos : String} {after : Array Edge}
end
def upd (c : Nat → List AV) (i : Nat) (x : List AV) (j : Nat) : List AV := if j = i then x else c j
end Go.Proofs.Ytokhbfbanofchaa
