/-
  Plain functions on canonical floats: vectors. Conditions: none.
-/
import Derived.Test.YthnlpbfheefldaaFlt
import Derived.Below
import Derived.Calls
namespace Go.Proofs.Ythnlpbfheefldaa
open Go Go.RowKit

/-- A vector of canonical bits. -/
structure V3 where
  x : Nat
  y : Nat
  z : Nat

/-- The value stands for the vector A. -/
def Vb (A : V3) (v : Value) : Prop := ∃ x y z, v = .agg #[.float .f32 x, .float .f32 y, .float .f32 z] ∧ Fb .f32 A.x x ∧ Fb .f32 A.y y ∧ Fb .f32 A.z z
theorem Vb.of {X Y Z x y z : Nat} (hx : Fb .f32 X x) (hy : Fb .f32 Y y) (hz : Fb .f32 Z z) : Vb ⟨X, Y, Z⟩ (.agg #[.float .f32 x, .float .f32 y, .float .f32 z]) := ⟨x, y, z, rfl, hx, hy, hz⟩
theorem Vb.eta {A : V3} {x y z : Nat} (hx : Fb .f32 A.x x) (hy : Fb .f32 A.y y) (hz : Fb .f32 A.z z) : Vb A (.agg #[.float .f32 x, .float .f32 y, .float .f32 z]) := ⟨x, y, z, rfl, hx, hy, hz⟩

/-- The value stands for the dipole at A with the moment M. -/
def Db (A M : V3) (v : Value) : Prop := ∃ x y z p q r, v = .agg #[.float .f32 x, .float .f32 y, .float .f32 z, .float .f32 p, .float .f32 q, .float .f32 r] ∧ Fb .f32 A.x x ∧ Fb .f32 A.y y ∧ Fb .f32 A.z z ∧ Fb .f32 M.x p ∧ Fb .f32 M.y q ∧ Fb .f32 M.z r
theorem Db.eta {A M : V3} {x y z p q r : Nat} (hx : Fb .f32 A.x x) (hy : Fb .f32 A.y y) (hz : Fb .f32 A.z z) (hp : Fb .f32 M.x p) (hq : Fb .f32 M.y q) (hr : Fb .f32 M.z r) : Db A M (.agg #[.float .f32 x, .float .f32 y, .float .f32 z, .float .f32 p, .float .f32 q, .float .f32 r]) := ⟨x, y, z, p, q, r, rfl, hx, hy, hz, hp, hq, hr⟩
/-- The value stands for the pole at A with the strength S. -/
def Pb (A : V3) (S : Nat) (v : Value) : Prop := ∃ x y z s, v = .agg #[.float .f32 x, .float .f32 y, .float .f32 z, .float .f32 s] ∧ Fb .f32 A.x x ∧ Fb .f32 A.y y ∧ Fb .f32 A.z z ∧ Fb .f32 S s
theorem Pb.eta {A : V3} {S x y z s : Nat} (hx : Fb .f32 A.x x) (hy : Fb .f32 A.y y) (hz : Fb .f32 A.z z) (hs : Fb .f32 S s) : Pb A S (.agg #[.float .f32 x, .float .f32 y, .float .f32 z, .float .f32 s]) := ⟨x, y, z, s, rfl, hx, hy, hz, hs⟩
/-- What a call returns; nothing that was there has turned. -/
def RetF (k : FloatKind) (X : Nat) (w : World) (e : Ending) (w' : World) : Prop := ∃ r, e = .returned (.float k r) ∧ Fb k X r ∧ Below w.heap.size w w'
def RetB (b : Bool) (w : World) (e : Ending) (w' : World) : Prop := e = .returned (.bool b) ∧ Below w.heap.size w w'
def RetV (A : V3) (w : World) (e : Ending) (w' : World) : Prop := ∃ v, e = .returned v ∧ Vb A v ∧ Below w.heap.size w w'

def addV (A B : V3) : V3 := ⟨fop .add .f32 A.x B.x, fop .add .f32 A.y B.y, fop .add .f32 A.z B.z⟩
def lessV (A B : V3) : V3 := ⟨fop .sub .f32 A.x B.x, fop .sub .f32 A.y B.y, fop .sub .f32 A.z B.z⟩
def scaleV (A : V3) (S : Nat) : V3 := ⟨fop .mul .f32 A.x S, fop .mul .f32 A.y S, fop .mul .f32 A.z S⟩
def innerV (A B : V3) : Nat := fop .add .f32 (fop .add .f32 (fop .mul .f32 A.x B.x) (fop .mul .f32 A.y B.y)) (fop .mul .f32 A.z B.z)
def crossV (A B : V3) : V3 :=
  ⟨fop .sub .f32 (fop .mul .f32 A.y B.z) (fop .mul .f32 A.z B.y), fop .sub .f32 (fop .mul .f32 A.z B.x) (fop .mul .f32 A.x B.z), fop .sub .f32 (fop .mul .f32 A.x B.y) (fop .mul .f32 A.y B.x)⟩
def cubeF (R : Nat) : Nat := fop .mul .f32 (fop .mul .f32 R R) R

theorem below_drewN {B : Nat} {a w : World} (h : Below B a w) (n : Nat) : Below B a (w.drewN n) := ⟨h.os, h.tape, h.output, h.size, h.block⟩
theorem bcell {W w1 : World} (hb : Below W.heap.size W w1) : (∀ b o, b < W.heap.size → w1.cell? ⟨b, o, none⟩ = W.cell? ⟨b, o, none⟩) ∧ (∀ b o, b < W.heap.size → w1.frozen? ⟨b, o, none⟩ = W.frozen? ⟨b, o, none⟩) :=
  ⟨fun b o h => hb.cell (p := ⟨b, o, none⟩) h, fun b o h => hb.frozen (p := ⟨b, o, none⟩) h⟩

end Go.Proofs.Ythnlpbfheefldaa
