/-
  The field of a magnet and of its dipole: what they are worth. Conditions: none.
-/
import Derived.Test.YtejpamlaacffaaaBE
import Derived.Test.YtejpamlaacffaaaUc
namespace Go.Proofs.Ytejpamlaacffaaa
open Go Go.RowKit

def lgN (n : Nat) : Nat := nc (Nat.ble 128 n) 7 (nc (Nat.ble 64 n) 6 (nc (Nat.ble 32 n) 5 (nc (Nat.ble 16 n) 4 (nc (Nat.ble 8 n) 3 (nc (Nat.ble 4 n) 2 (nc (Nat.ble 2 n) 1 0))))))
/-- A number of sixteenths. -/
def intN (s : Bool) (n : Nat) (K : KK) : Bool := force (lgN n) fun l => bc (Nat.ble l 23) (force (Nat.shiftLeft n (Nat.sub 23 l)) fun m => force (Nat.add 122 l) fun x => K s m x) false
def intK (a : Int) (K : KK) : Bool := match a with
  | .ofNat n => intN false n K
  | .negSucc n => intN true (Nat.succ n) K
theorem intN_spec {s : Bool} {n : Nat} {K : KK} (h : intN s n K = true) : ∃ m x, n * 2 ^ 145 = m * 2 ^ x ∧ K s m x = true := by
  unfold intN at h
  rw [force_eq] at h
  obtain ⟨h1, h⟩ := ble_or h
  rw [force_eq, force_eq] at h
  refine ⟨_, _, ?_, h⟩
  show _ = n <<< (23 - lgN n) * 2 ^ (122 + lgN n)
  rw [Nat.shiftLeft_eq, Nat.mul_assoc, ← Nat.pow_add, show 23 - lgN n + (122 + lgN n) = 145 by omega]
theorem intK_spec {X : Nat} {a : Int} {K : KK} (hx : VU X a) (h : intK a K = true) : ∃ s m x, V .f32 X (sgnI s (m * 2 ^ x)) ∧ K s m x = true := by
  unfold VU at hx
  cases a with
  | ofNat n =>
    have hs : decide (Int.ofNat n < 0) = false := decide_eq_false (Int.not_lt.2 (Int.natCast_nonneg n))
    rw [hs] at hx
    obtain ⟨m, x, e, h⟩ := intN_spec (s := false) h
    refine ⟨_, _, _, ?_, h⟩
    rw [← e]
    exact hx
  | negSucc n =>
    have hs : decide (Int.negSucc n < 0) = true := decide_eq_true (by omega)
    rw [hs] at hx
    obtain ⟨m, x, e, h⟩ := intN_spec (s := true) h
    refine ⟨_, _, _, ?_, h⟩
    rw [← e]
    exact hx
def vecK (a b c : Int) (K : K9) : Bool := intK a fun s1 n1 e1 => intK b fun s2 n2 e2 => intK c fun s3 n3 e3 => K s1 n1 e1 s2 n2 e2 s3 n3 e3
structure VUV (A : V3) (a b c : Int) : Prop where
  x : VU A.x a
  y : VU A.y b
  z : VU A.z c
/-- A number that is greater than zero. -/
def posK (s : Bool) (n : Nat) (b : Bool) : Bool := bc s false (bc (Nat.beq n 0) false b)
theorem zero_V : V .f32 0 0 := by
  have := VU.const (X := 0) (a := 0) (by decide +kernel)
  unfold VU at this
  simpa [sgnI] using this
def poleP (a1 : Bool) (a2 a3 : Nat) (b1 : Bool) (b2 b3 : Nat) (c1 : Bool) (c2 c3 : Nat) (s : Bool) (n e : Nat) (K : K9) : Bool :=
  longK a1 a2 a3 b1 b2 b3 c1 c2 c3 fun rs rn re => posK rs rn (cubK rs rn re fun qs qn qe => quo32 s n e qs qn qe fun us un ue => scaK a1 a2 a3 b1 b2 b3 c1 c2 c3 us un ue K)
def w1 : Nat := 8388608
def w3 : Nat := 12582912
def dipP (a1 : Bool) (a2 a3 : Nat) (b1 : Bool) (b2 b3 : Nat) (c1 : Bool) (c2 c3 : Nat) (m1 : Bool) (m2 m3 : Nat) (n1 : Bool) (n2 n3 : Nat) (o1 : Bool) (o2 o3 : Nat) (K : K9) : Bool :=
  longK a1 a2 a3 b1 b2 b3 c1 c2 c3 fun rs rn re => posK rs rn (quo32 false w1 126 rs rn re fun us un ue => scaK a1 a2 a3 b1 b2 b3 c1 c2 c3 us un ue fun p1 p2 p3 q1 q2 q3 r1 r2 r3 =>
    innK m1 m2 m3 n1 n2 n3 o1 o2 o3 p1 p2 p3 q1 q2 q3 r1 r2 r3 fun is iN ie => mul32 false w3 127 is iN ie fun fs fn fe => scaK p1 p2 p3 q1 q2 q3 r1 r2 r3 fs fn fe fun t1 t2 t3 u1 u2 u3 v1 v2 v3 =>
    sumK t1 t2 t3 u1 u2 u3 v1 v2 v3 (!m1) m2 m3 (!n1) n2 n3 (!o1) o2 o3 fun x1 x2 x3 y1 y2 y3 z1 z2 z3 => cubK rs rn re fun cs cn ce => quo32 false w1 126 cs cn ce fun gs gn ge => scaK x1 x2 x3 y1 y2 y3 z1 z2 z3 gs gn ge K)
/-- The bound of the law. -/
def farT : Nat := Nat.shiftLeft 10995116 110
def farV (y z a b c : Int) (K : Bool → Nat → Nat → Bool) (p1 : Bool) (p2 p3 : Nat) (q1 : Bool) (q2 q3 : Nat) (r1 : Bool) (r2 r3 : Nat) : Bool :=
  vecK (192 - 2 * a) (16 * y - 2 * b) (16 * z - 2 * c) fun a1 a2 a3 b1 b2 b3 c1 c2 c3 => poleP a1 a2 a3 b1 b2 b3 c1 c2 c3 false w1 128 fun d1 d2 d3 e1 e2 e3 f1 f2 f3 =>
  sumK p1 p2 p3 q1 q2 q3 r1 r2 r3 d1 d2 d3 e1 e2 e3 f1 f2 f3 fun g1 g2 g3 h1 h2 h3 i1 i2 i3 =>
  vecK (192 - a) (16 * y - b) (16 * z - c) fun j1 j2 j3 k1 k2 k3 l1 l2 l3 => vecK (8 * a) (8 * b) (8 * c) fun m1 m2 m3 n1 n2 n3 o1 o2 o3 =>
  dipP j1 j2 j3 k1 k2 k3 l1 l2 l3 m1 m2 m3 n1 n2 n3 o1 o2 o3 fun s1 s2 s3 t1 t2 t3 u1 u2 u3 =>
  sumK g1 g2 g3 h1 h2 h3 i1 i2 i3 (!s1) s2 s3 (!t1) t2 t3 (!u1) u2 u3 fun v1 v2 v3 x1 x2 x3 y1 y2 y3 => longK v1 v2 v3 x1 x2 x3 y1 y2 y3 K
def farC (y z : Int) : Bool :=
  vecK 192 (16 * y) (16 * z) fun a1 a2 a3 b1 b2 b3 c1 c2 c3 => poleP a1 a2 a3 b1 b2 b3 c1 c2 c3 true w1 128 fun d1 d2 d3 e1 e2 e3 f1 f2 f3 =>
  sumK false 0 0 false 0 0 false 0 0 d1 d2 d3 e1 e2 e3 f1 f2 f3 fun p1 p2 p3 q1 q2 q3 r1 r2 r3 =>
  alln 5 fun i => alln 5 fun j => alln 5 fun k => farV y z ((i : Int) - 2) ((j : Int) - 2) ((k : Int) - 2) (fun s n e => bc s true (Nat.ble (Nat.shiftLeft n e) farT)) p1 p2 p3 q1 q2 q3 r1 r2 r3
/-- What the drawn vectors are worth. -/
theorem VU.cast {X : Nat} {a b : Int} (h : VU X a) (e : a = b) : VU X b := e ▸ h
section
variable {F W : V3} {fx fy fz a b c y z : Int}
theorem VUV.add {A B : V3} {a b c d e f : Int} (hA : VUV A a b c) (hB : VUV B d e f) (h : (a + d).natAbs < 2 ^ 24 ∧ (b + e).natAbs < 2 ^ 24 ∧ (c + f).natAbs < 2 ^ 24) : VUV (addV A B) (a + d) (b + e) (c + f) := ⟨hA.x.add hB.x h.1, hA.y.add hB.y h.2.1, hA.z.add hB.z h.2.2⟩
theorem VUV.sub {A B : V3} {a b c d e f : Int} (hA : VUV A a b c) (hB : VUV B d e f) (h : (a - d).natAbs < 2 ^ 24 ∧ (b - e).natAbs < 2 ^ 24 ∧ (c - f).natAbs < 2 ^ 24) : VUV (lessV A B) (a - d) (b - e) (c - f) := ⟨hA.x.sub hB.x h.1, hA.y.sub hB.y h.2.1, hA.z.sub hB.z h.2.2⟩
theorem VUV.cast {A : V3} {a b c d e f : Int} (hA : VUV A a b c) (h : a = d ∧ b = e ∧ c = f) : VUV A d e f := by
  obtain ⟨rfl, rfl, rfl⟩ := h
  exact hA
theorem VUV.int (a b c : Int) (h : a.natAbs < 2 ^ 19 ∧ b.natAbs < 2 ^ 19 ∧ c.natAbs < 2 ^ 19) : VUV (intV a b c) (16 * a) (16 * b) (16 * c) := ⟨VU.ofInt h.1, VU.ofInt h.2.1, VU.ofInt h.2.2⟩
theorem VUV.zero : VUV zeroV 0 0 0 := ⟨VU.const (by decide +kernel), VU.const (by decide +kernel), VU.const (by decide +kernel)⟩
/-- Numbers that are drawn. -/
structure Sm (fx fy fz a b c y z : Int) : Prop where
  f : (-2 ≤ fx ∧ fx ≤ 2) ∧ (-2 ≤ fy ∧ fy ≤ 2) ∧ -2 ≤ fz ∧ fz ≤ 2
  w : (-2 ≤ a ∧ a ≤ 2) ∧ (-2 ≤ b ∧ b ≤ 2) ∧ -2 ≤ c ∧ c ≤ 2
  y : (-4 ≤ y ∧ y ≤ 4) ∧ -4 ≤ z ∧ z ≤ 4
variable (hs : Sm fx fy fz a b c y z) (hF : VUV F (16 * fx) (16 * fy) (16 * fz)) (hW : VUV W (16 * a) (16 * b) (16 * c))
include hs hF hW
end
end Go.Proofs.Ytejpamlaacffaaa
