/-
  The field of a magnet and of its dipole: what they are worth. Conditions: none.
-/
import Derived.Test.YtejpamlaacffaaaUa
import Derived.Test.YtejpamlaacffaaaUc
namespace Go.Proofs.Ytejpamlaacffaaa
open Go Go.RowKit

def lgN (n : Nat) : Nat := nc (Nat.ble 128 n) 7 (nc (Nat.ble 64 n) 6 (nc (Nat.ble 32 n) 5 (nc (Nat.ble 16 n) 4 (nc (Nat.ble 8 n) 3 (nc (Nat.ble 4 n) 2 (nc (Nat.ble 2 n) 1 0))))))
/-- A number of sixteenths. -/
def intN (s : Bool) (n : Nat) (K : KK) : Bool := force (lgN n) fun l => bc (Nat.ble l 23) (force (Nat.shiftLeft n (Nat.sub 23 l)) fun m => force (Nat.add 122 l) fun x => K s m x) false
def intK (a : Int) (K : KK) : Bool := match a with
  | .ofNat n => intN false n K
  | .negSucc n => intN true (Nat.succ n) K
theorem intN_spec {s : Bool} {n : Nat} {K : KK} (h : intN s n K = true) : ∃ m x, n * 2 ^ 145 = m * 2 ^ x ∧ K s m x = true := by
  unfold intN at h
  rw [force_eq] at h
  obtain ⟨h1, h⟩ := ble_or h
  rw [force_eq, force_eq] at h
  refine ⟨_, _, ?_, h⟩
  show _ = n <<< (23 - lgN n) * 2 ^ (122 + lgN n)
  rw [Nat.shiftLeft_eq, Nat.mul_assoc, ← Nat.pow_add, show 23 - lgN n + (122 + lgN n) = 145 by omega]
theorem intK_spec {X : Nat} {a : Int} {K : KK} (hx : VU X a) (h : intK a K = true) : ∃ s m x, V .f32 X (sgnI s (m * 2 ^ x)) ∧ K s m x = true := by
  unfold VU at hx
  cases a with
  | ofNat n =>
    have hs : decide (Int.ofNat n < 0) = false := decide_eq_false (Int.not_lt.2 (Int.natCast_nonneg n))
    rw [hs] at hx
    obtain ⟨m, x, e, h⟩ := intN_spec (s := false) h
    refine ⟨_, _, _, ?_, h⟩
    rw [← e]
    exact hx
  | negSucc n =>
    have hs : decide (Int.negSucc n < 0) = true := decide_eq_true (by omega)
    rw [hs] at hx
    obtain ⟨m, x, e, h⟩ := intN_spec (s := true) h
    refine ⟨_, _, _, ?_, h⟩
    rw [← e]
    exact hx
def vecK (a b c : Int) (K : K9) : Bool := intK a fun s1 n1 e1 => intK b fun s2 n2 e2 => intK c fun s3 n3 e3 => K s1 n1 e1 s2 n2 e2 s3 n3 e3
structure VUV (A : V3) (a b c : Int) : Prop where
  x : VU A.x a
  y : VU A.y b
  z : VU A.z c
theorem vecK_spec {A : V3} {a b c : Int} {K : K9} (hA : VUV A a b c) (h : vecK a b c K = true) : ∃ a1 a2 a3 b1 b2 b3 c1 c2 c3, VW A a1 a2 a3 b1 b2 b3 c1 c2 c3 ∧ K a1 a2 a3 b1 b2 b3 c1 c2 c3 = true := by
  obtain ⟨_, _, _, v1, h⟩ := intK_spec hA.x h
  obtain ⟨_, _, _, v2, h⟩ := intK_spec hA.y h
  obtain ⟨_, _, _, v3, h⟩ := intK_spec hA.z h
  exact ⟨_, _, _, _, _, _, _, _, _, ⟨v1, v2, v3⟩, h⟩
/-- A number that is greater than zero. -/
def posK (s : Bool) (n : Nat) (b : Bool) : Bool := bc s false (bc (Nat.beq n 0) false b)
theorem zero_V : V .f32 0 0 := by
  have := VU.const (X := 0) (a := 0) (by decide +kernel)
  unfold VU at this
  simpa [sgnI] using this
theorem posK_spec {X n e : Nat} {s b : Bool} (hx : V .f32 X (sgnI s (n * 2 ^ e))) (h : posK s n b = true) : cmpB .gtr .f32 X 0 = true ∧ b = true := by
  unfold posK at h
  cases s
  · rw [bc_false] at h
    cases hn : Nat.beq n 0 <;> rw [hn] at h
    · rw [bc_false] at h
      refine ⟨?_, h⟩
      rw [gtr_rk hx.num zero_V.num, hx.rk, zero_V.rk, decide_eq_true_eq]
      have : 0 < n * 2 ^ e := by
        rcases Nat.eq_zero_or_pos n with q | q
        · subst q; cases hn
        · exact Nat.mul_pos q (Nat.pow_pos (by omega))
      generalize n * 2 ^ e = T at *
      unfold sgnI
      simp only [Bool.false_eq_true, if_false]
      omega
    · cases h
  · cases h
def poleP (a1 : Bool) (a2 a3 : Nat) (b1 : Bool) (b2 b3 : Nat) (c1 : Bool) (c2 c3 : Nat) (s : Bool) (n e : Nat) (K : K9) : Bool :=
  longK a1 a2 a3 b1 b2 b3 c1 c2 c3 fun rs rn re => posK rs rn (cubK rs rn re fun qs qn qe => quo32 s n e qs qn qe fun us un ue => scaK a1 a2 a3 b1 b2 b3 c1 c2 c3 us un ue K)
theorem poleP_spec {A C : V3} {S : Nat} {a1 b1 c1 s : Bool} {a2 a3 b2 b3 c2 c3 n e : Nat} {J : K9} (hA : VW (lessV C A) a1 a2 a3 b1 b2 b3 c1 c2 c3) (hS : V .f32 S (sgnI s (n * 2 ^ e))) (h : poleP a1 a2 a3 b1 b2 b3 c1 c2 c3 s n e J = true) :
    ∃ a1 a2 a3 b1 b2 b3 c1 c2 c3, VW (poleFieldV A S C) a1 a2 a3 b1 b2 b3 c1 c2 c3 ∧ J a1 a2 a3 b1 b2 b3 c1 c2 c3 = true := by
  obtain ⟨_, _, _, v1, h⟩ := longK_spec hA h
  obtain ⟨hp, h⟩ := posK_spec v1 h
  obtain ⟨_, _, _, v2, h⟩ := cubK_spec v1 h
  obtain ⟨_, _, _, v3, h⟩ := quo32_spec hS v2 h
  unfold poleFieldV
  rw [if_pos hp]
  exact scaK_spec hA v3 h
def w1 : Nat := 8388608
def w3 : Nat := 12582912
def dipP (a1 : Bool) (a2 a3 : Nat) (b1 : Bool) (b2 b3 : Nat) (c1 : Bool) (c2 c3 : Nat) (m1 : Bool) (m2 m3 : Nat) (n1 : Bool) (n2 n3 : Nat) (o1 : Bool) (o2 o3 : Nat) (K : K9) : Bool :=
  longK a1 a2 a3 b1 b2 b3 c1 c2 c3 fun rs rn re => posK rs rn (quo32 false w1 126 rs rn re fun us un ue => scaK a1 a2 a3 b1 b2 b3 c1 c2 c3 us un ue fun p1 p2 p3 q1 q2 q3 r1 r2 r3 =>
    innK m1 m2 m3 n1 n2 n3 o1 o2 o3 p1 p2 p3 q1 q2 q3 r1 r2 r3 fun is iN ie => mul32 false w3 127 is iN ie fun fs fn fe => scaK p1 p2 p3 q1 q2 q3 r1 r2 r3 fs fn fe fun t1 t2 t3 u1 u2 u3 v1 v2 v3 =>
    sumK t1 t2 t3 u1 u2 u3 v1 v2 v3 (!m1) m2 m3 (!n1) n2 n3 (!o1) o2 o3 fun x1 x2 x3 y1 y2 y3 z1 z2 z3 => cubK rs rn re fun cs cn ce => quo32 false w1 126 cs cn ce fun gs gn ge => scaK x1 x2 x3 y1 y2 y3 z1 z2 z3 gs gn ge K)
theorem V_one : V .f32 one32 (sgnI false (w1 * 2 ^ 126)) := by
  have := VU.const (X := one32) (a := 16) (by decide +kernel)
  exact this
theorem V_three : V .f32 1077936128 (sgnI false (w3 * 2 ^ 127)) := by
  have := VU.const (X := 1077936128) (a := 48) (by decide +kernel)
  exact this
theorem dipP_spec {A M C : V3} {a1 b1 c1 m1 n1 o1 : Bool} {a2 a3 b2 b3 c2 c3 m2 m3 n2 n3 o2 o3 : Nat} {J : K9} (hA : VW (lessV C A) a1 a2 a3 b1 b2 b3 c1 c2 c3) (hM : VW M m1 m2 m3 n1 n2 n3 o1 o2 o3) (h : dipP a1 a2 a3 b1 b2 b3 c1 c2 c3 m1 m2 m3 n1 n2 n3 o1 o2 o3 J = true) :
    ∃ a1 a2 a3 b1 b2 b3 c1 c2 c3, VW (dipoleFieldV A M C) a1 a2 a3 b1 b2 b3 c1 c2 c3 ∧ J a1 a2 a3 b1 b2 b3 c1 c2 c3 = true := by
  obtain ⟨_, _, _, v1, h⟩ := longK_spec hA h
  obtain ⟨hp, h⟩ := posK_spec v1 h
  obtain ⟨_, _, _, v2, h⟩ := quo32_spec V_one v1 h
  obtain ⟨_, _, _, _, _, _, _, _, _, v3, h⟩ := scaK_spec hA v2 h
  obtain ⟨_, _, _, v4, h⟩ := innK_spec hM v3 h
  obtain ⟨_, _, _, v5, h⟩ := mul32_spec V_three v4 h
  obtain ⟨_, _, _, _, _, _, _, _, _, v6, h⟩ := scaK_spec v3 v5 h
  obtain ⟨_, _, _, _, _, _, _, _, _, v7, h⟩ := lesK_spec v6 hM h
  obtain ⟨_, _, _, v8, h⟩ := cubK_spec v1 h
  obtain ⟨_, _, _, v9, h⟩ := quo32_spec V_one v8 h
  unfold dipoleFieldV dipoleNear
  rw [if_pos hp]
  exact scaK_spec v7 v9 h
/-- The bound of the law. -/
def farT : Nat := Nat.shiftLeft 10995116 110
def farV (y z a b c : Int) (K : Bool → Nat → Nat → Bool) (p1 : Bool) (p2 p3 : Nat) (q1 : Bool) (q2 q3 : Nat) (r1 : Bool) (r2 r3 : Nat) : Bool :=
  vecK (192 - 2 * a) (16 * y - 2 * b) (16 * z - 2 * c) fun a1 a2 a3 b1 b2 b3 c1 c2 c3 => poleP a1 a2 a3 b1 b2 b3 c1 c2 c3 false w1 128 fun d1 d2 d3 e1 e2 e3 f1 f2 f3 =>
  sumK p1 p2 p3 q1 q2 q3 r1 r2 r3 d1 d2 d3 e1 e2 e3 f1 f2 f3 fun g1 g2 g3 h1 h2 h3 i1 i2 i3 =>
  vecK (192 - a) (16 * y - b) (16 * z - c) fun j1 j2 j3 k1 k2 k3 l1 l2 l3 => vecK (8 * a) (8 * b) (8 * c) fun m1 m2 m3 n1 n2 n3 o1 o2 o3 =>
  dipP j1 j2 j3 k1 k2 k3 l1 l2 l3 m1 m2 m3 n1 n2 n3 o1 o2 o3 fun s1 s2 s3 t1 t2 t3 u1 u2 u3 =>
  sumK g1 g2 g3 h1 h2 h3 i1 i2 i3 (!s1) s2 s3 (!t1) t2 t3 (!u1) u2 u3 fun v1 v2 v3 x1 x2 x3 y1 y2 y3 => longK v1 v2 v3 x1 x2 x3 y1 y2 y3 K
def farC (y z : Int) : Bool :=
  vecK 192 (16 * y) (16 * z) fun a1 a2 a3 b1 b2 b3 c1 c2 c3 => poleP a1 a2 a3 b1 b2 b3 c1 c2 c3 true w1 128 fun d1 d2 d3 e1 e2 e3 f1 f2 f3 =>
  sumK false 0 0 false 0 0 false 0 0 d1 d2 d3 e1 e2 e3 f1 f2 f3 fun p1 p2 p3 q1 q2 q3 r1 r2 r3 =>
  alln 5 fun i => alln 5 fun j => alln 5 fun k => farV y z ((i : Int) - 2) ((j : Int) - 2) ((k : Int) - 2) (fun s n e => bc s true (Nat.ble (Nat.shiftLeft n e) farT)) p1 p2 p3 q1 q2 q3 r1 r2 r3
/-- What the drawn vectors are worth. -/
theorem VU.cast {X : Nat} {a b : Int} (h : VU X a) (e : a = b) : VU X b := e ▸ h
section
variable {F W : V3} {fx fy fz a b c y z : Int}
theorem VUV.add {A B : V3} {a b c d e f : Int} (hA : VUV A a b c) (hB : VUV B d e f) (h : (a + d).natAbs < 2 ^ 24 ∧ (b + e).natAbs < 2 ^ 24 ∧ (c + f).natAbs < 2 ^ 24) : VUV (addV A B) (a + d) (b + e) (c + f) := ⟨hA.x.add hB.x h.1, hA.y.add hB.y h.2.1, hA.z.add hB.z h.2.2⟩
theorem VUV.sub {A B : V3} {a b c d e f : Int} (hA : VUV A a b c) (hB : VUV B d e f) (h : (a - d).natAbs < 2 ^ 24 ∧ (b - e).natAbs < 2 ^ 24 ∧ (c - f).natAbs < 2 ^ 24) : VUV (lessV A B) (a - d) (b - e) (c - f) := ⟨hA.x.sub hB.x h.1, hA.y.sub hB.y h.2.1, hA.z.sub hB.z h.2.2⟩
theorem VUV.scale {A : V3} {S : Nat} {a b c s d e f : Int} (hA : VUV A a b c) (hS : VU S s) (h1 : a * s = 16 * d ∧ b * s = 16 * e ∧ c * s = 16 * f) (h : d.natAbs < 2 ^ 24 ∧ e.natAbs < 2 ^ 24 ∧ f.natAbs < 2 ^ 24) : VUV (scaleV A S) d e f := ⟨hA.x.mul hS h1.1 h.1, hA.y.mul hS h1.2.1 h.2.1, hA.z.mul hS h1.2.2 h.2.2⟩
theorem VUV.cast {A : V3} {a b c d e f : Int} (hA : VUV A a b c) (h : a = d ∧ b = e ∧ c = f) : VUV A d e f := by
  obtain ⟨rfl, rfl, rfl⟩ := h
  exact hA
theorem VUV.int (a b c : Int) (h : a.natAbs < 2 ^ 19 ∧ b.natAbs < 2 ^ 19 ∧ c.natAbs < 2 ^ 19) : VUV (intV a b c) (16 * a) (16 * b) (16 * c) := ⟨VU.ofInt h.1, VU.ofInt h.2.1, VU.ofInt h.2.2⟩
theorem VUV.zero : VUV zeroV 0 0 0 := ⟨VU.const (by decide +kernel), VU.const (by decide +kernel), VU.const (by decide +kernel)⟩
/-- Numbers that are drawn. -/
structure Sm (fx fy fz a b c y z : Int) : Prop where
  f : (-2 ≤ fx ∧ fx ≤ 2) ∧ (-2 ≤ fy ∧ fy ≤ 2) ∧ -2 ≤ fz ∧ fz ≤ 2
  w : (-2 ≤ a ∧ a ≤ 2) ∧ (-2 ≤ b ∧ b ≤ 2) ∧ -2 ≤ c ∧ c ≤ 2
  y : (-4 ≤ y ∧ y ≤ 4) ∧ -4 ≤ z ∧ z ≤ 4
variable (hs : Sm fx fy fz a b c y z) (hF : VUV F (16 * fx) (16 * fy) (16 * fz)) (hW : VUV W (16 * a) (16 * b) (16 * c))
include hs hF hW
theorem pole2_VU : VUV (addV F (scaleV W 1040187392)) (16 * fx + 2 * a) (16 * fy + 2 * b) (16 * fz + 2 * c) := by
  have := hs.f; have := hs.w
  have h8 : VU 1040187392 2 := VU.const (by decide +kernel)
  exact hF.add (hW.scale h8 (d := 2 * a) (e := 2 * b) (f := 2 * c) (by omega) (by omega)) (by omega)
theorem mo_VU : VUV (moX F W) (8 * a) (8 * b) (8 * c) := by
  have := hs.f; have := hs.w
  have h4 : VU 1082130432 64 := VU.const (by decide +kernel)
  have hm4 : VU (fneg .f32 1082130432) (-64) := VU.const (by decide +kernel)
  have h1 := VUV.zero.add (hF.scale hm4 (d := -64 * fx) (e := -64 * fy) (f := -64 * fz) (by omega) (by omega)) (by omega)
  have h2 := (pole2_VU hs hF hW).scale h4 (d := 64 * fx + 8 * a) (e := 64 * fy + 8 * b) (f := 64 * fz + 8 * c) (by omega) (by omega)
  exact (h1.add h2 (by omega)).cast (by omega)
theorem pl_VU : VUV (plX F W) (16 * fx + a) (16 * fy + b) (16 * fz + c) := by
  have := hs.f; have := hs.w
  have h2 : VU (fop .quo .f32 one32 (floatOfInt .f32 2)) 8 := VU.const (by decide +kernel)
  have h1 := (VUV.zero.add hF (by omega)).add (pole2_VU hs hF hW) (by omega)
  exact h1.scale h2 (by omega) (by omega)
omit hW in
theorem at_VU : VUV (atX F (y + 4) (z + 4)) (16 * fx + 192) (16 * fy + 16 * y) (16 * fz + 16 * z) := by
  have := hs.f; have := hs.y
  have h : VUV ⟨1094713344, floatOfInt .f32 (y + 4 - 4), floatOfInt .f32 (z + 4 - 4)⟩ 192 (16 * y) (16 * z) := ⟨show VU 1094713344 192 from VU.const (by decide +kernel), (VU.ofInt (by omega)).cast (by omega), (VU.ofInt (by omega)).cast (by omega)⟩
  exact hF.add h (by omega)
omit hs hF hW in
theorem V_farT : V .f32 933741996 (sgnI false farT) := by
  refine ⟨false, 10995116, -39, by decide +kernel, by decide, ?_⟩
  rw [show farT = 10995116 * 2 ^ 110 from Nat.shiftLeft_eq _ _]
  rfl
theorem far_core (hc : farC y z = true) : cmpB .gtr .f32 (longV (lessV (fieldsV (bX F W) (atX F (y + 4) (z + 4)) 2) (dipoleFieldV (plX F W) (moX F W) (atX F (y + 4) (z + 4))))) 933741996 = false := by
  have hf := hs.f; have hw := hs.w; have hy := hs.y
  have hA := at_VU hs hF
  have d1 : VUV (lessV (atX F (y + 4) (z + 4)) F) 192 (16 * y) (16 * z) := (hA.sub hF (by omega)).cast (by omega)
  have d2 : VUV (lessV (atX F (y + 4) (z + 4)) (addV F (scaleV W 1040187392))) (192 - 2 * a) (16 * y - 2 * b) (16 * z - 2 * c) := (hA.sub (pole2_VU hs hF hW) (by omega)).cast (by omega)
  have d3 : VUV (lessV (atX F (y + 4) (z + 4)) (plX F W)) (192 - a) (16 * y - b) (16 * z - c) := (hA.sub (pl_VU hs hF hW) (by omega)).cast (by omega)
  have h4 : V .f32 1082130432 (sgnI false (w1 * 2 ^ 128)) := VU.const (X := 1082130432) (a := 64) (by decide +kernel)
  have hm4 : V .f32 (fneg .f32 1082130432) (sgnI true (w1 * 2 ^ 128)) := VU.const (X := fneg .f32 1082130432) (a := Int.negSucc 63) (by decide +kernel)
  unfold farC at hc
  obtain ⟨_, _, _, _, _, _, _, _, _, v1, h⟩ := vecK_spec d1 hc
  obtain ⟨_, _, _, _, _, _, _, _, _, v2, h⟩ := poleP_spec v1 hm4 h
  have z1 : V .f32 0 (sgnI false (0 * 2 ^ 0)) := by rw [Nat.zero_mul]; exact zero_V
  have z0 : VW zeroV false 0 0 false 0 0 false 0 0 := ⟨z1, z1, z1⟩
  obtain ⟨_, _, _, _, _, _, _, _, _, v3, h⟩ := sumK_spec z0 v2 h
  have h := alln_spec _ (alln_spec _ (alln_spec _ h (a + 2).toNat (by omega)) (b + 2).toNat (by omega)) (c + 2).toNat (by omega)
  rw [show (((a + 2).toNat : Nat) : Int) - 2 = a by omega, show (((b + 2).toNat : Nat) : Int) - 2 = b by omega, show (((c + 2).toNat : Nat) : Int) - 2 = c by omega] at h
  unfold farV at h
  obtain ⟨_, _, _, _, _, _, _, _, _, v4, h⟩ := vecK_spec d2 h
  obtain ⟨_, _, _, _, _, _, _, _, _, v5, h⟩ := poleP_spec v4 h4 h
  obtain ⟨_, _, _, _, _, _, _, _, _, v6, h⟩ := sumK_spec v3 v5 h
  obtain ⟨_, _, _, _, _, _, _, _, _, v7, h⟩ := vecK_spec d3 h
  obtain ⟨_, _, _, _, _, _, _, _, _, v8, h⟩ := vecK_spec (mo_VU hs hF hW) h
  obtain ⟨_, _, _, _, _, _, _, _, _, v9, h⟩ := dipP_spec v7 v8 h
  obtain ⟨_, _, _, _, _, _, _, _, _, v10, h⟩ := lesK_spec v6 v9 h
  obtain ⟨s, n, e, v11, h⟩ := longK_spec v10 h
  have v12 : V .f32 (longV (lessV (fieldsV (bX F W) (atX F (y + 4) (z + 4)) 2) (dipoleFieldV (plX F W) (moX F W) (atX F (y + 4) (z + 4))))) (sgnI s (n * 2 ^ e)) := v11
  have hT := V_farT
  rw [gtr_rk v12.num hT.num, v12.rk, hT.rk, decide_eq_false_iff_not]
  have e2 : Nat.shiftLeft n e = n * 2 ^ e := Nat.shiftLeft_eq _ _
  rw [e2] at h
  generalize n * 2 ^ e = T at *
  generalize farT = U at *
  unfold sgnI
  cases s
  · rw [bc_false] at h
    have := Nat.le_of_ble_eq_true h
    simp only [Bool.false_eq_true, if_false]
    omega
  · simp only [Bool.false_eq_true, if_false, if_true]
    omega
end
end Go.Proofs.Ytejpamlaacffaaa
