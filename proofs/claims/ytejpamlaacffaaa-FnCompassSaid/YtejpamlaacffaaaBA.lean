/-
  The base texts, joined. Conditions: none.
-/
import Derived.WalkKit
import Derived.WalkSpells
import Derived.WalkLawsBesides
import Derived.Deep.Draws
import Derived.Lib.Hide
import Derived.Below
import Derived.Calls
import Derived.Laws.OwnMore
import Derived.Deep.AppendLies
import Derived.StillTail
import Derived.Laws.Tables
import Derived.Great.BuildSlice
import Derived.Laws.Rows
import Derived.IntWalk
import Derived.Great.FillDense
import Derived.Laws.CopyRow
import Derived.Maps.AppendAt
/-
  Floats up to the bits of a not-a-number: what '+', '-', '*', '/', comparisons, conversions and the square root give, as functions of canonical bits. Conditions: none.
-/
namespace Go.Proofs.Ytejpamlaacffaaa
open Go Go.RowKit

def isNan (k : FloatKind) (b : Nat) : Bool := (k.format.read b).isNaN
def nanOf : FloatKind → Nat
  | .f32 => 2143289344
  | .f64 => 9221120237041090560
def can (k : FloatKind) (b : Nat) : Nat := if isNan k b then nanOf k else b
/-- The float b stands for the canonical bits X. -/
structure Fb (k : FloatKind) (X b : Nat) : Prop where
  lt : b < 2 ^ k.format.width
  can : can k b = X

theorem isNan_nanOf (k : FloatKind) : isNan k (nanOf k) = true := by cases k <;> decide +kernel
theorem Fb.self {k : FloatKind} {b : Nat} (h : b < 2 ^ k.format.width) : Fb k (Go.Proofs.Ytejpamlaacffaaa.can k b) b := ⟨h, rfl⟩
theorem can_num {k : FloatKind} {b : Nat} (h : isNan k b = false) : can k b = b := by unfold can; simp [h]
theorem isNan_can (k : FloatKind) (b : Nat) : isNan k (can k b) = isNan k b := by
  unfold can
  by_cases h : isNan k b = true
  · simp [h, isNan_nanOf]
  · simp [h]
theorem Fb.nan {k : FloatKind} {X b : Nat} (h : Fb k X b) : isNan k b = isNan k X := by rw [← h.can, isNan_can]

theorem nan_form {d : Ieee.Datum} (h : d.isNaN = true) : ∃ s t, d = .nan s t := by
  cases d with
  | nan s t => exact ⟨s, t, rfl⟩
  | number s m e => simp [Ieee.Datum.isNaN] at h
  | infinity s => simp [Ieee.Datum.isNaN] at h

theorem rung_lt_sign (f : Ieee.Format) {r : Nat} (h : r ≤ f.infRung) : r < f.signWeight := Nat.lt_of_le_of_lt h f.infRung_lt
theorem word_mod (f : Ieee.Format) (neg : Bool) {r : Nat} (h : r < f.signWeight) : f.word neg r % f.signWeight = r := by
  unfold Ieee.Format.word
  cases neg <;> simp [Nat.mod_eq_of_lt h]
theorem read_word_num (f : Ieee.Format) (neg : Bool) {r : Nat} (h : r ≤ f.infRung) : (f.read (f.word neg r)).isNaN = false := by
  unfold Ieee.Format.read
  simp only [word_mod f neg (rung_lt_sign f h)]
  split
  · rfl
  · split
    · rfl
    · split
      · rfl
      · omega
theorem nearest_num (f : Ieee.Format) (neg : Bool) (m : Nat) (e : Int) : (f.read (f.nearest neg m e)).isNaN = false := by
  unfold Ieee.Format.nearest
  dsimp only
  split
  · exact read_word_num f neg (Nat.zero_le _)
  · exact read_word_num f neg (Nat.min_le_right ..)
theorem write_num (f : Ieee.Format) {d : Ieee.Datum} (h : d.isNaN = false) : (f.read (f.write d)).isNaN = false := by
  cases d with
  | number s m e => exact nearest_num f s m e
  | infinity s => exact read_word_num f s (Nat.le_refl _)
  | nan s t => simp [Ieee.Datum.isNaN] at h

theorem sum_num {a b d : Ieee.Datum} (h : a.sum b = some d) : d.isNaN = false := by
  cases a <;> cases b <;> simp [Ieee.Datum.sum] at h
  case infinity.infinity => obtain ⟨_, rfl⟩ := h; rfl
  all_goals (subst h; rfl)
theorem product_num {a b d : Ieee.Datum} (h : a.product b = some d) : d.isNaN = false := by
  cases a <;> cases b <;> simp [Ieee.Datum.product] at h
  case number.infinity => obtain ⟨_, rfl⟩ := h; rfl
  case infinity.number => obtain ⟨_, rfl⟩ := h; rfl
  all_goals (subst h; rfl)
theorem quotient_num {n : Nat} {a b d : Ieee.Datum} (h : a.quotient n b = some d) : d.isNaN = false := by
  cases a <;> cases b <;> simp only [Ieee.Datum.quotient] at h
  case number.number =>
    split at h
    · split at h
      · cases h
      · cases h; rfl
    · cases h; rfl
  all_goals first | (cases h; done) | (cases h; rfl)
theorem root_num {n : Nat} {a d : Ieee.Datum} (h : a.root n = some d) : d.isNaN = false := by
  cases a <;> simp only [Ieee.Datum.root] at h
  case number =>
    split at h
    · cases h; rfl
    · split at h
      · cases h
      · cases h; rfl
  case infinity =>
    split at h
    · cases h
    · cases h; rfl
  case nan => cases h

theorem map_num (f : Ieee.Format) {o : Option Ieee.Datum} {r : Nat} (ho : ∀ d, o = some d → d.isNaN = false) (h : o.map f.write = some r) : (f.read r).isNaN = false := by
  cases o with
  | none => cases h
  | some d => cases h; exact write_num f (ho d rfl)

theorem floatBits_num {op : BinOp} {k : FloatKind} {x y r : Nat} (h : floatBits op k x y = some r) : isNan k r = false := by
  unfold floatBits at h
  split at h
  · exact map_num _ (fun _ => sum_num) h
  · exact map_num _ (fun _ => sum_num) h
  · exact map_num _ (fun _ => product_num) h
  · exact map_num _ (fun _ => quotient_num) h
  · cases h

theorem floatBits_lt {op : BinOp} {k : FloatKind} {x y r : Nat} (h : floatBits op k x y = some r) : r < 2 ^ k.format.width := by
  unfold floatBits at h
  split at h
  · exact k.format.add_lt h
  · exact k.format.sub_lt h
  · exact k.format.mul_lt h
  · exact k.format.div_lt h
  · cases h

theorem floatBits_nan_left {op : BinOp} {k : FloatKind} {x y : Nat} (h : isNan k x = true) : floatBits op k x y = none := by
  obtain ⟨s, t, e⟩ := nan_form h
  unfold floatBits
  split <;> first | rfl | (simp only [Ieee.Format.add, Ieee.Format.sub, Ieee.Format.mul, Ieee.Format.div, e]; cases k.format.read y <;> rfl)

theorem floatBits_nan_right {op : BinOp} {k : FloatKind} {x y : Nat} (h : isNan k y = true) : floatBits op k x y = none := by
  obtain ⟨s, t, e⟩ := nan_form h
  unfold floatBits
  split <;> first | rfl | (simp only [Ieee.Format.add, Ieee.Format.sub, Ieee.Format.mul, Ieee.Format.div, e]; cases k.format.read x <;> rfl)

theorem floatBits_can (op : BinOp) (k : FloatKind) (x y : Nat) : floatBits op k (can k x) (can k y) = floatBits op k x y := by
  unfold can
  by_cases hx : isNan k x = true
  · rw [if_pos hx, floatBits_nan_left hx, floatBits_nan_left (isNan_nanOf k)]
  · rw [if_neg hx]
    by_cases hy : isNan k y = true
    · rw [if_pos hy, floatBits_nan_right hy, floatBits_nan_right (isNan_nanOf k)]
    · rw [if_neg hy]

/-- An operation of IEEE 754 on canonical bits. -/
def fop (op : BinOp) (k : FloatKind) (X Y : Nat) : Nat := (floatBits op k X Y).getD (nanOf k)

def arith : BinOp → Bool
  | .add | .sub | .mul | .quo => true
  | _ => false

theorem nanBits_cut (k : FloatKind) (x y t : Nat) : isNan k ((Question.nanBits k x y).cut t) = true ∧ (Question.nanBits k x y).cut t < 2 ^ k.format.width := by
  cases k
  · have e1 : FloatKind.f32.format.signWeight = 2147483648 := rfl
    have e2 : FloatKind.f32.format.binade = 8388608 := rfl
    have e3 : FloatKind.f32.format.infRung = 2139095040 := rfl
    have e4 : 2 ^ FloatKind.f32.format.width = 4294967296 := rfl
    have hu : t / 2 % 8388607 < 8388607 := Nat.mod_lt _ (by omega)
    simp only [Question.cut, isNan, Ieee.Format.read, e1, e2, e3, e4]
    have h2 : ((t % 2) * 2 ^ 31 + 0x7f800000 + 1 + (t / 2) % (2 ^ 23 - 1)) % 2147483648 = 2139095041 + t / 2 % 8388607 := by
      have : t % 2 < 2 := Nat.mod_lt _ (by omega)
      omega
    have h3 : (t % 2) * 2 ^ 31 + 0x7f800000 + 1 + (t / 2) % (2 ^ 23 - 1) < 4294967296 := by
      have : t % 2 < 2 := Nat.mod_lt _ (by omega)
      omega
    refine ⟨?_, h3⟩
    rw [h2, if_neg (by omega), if_neg (by omega), if_neg (by omega)]
    rfl
  · have e1 : FloatKind.f64.format.signWeight = 9223372036854775808 := rfl
    have e2 : FloatKind.f64.format.binade = 4503599627370496 := rfl
    have e3 : FloatKind.f64.format.infRung = 9218868437227405312 := rfl
    have e4 : 2 ^ FloatKind.f64.format.width = 18446744073709551616 := rfl
    have hu : t / 2 % 4503599627370495 < 4503599627370495 := Nat.mod_lt _ (by omega)
    simp only [Question.cut, isNan, Ieee.Format.read, e1, e2, e3, e4]
    have h2 : ((t % 2) * 2 ^ 63 + 0x7ff0000000000000 + 1 + (t / 2) % (2 ^ 52 - 1)) % 9223372036854775808 = 9218868437227405313 + t / 2 % 4503599627370495 := by
      have : t % 2 < 2 := Nat.mod_lt _ (by omega)
      omega
    have h3 : (t % 2) * 2 ^ 63 + 0x7ff0000000000000 + 1 + (t / 2) % (2 ^ 52 - 1) < 18446744073709551616 := by
      have : t % 2 < 2 := Nat.mod_lt _ (by omega)
      omega
    refine ⟨?_, h3⟩
    rw [h2, if_neg (by omega), if_neg (by omega), if_neg (by omega)]
    rfl

theorem Fb.fop_some {op : BinOp} {k : FloatKind} {x y r X Y : Nat} (hx : Fb k X x) (hy : Fb k Y y) (h : floatBits op k x y = some r) : Fb k (fop op k X Y) r := by
  refine ⟨floatBits_lt h, ?_⟩
  unfold fop
  rw [← hx.can, ← hy.can, floatBits_can, h]
  exact can_num (floatBits_num h)
theorem Fb.fop_none {op : BinOp} {k : FloatKind} {x y r X Y : Nat} (hx : Fb k X x) (hy : Fb k Y y) (h : floatBits op k x y = none) (hn : isNan k r = true) (hl : r < 2 ^ k.format.width) : Fb k (fop op k X Y) r := by
  refine ⟨hl, ?_⟩
  unfold fop
  rw [← hx.can, ← hy.can, floatBits_can, h]
  unfold Go.Proofs.Ytejpamlaacffaaa.can
  rw [if_pos hn]
  rfl

section
variable {P : Program} (w : World)
theorem run_eqGuard_float (op : BinOp) (t : TypeId) (x y : Operand) (k k' : FloatKind) (a b : Nat) : (eqGuard op t x y (.float k a) (.float k' b)).run P w = .ok () w := by
  cases op <;> rfl

theorem run_fop (op : BinOp) (hop : arith op = true) (t : TypeId) (k : FloatKind) (x y : Nat) : ∃ r n, (binOp op t (.float k x) (.float k y)).run P w = .ok (.float k r) (w.drewN n) ∧ ∀ X Y, Fb k X x → Fb k Y y → Fb k (fop op k X Y) r := by
  cases h : floatBits op k x y with
  | some r => exact ⟨r, 0, run_float_arith w op t k x y r h, fun X Y hx hy => hx.fop_some hy h⟩
  | none =>
    have hc := nanBits_cut k x y (w.tape w.drawn (.nanBits k x y))
    refine ⟨_, 1, ?_, fun X Y hx hy => hx.fop_none hy h hc.1 hc.2⟩
    cases op <;> simp only [arith] at hop <;> first | (cases hop; done) | skip
    all_goals
      simp only [floatBits] at h
      simp [binOp, Op.floatArith, h]
      cases k <;> rfl

theorem wpList_fop {ops : Array Oper} {rest : List Oper} {o : Oper} {a : Act} {Q : Exit → Act → World → Prop} (hg : o.guard = none) {op : BinOp} {t t' : TypeId} {x y : Operand} (ho : o.op = .binOp op t x y t')
    (hop : arith op = true) {k : FloatKind} {bx bY X Y : Nat} (hx : a.eval x = .float k bx) (hy : a.eval y = .float k bY) (hX : Fb k X bx) (hY : Fb k Y bY)
    (h : ∀ r n, Fb k (fop op k X Y) r → wpList P ops Q rest (a.put o.dst (.float k r)) (w.drewN n)) : wpList P ops Q (o :: rest) a w := by
  obtain ⟨r, n, hr, hf⟩ := run_fop (P := P) w op hop t k bx bY
  refine wpList_plain hg fun K hK => ?_
  unfold Oper.wp
  simp only [execOp, ho, hx, hy, Sem.run_bind, run_eqGuard_float, Result.andThen_ok, hr, Sem.run_pure]
  exact hK _ _ (h r n (hf X Y hX hY))
end

/-- A comparison on canonical bits. -/
def fcmp (c : Ordering → Bool) (k : FloatKind) (X Y : Nat) : Bool := match k.format.order X Y with | some o => c o | none => false
theorem order_nan_left {k : FloatKind} {x y : Nat} (h : isNan k x = true) : k.format.order x y = none := by
  obtain ⟨s, t, e⟩ := nan_form h
  simp only [Ieee.Format.order, e]; cases k.format.read y <;> rfl
theorem order_nan_right {k : FloatKind} {x y : Nat} (h : isNan k y = true) : k.format.order x y = none := by
  obtain ⟨s, t, e⟩ := nan_form h
  simp only [Ieee.Format.order, e]; cases k.format.read x <;> rfl
theorem order_can (k : FloatKind) (x y : Nat) : k.format.order (can k x) (can k y) = k.format.order x y := by
  unfold can
  by_cases hx : isNan k x = true
  · rw [if_pos hx, order_nan_left hx, order_nan_left (isNan_nanOf k)]
  · rw [if_neg hx]
    by_cases hy : isNan k y = true
    · rw [if_pos hy, order_nan_right hy, order_nan_right (isNan_nanOf k)]
    · rw [if_neg hy]
theorem Fb.order {k : FloatKind} {X Y x y : Nat} (hx : Fb k X x) (hy : Fb k Y y) : k.format.order x y = k.format.order X Y := by rw [← hx.can, ← hy.can, order_can]

/-- The six comparisons on canonical bits. -/
def cmpB (c : BinOp) (k : FloatKind) (X Y : Nat) : Bool :=
  match c with
  | .eql => k.format.order X Y == some .eq
  | .neq => k.format.order X Y != some .eq
  | .lss => k.format.order X Y == some .lt
  | .leq => k.format.order X Y == some .lt || k.format.order X Y == some .eq
  | .gtr => k.format.order X Y == some .gt
  | .geq => k.format.order X Y == some .gt || k.format.order X Y == some .eq
  | _ => false
def isCmp : BinOp → Bool
  | .eql | .neq | .lss | .leq | .gtr | .geq => true
  | _ => false

section
variable {P : Program} (w : World)
theorem run_fcmp (c : BinOp) (hc : isCmp c = true) (t : TypeId) (k : FloatKind) (x y X Y : Nat) (hx : Fb k X x) (hy : Fb k Y y) : (binOp c t (.float k x) (.float k y)).run P w = .ok (.bool (cmpB c k X Y)) w := by
  have ho := hx.order hy
  cases c <;> simp only [isCmp] at hc <;> first | (cases hc; done) | skip
  all_goals simp [binOp, Op.floatCmp, cmpB, ho]

end

/-- From one kind of float to the other, on canonical bits. -/
def fcvt (s k : FloatKind) (X : Nat) : Nat := (floatToFloatBits s X k).getD (nanOf k)
/-- The conversion does not overflow. -/
def fits (s k : FloatKind) (X : Nat) : Prop := isNan s X = false → (floatToFloatBits s X k).isSome = true

theorem nanConv_cut (k : FloatKind) (x t : Nat) : isNan k ((Question.nanConv k x).cut t) = true ∧ (Question.nanConv k x).cut t < 2 ^ k.format.width := by
  have h := nanBits_cut k 0 0 t
  cases k <;> exact h

theorem encode_num (k : FloatKind) {d : Ieee.Datum} (h : d.isNaN = false) : isNan k (k.encode d) = false := write_num _ h

theorem run_fcvt {P : Program} (src dst : TypeId) (s k : FloatKind) (hsk : s ≠ k) (b : Nat) (hs : (P.underlying src).isSome = true) (hd : P.underlying dst = some (.float k)) (w : World) :
    ∃ r n, (convert src dst (.float s b)).run P w = .ok (.float k r) (w.drewN n) ∧ ∀ X, Fb s X b → fits s k X → Fb k (fcvt s k X) r := by
  by_cases hn : isNan s b = true
  · have hc := nanConv_cut k b (w.tape w.drawn (.nanConv k b))
    obtain ⟨u, hs'⟩ := Option.isSome_iff_exists.1 hs
    obtain ⟨sg, t, e⟩ := nan_form hn
    have e' : s.decode b = .nan sg t := e
    refine ⟨(Question.nanConv k b).cut (w.tape w.drawn (.nanConv k b)), 1, ?_, fun X hX _ => ?_⟩
    · cases u <;> simp only [convert, Sem.run_bind, run_underlying hs', run_underlying hd, Result.andThen_ok, Conv.floatToFloat, if_neg hsk, e'] <;> rfl
    · refine ⟨hc.2, ?_⟩
      have hXn : isNan s X = true := by rw [← hX.nan]; exact hn
      obtain ⟨sg', t', e2⟩ := nan_form hXn
      have e2' : s.decode X = .nan sg' t' := e2
      have : fcvt s k X = nanOf k := by unfold fcvt floatToFloatBits; rw [if_neg hsk, e2']; rfl
      rw [this]
      unfold Go.Proofs.Ytejpamlaacffaaa.can
      rw [if_pos hc.1]
  · have hn' : isNan s b = false := by simpa using hn
    cases hb : floatToFloatBits s b k with
    | some r =>
      refine ⟨r, 0, run_convert_float_float w src dst s k b r hs hd hb, fun X hX _ => ?_⟩
      have hXb : X = b := by rw [← hX.can]; exact can_num hn'
      subst hXb
      have hr : isNan k r = false ∧ r < 2 ^ k.format.width := by
        unfold floatToFloatBits at hb
        rw [if_neg hsk] at hb
        split at hb
        · cases hb
        · cases hb; exact ⟨encode_num k rfl, k.format.write_lt _⟩
        · split at hb
          · cases hb
          · cases hb; exact ⟨encode_num k rfl, k.format.write_lt _⟩
      refine ⟨hr.2, ?_⟩
      unfold fcvt
      rw [hb]
      exact can_num hr.1
    | none =>
      obtain ⟨u, hs'⟩ := Option.isSome_iff_exists.1 hs
      unfold floatToFloatBits at hb
      rw [if_neg hsk] at hb
      split at hb
      · rename_i e; unfold isNan at hn'; unfold FloatKind.decode at e; rw [e] at hn'; cases hn'
      · cases hb
      · rename_i sg m ex e
        split at hb
        · rename_i hi
          refine ⟨(Question.floatToFloat b).cut (w.tape w.drawn (.floatToFloat b)), 1, ?_, fun X hX hf => ?_⟩
          · cases u <;> simp only [convert, Sem.run_bind, run_underlying hs', run_underlying hd, Result.andThen_ok, Conv.floatToFloat, if_neg hsk, e, hi, if_true] <;> rfl
          · have hXb : X = b := by rw [← hX.can]; exact can_num hn'
            subst hXb
            have := hf hn'
            unfold floatToFloatBits at this
            rw [if_neg hsk, e] at this
            simp [hi] at this
        · cases hb

theorem wpList_fcvt {P : Program} (w : World) {ops : Array Oper} {rest : List Oper} {o : Oper} {a : Act} {Q : Exit → Act → World → Prop} (hg : o.guard = none) {src dst : TypeId} {x : Operand} (ho : o.op = .convert src dst x)
    {s k : FloatKind} {b X : Nat} (hx : a.eval x = .float s b) (hs : P.underlying src = some (.float s)) (hd : P.underlying dst = some (.float k)) (hsk : s ≠ k) (hX : Fb s X b)
    (h : ∀ r n, (fits s k X → Fb k (fcvt s k X) r) → wpList P ops Q rest (a.put o.dst (.float k r)) (w.drewN n)) : wpList P ops Q (o :: rest) a w := by
  obtain ⟨r, n, hr, hf⟩ := run_fcvt (P := P) src dst s k hsk b (by rw [hs]; rfl) hd w
  refine wpList_plain hg fun K hK => ?_
  unfold Oper.wp
  simp only [execOp, ho, hx, Sem.run_bind, Result.andThen_ok, hr, Sem.run_pure]
  exact hK _ _ (h r n (hf X hX))

theorem cut_zero (neg : Bool) (n : Nat) : Ieee.Toward.even.cut neg n 0 = n := by
  unfold Ieee.Toward.cut
  simp [Nat.mod_one]

/-- A finite float32 is a float64. -/
theorem read32 (X : Nat) {s : Bool} {m : Nat} {e : Int} (h : FloatKind.f32.format.read X = .number s m e) : m < 2 ^ 24 ∧ -149 ≤ e ∧ e ≤ 104 := by
  have e1 : FloatKind.f32.format.signWeight = 2147483648 := rfl
  have e2 : FloatKind.f32.format.binade = 8388608 := rfl
  have e3 : FloatKind.f32.format.infRung = 2139095040 := rfl
  have e4 : FloatKind.f32.format.leastPlace = -149 := rfl
  unfold Ieee.Format.read at h
  simp only [e1, e2, e3, e4] at h
  split at h
  · injection h with _ h2 h3; subst h2; subst h3; omega
  · split at h
    · injection h with _ h2 h3; subst h2; subst h3; omega
    · split at h <;> cases h

theorem nearest_infinity (f : Ieee.Format) (neg : Bool) {r : Nat} (h : r < f.infRung) : (f.read (f.word neg r)).isInfinity = false := by
  unfold Ieee.Format.read
  simp only [word_mod f neg (rung_lt_sign f (Nat.le_of_lt h)), if_pos h]
  split <;> rfl

theorem shl_lt {m : Nat} (hl : m.log2 < 24) : m <<< (52 - m.log2) < 9007199254740992 := by
  rw [Nat.shiftLeft_eq]
  have h3 : m < 2 ^ (m.log2 + 1) := Nat.lt_log2_self
  have h4 : 2 ^ (m.log2 + 1) * 2 ^ (52 - m.log2) = 2 ^ 53 := by
    rw [← Nat.pow_add, show m.log2 + 1 + (52 - m.log2) = 53 from by omega]
  have h5 : m * 2 ^ (52 - m.log2) < 2 ^ (m.log2 + 1) * 2 ^ (52 - m.log2) := Nat.mul_lt_mul_of_pos_right h3 (Nat.two_pow_pos _)
  rw [h4] at h5
  exact h5
theorem rung_bound {a k : Nat} (ha : a ≤ 1149) (hk : k < 9007199254740992) : a * 4503599627370496 + k < 9218868437227405312 := by omega

theorem nearest64 (s : Bool) (m : Nat) (e : Int) (hm : m < 2 ^ 24) (h1 : -149 ≤ e) (h2 : e ≤ 104) : (FloatKind.f64.format.read (FloatKind.f64.format.nearest s m e)).isInfinity = false := by
  have e1 : FloatKind.f64.format.fractionBits = 52 := rfl
  have e2 : FloatKind.f64.format.binade = 4503599627370496 := rfl
  have e3 : FloatKind.f64.format.infRung = 9218868437227405312 := rfl
  have e4 : FloatKind.f64.format.leastPlace = -1074 := rfl
  unfold Ieee.Format.nearest
  by_cases h0 : m = 0
  · rw [if_pos h0]; exact nearest_infinity _ _ (by rw [e3]; exact Nat.lt_of_sub_ne_zero (by simp))
  · rw [if_neg h0]
    have hl : m.log2 < 24 := by rw [Nat.log2_lt h0]; exact hm
    have hlast : max (e + (m.log2 : Int) - (FloatKind.f64.format.fractionBits : Nat)) FloatKind.f64.format.leastPlace = e + (m.log2 : Int) - 52 := by rw [e1, e4]; omega
    have hz : (e + (m.log2 : Int) - 52 - e).toNat = 0 := by omega
    have hs : (e - (e + (m.log2 : Int) - 52)).toNat = 52 - m.log2 := by omega
    have hb : (e + (m.log2 : Int) - 52 - -1074).toNat ≤ 1149 := by omega
    dsimp only
    rw [hlast, hz, cut_zero, hs]
    apply nearest_infinity
    rw [e2, e3, e4]
    exact Nat.lt_of_le_of_lt (Nat.min_le_left ..) (rung_bound hb (shl_lt hl))

theorem fits_widen (X : Nat) : fits .f32 .f64 X := by
  intro hn
  unfold floatToFloatBits
  rw [if_neg (by decide)]
  cases he : FloatKind.f32.decode X with
  | nan s t => unfold isNan at hn; unfold FloatKind.decode at he; rw [he] at hn; cases hn
  | infinity s => rfl
  | number s m e =>
    obtain ⟨hm, h1, h2⟩ := read32 X he
    have : (FloatKind.f64.decode (FloatKind.f64.encode (.number s m e))).isInfinity = false := nearest64 s m e hm h1 h2
    dsimp only
    rw [this]
    rfl

theorem Fb_const {k : FloatKind} {b : Nat} (h : (decide (b < 2 ^ k.format.width) && !isNan k b) = true) : Fb k b b := by
  simp only [Bool.and_eq_true, decide_eq_true_eq, Bool.not_eq_true'] at h
  exact ⟨h.1, can_num h.2⟩
theorem Fb_ofInt (k : FloatKind) (n : Int) : Fb k (floatOfInt k n) (floatOfInt k n) := ⟨k.format.write_lt (.number (n < 0) n.natAbs 0), can_num (encode_num k (d := .number (n < 0) n.natAbs 0) rfl)⟩

/-- The opposite, on canonical bits. -/
def fneg (k : FloatKind) (X : Nat) : Nat := can k (Op.negFloat k X)
theorem xor_top {b n : Nat} (h : b < 2 ^ (n + 1)) : b ^^^ 2 ^ n < 2 ^ (n + 1) ∧ (b ^^^ 2 ^ n) % 2 ^ n = b % 2 ^ n := by
  refine ⟨Nat.xor_lt_two_pow h (Nat.pow_lt_pow_right (by omega) (by omega)), ?_⟩
  apply Nat.eq_of_testBit_eq
  intro i
  rw [Nat.testBit_mod_two_pow, Nat.testBit_mod_two_pow, Nat.testBit_xor, Nat.testBit_two_pow]
  by_cases hi : i < n
  · have : ¬ n = i := by omega
    simp [hi, this]
  · simp [hi]
theorem Fb.neg {k : FloatKind} {X b : Nat} (h : Fb k X b) : Fb k (fneg k X) (Op.negFloat k b) := by
  have hw : k.format.width = k.format.exponentBits + k.format.fractionBits + 1 := by unfold Ieee.Format.width; omega
  have hx := xor_top (n := k.format.exponentBits + k.format.fractionBits) (by rw [← hw]; exact h.lt)
  refine ⟨by rw [hw]; exact hx.1, ?_⟩
  have hnan : ∀ c, c < 2 ^ k.format.width → isNan k (Op.negFloat k c) = isNan k c := by
    intro c hc
    have hx := xor_top (n := k.format.exponentBits + k.format.fractionBits) (by rw [← hw]; exact hc)
    unfold isNan Ieee.Format.read Op.negFloat
    have e : k.format.signWeight = 2 ^ (k.format.exponentBits + k.format.fractionBits) := rfl
    simp only [e, hx.2]
    split
    · rfl
    · split
      · rfl
      · split <;> rfl
  unfold fneg
  by_cases hn : isNan k b = true
  · have hXn : isNan k X = true := by rw [← h.nan]; exact hn
    have hX : X = nanOf k := by rw [← h.can]; unfold Go.Proofs.Ytejpamlaacffaaa.can; rw [if_pos hn]
    have h1 : isNan k (Op.negFloat k b) = true := by rw [hnan b h.lt]; exact hn
    have h2 : isNan k (Op.negFloat k X) = true := by rw [hX]; cases k <;> decide +kernel
    unfold Go.Proofs.Ytejpamlaacffaaa.can
    rw [if_pos h1, if_pos h2]
  · have hXb : X = b := by rw [← h.can]; exact can_num (by simpa using hn)
    rw [hXb]

theorem run_store_float (P : Program) (w : World) (a : Addr) (m : Mode) (k : FloatKind) (b : Nat) : (store a (.float k b) m).run P w = stored P w a (.float k b) m := run_store P w a _ m rfl

end Go.Proofs.Ytejpamlaacffaaa

/-
  Plain functions on canonical floats: vectors. Conditions: none.
-/
namespace Go.Proofs.Ytejpamlaacffaaa
open Go Go.RowKit

/-- A vector of canonical bits. -/
structure V3 where
  x : Nat
  y : Nat
  z : Nat

/-- The value stands for the vector A. -/
def Vb (A : V3) (v : Value) : Prop := ∃ x y z, v = .agg #[.float .f32 x, .float .f32 y, .float .f32 z] ∧ Fb .f32 A.x x ∧ Fb .f32 A.y y ∧ Fb .f32 A.z z
theorem Vb.of {X Y Z x y z : Nat} (hx : Fb .f32 X x) (hy : Fb .f32 Y y) (hz : Fb .f32 Z z) : Vb ⟨X, Y, Z⟩ (.agg #[.float .f32 x, .float .f32 y, .float .f32 z]) := ⟨x, y, z, rfl, hx, hy, hz⟩
theorem Vb.eta {A : V3} {x y z : Nat} (hx : Fb .f32 A.x x) (hy : Fb .f32 A.y y) (hz : Fb .f32 A.z z) : Vb A (.agg #[.float .f32 x, .float .f32 y, .float .f32 z]) := ⟨x, y, z, rfl, hx, hy, hz⟩

/-- The value stands for the dipole at A with the moment M. -/
def Db (A M : V3) (v : Value) : Prop := ∃ x y z p q r, v = .agg #[.float .f32 x, .float .f32 y, .float .f32 z, .float .f32 p, .float .f32 q, .float .f32 r] ∧ Fb .f32 A.x x ∧ Fb .f32 A.y y ∧ Fb .f32 A.z z ∧ Fb .f32 M.x p ∧ Fb .f32 M.y q ∧ Fb .f32 M.z r
theorem Db.eta {A M : V3} {x y z p q r : Nat} (hx : Fb .f32 A.x x) (hy : Fb .f32 A.y y) (hz : Fb .f32 A.z z) (hp : Fb .f32 M.x p) (hq : Fb .f32 M.y q) (hr : Fb .f32 M.z r) : Db A M (.agg #[.float .f32 x, .float .f32 y, .float .f32 z, .float .f32 p, .float .f32 q, .float .f32 r]) := ⟨x, y, z, p, q, r, rfl, hx, hy, hz, hp, hq, hr⟩
/-- The value stands for the pole at A with the strength S. -/
def Pb (A : V3) (S : Nat) (v : Value) : Prop := ∃ x y z s, v = .agg #[.float .f32 x, .float .f32 y, .float .f32 z, .float .f32 s] ∧ Fb .f32 A.x x ∧ Fb .f32 A.y y ∧ Fb .f32 A.z z ∧ Fb .f32 S s
theorem Pb.eta {A : V3} {S x y z s : Nat} (hx : Fb .f32 A.x x) (hy : Fb .f32 A.y y) (hz : Fb .f32 A.z z) (hs : Fb .f32 S s) : Pb A S (.agg #[.float .f32 x, .float .f32 y, .float .f32 z, .float .f32 s]) := ⟨x, y, z, s, rfl, hx, hy, hz, hs⟩
/-- What a call returns; nothing that was there has turned. -/
def RetF (k : FloatKind) (X : Nat) (w : World) (e : Ending) (w' : World) : Prop := ∃ r, e = .returned (.float k r) ∧ Fb k X r ∧ Below w.heap.size w w'
def RetB (b : Bool) (w : World) (e : Ending) (w' : World) : Prop := e = .returned (.bool b) ∧ Below w.heap.size w w'
def RetV (A : V3) (w : World) (e : Ending) (w' : World) : Prop := ∃ v, e = .returned v ∧ Vb A v ∧ Below w.heap.size w w'

def addV (A B : V3) : V3 := ⟨fop .add .f32 A.x B.x, fop .add .f32 A.y B.y, fop .add .f32 A.z B.z⟩
def lessV (A B : V3) : V3 := ⟨fop .sub .f32 A.x B.x, fop .sub .f32 A.y B.y, fop .sub .f32 A.z B.z⟩
def scaleV (A : V3) (S : Nat) : V3 := ⟨fop .mul .f32 A.x S, fop .mul .f32 A.y S, fop .mul .f32 A.z S⟩
def innerV (A B : V3) : Nat := fop .add .f32 (fop .add .f32 (fop .mul .f32 A.x B.x) (fop .mul .f32 A.y B.y)) (fop .mul .f32 A.z B.z)
def crossV (A B : V3) : V3 :=
  ⟨fop .sub .f32 (fop .mul .f32 A.y B.z) (fop .mul .f32 A.z B.y), fop .sub .f32 (fop .mul .f32 A.z B.x) (fop .mul .f32 A.x B.z), fop .sub .f32 (fop .mul .f32 A.x B.y) (fop .mul .f32 A.y B.x)⟩
def cubeF (R : Nat) : Nat := fop .mul .f32 (fop .mul .f32 R R) R

theorem below_drewN {B : Nat} {a w : World} (h : Below B a w) (n : Nat) : Below B a (w.drewN n) := ⟨h.os, h.tape, h.output, h.size, h.block⟩
end Go.Proofs.Ytejpamlaacffaaa

/-
  Slices of floats in memory: what is read, what the call owns. Conditions: none.
-/
namespace Go.Proofs.Ytejpamlaacffaaa
open Go Go.RowKit

/-- The values are floats that stand for X. -/
structure FL (X : List Nat) (xs : List Value) : Prop where
  len : xs.length = X.length
  at_ : ∀ (i : Nat) (x : Nat), X[i]? = some x → ∃ b : Nat, xs[i]? = some (Value.float .f32 b) ∧ Fb .f32 x b

theorem FL.nil : FL [] [] := ⟨rfl, fun i x h => by simp at h⟩
theorem FL.append {X Y : List Nat} {xs ys : List Value} (h : FL X xs) (k : FL Y ys) : FL (X ++ Y) (xs ++ ys) := by
  refine ⟨by simp [h.len, k.len], fun i x hx => ?_⟩
  by_cases hi : i < X.length
  · rw [List.getElem?_append_left hi] at hx
    rw [List.getElem?_append_left (by rw [h.len]; exact hi)]
    exact h.at_ i x hx
  · rw [List.getElem?_append_right (by omega)] at hx
    rw [List.getElem?_append_right (by rw [h.len]; omega), h.len]
    exact k.at_ _ x hx
theorem FL.take {X : List Nat} {xs : List Value} (h : FL X xs) (n : Nat) : FL (X.take n) (xs.take n) := by
  refine ⟨by simp [h.len], fun i x hx => ?_⟩
  rw [List.getElem?_take] at hx
  split at hx
  · rename_i hi
    rw [List.getElem?_take, if_pos hi]
    exact h.at_ i x hx
  · cases hx
theorem FL.one {X x : Nat} (h : Fb .f32 X x) : FL [X] [.float .f32 x] := ⟨rfl, fun i y hy => by
  match i with
  | 0 => simp at hy; subst hy; exact ⟨x, rfl, h⟩
  | i + 1 => simp at hy⟩
/-- A slice of n elements at A reads as X (size floats an element), below block B. -/
structure Rd (w : World) (B size : Nat) (A : Option Addr) (n : Nat) (X : List Nat) : Prop where
  len : X.length = n * size
  adr : 0 < n → ∃ b o, A = some ⟨b, o, none⟩ ∧ b < B ∧ ∀ (j : Nat) (x : Nat), X[j]? = some x → ∃ u : Nat, w.cell? ⟨b, o + j, none⟩ = some (Value.float .f32 u) ∧ Fb .f32 x u

theorem Rd.keep {w w' : World} {B size n : Nat} {A : Option Addr} {X : List Nat} (h : Rd w B size A n X) (hk : ∀ k, k < B → w'.heap[k]? = w.heap[k]?) : Rd w' B size A n X :=
  ⟨h.len, fun hn => by
    obtain ⟨b, o, e, hb, hc⟩ := h.adr hn
    refine ⟨b, o, e, hb, fun j x hx => ?_⟩
    obtain ⟨u, h1, h2⟩ := hc j x hx
    exact ⟨u, by rw [World.cell?_of_block (w := w) (hk b hb)]; exact h1, h2⟩⟩
theorem Rd.below {w w' : World} {B B' size n : Nat} {A : Option Addr} {X : List Nat} (h : Rd w B size A n X) (hb : Below B' w w') (hB : B ≤ B') : Rd w' B size A n X := h.keep fun k hk => hb.block k (by omega)
theorem Rd.more {w : World} {B B' size n : Nat} {A : Option Addr} {X : List Nat} (h : Rd w B size A n X) (hB : B ≤ B') : Rd w B' size A n X :=
  ⟨h.len, fun hn => by
    obtain ⟨b, o, e, hb, hc⟩ := h.adr hn
    exact ⟨b, o, e, by omega, hc⟩⟩

/-- What the call owns: a slice of its own, in a block from lo on, before hi, that reads as X. -/
structure Ow (w : World) (lo hi : Nat) (T : TypeId) (size : Nat) (v : Value) (n : Nat) (X : List Nat) : Prop where
  own : ∃ xs, w.ownsRow lo T size v n xs ∧ FL X xs
  top : ∀ g, v.ownBlock = some g → g < hi
  hiw : hi ≤ w.heap.size

theorem Ow.len {w : World} {lo hi : Nat} {T : TypeId} {size : Nat} {v : Value} {n : Nat} {X : List Nat} (h : Ow w lo hi T size v n X) : X.length = n * size := by
  obtain ⟨xs, h1, h2⟩ := h.own
  rw [← h2.len]
  exact h1.1
theorem Ow.nil {w : World} {lo hi : Nat} (T : TypeId) (size : Nat) (h : hi ≤ w.heap.size) : Ow w lo hi T size (.slice none 0 0) 0 [] := ⟨⟨[], World.ownsRow_nil _ _ _ _, FL.nil⟩, fun g h => by simp [Value.ownBlock] at h, h⟩
theorem Ow.keep {w w' : World} {lo hi : Nat} {T : TypeId} {size : Nat} {v : Value} {n : Nat} {X : List Nat} (h : Ow w lo hi T size v n X) (hs : w.heap.size ≤ w'.heap.size) (hk : ∀ k, lo ≤ k → k < hi → w'.heap[k]? = w.heap[k]?) : Ow w' lo hi T size v n X := by
  obtain ⟨xs, ⟨hl, h1⟩, h2⟩ := h.own
  refine ⟨⟨xs, ⟨hl, ?_⟩, h2⟩, h.top, Nat.le_trans h.hiw hs⟩
  rcases h1 with h1 | ⟨g, cap, cur, rfl, hg, hh, r⟩
  · exact .inl h1
  · exact .inr ⟨g, cap, cur, rfl, hg, by rw [hk g hg (h.top g rfl)]; exact hh, r⟩
theorem Ow.below {w w' : World} {B lo hi : Nat} {T : TypeId} {size : Nat} {v : Value} {n : Nat} {X : List Nat} (h : Ow w lo hi T size v n X) (hb : Below B w w') (hB : hi ≤ B) : Ow w' lo hi T size v n X :=
  h.keep hb.size fun k _ hk => hb.block k (by omega)
theorem Ow.more {w : World} {lo lo' hi hi' : Nat} {T : TypeId} {size : Nat} {v : Value} {n : Nat} {X : List Nat} (h : Ow w lo hi T size v n X) (hl : lo' ≤ lo) (hh : hi ≤ hi') (hw : hi' ≤ w.heap.size) : Ow w lo' hi' T size v n X := by
  obtain ⟨xs, ⟨hlen, h1⟩, h2⟩ := h.own
  refine ⟨⟨xs, ⟨hlen, ?_⟩, h2⟩, fun g hg => Nat.lt_of_lt_of_le (h.top g hg) hh, hw⟩
  rcases h1 with h1 | ⟨g, cap, cur, rfl, hg, r⟩
  · exact .inl h1
  · exact .inr ⟨g, cap, cur, rfl, by omega, r⟩

/-- Block g is just the cells cs of element type t, none frozen. -/
def Blk (w : World) (g : Nat) (t : TypeId) (cs : Array Value) : Prop := w.heap[g]? = some (.cells cs t (0, 0))
section
variable {w w' : World} {g : Nat} {t : TypeId} {cs : Array Value}
theorem Blk.lt (h : Blk w g t cs) : g < w.heap.size := by
  rcases Nat.lt_or_ge g w.heap.size with hlt | hge
  · exact hlt
  · unfold Blk at h; rw [Array.getElem?_eq_none hge] at h; cases h
theorem Blk.cell (h : Blk w g t cs) (i : Nat) : w.cell? ⟨g, i, none⟩ = cs[i]? := cell_of_row w g i cs t (0, 0) h
theorem Blk.frozen (h : Blk w g t cs) (i : Nat) : w.frozen? ⟨g, i, none⟩ = false := by
  unfold Blk at h
  simp [World.frozen?, h]
theorem Blk.below {B : Nat} (h : Blk w g t cs) (hb : Below B w w') (hg : g < B) : Blk w' g t cs := (hb.block g hg).trans h
end

/-- The cells up to m stand for X up to m. -/
def CellsTo (cs : Array Value) (X : List Nat) (m : Nat) : Prop := ∀ j x, j < m → X[j]? = some x → ∃ u : Nat, cs[j]? = some (Value.float .f32 u) ∧ Fb .f32 x u
theorem CellsTo.zero (cs : Array Value) (X : List Nat) : CellsTo cs X 0 := fun j x h => absurd h (by omega)
theorem CellsTo.step {cs : Array Value} {X : List Nat} {m x u : Nat} (h : CellsTo cs X m) (hm : m < cs.size) (hx : X[m]? = some x) (hu : Fb .f32 x u) : CellsTo (cs.setIfInBounds m (Value.float .f32 u)) X (m + 1) := by
  intro j y hj hy
  by_cases hjm : j = m
  · subst hjm
    rw [hx] at hy
    injection hy with hy
    subst hy
    exact ⟨u, by simp [hm], hu⟩
  · obtain ⟨v, hv, hf⟩ := h j y (by omega) hy
    refine ⟨v, ?_, hf⟩
    rw [Array.getElem?_setIfInBounds, if_neg (by omega)]
    exact hv

/-- What a loop that fills a slice of its own has done after k rounds. -/
def Filled (w wr : World) (T size n k : Nat) (X : List Nat) : Prop :=
  Below w.heap.size w wr ∧ w.heap.size < wr.heap.size ∧ ∃ cs : Array Value, Blk wr w.heap.size T cs ∧ cs.size = n * size ∧ CellsTo cs X (k * size)

theorem Filled.done {w wr : World} {T : TypeId} {size n : Nat} {X : List Nat} (h : Filled w wr T size n n X) (hl : X.length = n * size) (hn : n ≤ maxLen) : Ow wr w.heap.size wr.heap.size T size (.slice (some ⟨w.heap.size, 0, none⟩) n n) n X := by
  obtain ⟨hb, hlt, cs, hblk, hsz, hc⟩ := h
  refine ⟨⟨cs.toList, ⟨by simpa using hsz, .inr ⟨w.heap.size, n, cs, rfl, Nat.le_refl _, hblk, Nat.le_refl _, hn, hsz, List.take_of_length_le (by simp [hsz])⟩⟩, by simp [hsz, hl], fun i x hx => ?_⟩, fun g hg => ?_, Nat.le_refl _⟩
  · have hi : i < X.length := (List.getElem?_eq_some_iff.1 hx).1
    obtain ⟨u, hu, hf⟩ := hc i x (by omega) hx
    exact ⟨u, by simpa using hu, hf⟩
  · simp [Value.ownBlock] at hg
    omega

/-- Only the blocks from lo on, before hi, and new ones, have turned. -/
structure Only (lo hi : Nat) (w w' : World) : Prop where
  os : w'.os = w.os
  tape : w'.tape = w.tape
  output : w'.output = w.output
  size : w.heap.size ≤ w'.heap.size
  block : ∀ k, k < w.heap.size → (k < lo ∨ hi ≤ k) → w'.heap[k]? = w.heap[k]?
theorem Only.refl (lo hi : Nat) (w : World) : Only lo hi w w := ⟨rfl, rfl, rfl, Nat.le_refl _, fun _ _ _ => rfl⟩
theorem Only.below {lo hi B : Nat} {w w' : World} (h : Only lo hi w w') (hB : B ≤ lo) (hw : B ≤ w.heap.size) : Below B w w' := ⟨h.os, h.tape, h.output, h.size, fun k hk => h.block k (by omega) (by omega)⟩
theorem Only.cell {lo hi g : Nat} {w w' : World} (h : Only lo hi w w') (hg : g < w.heap.size) (hor : g < lo ∨ hi ≤ g) (o : Nat) : w'.cell? ⟨g, o, none⟩ = w.cell? ⟨g, o, none⟩ := World.cell?_of_block (w := w) (a := ⟨g, o, none⟩) (h.block g hg hor)
/-- What marking writes: the numbers from K on. -/
def marks (K : Int) (m : Nat) : List Nat := (List.range m).map fun (j : Nat) => floatOfInt .f32 (K + (j : Int))
theorem marks_len (K : Int) (m : Nat) : (marks K m).length = m := by simp [marks]
/-- An owned slice of one element or more is the head of a block. -/
theorem Ow.block {w : World} {lo hi : Nat} {T : TypeId} {size : Nat} {v : Value} {n : Nat} {X : List Nat} (h : Ow w lo hi T size v n X) (hn : 0 < n) :
    ∃ g c cs, v = .slice (some ⟨g, 0, none⟩) n c ∧ lo ≤ g ∧ g < hi ∧ Blk w g T cs ∧ n ≤ c ∧ c ≤ maxLen ∧ cs.size = c * size := by
  obtain ⟨xs, ⟨hl, h1⟩, h2⟩ := h.own
  rcases h1 with ⟨rfl, rfl⟩ | ⟨g, cap, cur, rfl, hg, hh, hnc, hcm, hcs, htake⟩
  · omega
  · exact ⟨g, cap, cur, rfl, hg, h.top g rfl, hh, hnc, hcm, hcs⟩

/-- What a loop that marks a slice has done after k rounds. -/
def Marking (w wr : World) (lo hi g : Nat) (T size c n k : Nat) (K : Int) : Prop :=
  Only lo hi w wr ∧ ∃ cs : Array Value, Blk wr g T cs ∧ cs.size = c * size ∧ CellsTo cs (marks K (n * size)) (k * size)
theorem Marking.done {w wr : World} {lo hi g T size c n : Nat} {K : Int} (h : Marking w wr lo hi g T size c n n K) (hg : lo ≤ g) (hg2 : g < hi) (hnc : n ≤ c) (hc : c ≤ maxLen) (hw : hi ≤ w.heap.size) :
    Ow wr lo hi T size (.slice (some ⟨g, 0, none⟩) n c) n (marks K (n * size)) := by
  obtain ⟨ho, cs, hb, hs, hct⟩ := h
  have hmul : n * size ≤ c * size := Nat.mul_le_mul_right _ hnc
  refine ⟨⟨cs.toList.take (n * size), ⟨by rw [List.length_take, Array.length_toList, hs]; exact Nat.min_eq_left hmul, .inr ⟨g, c, cs, rfl, hg, hb, hnc, hc, hs, rfl⟩⟩, by rw [List.length_take, Array.length_toList, hs, marks_len]; exact Nat.min_eq_left hmul, fun i x hx => ?_⟩, fun k hk => ?_, Nat.le_trans hw ho.size⟩
  · have hi : i < n * size := by have := (List.getElem?_eq_some_iff.1 hx).1; rwa [marks_len] at this
    obtain ⟨u, hu, hf⟩ := hct i x hi hx
    exact ⟨u, by rw [List.getElem?_take, if_pos hi]; simpa using hu, hf⟩
  · simp [Value.ownBlock] at hk
    omega

/-- The call returns a new slice of n elements that reads as X, a block of its own; nothing that was there has turned. -/
def RetS (T : TypeId) (size n : Nat) (X : List Nat) (w : World) (e : Ending) (w' : World) : Prop := ∃ v, e = .returned v ∧ Ow w' w.heap.size w'.heap.size T size v n X ∧ Below w.heap.size w w'
/-- The same with true behind it. -/
def RetSB (T : TypeId) (size n : Nat) (X : List Nat) (ok : Bool) (w : World) (e : Ending) (w' : World) : Prop := ∃ v, e = .returned (.tuple #[v, .bool ok]) ∧ Ow w' w.heap.size w'.heap.size T size v n X ∧ Below w.heap.size w w'

end Go.Proofs.Ytejpamlaacffaaa

/-
  A region that draws its order, walked once in the order of its text: each operation ahead of the tail yields some value of a relation that was fixed before, in every world of a class, and leaves a world of the class. Conditions: none.
-/
namespace Go.Proofs.Ytejpamlaacffaaa
open Go Go.RowKit

section
variable {P : Program} {ops : Array Oper} {md : Region.Mode} {C : World → Prop} {Rs : Nat → Value → World → Prop}

/-- What is asked of one operation: some value of R, a world of the class, in which nothing that was there has turned. -/
def relUpon (P : Program) (C : World → Prop) (w : World) (R : Value → World → Prop) : Result Next → Prop
  | .ok (.value u) w' => C w' ∧ Below w.heap.size w w' ∧ R u w'
  | .ok .skip w' => C w' ∧ Below w.heap.size w w' ∧ R undef w'
  | .ok (.enter f args) w' => Calls P f args w' fun e w'' => ∃ v, e = .returned v ∧ C w'' ∧ Below w.heap.size w w'' ∧ R v w''
  | _ => False

/-- Facts that stand whatever is done next. -/
def Stable (F : World → Prop) : Prop := ∀ w w', Below w.heap.size w w' → F w → F w'

def Yields (P : Program) (ops : Array Oper) (C : World → Prop) (o : Oper) (R : Value → World → Prop) (a : Act) : Prop :=
  (Region.wanted o (yielded ops a.tmps) = true ∧ ∀ w, C w → relUpon P C w R ((execOp a.eval o).run P w)) ∨
  (Region.wanted o (yielded ops a.tmps) = false ∧ ∀ w, R undef w)

/-- Operation number i comes up; what follows is asked of every value that it may yield. -/
def rOp (P : Program) (ops : Array Oper) (C : World → Prop) (Rs : Nat → Value → World → Prop) (i : Nat) (K : Act → (World → Prop) → Prop) (a : Act) (F : World → Prop) : Prop :=
  match ops[i]? with
  | none => False
  | some o => Yields P ops C o (Rs i) a ∧ ∀ v, (∃ w, C w ∧ Rs i v w) → K (a.put o.dst v) (fun w => F w ∧ Rs i v w)

/-- Whatever order is picked, as far as the tail. -/
def wpAnyR (P : Program) (md : Region.Mode) (ops : Array Oper) (C : World → Prop) (Rs : Nat → Value → World → Prop) (n : Nat) (L : Array Bool → Act → (World → Prop) → Prop) : Nat → Array Bool → Act → (World → Prop) → Prop
  | 0, listed, a, F => L listed a F
  | f + 1, listed, a, F => Region.ready md ops listed ≠ [] ∧ ∀ i ∈ Region.ready md ops listed, i < n ∧ rOp P ops C Rs i (wpAnyR P md ops C Rs n L f (listed.setIfInBounds i true)) a F

/-- A value that the operation may yield. -/
theorem Yields.some_ {o : Oper} {R : Value → World → Prop} {a : Act} (hC : ∃ w, C w) (hy : Yields P ops C o R a) : ∃ v w, C w ∧ R v w := by
  obtain ⟨w, hw⟩ := hC
  rcases hy with ⟨_, hy⟩ | ⟨_, hy⟩
  · have h3 := hy w hw
    generalize (execOp a.eval o).run P w = r at *
    cases r with
    | ok n w' =>
      cases n <;> simp only [relUpon] at h3
      case value u => exact ⟨u, w', h3.1, h3.2.2⟩
      case skip => exact ⟨undef, w', h3.1, h3.2.2⟩
      case enter f args =>
        obtain ⟨e, w'', _, ⟨v, _, h1, _, h2⟩, _⟩ := h3 []
        exact ⟨v, w'', h1, h2⟩
    | halt x w' => simp only [relUpon] at h3
  · exact ⟨undef, w, hw, hy w⟩

/-- The walk in the order of the text: k is the number of the operation at hand. -/
def wpRel (P : Program) (ops : Array Oper) (C : World → Prop) (Rs : Nat → Value → World → Prop) (T : Act → (World → Prop) → Prop) : Nat → List Oper → Act → (World → Prop) → Prop
  | _, [], a, F => T a F
  | k, o :: rest, a, F => Yields P ops C o (Rs k) a ∧ ∀ v, (∃ w, C w ∧ Rs k v w) → wpRel P ops C Rs T (k + 1) rest (a.put o.dst v) (fun w => F w ∧ Rs k v w)

end

/- The steps of such a walk, in the class of the worlds that have kept all that there was. -/
structure SR where
  R : Value → World → Prop
  st : ∀ v, Stable (R v)
def SR.top : SR := ⟨fun _ _ => True, fun _ _ _ _ _ => trivial⟩
def SR.pure (R : Value → Prop) : SR := ⟨fun v _ => R v, fun _ _ _ _ h => h⟩
/-- A box that was laid behind w0 and that holds O. -/
def SR.fresh (w0 : World) (O : Obj) : SR := ⟨fun v w => ∃ b, v = .pointer (some ⟨b, 0, none⟩) ∧ w0.heap.size ≤ b ∧ b < w.heap.size ∧ w.heap[b]? = some O, fun _ w w' hb h => by
  obtain ⟨b, rfl, h1, h2, h3⟩ := h
  exact ⟨b, rfl, h1, Nat.lt_of_lt_of_le h2 hb.size, (hb.block b h2).trans h3⟩⟩
def rels (l : List SR) (i : Nat) : Value → World → Prop := (l.getD i SR.top).R
def CB (w0 w : World) : Prop := Below w0.heap.size w0 w
theorem CB.step {w0 w w' : World} (h : CB w0 w) (k : Below w.heap.size w w') : CB w0 w' := Below.trans h (k.mono h.size)
def vUpon (K : Value → World → Prop) : Result Next → Prop
  | .ok (.value v) w => K v w
  | _ => False
def cUpon (K : FuncId → Array Value → World → Prop) : Result Next → Prop
  | .ok (.enter f args) w => K f args w
  | _ => False
attribute [go_sem] vUpon cUpon
/-- A call that gives a value of R, and turns nothing that was there. -/
def RetG (R : Value → Prop) (w : World) (e : Ending) (w' : World) : Prop := ∃ v, e = .returned v ∧ R v ∧ Below w.heap.size w w'
theorem RetF.g {P : Program} {f : FuncId} {args : Array Value} {fk : FloatKind} {X : Nat} {w : World} (h : Calls P f args w (RetF fk X w)) : Calls P f args w (RetG (fun v => ∃ r, v = .float fk r ∧ Fb fk X r) w) :=
  h.mono fun _ _ ⟨r, h1, h2, h3⟩ => ⟨_, h1, ⟨r, rfl, h2⟩, h3⟩
theorem RetB.g {P : Program} {f : FuncId} {args : Array Value} {b : Bool} {w : World} (h : Calls P f args w (RetB b w)) : Calls P f args w (RetG (fun v => v = .bool b) w) :=
  h.mono fun _ _ ⟨h1, h3⟩ => ⟨_, h1, rfl, h3⟩

section
variable {P : Program} {ops : Array Oper} {w0 : World} {Rs : List SR} {T : Act → (World → Prop) → Prop} {k : Nat} {o : Oper} {rest : List Oper} {a : Act} {F : World → Prop}

def ExR : Nat → (List SR → Prop) → Prop
  | 0, p => p []
  | n + 1, p => ∃ R, ExR n (fun l => p (R :: l))
theorem ExR.out : ∀ {n : Nat} {p : List SR → Prop}, ExR n p → ∃ l, p l
  | 0, _, h => ⟨_, h⟩
  | _ + 1, _, h => by
    obtain ⟨R, h⟩ := h
    obtain ⟨l, h⟩ := ExR.out h
    exact ⟨_, h⟩

end

end Go.Proofs.Ytejpamlaacffaaa

/-
  Abstract values and states: what a walk over a function's text needs to know of the frame and of memory. Conditions: none.
-/
namespace Go.Proofs.Ytejpamlaacffaaa
open Go Go.RowKit

/-- An abstract value: a relation that later worlds keep. -/
structure AV where
  R : World → Value → Prop
  p : Bool
  mono : ∀ {w w' : World} {v : Value}, Below w.heap.size w w' → R w v → R w' v
  pure : p = true → ∀ {w w' : World} {v : Value}, R w v → R w' v

def All (w : World) : List AV → List Value → Prop
  | [], [] => True
  | A :: l, u :: us => A.R w u ∧ All w l us
  | _, _ => False

theorem All.mono {w w' : World} (hb : Below w.heap.size w w') : ∀ {l : List AV} {us : List Value}, All w l us → All w' l us
  | [], [], _ => trivial
  | A :: l, u :: us, h => ⟨A.mono hb h.1, All.mono hb h.2⟩
  | [], _ :: _, h => h.elim
  | _ :: _, [], h => h.elim
theorem All.pure {w w' : World} : ∀ {l : List AV} {us : List Value}, l.all (·.p) = true → All w l us → All w' l us
  | [], [], _, _ => trivial
  | A :: l, u :: us, hp, h => by
    simp only [List.all_cons, Bool.and_eq_true] at hp
    exact ⟨A.pure hp.1 h.1, All.pure hp.2 h.2⟩
  | [], _ :: _, _, h => h.elim
  | _ :: _, [], _, h => h.elim
theorem All.length {w : World} : ∀ {l : List AV} {us : List Value}, All w l us → us.length = l.length
  | [], [], _ => rfl
  | _ :: _, _ :: _, h => by simp [All.length h.2]
  | [], _ :: _, h => h.elim
  | _ :: _, [], h => h.elim
theorem All.get {w : World} : ∀ {l : List AV} {us : List Value}, All w l us → ∀ {j : Nat} {A : AV}, l[j]? = some A → ∃ u, us[j]? = some u ∧ A.R w u
  | [], [], _, j, A, e => by simp at e
  | B :: l, u :: us, h, 0, A, e => by
    simp at e
    subst e
    exact ⟨u, by simp, h.1⟩
  | B :: l, u :: us, h, j + 1, A, e => by
    simp at e
    obtain ⟨x, hx, hr⟩ := All.get h.2 e
    exact ⟨x, by simpa using hx, hr⟩
  | [], _ :: _, h, _, _, _ => h.elim
  | _ :: _, [], h, _, _, _ => h.elim
theorem All.of_get {w : World} : ∀ {l : List AV} {us : List Value}, us.length = l.length → (∀ (j : Nat) (A : AV), l[j]? = some A → ∃ u, us[j]? = some u ∧ A.R w u) → All w l us
  | [], [], _, _ => trivial
  | B :: l, u :: us, hl, h => by
    obtain ⟨x, hx, hr⟩ := h 0 B (by simp)
    simp at hx
    subst hx
    exact ⟨hr, All.of_get (by simpa using hl) fun j A e => by
      obtain ⟨y, hy, hs⟩ := h (j + 1) A (by simpa using e)
      exact ⟨y, by simpa using hy, hs⟩⟩
  | [], _ :: _, hl, _ => by simp at hl
  | _ :: _, [], hl, _ => by simp at hl
theorem All.append {w : World} : ∀ {l l' : List AV} {us us' : List Value}, All w l us → All w l' us' → All w (l ++ l') (us ++ us')
  | [], _, [], _, _, k => k
  | _ :: _, _, _ :: _, _, h, k => ⟨h.1, All.append h.2 k⟩
  | [], _, _ :: _, _, h, _ => h.elim
  | _ :: _, _, [], _, h, _ => h.elim
theorem All.take {w : World} (n : Nat) : ∀ {l : List AV} {us : List Value}, All w l us → All w (l.take n) (us.take n) := by
  induction n with
  | zero => intro l us _; simp [All]
  | succ n ih =>
    intro l us h
    match l, us, h with
    | [], [], _ => simp [All]
    | A :: l, u :: us, h => exact ⟨h.1, ih h.2⟩
theorem All.drop {w : World} (n : Nat) : ∀ {l : List AV} {us : List Value}, All w l us → All w (l.drop n) (us.drop n) := by
  induction n with
  | zero => intro l us h; simpa using h
  | succ n ih =>
    intro l us h
    match l, us, h with
    | [], [], _ => simp [All]
    | A :: l, u :: us, h => simpa using ih h.2

/-- A float of kind k that stands for X. -/
def fl (k : FloatKind) (X : Nat) : AV := ⟨fun _ v => ∃ b, v = .float k b ∧ Fb k X b, true, fun _ h => h, fun _ _ _ _ h => h⟩
/-- Just this value. -/
def vv (u : Value) : AV := ⟨fun _ v => v = u, true, fun _ h => h, fun _ _ _ _ h => h⟩
/-- A struct by value: its cells. -/
def agg (l : List AV) : AV := ⟨fun w v => ∃ cs : List Value, v = .agg cs.toArray ∧ All w l cs ∧ ∀ u ∈ cs, u.oneCell' = true, l.all (·.p),
  fun hb h => by obtain ⟨cs, e, h, ho⟩ := h; exact ⟨cs, e, h.mono hb, ho⟩, fun hp _ _ _ h => by obtain ⟨cs, e, h, ho⟩ := h; exact ⟨cs, e, All.pure hp h, ho⟩⟩
def tup (l : List AV) : AV := ⟨fun w v => ∃ cs : List Value, v = .tuple cs.toArray ∧ All w l cs, l.all (·.p),
  fun hb h => by obtain ⟨cs, e, h⟩ := h; exact ⟨cs, e, h.mono hb⟩, fun hp _ _ _ h => by obtain ⟨cs, e, h⟩ := h; exact ⟨cs, e, All.pure hp h⟩⟩
/-- The cells from place p of block b on hold l. -/
def Lies (w : World) (b p : Nat) (l : List AV) : Prop := b < w.heap.size ∧ ∀ (j : Nat) (A : AV), l[j]? = some A → ∃ u, w.cell? ⟨b, p + j, none⟩ = some u ∧ A.R w u ∧ u.oneCell' = true
theorem Lies.mono {w w' : World} {b p : Nat} {l : List AV} (hb : Below w.heap.size w w') (h : Lies w b p l) : Lies w' b p l := by
  refine ⟨Nat.lt_of_lt_of_le h.1 hb.size, fun j A e => ?_⟩
  obtain ⟨u, hu, hr, h1⟩ := h.2 j A e
  exact ⟨u, (hb.cell (p := ⟨b, p + j, none⟩) h.1).trans hu, A.mono hb hr, h1⟩
/-- A pointer to place o of cells l that only are read. -/
def rp (l : List AV) (o : Nat) : AV := ⟨fun w v => ∃ b p, v = .pointer (some ⟨b, p + o, none⟩) ∧ Lies w b p l, false,
  fun hb h => by obtain ⟨b, p, e, h⟩ := h; exact ⟨b, p, e, h.mono hb⟩, fun hp => by cases hp⟩
/-- A slice of n elements of size cells each that only is read. -/
def rs (size n : Nat) (c : Nat → List AV) : AV := ⟨fun w v => ∃ a cap, v = .slice a n cap ∧ n ≤ cap ∧ (0 < n → ∃ b p, a = some ⟨b, p, none⟩ ∧ ∀ k, k < n → Lies w b (p + k * size) (c k)), false,
  fun hb h => by
    obtain ⟨a, cap, e, hn, h⟩ := h
    refine ⟨a, cap, e, hn, fun h0 => ?_⟩
    obtain ⟨b, p, e2, h2⟩ := h h0
    exact ⟨b, p, e2, fun k hk => (h2 k hk).mono hb⟩, fun hp => by cases hp⟩
def ptr (b o : Nat) : AV := vv (.pointer (some ⟨b, o, none⟩))

/-- The cells that a value fills. -/
def CellsOf (A : AV) (l : List AV) : Prop := ∀ w v, A.R w v → All w l v.cells.toList ∧ ∀ u ∈ v.cells.toList, u.oneCell' = true
theorem cellsOf_fl (k : FloatKind) (X : Nat) : CellsOf (fl k X) [fl k X] := fun w v h => by
  obtain ⟨b, rfl, hb⟩ := h
  exact ⟨⟨⟨b, rfl, hb⟩, trivial⟩, fun u hu => by simp [Value.cells] at hu; subst hu; rfl⟩
theorem cellsOf_vv {u : Value} (h : u.oneCell' = true) : CellsOf (vv u) [vv u] := fun w v e => by
  obtain rfl : v = u := e
  have hc : v.cells = #[v] := by cases v <;> first | rfl | (simp [Value.oneCell'] at h)
  rw [hc]
  exact ⟨⟨rfl, trivial⟩, fun u hu => by simp at hu; subst hu; exact h⟩
theorem cellsOf_agg (l : List AV) : CellsOf (agg l) l := fun w v h => by
  obtain ⟨cs, rfl, h, ho⟩ := h
  exact ⟨by simpa [Value.cells] using h, by simpa [Value.cells] using ho⟩
theorem cellsOf_rs (size n : Nat) (c : Nat → List AV) : CellsOf (rs size n c) [rs size n c] := fun w v h => by
  obtain ⟨a, cap, rfl, hh⟩ := h
  exact ⟨⟨⟨a, cap, rfl, hh⟩, trivial⟩, fun u hu => by simp [Value.cells] at hu; subst hu; rfl⟩
theorem cellsOf_rp (l : List AV) (o : Nat) : CellsOf (rp l o) [rp l o] := fun w v h => by
  obtain ⟨b, p, rfl, hh⟩ := h
  exact ⟨⟨⟨b, p, rfl, hh⟩, trivial⟩, fun u hu => by simp [Value.cells] at hu; subst hu; rfl⟩

/-- Memory of the call's own. -/
inductive HE where
  | cells (b : Nat) (l : List AV)
  | row (v : Value) (T size n : Nat) (c : Nat → List AV)
  | fr (w1 : World) (p : Nat → Prop)
def HE.foot : HE → Nat → Prop
  | .cells b _, g => g = b
  | .row v .., g => v.ownBlock = some g
  | .fr _ p, g => p g
def HE.ok (w0 w : World) : HE → Prop
  | .cells b l => ∃ cs T, w.heap[b]? = some (.cells cs T (0, 0)) ∧ All w0 l cs.toList ∧ ∀ u ∈ cs.toList, u.oneCell' = true
  | .row v T size n c => ∃ xs, w.ownsRow w0.heap.size T size v n xs ∧ (∀ k, k < n → All w0 (c k) ((xs.drop (k * size)).take size)) ∧ ∀ u ∈ xs, u.oneCell' = true
  | .fr w1 p => w1.heap.size ≤ w.heap.size ∧ ∀ g, p g → w.heap[g]? = w1.heap[g]?
def HOk (w0 w : World) : List HE → Prop
  | [] => True
  | e :: H => e.ok w0 w ∧ (∀ g, e.foot g → w0.heap.size ≤ g ∧ g < w.heap.size ∧ ∀ e' ∈ H, ¬ e'.foot g) ∧ HOk w0 w H

theorem HE.ok.keep {w0 w w' : World} {e : HE} (h : e.ok w0 w) (hs : w.heap.size ≤ w'.heap.size) (hk : ∀ g, e.foot g → w'.heap[g]? = w.heap[g]?) : e.ok w0 w' := by
  cases e with
  | cells b l =>
    obtain ⟨cs, T, h1, h2⟩ := h
    exact ⟨cs, T, (hk b rfl).trans h1, h2⟩
  | row v T size n c =>
    obtain ⟨xs, ⟨hl, h1⟩, h2⟩ := h
    refine ⟨xs, ⟨hl, ?_⟩, h2⟩
    rcases h1 with h1 | ⟨g, cap, cur, rfl, hg, hh, r⟩
    · exact .inl h1
    · exact .inr ⟨g, cap, cur, rfl, hg, (hk g rfl).trans hh, r⟩
  | fr w1 p => exact ⟨Nat.le_trans h.1 hs, fun g hg => (hk g hg).trans (h.2 g hg)⟩
theorem HOk.keep {w0 w w' : World} : ∀ {H : List HE}, HOk w0 w H → w.heap.size ≤ w'.heap.size → (∀ e ∈ H, ∀ g, e.foot g → w'.heap[g]? = w.heap[g]?) → HOk w0 w' H
  | [], _, _, _ => trivial
  | e :: H, h, hs, hk => ⟨h.1.keep hs (hk e List.mem_cons_self), fun g hg => ⟨(h.2.1 g hg).1, Nat.lt_of_lt_of_le (h.2.1 g hg).2.1 hs, (h.2.1 g hg).2.2⟩, HOk.keep h.2.2 hs fun e' he' => hk e' (List.mem_cons_of_mem _ he')⟩
theorem HOk.foot {w0 w : World} : ∀ {H : List HE}, HOk w0 w H → ∀ e ∈ H, ∀ g, e.foot g → w0.heap.size ≤ g ∧ g < w.heap.size
  | e :: H, h, e', he', g, hg => by
    cases he' with
    | head => exact ⟨(h.2.1 g hg).1, (h.2.1 g hg).2.1⟩
    | tail _ hm => exact HOk.foot h.2.2 e' hm g hg
theorem HOk.below {w0 w w' : World} {H : List HE} (h : HOk w0 w H) (hb : Below w.heap.size w w') : HOk w0 w' H :=
  h.keep hb.size fun e he g hg => hb.block g (h.foot e he g hg).2
theorem HOk.get {w0 w : World} : ∀ {H : List HE}, HOk w0 w H → ∀ e ∈ H, e.ok w0 w
  | e :: H, h, e', he' => by
    cases he' with
    | head => exact h.1
    | tail _ hm => exact HOk.get h.2.2 e' hm
theorem HOk.cons {w0 w : World} {H : List HE} {e : HE} (h : HOk w0 w H) (he : e.ok w0 w) (hf : ∀ g, e.foot g → w0.heap.size ≤ g ∧ g < w.heap.size ∧ ∀ e' ∈ H, ¬ e'.foot g) : HOk w0 w (e :: H) := ⟨he, hf, h⟩

/-- One entry of the memory is put in place of another one of the same block. -/
inductive HPut : List HE → Nat → List AV → List AV → List HE → Prop where
  | here {b l l' H} : HPut (.cells b l :: H) b l l' (.cells b l' :: H)
  | there {e b l l' H H'} : HPut H b l l' H' → HPut (e :: H) b l l' (e :: H')
theorem HPut.mem {H H' : List HE} {b : Nat} {l l' : List AV} (h : HPut H b l l' H') : HE.cells b l ∈ H := by
  induction h with
  | here => exact .head _
  | there _ ih => exact .tail _ ih
theorem HPut.foots {H H' : List HE} {b : Nat} {l l' : List AV} (h : HPut H b l l' H') : ∀ e' ∈ H', ∃ e ∈ H, ∀ g, e'.foot g → e.foot g := by
  induction h with
  | here =>
    intro e' he'
    cases he' with
    | head => exact ⟨_, .head _, fun g hg => hg⟩
    | tail _ hm => exact ⟨e', .tail _ hm, fun g hg => hg⟩
  | there _ ih =>
    intro e' he'
    cases he' with
    | head => exact ⟨_, .head _, fun g hg => hg⟩
    | tail _ hm =>
      obtain ⟨e, h1, h2⟩ := ih e' hm
      exact ⟨e, .tail _ h1, h2⟩
theorem HPut.ok {w0 w w' : World} {H H' : List HE} {b : Nat} {l l' : List AV} (h : HPut H b l l' H') : HOk w0 w H → w.heap.size ≤ w'.heap.size → (∀ g, g < w.heap.size → g ≠ b → w'.heap[g]? = w.heap[g]?) → (HE.cells b l').ok w0 w' → HOk w0 w' H' := by
  induction h with
  | @here b l l' H =>
    intro hH hs hk hn
    refine ⟨hn, fun g hg => ⟨(hH.2.1 g hg).1, Nat.lt_of_lt_of_le (hH.2.1 g hg).2.1 hs, (hH.2.1 g hg).2.2⟩, hH.2.2.keep hs fun e he g hg => hk g (hH.2.2.foot e he g hg).2 fun hgb => ?_⟩
    subst hgb
    exact (hH.2.1 g rfl).2.2 e he hg
  | @there e b l l' H H' hp ih =>
    intro hH hs hk hn
    have hne : ∀ g, e.foot g → g ≠ b := fun g hg hgb => by
      subst hgb
      exact (hH.2.1 g hg).2.2 _ hp.mem rfl
    refine ⟨hH.1.keep hs fun g hg => hk g (hH.2.1 g hg).2.1 (hne g hg), fun g hg => ⟨(hH.2.1 g hg).1, Nat.lt_of_lt_of_le (hH.2.1 g hg).2.1 hs, fun e' he' hf => ?_⟩, ih hH.2.2 hs hk hn⟩
    obtain ⟨e2, h1, h2⟩ := hp.foots e' he'
    exact (hH.2.1 g hg).2.2 e2 h1 (h2 g hf)

/-- An entry is taken out. -/
inductive HTake : List HE → HE → List HE → Prop where
  | here {e H} : HTake (e :: H) e H
  | there {e e' H H'} : HTake H e H' → HTake (e' :: H) e (e' :: H')
theorem HTake.sub {H H' : List HE} {e : HE} (h : HTake H e H') : (∀ x ∈ H', x ∈ H) ∧ e ∈ H := by
  induction h with
  | here => exact ⟨fun x hx => .tail _ hx, .head _⟩
  | there _ ih => exact ⟨fun x hx => by
      cases hx with
      | head => exact .head _
      | tail _ hm => exact .tail _ (ih.1 x hm), .tail _ ih.2⟩
theorem HTake.ok {w0 w : World} {H H' : List HE} {e : HE} (h : HTake H e H') : HOk w0 w H → e.ok w0 w ∧ HOk w0 w H' ∧ ∀ g, e.foot g → w0.heap.size ≤ g ∧ g < w.heap.size ∧ ∀ e' ∈ H', ¬ e'.foot g := by
  induction h with
  | here => intro hH; exact ⟨hH.1, hH.2.2, hH.2.1⟩
  | @there e e' H H' hp ih =>
    intro hH
    obtain ⟨h1, h2, h3⟩ := ih hH.2.2
    refine ⟨h1, ⟨hH.1, fun g hg => ⟨(hH.2.1 g hg).1, (hH.2.1 g hg).2.1, fun x hx => (hH.2.1 g hg).2.2 x (hp.sub.1 x hx)⟩, h2⟩, fun g hg => ⟨(h3 g hg).1, (h3 g hg).2.1, fun x hx hf => ?_⟩⟩
    cases hx with
    | head => exact (hH.2.1 g hf).2.2 e hp.sub.2 hg
    | tail _ hm => exact (h3 g hg).2.2 x hm hf

/-- What is known of a frame and of memory. -/
structure AS where
  nt : Nat
  env : List (Nat × AV)
  heap : List HE
def look (t : Nat) : List (Nat × AV) → Option AV
  | [] => none
  | (d, A) :: r => match Nat.beq t d with
    | true => some A
    | false => look t r
structure Sat (w0 : World) (s : AS) (a : Act) (w : World) : Prop where
  below : Below w0.heap.size w0 w
  size : a.tmps.size = s.nt
  defers : a.defers = []
  env : ∀ t A, look t s.env = some A → A.R w0 (a.tmps.getD t undef)
  heap : HOk w0 w s.heap

def AS.put (s : AS) (dst : Option Tmp) (A : AV) : AS := match dst with
  | some d => ⟨s.nt, (d, A) :: s.env, s.heap⟩
  | none => s
def AS.with (s : AS) (dst : Option Tmp) (A : AV) (H : List HE) : AS := match dst with
  | some d => ⟨s.nt, (d, A) :: s.env, H⟩
  | none => ⟨s.nt, s.env, H⟩
def dok (s : AS) : Option Tmp → Bool
  | some d => Nat.blt d s.nt
  | none => true

theorem look_put {w0 : World} {a : Act} {env : List (Nat × AV)} {d : Nat} {A : AV} {v : Value} (he : ∀ t A, look t env = some A → A.R w0 (a.tmps.getD t undef)) (hv : A.R w0 v) (hd : d < a.tmps.size) :
    ∀ t B, look t ((d, A) :: env) = some B → B.R w0 ((a.tmps.setIfInBounds d v).getD t undef) := by
  intro t B h
  unfold look at h
  split at h
  · rename_i hb
    obtain rfl : t = d := Nat.eq_of_beq_eq_true hb
    injection h with h
    subst h
    have : (a.tmps.setIfInBounds t v).getD t undef = v := by
      simp [Array.getD, hd]
    rw [this]
    exact hv
  · rename_i hb
    have hne : t ≠ d := Nat.ne_of_beq_eq_false hb
    have : (a.tmps.setIfInBounds d v).getD t undef = a.tmps.getD t undef := by
      simp only [Array.getD_eq_getD_getElem?, Array.getElem?_setIfInBounds, if_neg (Ne.symm hne)]
    rw [this]
    exact he t B h

theorem Sat.put {w0 : World} {s : AS} {a : Act} {w w' : World} {A : AV} {v : Value} {dst : Option Tmp} (h : Sat w0 s a w) (hb : Below w.heap.size w w') (hv : A.R w0 v) (hd : dok s dst = true) : Sat w0 (s.put dst A) (a.put dst v) w' := by
  have hb0 : Below w0.heap.size w0 w' := h.below.trans (hb.mono h.below.size)
  cases dst with
  | none => exact ⟨hb0, h.size, h.defers, h.env, h.heap.below hb⟩
  | some d =>
    have hd' : d < a.tmps.size := by rw [h.size]; exact Nat.blt_eq ▸ hd
    exact ⟨hb0, by simp [AS.put, Act.put, h.size], h.defers, look_put h.env hv hd', h.heap.below hb⟩
/-- A step that turns the memory of the call's own. -/
theorem Sat.step {w0 : World} {s : AS} {a : Act} {w w' : World} {A : AV} {v : Value} {dst : Option Tmp} {H : List HE} (h : Sat w0 s a w) (hb : Below w0.heap.size w w') (hv : A.R w0 v) (hd : dok s dst = true) (hH : HOk w0 w' H) : Sat w0 (s.with dst A H) (a.put dst v) w' := by
  have hb0 : Below w0.heap.size w0 w' := h.below.trans hb
  cases dst with
  | none => exact ⟨hb0, h.size, h.defers, h.env, hH⟩
  | some d =>
    have hd' : d < a.tmps.size := by rw [h.size]; exact Nat.blt_eq ▸ hd
    exact ⟨hb0, by simp [AS.with, Act.put, h.size], h.defers, look_put h.env hv hd', hH⟩

end Go.Proofs.Ytejpamlaacffaaa

/-
  What each operation yields, abstractly. Conditions: none.
-/
namespace Go.Proofs.Ytejpamlaacffaaa
open Go Go.RowKit

/-- The operation yields a value of R and turns nothing that was there. -/
def EvRes (P : Program) (w : World) (R : Value → Prop) : Result Next → Prop
  | .ok (.value v) w' => Below w.heap.size w w' ∧ R v
  | .ok .skip w' => Below w.heap.size w w' ∧ R undef
  | .ok (.enter f args) w' => Below w.heap.size w w' ∧ Calls P f args w' fun e w'' => ∃ v, e = .returned v ∧ Below w'.heap.size w' w'' ∧ R v
  | _ => False
structure Ev (P : Program) (s : AS) (o : Oper) (A : AV) : Prop where
  out : ∀ w0 a w, Sat w0 s a w → EvRes P w (fun v => A.R w0 v) ((execOp a.eval o).run P w)
/-- What an operand stands for. -/
def Opd (s : AS) (x : Operand) (A : AV) : Prop := ∀ w0 a w, Sat w0 s a w → A.R w0 (a.eval x)
def OpF (s : AS) (x : Operand) (k : FloatKind) (X : Nat) : Prop := Opd s x (fl k X)
/-- What an operand is for a callee that enters now. -/
def Giv (s : AS) (x : Operand) (A : AV) : Prop := ∀ w0 a w, Sat w0 s a w → A.R w (a.eval x)
def Givs (s : AS) : List Operand → List AV → Prop
  | [], [] => True
  | x :: xs, A :: As => Giv s x A ∧ Givs s xs As
  | _, _ => False

section
variable {P : Program} {s : AS} {o : Oper} {w : World}

theorem Opd.tmp {t : Tmp} {A : AV} (h : look t s.env = some A) : Opd s (.tmp t) A := fun w0 a w hs => hs.env t A h
theorem Opd.c (v : Value) : Opd s (.const v) (vv v) := fun _ _ _ _ => rfl
theorem Opd.func (f : FuncId) : Opd s (.func f) (vv (.func (.func f) #[] #[])) := fun _ _ _ _ => rfl
theorem OpF.tmp {t : Tmp} {k : FloatKind} {X : Nat} (h : look t s.env = some (fl k X)) : OpF s (.tmp t) k X := Opd.tmp h
theorem OpF.c {k : FloatKind} {b : Nat} (h : (decide (b < 2 ^ k.format.width) && !isNan k b) = true) : OpF s (.const (.float k b)) k b := fun _ _ _ _ => ⟨b, rfl, Fb_const h⟩
theorem Giv.of {x : Operand} {A : AV} (h : Opd s x A) : Giv s x A := fun w0 a w hs => A.mono hs.below (h w0 a w hs)
theorem Opd.weak {x : Operand} {A B : AV} (h : Opd s x A) (k : ∀ w v, A.R w v → B.R w v) : Opd s x B := fun w0 a w hs => k _ _ (h w0 a w hs)
/-- A box of the call's own, handed to a callee that reads it. -/
theorem Giv.box {x : Operand} {b i : Nat} {l : List AV} (h : Opd s x (ptr b i)) (hm : HE.cells b l ∈ s.heap) : Giv s x (rp l i) := fun w0 a w hs => by
  have e : a.eval x = _ := h w0 a w hs
  rw [e]
  obtain ⟨cs, T, h1, h2, h3⟩ := hs.heap.get _ hm
  refine ⟨b, 0, by simp, (hs.heap.foot _ hm b rfl).2, fun j A hj => ?_⟩
  obtain ⟨u, hu, hr⟩ := h2.get hj
  refine ⟨u, ?_, A.mono hs.below hr, h3 u (List.mem_of_getElem? hu)⟩
  rw [Nat.zero_add, cell_of_row w b j cs T (0, 0) h1, ← Array.getElem?_toList]
  exact hu
/-- A slice of the call's own, handed to a callee that reads it. -/
theorem Giv.row {x : Operand} {v : Value} {T size n : Nat} {c : Nat → List AV} (h : Opd s x (vv v)) (hm : HE.row v T size n c ∈ s.heap) (hl : ∀ k, k < n → (c k).length = size) : Giv s x (rs size n c) := fun w0 a w hs => by
  have e : a.eval x = v := h w0 a w hs
  rw [e]
  obtain ⟨xs, ⟨hlen, h1⟩, h2, h3⟩ := hs.heap.get _ hm
  rcases h1 with ⟨rfl, rfl⟩ | ⟨g, cap, cur, rfl, hg, hh, hnc, hcm, hcs, ht⟩
  · exact ⟨none, 0, rfl, Nat.le_refl _, fun h0 => absurd h0 (by omega)⟩
  · refine ⟨_, cap, rfl, hnc, fun _ => ⟨g, 0, rfl, fun k hk => ⟨(hs.heap.foot _ hm g rfl).2, fun j A hj => ?_⟩⟩⟩
    obtain ⟨u, hu, hr⟩ := (h2 k hk).get hj
    refine ⟨u, ?_, A.mono hs.below hr, h3 u (List.mem_of_mem_drop (List.mem_of_mem_take (List.mem_of_getElem? hu)))⟩
    rw [List.getElem?_take] at hu
    split at hu
    · rename_i hj2
      rw [List.getElem?_drop, ← ht, List.getElem?_take] at hu
      split at hu
      · rw [Nat.zero_add, cell_of_row w g _ cur T (0, 0) hh, ← Array.getElem?_toList]
        exact hu
      · cases hu
    · cases hu
theorem Givs.all {w0 : World} {a : Act} (hs : Sat w0 s a w) : ∀ {xs : List Operand} {As : List AV}, Givs s xs As → All w As (xs.map a.eval)
  | [], [], _ => trivial
  | _ :: _, _ :: _, h => ⟨h.1 w0 a w hs, Givs.all hs h.2⟩
  | [], _ :: _, h => h.elim
  | _ :: _, [], h => h.elim

theorem EvRes.of_val {R : Value → Prop} {v : Value} (h : R v) : EvRes P w R (.ok (.value v) w) := ⟨Below.refl _ _, h⟩

theorem ev_move {x : Operand} {A : AV} (ho : o.op = .move x) (hx : Opd s x A) : Ev P s o A := by
  refine ⟨fun w0 a w hs => ?_⟩
  unfold execOp; rw [ho]; exact .of_val (hx w0 a w hs)
theorem ev_assign {x : Operand} {A : AV} (ho : o.op = .assign x) (hx : Opd s x A) : Ev P s o A := by
  refine ⟨fun w0 a w hs => ?_⟩
  unfold execOp; rw [ho]; exact .of_val (hx w0 a w hs)
theorem ev_pick {c x y : Operand} {A : AV} {b : Bool} (ho : o.op = .pick c x y) (hc : Opd s c (vv (.bool b))) (hx : b = true → Opd s x A) (hy : b = false → Opd s y A) : Ev P s o A := by
  refine ⟨fun w0 a w hs => ?_⟩
  have hb : a.eval c = .bool b := hc w0 a w hs
  unfold execOp; rw [ho]
  cases b
  · simp only [hb, asBool, Sem.run_bind, Sem.run_pure, Result.andThen_ok]
    exact .of_val (hy rfl w0 a w hs)
  · simp only [hb, asBool, Sem.run_bind, Sem.run_pure, Result.andThen_ok]
    exact .of_val (hx rfl w0 a w hs)
theorem ev_extract {x : Operand} {i : Nat} {l : List AV} {A : AV} (ho : o.op = .extract x i) (hx : Opd s x (tup l)) (hi : l[i]? = some A) : Ev P s o A := by
  refine ⟨fun w0 a w hs => ?_⟩
  obtain ⟨cs, e, h⟩ := hx w0 a w hs
  obtain ⟨u, hu, hr⟩ := h.get hi
  unfold execOp; rw [ho]
  simp only [e, Instr.extract, List.getElem?_toArray, hu, Sem.run_bind, Sem.run_pure, Result.andThen_ok]
  exact .of_val hr

theorem ev_fop {op : BinOp} {t t' : TypeId} {x y : Operand} {k : FloatKind} {X Y : Nat} (ho : o.op = .binOp op t x y t') (hop : arith op = true) (hx : OpF s x k X) (hy : OpF s y k Y) : Ev P s o (fl k (fop op k X Y)) := by
  refine ⟨fun w0 a w hs => ?_⟩
  obtain ⟨b, e, hb⟩ := hx w0 a w hs
  obtain ⟨c, e2, hc⟩ := hy w0 a w hs
  obtain ⟨r, n, hr, hf⟩ := run_fop (P := P) w op hop t k b c
  simp only [execOp, ho, e, e2, Sem.run_bind, run_eqGuard_float, Result.andThen_ok, hr, Sem.run_pure]
  exact ⟨below_drewN (Below.refl _ _) n, r, rfl, hf _ _ hb hc⟩
theorem ev_fcmp {c : BinOp} {t t' : TypeId} {x y : Operand} {k : FloatKind} {X Y : Nat} (ho : o.op = .binOp c t x y t') (hop : isCmp c = true) (hx : OpF s x k X) (hy : OpF s y k Y) : Ev P s o (vv (.bool (cmpB c k X Y))) := by
  refine ⟨fun w0 a w hs => ?_⟩
  obtain ⟨b, e, hb⟩ := hx w0 a w hs
  obtain ⟨d, e2, hd⟩ := hy w0 a w hs
  simp only [execOp, ho, e, e2, Sem.run_bind, run_eqGuard_float, Result.andThen_ok, run_fcmp w c hop t k b d X Y hb hd, Sem.run_pure]
  exact .of_val rfl
theorem ev_fneg {t : TypeId} {x : Operand} {k : FloatKind} {X : Nat} (ho : o.op = .unOp .neg t x) (hx : OpF s x k X) : Ev P s o (fl k (fneg k X)) := by
  refine ⟨fun w0 a w hs => ?_⟩
  obtain ⟨b, e, hb⟩ := hx w0 a w hs
  have : Op.unary .neg (.float k b) = Pure.pure (.float k (Op.negFloat k b)) := rfl
  simp only [execOp, ho, e, this, Sem.run_bind, Result.andThen_ok, Sem.run_pure]
  exact .of_val ⟨_, rfl, hb.neg⟩
theorem ev_not {t : TypeId} {x : Operand} {b : Bool} (ho : o.op = .unOp .not t x) (hx : Opd s x (vv (.bool b))) : Ev P s o (vv (.bool (!b))) := by
  refine ⟨fun w0 a w hs => ?_⟩
  have e : a.eval x = .bool b := hx w0 a w hs
  have : Op.unary .not (.bool b) = Pure.pure (.bool (!b)) := rfl
  simp only [execOp, ho, e, this, Sem.run_bind, Result.andThen_ok, Sem.run_pure]
  exact .of_val rfl
theorem ev_fcvt {src dst : TypeId} {x : Operand} {k k' : FloatKind} {X : Nat} (ho : o.op = .convert src dst x) (hs' : P.underlying src = some (.float k)) (hd : P.underlying dst = some (.float k')) (hk : k ≠ k') (hx : OpF s x k X) (hf : fits k k' X) : Ev P s o (fl k' (fcvt k k' X)) := by
  refine ⟨fun w0 a w hs => ?_⟩
  obtain ⟨b, e, hb⟩ := hx w0 a w hs
  obtain ⟨r, n, hr, hf'⟩ := run_fcvt (P := P) src dst k k' hk b (by rw [hs']; rfl) hd w
  simp only [execOp, ho, e, Sem.run_bind, Result.andThen_ok, hr, Sem.run_pure]
  exact ⟨below_drewN (Below.refl _ _) n, r, rfl, hf' _ hb hf⟩
/-- A conversion of a float32 to float32 turns nothing. -/
theorem ev_fsame {src dst : TypeId} {x : Operand} {k : FloatKind} {X : Nat} (ho : o.op = .convert src dst x) (hs' : P.underlying src = some (.float k)) (hd : P.underlying dst = some (.float k)) (hx : OpF s x k X) : Ev P s o (fl k X) := by
  refine ⟨fun w0 a w hs => ?_⟩
  obtain ⟨b, e, hb⟩ := hx w0 a w hs
  have hr : (convert src dst (.float k b)).run P w = .ok (.float k b) w := run_convert_float_float w src dst k k b b (by rw [hs']; rfl) hd (by unfold floatToFloatBits; rw [if_pos rfl])
  simp only [execOp, ho, e, Sem.run_bind, Result.andThen_ok, hr, Sem.run_pure]
  exact .of_val ⟨b, rfl, hb⟩
theorem ev_itof {src dst : TypeId} {x : Operand} {q : IntKind} {k : FloatKind} {n : Int} (ho : o.op = .convert src dst x) (hs' : (P.underlying src).isSome = true) (hd : P.underlying dst = some (.float k)) (hx : Opd s x (vv (.int q n))) : Ev P s o (fl k (floatOfInt k n)) := by
  refine ⟨fun w0 a w hs => ?_⟩
  have e : a.eval x = .int q n := hx w0 a w hs
  have hr := run_convert_int_float (P := P) w src dst q k n hs' hd
  simp only [execOp, ho, e, Sem.run_bind, Result.andThen_ok, hr, Sem.run_pure]
  exact .of_val ⟨_, rfl, Fb_ofInt _ _⟩
theorem ev_itoi {src dst : TypeId} {x : Operand} {q : IntKind} {n : Int} (ho : o.op = .convert src dst x) (hs' : (P.underlying src).isSome = true) (hd : P.underlying dst = some (.int q)) (hx : Opd s x (vv (.int q n))) (hn : q.wrap n = n) : Ev P s o (vv (.int q n)) := by
  refine ⟨fun w0 a w hs => ?_⟩
  have e : a.eval x = .int q n := hx w0 a w hs
  have hk : P.intKind dst = q := by unfold Program.intKind; rw [hd]
  have hr := run_convert_int (P := P) w src dst q n hs' (by rw [hk]; exact hd)
  rw [hk, hn] at hr
  simp only [execOp, ho, e, Sem.run_bind, Result.andThen_ok, hr, Sem.run_pure]
  exact .of_val rfl

end
end Go.Proofs.Ytejpamlaacffaaa

/-
  What the operations on memory and the calls yield, abstractly. Conditions: none.
-/
namespace Go.Proofs.Ytejpamlaacffaaa
open Go Go.RowKit

def isAggD : TypeDesc → Bool
  | .struct _ | .array _ _ => true
  | _ => false
/-- A type of n cells: a struct or an array. -/
def TyA (P : Program) (t : TypeId) (n : Nat) : Prop := ∃ d i, P.underlying t = some d ∧ isAggD d = true ∧ P.info? t = some i ∧ i.size = n
/-- A type of one cell, neither a struct nor an array. -/
def TyP (P : Program) (t : TypeId) : Prop := ∃ d i, P.underlying t = some d ∧ isAggD d = false ∧ P.info? t = some i ∧ i.size = 1
def TyF (P : Program) (t : TypeId) (j off : Nat) : Prop := ∃ fs fd i, P.underlying t = some (.struct fs) ∧ fs[j]? = some fd ∧ fd.offset = off ∧ P.info? fd.type = some i ∧ i.size ≠ 0
def TyS (P : Program) (t e : TypeId) (n : Nat) : Prop := ∃ i, P.underlying t = some (.slice e) ∧ P.info? e = some i ∧ i.size = n
/-- The cells of a type's zero. -/
def TyZ (P : Program) (t : TypeId) (l : List AV) : Prop := ∃ i z, P.info? t = some i ∧ i.zero = some z ∧ ∀ w, All w l z.cells.toList ∧ ∀ u ∈ z.cells.toList, u.oneCell' = true

section
variable {P : Program} {s : AS} {o : Oper}

theorem add_lit (b p j : Nat) : (⟨b, p, none⟩ : Addr).add j = ⟨b, p + j, none⟩ := by
  unfold Addr.add
  split
  · rename_i h; subst h; rfl
  · rfl
theorem run_loadA {w w0 : World} {t : TypeId} {n b p : Nat} {l : List AV} (ht : TyA P t n) (hn : l.length = n) (h : ∀ j A, l[j]? = some A → ∃ u, w.cell? ⟨b, p + j, none⟩ = some u ∧ A.R w0 u ∧ u.oneCell' = true) :
    ∃ v, (loadVar t ⟨b, p, none⟩).run P w = .ok v w ∧ (agg l).R w0 v := by
  obtain ⟨d, i, hu, hd, hi, hs⟩ := ht
  have hagg : (isAgg t).run P w = .ok true w := by
    unfold isAgg
    rw [Sem.run_bind, run_underlying hu w]
    cases d <;> simp_all [isAggD]
  have hch : ∀ j, j < l.length → ∃ u, w.cell? ⟨b, p + j, none⟩ = some u ∧ (∀ A, l[j]? = some A → A.R w0 u) ∧ u.oneCell' = true := fun j hj => by
    obtain ⟨u, h1, h2, h3⟩ := h j l[j] (List.getElem?_eq_getElem hj)
    exact ⟨u, h1, fun A hA => by rw [List.getElem?_eq_getElem hj] at hA; injection hA with hA; subst hA; exact h2, h3⟩
  let g : Nat → Value := fun j => if hj : j < l.length then Classical.choose (hch j hj) else undef
  have hg : ∀ j, (hj : j < l.length) → w.cell? ⟨b, p + j, none⟩ = some (g j) ∧ (∀ A, l[j]? = some A → A.R w0 (g j)) ∧ (g j).oneCell' = true := fun j hj => by
    have := Classical.choose_spec (hch j hj)
    simp only [g, dif_pos hj]
    exact this
  have hl := run_loadCells_list (P := P) w ⟨b, p, none⟩ ((List.range l.length).map g) (fun j v hv => by
    rw [add_lit]
    rw [List.getElem?_map] at hv
    by_cases hj : j < l.length
    · rw [List.getElem?_range hj] at hv
      simp only [Option.map_some, Option.some.injEq] at hv
      rw [← hv]
      exact (hg j hj).1
    · rw [List.getElem?_eq_none (by simpa using hj)] at hv
      cases hv)
  simp only [List.length_map, List.length_range] at hl
  refine ⟨_, by simp [loadVar, Sem.run_bind, hagg, sizeOf, typeInfo, hi, hs, ← hn, hl]; rfl, (List.range l.length).map g, by simp, ?_, fun u hu => ?_⟩
  · refine All.of_get (by simp) fun j A hA => ?_
    have hj : j < l.length := (List.getElem?_eq_some_iff.1 hA).1
    exact ⟨g j, by simp [hj], (hg j hj).2.1 A hA⟩
  · obtain ⟨j, hj, rfl⟩ := List.mem_map.1 hu
    exact (hg j (by simpa using hj)).2.2
theorem run_loadP {w : World} {t : TypeId} {a : Addr} {u : Value} (ht : TyP P t) (h : w.cell? a = some u) : (loadVar t a).run P w = .ok u w := by
  obtain ⟨d, i, hu, hd, hi, hs⟩ := ht
  have hagg : (isAgg t).run P w = .ok false w := by
    unfold isAgg
    rw [Sem.run_bind, run_underlying hu w]
    cases d <;> simp_all [isAggD]
  simp [loadVar, Sem.run_bind, hagg, h]

theorem own_cells {w0 w : World} {a : Act} (hs : Sat w0 s a w) {b : Nat} {l : List AV} (hm : HE.cells b l ∈ s.heap) {j : Nat} {A : AV} (hj : l[j]? = some A) : ∃ u, w.cell? ⟨b, j, none⟩ = some u ∧ A.R w0 u ∧ u.oneCell' = true := by
  obtain ⟨cs, T, h1, h2, h3⟩ := hs.heap.get _ hm
  obtain ⟨u, hu, hr⟩ := h2.get hj
  refine ⟨u, ?_, hr, h3 u (List.mem_of_getElem? hu)⟩
  rw [cell_of_row w b j cs T (0, 0) h1, ← Array.getElem?_toList]
  exact hu

/-- A struct is loaded out of a box. -/
theorem ev_loadA {t : TypeId} {x : Operand} {n b i : Nat} {l l' : List AV} (ho : o.op = .load t x) (hx : Opd s x (ptr b i)) (ht : TyA P t n) (hm : HE.cells b l ∈ s.heap) (hl : (l.drop i).take n = l') (hn : l'.length = n) : Ev P s o (agg l') := by
  refine ⟨fun w0 a w hs => ?_⟩
  have e : a.eval x = .pointer (some ⟨b, i, none⟩) := hx w0 a w hs
  obtain ⟨v, hr, hv⟩ := run_loadA (w := w) (w0 := w0) (b := b) (p := i) ht hn fun j A hj => by
    rw [← hl, List.getElem?_take] at hj
    split at hj
    · rw [List.getElem?_drop] at hj
      exact own_cells hs hm hj
    · cases hj
  simp only [execOp, ho, e, Instr.loadAt, Instr.sureAddr, Sem.run_bind, Sem.run_pure, Result.andThen_ok, hr]
  exact .of_val hv
theorem ev_loadP {t : TypeId} {x : Operand} {b i : Nat} {l : List AV} {A : AV} (ho : o.op = .load t x) (hx : Opd s x (ptr b i)) (ht : TyP P t) (hm : HE.cells b l ∈ s.heap) (hl : l[i]? = some A) : Ev P s o A := by
  refine ⟨fun w0 a w hs => ?_⟩
  have e : a.eval x = .pointer (some ⟨b, i, none⟩) := hx w0 a w hs
  obtain ⟨u, hu, hr, _⟩ := own_cells hs hm hl
  simp only [execOp, ho, e, Instr.loadAt, Instr.sureAddr, Sem.run_bind, Sem.run_pure, Result.andThen_ok, run_loadP ht hu]
  exact .of_val hr
theorem lies_now {w0 w : World} (hb : Below w0.heap.size w0 w) {b p : Nat} {l : List AV} (h : Lies w0 b p l) {j : Nat} {A : AV} (hj : l[j]? = some A) : ∃ u, w.cell? ⟨b, p + j, none⟩ = some u ∧ A.R w0 u ∧ u.oneCell' = true := by
  obtain ⟨u, hu, hr, h1⟩ := h.2 j A hj
  exact ⟨u, (hb.cell (p := ⟨b, p + j, none⟩) h.1).trans hu, hr, h1⟩
/-- A struct is loaded from where it only is read. -/
theorem ev_loadRA {t : TypeId} {x : Operand} {n i : Nat} {l l' : List AV} (ho : o.op = .load t x) (hx : Opd s x (rp l i)) (ht : TyA P t n) (hl : (l.drop i).take n = l') (hn : l'.length = n) : Ev P s o (agg l') := by
  refine ⟨fun w0 a w hs => ?_⟩
  obtain ⟨b, p, e, h⟩ := hx w0 a w hs
  obtain ⟨v, hr, hv⟩ := run_loadA (w := w) (w0 := w0) (b := b) (p := p + i) ht hn fun j A hj => by
    rw [← hl, List.getElem?_take] at hj
    split at hj
    · rw [List.getElem?_drop] at hj
      rw [Nat.add_assoc]
      exact lies_now hs.below h hj
    · cases hj
  simp only [execOp, ho, e, Instr.loadAt, Instr.sureAddr, Sem.run_bind, Sem.run_pure, Result.andThen_ok, hr]
  exact .of_val hv
theorem ev_loadRP {t : TypeId} {x : Operand} {i : Nat} {l : List AV} {A : AV} (ho : o.op = .load t x) (hx : Opd s x (rp l i)) (ht : TyP P t) (hl : l[i]? = some A) : Ev P s o A := by
  refine ⟨fun w0 a w hs => ?_⟩
  obtain ⟨b, p, e, h⟩ := hx w0 a w hs
  obtain ⟨u, hu, hr, _⟩ := lies_now hs.below h hl
  simp only [execOp, ho, e, Instr.loadAt, Instr.sureAddr, Sem.run_bind, Sem.run_pure, Result.andThen_ok, run_loadP ht hu]
  exact .of_val hr

theorem run_fieldAt {w : World} {t : TypeId} {j off b p : Nat} (ht : TyF P t j off) : (Instr.fieldAt t (.pointer (some ⟨b, p, none⟩)) j).run P w = .ok (.pointer (some ⟨b, p + off, none⟩)) w := by
  obtain ⟨fs, fd, i, hu, hf, rfl, hi, hs⟩ := ht
  simp [Instr.fieldAt, run_underlying hu, hf, Instr.sureAddr, fieldPlace, sizeOf, typeInfo, hi, hs, add_lit]
theorem ev_field {t : TypeId} {x : Operand} {j off b i : Nat} (ho : o.op = .fieldAddr t x j) (hx : Opd s x (ptr b i)) (ht : TyF P t j off) : Ev P s o (ptr b (i + off)) := by
  refine ⟨fun w0 a w hs => ?_⟩
  have e : a.eval x = .pointer (some ⟨b, i, none⟩) := hx w0 a w hs
  simp only [execOp, ho, e, run_fieldAt ht, Sem.run_bind, Sem.run_pure, Result.andThen_ok]
  exact .of_val rfl
theorem ev_fieldR {t : TypeId} {x : Operand} {j off i : Nat} {l : List AV} (ho : o.op = .fieldAddr t x j) (hx : Opd s x (rp l i)) (ht : TyF P t j off) : Ev P s o (rp l (i + off)) := by
  refine ⟨fun w0 a w hs => ?_⟩
  obtain ⟨b, p, e, h⟩ := hx w0 a w hs
  simp only [execOp, ho, e, run_fieldAt ht, Sem.run_bind, Sem.run_pure, Result.andThen_ok]
  exact .of_val ⟨b, p, by rw [Nat.add_assoc], h⟩
theorem ev_index {t e : TypeId} {x y : Operand} {q : IntKind} {size n k : Nat} {c : Nat → List AV} (ho : o.op = .indexAddr t x y) (hx : Opd s x (rs size n c)) (hy : Opd s y (vv (.int q (k : Int)))) (ht : TyS P t e size) (hk : k < n) : Ev P s o (rp (c k) 0) := by
  refine ⟨fun w0 a w hs => ?_⟩
  obtain ⟨ad, cap, ex, _, h⟩ := hx w0 a w hs
  obtain ⟨b, p, rfl, hl⟩ := h (by omega)
  have ey : a.eval y = .int q (k : Int) := hy w0 a w hs
  obtain ⟨i, hu, hi, hs'⟩ := ht
  have : (Instr.indexAt t (.slice (some ⟨b, p, none⟩) n cap) (.int q (k : Int))).run P w = .ok (.pointer (some ⟨b, p + k * size, none⟩)) w := by
    simp [Instr.indexAt, asIntOf, run_underlying hu, sizeOf, typeInfo, hi, hs', add_lit]
    omega
  simp only [execOp, ho, ex, ey, this, Sem.run_bind, Sem.run_pure, Result.andThen_ok]
  exact .of_val ⟨b, p + k * size, rfl, hl k hk⟩
theorem ev_len {t e : TypeId} {x : Operand} {size n m : Nat} {c : Nat → List AV} (ho : o.op = .call { callee := .builtin .len, args := #[x], argTypes := #[t] }) (hx : Opd s x (rs size n c)) (ht : TyS P t e m) : Ev P s o (vv (.int .i64 (n : Int))) := by
  refine ⟨fun w0 a w hs => ?_⟩
  obtain ⟨ad, cap, ex, _, h⟩ := hx w0 a w hs
  obtain ⟨i, hu, hi, hs'⟩ := ht
  have := run_len_slice (P := P) w t o.type ad n cap (by simp [Program.elem, hu])
  simp only [execOp, ho, resolve, invoke, builtin, List.map_toArray, List.map_cons, List.map_nil, ex, this, Sem.run_bind, Sem.run_pure, Result.andThen_ok]
  exact .of_val rfl
/-- The length of a slice of the call's own. -/
theorem ev_lenO {t e : TypeId} {x : Operand} {v : Value} {T size n m : Nat} {c : Nat → List AV} (ho : o.op = .call { callee := .builtin .len, args := #[x], argTypes := #[t] }) (hx : Opd s x (vv v)) (hm : HE.row v T size n c ∈ s.heap) (ht : TyS P t e m) : Ev P s o (vv (.int .i64 (n : Int))) := by
  refine ⟨fun w0 a w hs => ?_⟩
  have ex : a.eval x = v := hx w0 a w hs
  obtain ⟨xs, ⟨hlen, h1⟩, _⟩ := hs.heap.get _ hm
  have hv : ∃ ad cap, v = .slice ad n cap := by
    rcases h1 with ⟨rfl, rfl⟩ | ⟨g, cap, cur, rfl, _⟩
    · exact ⟨_, _, rfl⟩
    · exact ⟨_, _, rfl⟩
  obtain ⟨ad, cap, rfl⟩ := hv
  obtain ⟨i, hu, hi, hs'⟩ := ht
  have := run_len_slice (P := P) w t o.type ad n cap (by simp [Program.elem, hu])
  simp only [execOp, ho, resolve, invoke, builtin, List.map_toArray, List.map_cons, List.map_nil, ex, this, Sem.run_bind, Sem.run_pure, Result.andThen_ok]
  exact .of_val rfl

theorem ev_nilc {x : Operand} {b i : Nat} (ho : o.op = .nilCheck x) (hx : Opd s x (ptr b i)) : Ev P s o (ptr b i) := by
  refine ⟨fun w0 a w hs => ?_⟩
  have e : a.eval x = .pointer (some ⟨b, i, none⟩) := hx w0 a w hs
  simp only [execOp, ho, e, Sem.run_pure]
  exact .of_val rfl
theorem ev_nilcR {x : Operand} {i : Nat} {l : List AV} (ho : o.op = .nilCheck x) (hx : Opd s x (rp l i)) : Ev P s o (rp l i) := by
  refine ⟨fun w0 a w hs => ?_⟩
  obtain ⟨b, p, e, h⟩ := hx w0 a w hs
  simp only [execOp, ho, e, Sem.run_pure]
  exact .of_val ⟨b, p, rfl, h⟩

theorem run_eqGuard_int (w : World) (op : BinOp) (t : TypeId) (x y : Operand) (k k' : IntKind) (a b : Int) : (eqGuard op t x y (.int k a) (.int k' b)).run P w = .ok () w := by
  cases op <;> rfl
theorem run_eqGuard_bool (w : World) (op : BinOp) (t : TypeId) (x y : Operand) (a b : Bool) : (eqGuard op t x y (.bool a) (.bool b)).run P w = .ok () w := by
  cases op <;> rfl
def iar : BinOp → Int → Int → Option Int
  | .add, a, b => some (a + b)
  | .sub, a, b => some (a - b)
  | .mul, a, b => some (a * b)
  | _, _, _ => none
theorem ev_iar {op : BinOp} {t t' : TypeId} {x y : Operand} {k : IntKind} {a b c : Int} (ho : o.op = .binOp op t x y t') (hx : Opd s x (vv (.int k a))) (hy : Opd s y (vv (.int k b))) (hc : iar op a b = some c) (hw : k.wrap c = c) : Ev P s o (vv (.int k c)) := by
  refine ⟨fun w0 ac w hs => ?_⟩
  have e : ac.eval x = .int k a := hx w0 ac w hs
  have e2 : ac.eval y = .int k b := hy w0 ac w hs
  have : (binOp op t (.int k a) (.int k b)).run P w = .ok (.int k c) w := by
    cases op <;> simp [iar] at hc <;> subst hc <;> simp [binOp, Op.intArith, hw]
  simp only [execOp, ho, e, e2, run_eqGuard_int, this, Sem.run_bind, Sem.run_pure, Result.andThen_ok]
  exact .of_val rfl
def icmp : BinOp → Int → Int → Option Bool
  | .eql, a, b => some (decide (a = b))
  | .neq, a, b => some (decide (a ≠ b))
  | .lss, a, b => some (decide (a < b))
  | .leq, a, b => some (decide (a ≤ b))
  | .gtr, a, b => some (decide (a > b))
  | .geq, a, b => some (decide (a ≥ b))
  | _, _, _ => none
theorem ev_icmp {op : BinOp} {t t' : TypeId} {x y : Operand} {k : IntKind} {a b : Int} {c : Bool} (ho : o.op = .binOp op t x y t') (hx : Opd s x (vv (.int k a))) (hy : Opd s y (vv (.int k b))) (hc : icmp op a b = some c) : Ev P s o (vv (.bool c)) := by
  refine ⟨fun w0 ac w hs => ?_⟩
  have e : ac.eval x = .int k a := hx w0 ac w hs
  have e2 : ac.eval y = .int k b := hy w0 ac w hs
  have : (binOp op t (.int k a) (.int k b)).run P w = .ok (.bool c) w := by
    cases op <;> simp only [icmp, Option.some.injEq, reduceCtorEq] at hc <;> subst hc <;> simp [binOp, Op.intCmp, bne, BEq.beq, instBEqOfDecidableEq]
  simp only [execOp, ho, e, e2, run_eqGuard_int, this, Sem.run_bind, Sem.run_pure, Result.andThen_ok]
  exact .of_val rfl
theorem ev_beq {op : BinOp} {t t' : TypeId} {x y : Operand} {a b : Bool} {c : Bool} (ho : o.op = .binOp op t x y t') (hx : Opd s x (vv (.bool a))) (hy : Opd s y (vv (.bool b))) (hu : P.underlying t = some .bool) (hc : (match op with | .eql => some (a == b) | .neq => some (a != b) | _ => none) = some c) : Ev P s o (vv (.bool c)) := by
  refine ⟨fun w0 ac w hs => ?_⟩
  have e : ac.eval x = .bool a := hx w0 ac w hs
  have e2 : ac.eval y = .bool b := hy w0 ac w hs
  have : (binOp op t (.bool a) (.bool b)).run P w = .ok (.bool c) w := by
    cases op <;> simp only [Option.some.injEq, reduceCtorEq] at hc <;> subst hc <;> simp [binOp, run_equal_bool w t a b hu, bne]
  simp only [execOp, ho, e, e2, run_eqGuard_bool, this, Sem.run_bind, Sem.run_pure, Result.andThen_ok]
  exact .of_val rfl

end

/-- A function that can be entered. -/
def Can (P : Program) (f : FuncId) : Prop := ∃ fn, P.funcs[f]? = some fn ∧ fn.body.isNone = false ∧ (fn.name == "runtime.NumGoroutine") = false
/-- The contract of a function: what it gives for arguments that stand for As; nothing that was there has turned. -/
def Con (P : Program) (f : FuncId) (As : List AV) (Q : World → Value → World → Prop) : Prop :=
  Can P f ∧ ∀ w vs, All w As vs → Calls P f vs.toArray w fun e w' => ∃ v, e = .returned v ∧ Below w.heap.size w w' ∧ Q w v w'
def RetA (A : AV) (_ : World) (v : Value) (_ : World) : Prop := ∀ wx, A.R wx v

section
variable {P : Program} {s : AS} {o : Oper}
theorem run_call {f : FuncId} (hc : Can P f) (x : Operand) (args : Array Operand) (ts : Array TypeId) (ho : o.op = .call { callee := .value x, args := args, argTypes := ts }) (a : Act) (hx : a.eval x = .func (.func f) #[] #[]) (w : World) :
    (execOp a.eval o).run P w = .ok (.enter f (args.map a.eval)) w := by
  obtain ⟨fn, hf, hb, hn⟩ := hc
  simp only [execOp, ho, resolve, hx, Deferred.ofValue, Sem.run_bind, Sem.run_pure, Result.andThen_ok, invoke, callFunc, run_program, hf, hn, hb]
  simp
/-- A call that only computes. -/
theorem ev_call {f : FuncId} {x : Operand} {As : List AV} {A : AV} {args : List Operand} {ts : Array TypeId} (ho : o.op = .call { callee := .value x, args := args.toArray, argTypes := ts }) (hx : Opd s x (vv (.func (.func f) #[] #[]))) (hc : Con P f As (RetA A)) (ha : Givs s args As) : Ev P s o A := by
  refine ⟨fun w0 a w hs => ?_⟩
  have e : a.eval x = _ := hx w0 a w hs
  rw [run_call hc.1 x args.toArray ts ho a e w]
  refine ⟨Below.refl _ _, ?_⟩
  have := hc.2 w (args.map a.eval) (ha.all hs)
  rw [show args.toArray.map a.eval = (args.map a.eval).toArray by simp]
  refine this.mono fun e w' h => ?_
  obtain ⟨v, rfl, hb, hq⟩ := h
  exact ⟨v, rfl, hb, hq _⟩
end
end Go.Proofs.Ytejpamlaacffaaa

/-
  The walk over a function's text with abstract states: operations, regions, branches, loops, the end. Conditions: none.
-/
namespace Go.Proofs.Ytejpamlaacffaaa
open Go Go.RowKit

structure AEx (w0 : World) (s : AS) (e : Exit) (Q : Exit → Act → World → Prop) : Prop where
  out : ∀ a w, Sat w0 s a w → Q e a w
structure AWp (P : Program) (w0 : World) (s : AS) (c : Code) (Q : Exit → Act → World → Prop) : Prop where
  out : ∀ a w, Sat w0 s a w → c.wp P Q a w
structure AOps (P : Program) (w0 : World) (ops : Array Oper) (s : AS) (l : List Oper) (Q : Exit → Act → World → Prop) : Prop where
  out : ∀ a w, Sat w0 s a w → wpList P ops Q l a w

section
variable {P : Program} {w0 : World} {ops : Array Oper} {nt : Nat} {env : List (Nat × AV)} {H : List HE} {rest : List Oper} {Q : Exit → Act → World → Prop} {op : Op} {ty : TypeId} {pos : String} {after : Array Edge}

theorem dok_some {d : Nat} (h : Nat.blt d nt = true) : dok ⟨nt, env, H⟩ (some d) = true := h
theorem aops_of {o : Oper} {s s' : AS} (hg : o.guard = none) (h : ∀ a w, Sat w0 s a w → ∀ K : Act → World → Prop, (∀ a' w', Sat w0 s' a' w' → K a' w') → o.wp P a w K Q) (k : AOps P w0 ops s' rest Q) : AOps P w0 ops s (o :: rest) Q := ⟨fun a w hs =>
  wpList_plain hg fun K hK => h a w hs K fun a' w' hs' => hK _ _ (k.out a' w' hs')⟩
theorem ev_wp {o : Oper} {s : AS} {A : AV} (h : Ev P s o A) (hd : dok s o.dst = true) {a : Act} {w : World} (hs : Sat w0 s a w) {K : Act → World → Prop} (hK : ∀ a' w', Sat w0 (s.put o.dst A) a' w' → K a' w') : o.wp P a w K Q := by
  have := h.out w0 a w hs
  unfold Oper.wp
  generalize (execOp a.eval o).run P w = r at this
  cases r with
  | ok n w' =>
    cases n <;> simp only [EvRes] at this <;> simp only [Oper.upon]
    case value v => exact hK _ _ (hs.put this.1 this.2 hd)
    case skip => exact hK _ _ (hs.put this.1 this.2 hd)
    case enter f args =>
      refine this.2.mono fun e w'' h => ?_
      obtain ⟨v, rfl, hb, hr⟩ := h
      exact hK _ _ (hs.put (this.1.trans (hb.mono this.1.size)) hr hd)
  | halt x w' => simp only [EvRes] at this
/-- An operation that only yields a value. -/
theorem aops_ev {d : Nat} {A : AV} (h : Ev P ⟨nt, env, H⟩ ⟨some d, op, ty, pos, after, none⟩ A) (hd : Nat.blt d nt = true) (k : AOps P w0 ops ⟨nt, (d, A) :: env, H⟩ rest Q) : AOps P w0 ops ⟨nt, env, H⟩ (⟨some d, op, ty, pos, after, none⟩ :: rest) Q :=
  aops_of rfl (fun a w hs K hK => ev_wp h (dok_some hd) hs hK) k
theorem aops_nil {s : AS} (h : AEx w0 s .normal Q) : AOps P w0 ops s [] Q := ⟨h.out⟩

/- Guards. -/
theorem yielded_of {j dj : Nat} {a : Act} {w : World} {s : AS} {b : Bool} (hs : Sat w0 s a w) (hj : (ops[j]?).bind (·.dst) = some dj) (hb : look dj s.env = some (vv (.bool b))) : yielded ops a.tmps j = some b := by
  have e : a.tmps.getD dj undef = .bool b := hs.env _ _ hb
  unfold yielded
  rw [hj]
  have : a.tmps[dj]? = some (.bool b) := by
    rw [Array.getD_eq_getD_getElem?] at e
    cases h : a.tmps[dj]? with
    | none => rw [h] at e; simp [undef] at e
    | some v => rw [h] at e; simp at e; rw [e]
  simp [this]
theorem aops_gyes {d : Option Tmp} {j dj : Nat} {want b : Bool} {s : AS} (hj : (ops[j]?).bind (·.dst) = some dj) (hb : look dj s.env = some (vv (.bool b))) (he : b = want) (k : AOps P w0 ops s (⟨d, op, ty, pos, after, none⟩ :: rest) Q) : AOps P w0 ops s (⟨d, op, ty, pos, after, some (j, want)⟩ :: rest) Q := by
  refine ⟨fun a w hs => ?_⟩
  have hy := yielded_of (ops := ops) hs hj hb
  subst he
  have h1 := k.out a w hs
  unfold wpList at h1 ⊢
  rw [if_pos (by simp [Region.wanted, hy])]
  rw [if_pos (by simp [Region.wanted])] at h1
  exact h1
theorem aops_gno {d : Nat} {j dj : Nat} {want b : Bool} (hj : (ops[j]?).bind (·.dst) = some dj) (hb : look dj env = some (vv (.bool b))) (he : b = !want) (hd : Nat.blt d nt = true) (k : AOps P w0 ops ⟨nt, (d, vv undef) :: env, H⟩ rest Q) : AOps P w0 ops ⟨nt, env, H⟩ (⟨some d, op, ty, pos, after, some (j, want)⟩ :: rest) Q := by
  refine ⟨fun a w hs => ?_⟩
  have hy := yielded_of (ops := ops) hs hj hb
  unfold wpList
  rw [if_neg (by subst he; simp [Region.wanted, hy])]
  exact k.out _ _ (hs.put (Below.refl _ _) (A := vv undef) rfl (dok_some hd))
/-- A guard that was skipped itself. -/
theorem aops_gskip {d : Nat} {j dj : Nat} {want : Bool} (hj : (ops[j]?).bind (·.dst) = some dj) (hb : look dj env = some (vv undef)) (hd : Nat.blt d nt = true) (k : AOps P w0 ops ⟨nt, (d, vv undef) :: env, H⟩ rest Q) : AOps P w0 ops ⟨nt, env, H⟩ (⟨some d, op, ty, pos, after, some (j, want)⟩ :: rest) Q := by
  refine ⟨fun a w hs => ?_⟩
  have e : a.tmps.getD dj undef = undef := hs.env _ _ hb
  have hy : yielded ops a.tmps j = none := by
    unfold yielded
    rw [hj]
    simp only [Option.bind_some]
    rw [Array.getD_eq_getD_getElem?] at e
    cases h : a.tmps[dj]? with
    | none => rfl
    | some v => rw [h] at e; simp at e; subst e; rfl
  unfold wpList
  rw [if_neg (by simp [Region.wanted, hy])]
  exact k.out _ _ (hs.put (Below.refl _ _) (A := vv undef) rfl (dok_some hd))

/- Memory of the call's own. -/
theorem alloc_sat {s : AS} {a : Act} {w : World} {d : Nat} {l : List AV} {cs : Array Value} {T : TypeId} (hs : Sat w0 s a w) (hl : All w0 l cs.toList) (h1 : ∀ u ∈ cs.toList, u.oneCell' = true) (hd : Nat.blt d s.nt = true) :
    Sat w0 ⟨s.nt, (d, ptr w.heap.size 0) :: s.env, .cells w.heap.size l :: s.heap⟩ (a.put (some d) (.pointer (some ⟨w.heap.size, 0, none⟩))) (w.alloc (.cells cs T)) := by
  have hb : Below w.heap.size w (w.alloc (.cells cs T)) := (Below.refl _ _).alloc (Nat.le_refl _) _
  have hsz : (w.alloc (.cells cs T)).heap.size = w.heap.size + 1 := by simp
  refine hs.step (A := ptr w.heap.size 0) (dst := some d) (hb.mono hs.below.size) rfl hd ((hs.heap.below hb).cons ⟨cs, T, heap_alloc_new w _, hl, h1⟩ fun g hg => ?_)
  obtain rfl : g = w.heap.size := hg
  exact ⟨hs.below.size, by omega, fun e' he' hf => absurd (hs.heap.foot e' he' _ hf).2 (by omega)⟩
theorem aops_alloc {d : Nat} {t : TypeId} {zl : List AV} (hz : TyZ P t zl) (hd : Nat.blt d nt = true) (k : ∀ b, AOps P w0 ops ⟨nt, (d, ptr b 0) :: env, .cells b zl :: H⟩ rest Q) : AOps P w0 ops ⟨nt, env, H⟩ (⟨some d, .alloc t, ty, pos, after, none⟩ :: rest) Q := by
  refine ⟨fun a w hs => ?_⟩
  exact wpList_plain rfl fun K hK => by
    obtain ⟨i, z, hi, hzz, hl⟩ := hz
    have hr : (execOp a.eval (⟨some d, .alloc t, ty, pos, after, none⟩ : Oper)).run P w = .ok (.value (.pointer (some ⟨w.heap.size, 0, none⟩))) (w.alloc (.cells z.cells t)) := by
      simp [execOp, Instr.alloc, zeroValue, typeInfo, hi, hzz, newVar, newRow]
    unfold Oper.wp
    rw [hr]
    exact hK _ _ ((k _).out _ _ (alloc_sat hs (hl w0).1 (hl w0).2 hd))
theorem aops_box {d : Nat} {t : TypeId} {x : Operand} {A : AV} {l : List AV} (hx : Opd ⟨nt, env, H⟩ x A) (hc : CellsOf A l) (hd : Nat.blt d nt = true) (k : ∀ b, AOps P w0 ops ⟨nt, (d, ptr b 0) :: env, .cells b l :: H⟩ rest Q) : AOps P w0 ops ⟨nt, env, H⟩ (⟨some d, .box t x, ty, pos, after, none⟩ :: rest) Q := by
  refine ⟨fun a w hs => ?_⟩
  exact wpList_plain rfl fun K hK => by
    have hv := hc _ _ (hx w0 a w hs)
    have hr : (execOp a.eval (⟨some d, .box t x, ty, pos, after, none⟩ : Oper)).run P w = .ok (.value (.pointer (some ⟨w.heap.size, 0, none⟩))) (w.alloc (.cells (a.eval x).cells t)) := by
      simp [execOp, Instr.box, newVar, newRow]
    unfold Oper.wp
    rw [hr]
    exact hK _ _ ((k _).out _ _ (alloc_sat hs hv.1 hv.2 hd))

def splice (l : List AV) (i : Nat) (la : List AV) : List AV := l.take i ++ la ++ l.drop (i + la.length)
theorem aops_store {t : TypeId} {x y : Operand} {b i : Nat} {l l' la : List AV} {A : AV} {H' : List HE} (hx : Opd ⟨nt, env, H⟩ x (ptr b i)) (hy : Opd ⟨nt, env, H⟩ y A) (hc : CellsOf A la) (ht : (P.info? t).map (·.size) = some la.length) (hp : HPut H b l l' H') (hl : splice l i la = l') (hb : i + la.length ≤ l.length)
    (k : AOps P w0 ops ⟨nt, env, H'⟩ rest Q) : AOps P w0 ops ⟨nt, env, H⟩ (⟨none, .store t x y, ty, pos, after, none⟩ :: rest) Q := by
  refine ⟨fun a w hs => ?_⟩
  exact wpList_plain rfl fun K hK => by
    have hv := hc _ _ (hy w0 a w hs)
    have e : a.eval x = .pointer (some ⟨b, i, none⟩) := hx w0 a w hs
    obtain ⟨cs, T, h1, h2, h3⟩ := hs.heap.get _ hp.mem
    have hbf := (hs.heap.foot _ hp.mem b rfl)
    have hlen := h2.length
    have hlen2 := hv.1.length
    have hst := run_storeCells_at (P := P) b i T (a.eval y).cells.toList 0 cs w h1 (by rw [hlen2]; simp at hlen ⊢; omega) hv.2
    obtain ⟨ii, hii, his⟩ : ∃ ii, P.info? t = some ii ∧ ii.size = la.length := by
      cases hq : P.info? t with
      | none => rw [hq] at ht; cases ht
      | some ii => rw [hq] at ht; exact ⟨ii, rfl, by simpa using ht⟩
    have hr : (execOp a.eval (⟨none, .store t x y, ty, pos, after, none⟩ : Oper)).run P w = .ok .skip (w.setRow b (cs.toList.take (i + 0) ++ (a.eval y).cells.toList ++ cs.toList.drop (i + 0 + (a.eval y).cells.toList.length)).toArray) := by
      have hsz : (a.eval y).cells.size = ii.size := by rw [his, ← hlen2]; simp
      simp only [execOp, e, Instr.storeAt, Instr.sureAddr, storeVar, sizeOf, typeInfo, Sem.run_bind, Sem.run_pure, Result.andThen_ok, run_program, hii, Sem.run_map]
      rw [Sem.run_ite, if_neg (by simpa using hsz)]
      simp only [Sem.run_bind, Sem.run_pure, Result.andThen_ok, hst]
    unfold Oper.wp
    rw [hr]
    refine hK _ _ (k.out _ _ ?_)
    have hset : ∀ g, g ≠ b → (w.setRow b (cs.toList.take (i + 0) ++ (a.eval y).cells.toList ++ cs.toList.drop (i + 0 + (a.eval y).cells.toList.length)).toArray).heap[g]? = w.heap[g]? := fun g hg => by
      simp only [World.setRow, Array.getElem?_modify]
      rw [if_neg (by omega)]
    have hset2 : (w.setRow b (cs.toList.take (i + 0) ++ (a.eval y).cells.toList ++ cs.toList.drop (i + 0 + (a.eval y).cells.toList.length)).toArray).heap[b]? = some (.cells (cs.toList.take (i + 0) ++ (a.eval y).cells.toList ++ cs.toList.drop (i + 0 + (a.eval y).cells.toList.length)).toArray T (0, 0)) := by
      simp [World.setRow, Array.getElem?_modify, h1]
    have hsz' : (w.setRow b (cs.toList.take (i + 0) ++ (a.eval y).cells.toList ++ cs.toList.drop (i + 0 + (a.eval y).cells.toList.length)).toArray).heap.size = w.heap.size := by simp [World.setRow]
    refine Sat.step (dst := none) (A := vv undef) (v := undef) hs ⟨rfl, rfl, rfl, by omega, fun g hg => hset g (by have := hbf.1; omega)⟩ rfl rfl (hp.ok hs.heap (by omega) (fun g _ hg => hset g hg) ⟨_, T, hset2, ?_, ?_⟩)
    · rw [← hl, splice, ← hlen2]
      simpa using ((h2.take i).append hv.1).append (h2.drop (i + (a.eval y).cells.toList.length))
    · intro u hu
      simp only [Nat.add_zero, List.mem_append] at hu
      rcases hu with (hu | hu) | hu
      · exact h3 u (List.mem_of_mem_take hu)
      · exact hv.2 u hu
      · exact h3 u (List.mem_of_mem_drop hu)

end
end Go.Proofs.Ytejpamlaacffaaa

/-
  Composite literals, slices of the call's own that grow; branches, loops, the end of a call; regions that draw. Conditions: none.
-/
namespace Go.Proofs.Ytejpamlaacffaaa
open Go Go.RowKit

/-- Nothing is known. -/
def top : AV := ⟨fun _ _ => True, true, fun _ _ => trivial, fun _ _ _ _ _ => trivial⟩
def fillA (place : Nat → Option (Nat × Nat)) : List (Nat × List AV) → List AV → Option (List AV)
  | [], l => some l
  | (i, la) :: r, l => match place i with
    | none => none
    | some (off, size) => match Nat.beq la.length size && Nat.ble (off + la.length) l.length with
      | true => fillA place r (splice l off la)
      | false => none
def Parts (s : AS) : List (Nat × Operand) → List (Nat × List AV) → Prop
  | [], [] => True
  | (i, x) :: ps, (j, la) :: qs => (i = j ∧ ∃ A, Opd s x A ∧ CellsOf A la) ∧ Parts s ps qs
  | _, _ => False
def TyB (P : Program) (t : TypeId) (zl : List AV) (places : List (Nat × Nat)) : Prop := ∃ i z fs, P.info? t = some i ∧ i.zero = some z ∧ P.underlying t = some (.struct fs) ∧ fs.toList.mapM (fun f => (P.info? f.type).map fun i => (f.offset, i.size)) = some places ∧ ∀ w, All w zl z.cells.toList ∧ ∀ u ∈ z.cells.toList, u.oneCell' = true
/-- A slice type, of elements e of size cells. -/
def TyE (P : Program) (t e : TypeId) (size bytes : Nat) : Prop := ∃ i z, P.underlying t = some (.slice e) ∧ P.info? e = some i ∧ i.zero = some z ∧ i.size = size ∧ i.bytes = bytes ∧ z.cells.size = size ∧ 0 < size ∧ size ≤ 64 ∧ bytes ≤ 64 ∧ ∀ u ∈ z.cells.toList, u.oneCell' = true

theorem getD_splice (cs : Array Value) (off : Nat) (l : List Value) (h : off + l.length ≤ cs.size) :
    ((l.zipIdx 0).foldl (fun cs (x : Value × Nat) => cs.setIfInBounds (off + x.2) x.1) cs).toList = cs.toList.take off ++ l ++ cs.toList.drop (off + l.length) := by
  obtain ⟨h1, h2⟩ := Go.Great.foldl_set off l 0 cs
  apply List.ext_getElem?
  intro k
  have := h2 k
  rw [← Array.getElem?_toList] at this
  rw [this]
  simp only [Nat.add_zero]
  by_cases hk : k < off
  · rw [if_neg (by omega), List.append_assoc, List.getElem?_append_left (by simp; omega), List.getElem?_take, if_pos hk]
    simp
  · by_cases hk2 : k < off + l.length
    · rw [if_pos (by omega), List.append_assoc, List.getElem?_append_right (by simp; omega), List.getElem?_append_left (by simp; omega)]
      congr 1
      simp
      omega
    · rw [if_neg (by omega), List.getElem?_append_right (by simp; omega), List.getElem?_drop]
      simp only [List.length_append, List.length_take, Array.length_toList]
      rw [show off + l.length + (k - (min off cs.size + l.length)) = k by omega]
      simp

theorem fill_of {w0 : World} {place : Nat → Option (Nat × Nat)} : ∀ {pl : List (Nat × List AV)} {vs : List (Nat × Value)} {l l' : List AV} {cs : Array Value},
    (vs.map (·.1) = pl.map (·.1)) → (∀ (j : Nat) (q : Nat × List AV) (v : Nat × Value), pl[j]? = some q → vs[j]? = some v → All w0 q.2 v.2.cells.toList ∧ ∀ u ∈ v.2.cells.toList, u.oneCell' = true) → All w0 l cs.toList → (∀ u ∈ cs.toList, u.oneCell' = true) → fillA place pl l = some l' →
    ∃ cs', Instr.fill place cs vs = some cs' ∧ All w0 l' cs'.toList ∧ ∀ u ∈ cs'.toList, u.oneCell' = true
  | [], [], l, l', cs, _, _, hl, h1, hf => by
    injection hf with hf
    subst hf
    exact ⟨cs, rfl, hl, h1⟩
  | (i, la) :: pl, (i', v) :: vs, l, l', cs, hm, hv, hl, h1, hf => by
    simp only [List.map_cons, List.cons.injEq] at hm
    obtain ⟨rfl, hm⟩ := hm
    unfold fillA at hf
    cases hp : place i' with
    | none => rw [hp] at hf; cases hf
    | some q =>
      obtain ⟨off, size⟩ := q
      rw [hp] at hf
      simp only at hf
      split at hf
      · rename_i hb
        simp only [Bool.and_eq_true, Nat.beq_eq, Nat.ble_eq] at hb
        obtain ⟨ha, h1'⟩ := hv 0 _ _ rfl rfl
        have hlen := ha.length
        have hlen2 := hl.length
        simp at hlen hlen2
        have hsp := getD_splice cs off v.cells.toList (by simp; omega)
        obtain ⟨cs', g1, g2, g3⟩ := fill_of (w0 := w0) (place := place) (pl := pl) (vs := vs) (l := splice l off la) (l' := l') (cs := (v.cells.toList.zipIdx 0).foldl (fun cs (x : Value × Nat) => cs.setIfInBounds (off + x.2) x.1) cs) hm
          (fun j q v' hq hv' => hv (j + 1) q v' (by simpa using hq) (by simpa using hv'))
          (by
            rw [hsp]
            have := ((hl.take off).append ha).append (hl.drop (off + v.cells.toList.length))
            unfold splice
            rw [show la.length = v.cells.toList.length by simp [hlen]]
            exact this)
          (by
            rw [hsp]
            intro u hu
            simp only [List.mem_append] at hu
            rcases hu with (hu | hu) | hu
            · exact h1 u (List.mem_of_mem_take hu)
            · exact h1' u hu
            · exact h1 u (List.mem_of_mem_drop hu)) hf
        refine ⟨cs', ?_, g2, g3⟩
        unfold Instr.fill
        rw [hp]
        simp only
        rw [if_neg (by simp; omega)]
        rw [← g1]
        congr 1
        rw [← Array.foldl_toList, Array.toList_zipIdx]
      · cases hf
  | [], _ :: _, _, _, _, hm, _, _, _, _ => by simp at hm
  | _ :: _, [], _, _, _, hm, _, _, _, _ => by simp at hm

theorem Parts.vals {s : AS} {w0 w : World} {a : Act} (hs : Sat w0 s a w) : ∀ {ps : List (Nat × Operand)} {pl : List (Nat × List AV)}, Parts s ps pl →
    ((ps.map fun (i, x) => (i, a.eval x)).map (·.1) = pl.map (·.1)) ∧ ∀ (j : Nat) (q : Nat × List AV) (v : Nat × Value), pl[j]? = some q → (ps.map fun (i, x) => (i, a.eval x))[j]? = some v → All w0 q.2 v.2.cells.toList ∧ ∀ u ∈ v.2.cells.toList, u.oneCell' = true
  | [], [], _ => ⟨rfl, fun j q v h => by simp at h⟩
  | (i, x) :: ps, (j, la) :: pl, h => by
    obtain ⟨⟨rfl, A, hx, hc⟩, hr⟩ := h
    obtain ⟨h1, h2⟩ := Parts.vals hs hr
    refine ⟨by simpa using h1, fun j q v hq hv => ?_⟩
    cases j with
    | zero =>
      simp at hq hv
      subst hq
      subst hv
      exact hc _ _ (hx w0 a w hs)
    | succ j => exact h2 j q v (by simpa using hq) (by simpa using hv)
  | [], _ :: _, h => h.elim
  | _ :: _, [], h => h.elim

section
variable {P : Program} {s : AS} {o : Oper}
theorem ev_build {t : TypeId} {parts : List (Nat × Operand)} {pl : List (Nat × List AV)} {zl l' : List AV} {places : List (Nat × Nat)} (ho : o.op = .build t parts.toArray) (ht : TyB P t zl places) (hp : Parts s parts pl) (hf : fillA (places[·]?) pl zl = some l') : Ev P s o (agg l') := by
  refine ⟨fun w0 a w hs => ?_⟩
  obtain ⟨i, z, fs, hi, hz, hu, hpl, hzl⟩ := ht
  obtain ⟨h1, h2⟩ := hp.vals hs
  obtain ⟨cs, g1, g2, g3⟩ := fill_of (w0 := w0) h1 h2 (hzl w0).1 (hzl w0).2 hf
  have hb : P.built t (parts.map fun (i, x) => (i, a.eval x)) = some cs := by
    unfold Program.built
    simp only [hi, hu, hz, hpl]
    simpa using g1
  have hr := run_build (P := P) w t (parts.map fun (i, x) => (i, a.eval x)).toArray cs (by simpa using hb)
  have he : (parts.toArray.map fun (i, x) => (i, a.eval x)) = (parts.map fun (i, x) => (i, a.eval x)).toArray := by simp
  simp only [execOp, ho, he, hr, Sem.run_bind, Sem.run_pure, Result.andThen_ok]
  exact .of_val ⟨cs.toList, by simp, g2, g3⟩
end

section
variable {P : Program} {w0 : World} {ops : Array Oper} {nt : Nat} {env : List (Nat × AV)} {H : List HE} {rest : List Oper} {Q : Exit → Act → World → Prop} {op : Op} {ty : TypeId} {pos : String} {after : Array Edge}

theorem row_sat {s : AS} {a : Act} {w w' : World} {d T size n : Nat} {v : Value} {c : Nat → List AV} {H' : List HE} (hs : Sat w0 s a w) (hb : Below w0.heap.size w w') (hd : Nat.blt d s.nt = true) (hH : HOk w0 w' H') (hrow : (HE.row v T size n c).ok w0 w') (hf : ∀ g, v.ownBlock = some g → w0.heap.size ≤ g ∧ g < w'.heap.size ∧ ∀ e' ∈ H', ¬ e'.foot g) :
    Sat w0 ⟨s.nt, (d, vv v) :: s.env, .row v T size n c :: H'⟩ (a.put (some d) v) w' :=
  hs.step (A := vv v) (dst := some d) hb rfl hd (hH.cons hrow hf)

/-- '[]T{}'. -/
theorem aops_slice0 {d : Nat} {t e size bytes : Nat} {c : Nat → List AV} (ht : TyE P t e size bytes) (hd : Nat.blt d nt = true) (k : ∀ v, AOps P w0 ops ⟨nt, (d, vv v) :: env, .row v e size 0 c :: H⟩ rest Q) : AOps P w0 ops ⟨nt, env, H⟩ (⟨some d, .buildSlice t 0 #[], ty, pos, after, none⟩ :: rest) Q := by
  refine ⟨fun a w hs => ?_⟩
  exact wpList_plain rfl fun K hK => by
    obtain ⟨i, z, hu, hi, hz, hsz, hby, hzs, hpos, _⟩ := ht
    have hr : (execOp a.eval (⟨some d, .buildSlice t 0 #[], ty, pos, after, none⟩ : Oper)).run P w = .ok (.value (.slice (some ⟨w.heap.size, 0, none⟩) 0 0)) (w.alloc (.cells #[] e)) := by
      simp [execOp, Instr.buildSlice, run_underlying hu, sizeOf, typeInfo, hi, Instr.fill, newRow]
      rw [show (Array.map (fun (_ : Nat) => (default : Value)) (Array.range 0)) = #[] from Array.eq_empty_of_size_eq_zero (by simp)]
    unfold Oper.wp
    rw [hr]
    have hb : Below w.heap.size w (w.alloc (.cells #[] e)) := (Below.refl _ _).alloc (Nat.le_refl _) _
    have hsz' : (w.alloc (.cells (#[] : Array Value) e)).heap.size = w.heap.size + 1 := by simp
    refine hK _ _ ((k _).out _ _ (row_sat hs (hb.mono hs.below.size) hd (hs.heap.below hb) ⟨[], ⟨by simp, .inr ⟨w.heap.size, 0, #[], rfl, hs.below.size, heap_alloc_new w _, Nat.le_refl _, by simp [maxLen], by simp, by simp⟩⟩, fun k hk => absurd hk (by omega), fun u hu => by simp at hu⟩ fun g hg => ?_))
    obtain rfl : w.heap.size = g := by simpa [Value.ownBlock] using hg
    exact ⟨hs.below.size, by omega, fun e' he' hf => absurd (hs.heap.foot e' he' _ hf).2 (by omega)⟩
/-- '[]T{x, ..}': a new block that holds its elements' cells. -/
theorem aops_sliceN {d t e n size bytes : Nat} {parts : List (Nat × Operand)} {pl : List (Nat × List AV)} {l' : List AV} (ht : TyE P t e size bytes) (hn : 0 < n ∧ n ≤ 100) (hp : Parts ⟨nt, env, H⟩ parts pl) (hf : fillA (fun i => some (i * size, size)) pl (List.replicate (n * size) top) = some l') (hd : Nat.blt d nt = true)
    (k : ∀ b, AOps P w0 ops ⟨nt, (d, vv (.slice (some ⟨b, 0, none⟩) n n)) :: env, .cells b l' :: H⟩ rest Q) : AOps P w0 ops ⟨nt, env, H⟩ (⟨some d, .buildSlice t n parts.toArray, ty, pos, after, none⟩ :: rest) Q := by
  refine ⟨fun a w hs => ?_⟩
  exact wpList_plain rfl fun K hK => by
    obtain ⟨i, z, hu, hi, hz, hsz, hby, hzs, hpos, hsm, hbm, hz1⟩ := ht
    obtain ⟨h1, h2⟩ := hp.vals hs
    have hnn : n * size ≤ 100 * 64 := Nat.mul_le_mul hn.2 hsm
    have hpos2 : 0 < n * size := Nat.mul_pos hn.1 hpos
    have hbase1 : ((Array.range (n * size)).map (z.cells[· % z.cells.size]!)).toList.length = n * size := by simp
    obtain ⟨cs, g1, g2, g3⟩ := fill_of (w0 := w0) (place := fun i => some (i * size, size)) (cs := (Array.range (n * size)).map (z.cells[· % z.cells.size]!)) h1 h2 (l := List.replicate (n * size) top)
      (All.of_get (by simp) fun j A hA => by
        have hj : j < n * size := by simpa using (List.getElem?_eq_some_iff.1 hA).1
        obtain rfl : A = top := by
          rw [List.getElem?_replicate, if_pos hj] at hA
          simpa using hA.symm
        exact ⟨_, by simp [hj]; rfl, trivial⟩)
      (fun u hu => by
        simp only [Array.toList_map, List.mem_map] at hu
        obtain ⟨j, _, rfl⟩ := hu
        have hlt : j % z.cells.size < z.cells.size := Nat.mod_lt _ (by omega)
        rw [getElem!_pos z.cells _ hlt]
        exact hz1 _ (by simp)) hf
    subst hsz
    have hr := run_buildSlice (P := P) w t e n (parts.map fun (i, x) => (i, a.eval x)).toArray cs i z hu hi hz (by omega) (by omega) (by simpa using g1)
    have he : (parts.toArray.map fun (i, x) => (i, a.eval x)) = (parts.map fun (i, x) => (i, a.eval x)).toArray := by simp
    have hr2 : (execOp a.eval (⟨some d, .buildSlice t n parts.toArray, ty, pos, after, none⟩ : Oper)).run P w = .ok (.value (.slice (some ⟨w.heap.size, 0, none⟩) n n)) (w.alloc (.cells cs e)) := by
      simp only [execOp, he, hr, Sem.run_bind, Sem.run_pure, Result.andThen_ok]
    unfold Oper.wp
    rw [hr2]
    have hb : Below w.heap.size w (w.alloc (.cells cs e)) := (Below.refl _ _).alloc (Nat.le_refl _) _
    have hsz' : (w.alloc (.cells cs e)).heap.size = w.heap.size + 1 := by simp
    refine hK _ _ ((k _).out _ _ (hs.step (A := vv _) (dst := some d) (hb.mono hs.below.size) rfl hd ((hs.heap.below hb).cons ⟨cs, e, heap_alloc_new w _, g2, g3⟩ fun g hg => ?_)))
    obtain rfl : g = w.heap.size := hg
    exact ⟨hs.below.size, by omega, fun e' he' hf => absurd (hs.heap.foot e' he' _ hf).2 (by omega)⟩

/-- 'append(s, x)', s of the call's own, x a literal that lies in a block of its own. -/
theorem aops_append {d t e size bytes n m g c' : Nat} {xs xx : Operand} {v : Value} {c c2 : Nat → List AV} {l : List AV} {H' : List HE} (ht : TyE P t e size bytes) (hs' : Opd ⟨nt, env, H⟩ xs (vv v)) (hx : Opd ⟨nt, env, H⟩ xx (vv (.slice (some ⟨g, 0, none⟩) m c')))
    (htk : HTake H (.row v e size n c) H') (hm : HE.cells g l ∈ H) (hlen : l.length = m * size) (hn : n + m ≤ 1048576)
    (hc1 : ∀ k, k < n → c2 k = c k) (hc2 : ∀ k, k < m → c2 (n + k) = (l.drop (k * size)).take size) (hd : Nat.blt d nt = true)
    (k : ∀ v', AOps P w0 ops ⟨nt, (d, vv v') :: env, .row v' e size (n + m) c2 :: H'⟩ rest Q) : AOps P w0 ops ⟨nt, env, H⟩ (⟨some d, .call { callee := .builtin .append, args := #[xs, xx], argTypes := #[t, t] }, ty, pos, after, none⟩ :: rest) Q := by
  refine ⟨fun a w hs => ?_⟩
  obtain ⟨i, z, hu, hi, hz, hsz, hby, hzs, hpos, hsm, hbm, hz1⟩ := ht
  have e1 : a.eval xs = v := hs' w0 a w hs
  have e2 : a.eval xx = _ := hx w0 a w hs
  obtain ⟨⟨ys, hown, hrow, hy1⟩, hH', hfoot⟩ := htk.ok hs.heap
  obtain ⟨cs, T, h1, h2, h3⟩ := hs.heap.get _ hm
  have hlen2 := h2.length
  refine wpList_append_own_at w rfl xs xx t rfl w0.heap.size e i z size bytes hu hi hz hsz hby hzs hpos v n ys e1 hown ⟨g, 0, none⟩ m c' cs.toList e2 (by rw [hlen2, hlen])
    (fun j u hj => by rw [add_lit, Nat.zero_add, cell_of_row w g j cs T (0, 0) h1, ← Array.getElem?_toList]; exact hj) h3 (by simp [maxLen]; omega)
    (Nat.le_trans (Nat.mul_le_mul hn hbm) (by decide)) hs.below.size ?_
  intro v' w' k1 k2 _ hat
  have hb : Below w0.heap.size w w' := (Below.refl _ _).grown k2 hs.below.size fun q hq => (hfoot q hq).1
  have hlenY := hown.1
  have hz0 : 0 < size := hpos
  refine (k v').out _ _ (row_sat hs hb hd (hH'.keep k2.size fun e' he' q hq => k2.block q (hH'.foot e' he' q hq).2 fun hv => ?_) ⟨_, k1, fun j hj => ?_, fun u hu => ?_⟩ fun q hq => ?_)
  · exact (hfoot q hv.symm).2.2 e' he' hq
  · by_cases hjn : j < n
    · have := hrow j hjn
      rw [hc1 j hjn]
      have e3 : (ys ++ cs.toList).drop (j * size) = ys.drop (j * size) ++ cs.toList := by
        rw [List.drop_append_of_le_length]
        rw [hlenY]
        exact Nat.mul_le_mul_right _ (by omega)
      rw [e3, List.take_append_of_le_length]
      · exact this
      · rw [List.length_drop, hlenY]
        have : (j + 1) * size ≤ n * size := Nat.mul_le_mul_right _ (by omega)
        rw [Nat.add_mul, Nat.one_mul] at this
        omega
    · obtain ⟨r, rfl⟩ : ∃ r, j = n + r := ⟨j - n, by omega⟩
      rw [hc2 r (by omega)]
      have e3 : (ys ++ cs.toList).drop ((n + r) * size) = cs.toList.drop (r * size) := by
        rw [Nat.add_mul, ← hlenY, ← List.drop_drop, List.drop_left]
      rw [e3]
      exact (h2.drop (r * size)).take size
  · rcases List.mem_append.1 hu with hu | hu
    · exact hy1 u hu
    · exact h3 u hu
  · obtain ⟨q1, q2⟩ := World.ownsRow.lt k1 q hq
    refine ⟨q1, q2, fun e' he' hf => ?_⟩
    rcases hat with hat | hat
    · rw [hat] at hq
      exact (hfoot q hq).2.2 e' he' hf
    · rw [hat] at hq
      injection hq with hq
      exact absurd (hH'.foot e' he' q hf).2 (by omega)
end
end Go.Proofs.Ytejpamlaacffaaa

/-
  Branches, loops, the end of a call, regions that draw their order: abstractly. Conditions: none.
-/
namespace Go.Proofs.Ytejpamlaacffaaa
open Go Go.RowKit

section
variable {P : Program} {w0 : World} {s : AS} {Q : Exit → Act → World → Prop}

theorem awp_seq {x y : Code} (h : AWp P w0 s x (Exit.then (y.wp P Q) Q)) : AWp P w0 s (.seq x y) Q := ⟨fun a w hs => wp_seq (h.out a w hs)⟩
theorem awp_skip (h : AEx w0 s .normal Q) : AWp P w0 s .skip Q := ⟨fun a w hs => wp_skip (h.out a w hs)⟩
theorem awp_ret (h : AEx w0 s .ret Q) : AWp P w0 s .ret Q := ⟨fun a w hs => wp_ret (h.out a w hs)⟩
theorem awp_exit {id : Nat} (h : AEx w0 s (.exit id) Q) : AWp P w0 s (.exit id) Q := ⟨fun a w hs => wp_exit (h.out a w hs)⟩
theorem awp_label {l : Nat} (h : AEx w0 s .normal Q) : AWp P w0 s (.label l) Q := ⟨fun a w hs => wp_label (h.out a w hs)⟩
theorem awp_block {id : Nat} {c : Code} (h : AWp P w0 s c (Exit.inBlock id Q)) : AWp P w0 s (.block id c) Q := ⟨fun a w hs => wp_block (h.out a w hs)⟩
theorem awp_cond {c : Operand} {x y : Code} {b : Bool} (hc : Opd s c (vv (.bool b))) (ht : b = true → AWp P w0 s x Q) (hf : b = false → AWp P w0 s y Q) : AWp P w0 s (.cond c x y) Q := by
  refine ⟨fun a w hs => ?_⟩
  exact wp_cond_split (hc w0 a w hs) (fun h => (ht h).out a w hs) (fun h => (hf h).out a w hs)
theorem awp_cond_t {c : Operand} {x y : Code} {b : Bool} (hc : Opd s c (vv (.bool b))) (hb : b = true) (ht : AWp P w0 s x Q) : AWp P w0 s (.cond c x y) Q :=
  awp_cond hc (fun _ => ht) (fun h => by rw [hb] at h; cases h)
theorem awp_cond_f {c : Operand} {x y : Code} {b : Bool} (hc : Opd s c (vv (.bool b))) (hb : b = false) (hf : AWp P w0 s y Q) : AWp P w0 s (.cond c x y) Q :=
  awp_cond hc (fun h => by rw [hb] at h; cases h) (fun _ => hf)
theorem awp_region {id : Nat} {l : List Oper} (h : AOps P w0 l.toArray s l Q) : AWp P w0 s (.region id l.toArray false) Q := ⟨fun a w hs => wp_region_lit (h.out a w hs)⟩

/- Where a piece of code ends. -/
theorem aex_then {y : Code} (h : AWp P w0 s y Q) : AEx w0 s .normal (Exit.then (y.wp P Q) Q) := ⟨h.out⟩
theorem aex_ret_then {K : Act → World → Prop} (h : AEx w0 s .ret Q) : AEx w0 s .ret (Exit.then K Q) := ⟨h.out⟩
theorem aex_exit_then {K : Act → World → Prop} {i : Nat} (h : AEx w0 s (.exit i) Q) : AEx w0 s (.exit i) (Exit.then K Q) := ⟨h.out⟩
theorem aex_ret_block {id : Nat} (h : AEx w0 s .ret Q) : AEx w0 s .ret (Exit.inBlock id Q) := ⟨h.out⟩
theorem aex_normal_block {id : Nat} (h : AEx w0 s .normal Q) : AEx w0 s .normal (Exit.inBlock id Q) := ⟨h.out⟩
theorem aex_exit_here {id : Nat} (h : AEx w0 s .normal Q) : AEx w0 s (.exit id) (Exit.inBlock id Q) := by
  refine ⟨fun a w hs => ?_⟩
  simp only [Exit.inBlock, if_true]; exact h.out a w hs
theorem aex_exit_out {i id : Nat} (hne : Nat.beq i id = false) (h : AEx w0 s (.exit i) Q) : AEx w0 s (.exit i) (Exit.inBlock id Q) := by
  refine ⟨fun a w hs => ?_⟩
  simp only [Exit.inBlock, if_neg (Nat.ne_of_beq_eq_false hne)]; exact h.out a w hs

/- Loops. -/
def Imp (s s' : AS) : Prop := ∀ w0 a w, Sat w0 s a w → Sat w0 s' a w
def Again {ι : Type} (w0 : World) (st : ι → AS) (p : ι → Prop) (m : ι → Nat) (n : Nat) (a : Act) (w : World) : Prop := ∃ y, p y ∧ m y < n ∧ Sat w0 (st y) a w
theorem wp_loop_rel {c : Code} {a : Act} {w : World} (J : Nat → Act → World → Prop) (n : Nat) (h0 : J n a w) (round : ∀ n a w, J n a w → c.wp P (Exit.then (fun a' w' => ∃ m, m < n ∧ J m a' w') Q) a w) : (Code.loop c).wp P Q a w := by
  intro b k cs
  have key : ∀ n a w, J n a w → ∃ e a' w', Q e a' w' ∧ Arrives P (lone (b.at a (.code c :: .inLoop c :: k)) cs w) b k cs e a' w' := by
    intro n
    induction n using Nat.strongRecOn with
    | _ n ih =>
      intro a w hJ
      obtain ⟨e, a₁, w₁, hq, harr⟩ := round n a w hJ b (.inLoop c :: k) cs
      cases e with
      | normal =>
        obtain ⟨m, hlt, hJ₁⟩ := hq
        obtain ⟨e₂, a₂, w₂, hq₂, harr₂⟩ := ih m hlt a₁ w₁ hJ₁
        exact ⟨e₂, a₂, w₂, hq₂, .of_steps (Steps.trans harr (.one step_inLoop)) harr₂⟩
      | exit id => exact ⟨_, a₁, w₁, hq, .pass (x := .inLoop c) rfl (fun _ _ => .inl (by simp)) harr⟩
      | goto l => exact ⟨_, a₁, w₁, hq, .pass (x := .inLoop c) rfl (fun _ _ => .inl (by simp)) harr⟩
      | ret => exact ⟨_, a₁, w₁, hq, .pass (x := .inLoop c) rfl (fun _ _ => .inl (by simp)) harr⟩
      | panic ch => exact ⟨_, a₁, w₁, hq, .pass (x := .inLoop c) rfl (fun _ _ => .inl (by simp)) harr⟩
      | outgrown => exact ⟨_, a₁, w₁, hq, .pass (x := .inLoop c) rfl (fun _ _ => .inl (by simp)) harr⟩
  obtain ⟨e, a', w', hq, harr⟩ := key n a w h0
  exact ⟨e, a', w', hq, .of_steps (.one step_loop) harr⟩
/-- A loop: st y is what is known at the head of a round, y ranges over whatever varies; m falls. -/
theorem awp_loop {ι : Type} {c : Code} (st : ι → AS) (p : ι → Prop) (m : ι → Nat) (x : ι) (hx : p x) (h0 : Imp s (st x)) (round : ∀ y, p y → AWp P w0 (st y) c (Exit.then (Again w0 st p m (m y)) Q)) : AWp P w0 s (.loop c) Q := by
  refine ⟨fun a w hs => ?_⟩
  exact wp_loop_rel (fun n a w => ∃ y, p y ∧ m y = n ∧ Sat w0 (st y) a w) (m x) ⟨x, hx, rfl, h0 w0 a w hs⟩ fun n a w ⟨y, hy, hm, hsy⟩ => by
    subst hm
    refine Code.wp_mono (fun e a w q => ?_) ((round y hy).out a w hsy)
    cases e
    case normal =>
      obtain ⟨z, hz, hlt, hsz⟩ := q
      exact ⟨m z, hlt, z, hz, rfl, hsz⟩
    all_goals exact q
def EnvImp (s : AS) : List (Nat × AV) → Prop
  | [] => True
  | (t, A) :: r => Opd s (.tmp t) A ∧ EnvImp s r
theorem EnvImp.nil : EnvImp s [] := trivial
theorem EnvImp.cons {t : Nat} {A : AV} {r : List (Nat × AV)} (h : Opd s (.tmp t) A) (k : EnvImp s r) : EnvImp s ((t, A) :: r) := ⟨h, k⟩
/-- The second memory is the first one less some entries. -/
inductive HSub : List HE → List HE → Prop where
  | nil : HSub [] []
  | keep {e H H'} : HSub H H' → HSub (e :: H) (e :: H')
  | drop {e H H'} : HSub H H' → HSub (e :: H) H'
theorem HSub.mem {H H' : List HE} (h : HSub H H') : ∀ e ∈ H', e ∈ H := by
  induction h with
  | nil => intro e he; exact he
  | keep _ ih => intro e he; cases he with
    | head => exact .head _
    | tail _ hm => exact .tail _ (ih e hm)
  | drop _ ih => intro e he; exact .tail _ (ih e he)
theorem HSub.ok {w0 w : World} {H H' : List HE} (h : HSub H H') : HOk w0 w H → HOk w0 w H' := by
  induction h with
  | nil => intro _; trivial
  | keep hp ih => intro hH; exact ⟨hH.1, fun g hg => ⟨(hH.2.1 g hg).1, (hH.2.1 g hg).2.1, fun x hx => (hH.2.1 g hg).2.2 x (hp.mem x hx)⟩, ih hH.2.2⟩
  | drop _ ih => intro hH; exact ih hH.2.2
theorem HSub.all : ∀ (H : List HE), HSub H []
  | [] => .nil
  | _ :: H => .drop (HSub.all H)
theorem EnvImp.look {s : AS} {w0 w : World} {a : Act} (hs : Sat w0 s a w) : ∀ {l : List (Nat × AV)}, EnvImp s l → ∀ t A, look t l = some A → A.R w0 (a.tmps.getD t undef)
  | (d, B) :: r, h, t, A, e => by
    unfold Go.Proofs.Ytejpamlaacffaaa.look at e
    split at e
    · rename_i hb
      obtain rfl : t = d := Nat.eq_of_beq_eq_true hb
      injection e with e
      subst e
      exact h.1 w0 a w hs
    · exact EnvImp.look hs h.2 t A e
theorem imp_mk {nt : Nat} {env env' : List (Nat × AV)} {H H' : List HE} (he : EnvImp ⟨nt, env, H⟩ env') (hh : HSub H H') : Imp ⟨nt, env, H⟩ ⟨nt, env', H'⟩ := fun w0 a w hs =>
  ⟨hs.below, hs.size, hs.defers, fun t A e => EnvImp.look hs he t A e, hh.ok hs.heap⟩
/- The end of a call. -/
def resF (tmps : Array Value) : ResultVar → Sem Value
  | .tmp t => Pure.pure (tmps.getD t undef)
  | .cell x t => do loadVar t (← asAddr (tmps.getD x undef))
theorem results_eq (fn : Func) (tmps : Array Value) : results fn tmps = (do
    let vs ← fn.results.mapM (resF tmps)
    Pure.pure (if h : vs.size = 1 then vs[0] else .tuple vs)) := by
  unfold results
  congr 1
/-- What a result variable gives. -/
def ResV (P : Program) (s : AS) (r : ResultVar) (A : AV) : Prop := ∀ w0 a w, Sat w0 s a w → ∃ v, (resF a.tmps r).run P w = .ok v w ∧ A.R w0 v
theorem resV_tmp {t : Nat} {A : AV} (h : Opd s (.tmp t) A) : ResV P s (.tmp t) A := fun w0 a w hs => ⟨_, rfl, h w0 a w hs⟩
theorem resV_cellA {x t n b i : Nat} {l l' : List AV} (hx : Opd s (.tmp x) (ptr b i)) (ht : TyA P t n) (hm : HE.cells b l ∈ s.heap) (hl : (l.drop i).take n = l') (hn : l'.length = n) : ResV P s (.cell x t) (agg l') := fun w0 a w hs => by
  have e : a.tmps.getD x undef = .pointer (some ⟨b, i, none⟩) := hx w0 a w hs
  obtain ⟨v, hr, hv⟩ := run_loadA (w := w) (w0 := w0) (b := b) (p := i) ht hn fun j A hj => by
    rw [← hl, List.getElem?_take] at hj
    split at hj
    · rw [List.getElem?_drop] at hj
      exact own_cells hs hm hj
    · cases hj
  refine ⟨v, ?_, hv⟩
  simp only [resF, e, asAddr, Sem.run_bind, Sem.run_pure, Result.andThen_ok, hr]
def RetQ (w : World) (Q : World → Value → World → Prop) (e : Ending) (w' : World) : Prop := ∃ v, e = .returned v ∧ Below w.heap.size w w' ∧ Q w v w'
theorem aex_ret1 {fn : Func} {r : ResultVar} {A : AV} (hf : fn.results = #[r]) (h : ResV P s r A) (hp : A.p = true) : AEx w0 s .ret (bodyPost P fn (RetQ w0 (RetA A))) := by
  refine ⟨fun a w hs => ?_⟩
  obtain ⟨v, hr, hv⟩ := h w0 a w hs
  refine ⟨hs.defers, v, ?_, v, rfl, hs.below, fun wx => A.pure hp hv⟩
  rw [results_eq, hf]
  simp [hr]
theorem aex_ret3 {fn : Func} {r r' r'' : ResultVar} {A B C : AV} (hf : fn.results = #[r, r', r'']) (h : ResV P s r A) (h' : ResV P s r' B) (h'' : ResV P s r'' C) (hp : A.p = true) (hp' : B.p = true) (hp'' : C.p = true) : AEx w0 s .ret (bodyPost P fn (RetQ w0 (RetA (tup [A, B, C])))) := by
  refine ⟨fun a w hs => ?_⟩
  obtain ⟨v, hr, hv⟩ := h w0 a w hs
  obtain ⟨v', hr', hv'⟩ := h' w0 a w hs
  obtain ⟨v'', hr'', hv''⟩ := h'' w0 a w hs
  refine ⟨hs.defers, .tuple #[v, v', v''], ?_, _, rfl, hs.below, fun wx => ⟨[v, v', v''], rfl, A.pure hp hv, B.pure hp' hv', C.pure hp'' hv'', trivial⟩⟩
  rw [results_eq, hf]
  simp [hr, hr', hr'']
def zipEnv : Nat → List AV → List (Nat × AV)
  | _, [] => []
  | k, A :: l => (k, A) :: zipEnv (k + 1) l
theorem zipEnv_look {w : World} : ∀ {As : List AV} {vs : List Value} (k : Nat), All w As vs → ∀ t A, look t (zipEnv k As) = some A → ∃ j, t = k + j ∧ ∃ u, vs[j]? = some u ∧ A.R w u
  | B :: As, u :: vs, k, h, t, A, e => by
    unfold zipEnv look at e
    split at e
    · rename_i hb
      obtain rfl : t = k := Nat.eq_of_beq_eq_true hb
      injection e with e
      subst e
      exact ⟨0, rfl, u, rfl, h.1⟩
    · obtain ⟨j, hj, x, hx, hr⟩ := zipEnv_look (k + 1) h.2 t A e
      exact ⟨j + 1, by omega, x, by simpa using hx, hr⟩
/-- The way into a function. -/
theorem con_enter {f : FuncId} {fn : Func} {c : Code} {As : List AV} {nt : Nat} {Q : World → Value → World → Prop} (hf : P.funcs[f]? = some fn) (hb : fn.body = some c) (hn : (fn.name == "runtime.NumGoroutine") = false) (ht : fn.ntmps = nt) (hl : Nat.ble As.length nt = true)
    (h : ∀ w0, AWp P w0 ⟨nt, zipEnv 0 As, []⟩ c (bodyPost P fn (RetQ w0 Q))) : Con P f As Q := by
  refine ⟨⟨fn, hf, by rw [hb]; rfl, hn⟩, fun w vs hv => calls_of_wp hf hb ((h w).out _ w ⟨Below.refl _ _, ?_, rfl, fun t A e => ?_, trivial⟩)⟩
  · have := hv.length
    have hl' : As.length ≤ nt := Nat.ble_eq ▸ hl
    simp [ht]
    omega
  · obtain ⟨j, rfl, u, hu, hr⟩ := zipEnv_look 0 hv t A e
    have hj : j < vs.length := (List.getElem?_eq_some_iff.1 hu).1
    have : (vs.toArray ++ Array.replicate (fn.ntmps - vs.toArray.size) undef).getD (0 + j) undef = u := by
      rw [Array.getD_eq_getD_getElem?, Nat.zero_add, Array.getElem?_append_left (by simpa using hj)]
      simp [hu]
    rw [this]
    exact hr
/-- A contract out of one of the older form. -/
theorem con_of {f : FuncId} {As : List AV} {Q : World → Value → World → Prop} (hc : Can P f) (h : ∀ w vs, All w As vs → Calls P f vs.toArray w (RetQ w Q)) : Con P f As Q := ⟨hc, h⟩

end
end Go.Proofs.Ytejpamlaacffaaa

/-
  Regions that draw their order, walked in the order of the text with abstract states. Conditions: none.
-/
namespace Go.Proofs.Ytejpamlaacffaaa
open Go Go.RowKit

def other (d : Option Tmp) : Option (Nat × List AV) → Bool
  | none => true
  | some (e, _) => match d with
    | some d => !(Nat.beq d e)
    | none => true
/-- The head of a region that draws: its operations yield values; one new variable (alloc) may be laid aside till the head's end. -/
def DW (P : Program) : AS → Option (Nat × List AV) → List Oper → (AS → Option (Nat × List AV) → Prop) → Prop
  | s, ns, [], K => K s ns
  | s, ns, o :: rest, K => o.guard = none ∧ dok s o.dst = true ∧ other o.dst ns = true ∧
      ((∃ A, Ev P s o A ∧ DW P (s.put o.dst A) ns rest K) ∨ (ns = none ∧ ∃ d t zl, o.dst = some d ∧ o.op = .alloc t ∧ TyZ P t zl ∧ DW P (s.put (some d) top) (some (d, zl)) rest K))
/-- Behind the head: the new variable stands. -/
def Fin (s : AS) (K : AS → Prop) : Option (Nat × List AV) → Prop
  | none => K s
  | some (d, zl) => ∀ b, K ⟨s.nt, (d, ptr b 0) :: s.env, .cells b zl :: s.heap⟩

/-- A box that was laid behind w1 and holds zl. -/
def Box (w0 w1 : World) (zl : List AV) (v : Value) (w : World) : Prop := ∃ b, v = .pointer (some ⟨b, 0, none⟩) ∧ w1.heap.size ≤ b ∧ b < w.heap.size ∧ ∃ cs T, w.heap[b]? = some (.cells cs T (0, 0)) ∧ All w0 zl cs.toList ∧ ∀ u ∈ cs.toList, u.oneCell' = true
theorem Box.stable {w0 w1 : World} {zl : List AV} (v : Value) : Stable (Box w0 w1 zl v) := fun w w' hb h => by
  obtain ⟨b, rfl, h1, h2, cs, T, h3, h4⟩ := h
  exact ⟨b, rfl, h1, Nat.lt_of_lt_of_le h2 hb.size, cs, T, (hb.block b h2).trans h3, h4⟩
def boxSR (w0 w1 : World) (zl : List AV) : SR := ⟨Box w0 w1 zl, Box.stable⟩

/-- What is known in the midst of the head. -/
structure Pre (w0 w1 : World) (s : AS) (ns : Option (Nat × List AV)) (a : Act) (F : World → Prop) : Prop where
  size : a.tmps.size = s.nt
  defers : a.defers = []
  env : ∀ t A, look t s.env = some A → A.R w0 (a.tmps.getD t undef)
  heap : HOk w0 w1 s.heap
  new : ∀ d zl, ns = some (d, zl) → ∀ w, F w → Box w0 w1 zl (a.tmps.getD d undef) w

section
variable {P : Program} {w0 w1 : World} {ops : Array Oper} {T : Act → (World → Prop) → Prop}
theorem Pre.sat {s : AS} {ns : Option (Nat × List AV)} {a : Act} {F : World → Prop} (h : Pre w0 w1 s ns a F) (h0 : Below w0.heap.size w0 w1) {w : World} (hw : CB w1 w) : Sat w0 s a w :=
  ⟨h0.trans (Below.mono hw h0.size), h.size, h.defers, h.env, h.heap.below hw⟩
theorem getD_put {a : Act} {d e : Nat} {v : Value} (h : Nat.beq d e = false) : (a.put (some d) v).tmps.getD e undef = a.tmps.getD e undef := by
  have hne : d ≠ e := Nat.ne_of_beq_eq_false h
  simp only [Act.put, Array.getD_eq_getD_getElem?, Array.getElem?_setIfInBounds, if_neg hne]

end

section
variable {P : Program} {w0 : World} {s : AS} {Q : Exit → Act → World → Prop}
end

structure DWT (P : Program) (s : AS) (ns : Option (Nat × List AV)) (j : Nat) (l : List Oper) (K : AS → Option (Nat × List AV) → Prop) : Prop where
  out : DW P s ns (l.take j) K
structure ADrop (P : Program) (w0 : World) (ops : Array Oper) (s : AS) (j : Nat) (l : List Oper) (Q : Exit → Act → World → Prop) : Prop where
  out : AOps P w0 ops s (l.drop j) Q
structure Fin1 (s : AS) (K : AS → Prop) (ns : Option (Nat × List AV)) : Prop where
  out : Fin s K ns
theorem DW.mono {P : Program} {K K' : AS → Option (Nat × List AV) → Prop} (h : ∀ s ns, K s ns → K' s ns) : ∀ {l : List Oper} {s : AS} {ns : Option (Nat × List AV)}, DW P s ns l K → DW P s ns l K'
  | [], _, _, k => h _ _ k
  | _ :: _, _, _, ⟨h1, h2, h3, .inl ⟨A, h4, h5⟩⟩ => ⟨h1, h2, h3, .inl ⟨A, h4, DW.mono h h5⟩⟩
  | _ :: _, _, _, ⟨h1, h2, h3, .inr ⟨h4, d, t, zl, h5, h6, h7, h8⟩⟩ => ⟨h1, h2, h3, .inr ⟨h4, d, t, zl, h5, h6, h7, DW.mono h h8⟩⟩
section
variable {P : Program} {nt : Nat} {env : List (Nat × AV)} {H : List HE} {rest : List Oper} {op : Op} {ty : TypeId} {pos : String} {after : Array Edge} {ns : Option (Nat × List AV)} {K : AS → Option (Nat × List AV) → Prop}
theorem adrop_succ {w0 : World} {ops : Array Oper} {s : AS} {Q : Exit → Act → World → Prop} {o : Oper} {j : Nat} (h : ADrop P w0 ops s j rest Q) : ADrop P w0 ops s (j + 1) (o :: rest) Q := ⟨h.out⟩
theorem adrop_zero {w0 : World} {ops : Array Oper} {s : AS} {Q : Exit → Act → World → Prop} {l : List Oper} (h : AOps P w0 ops s l Q) : ADrop P w0 ops s 0 l Q := ⟨h⟩
end

section
variable {P : Program} {s : AS} {o : Oper}
theorem ev_assignF {k : FloatKind} {b : Nat} (ho : o.op = .assign (.const (.float k b))) (h : (decide (b < 2 ^ k.format.width) && !isNan k b) = true) : Ev P s o (fl k b) := ev_assign ho (OpF.c h)
theorem ev_moveF {k : FloatKind} {b : Nat} (ho : o.op = .move (.const (.float k b))) (h : (decide (b < 2 ^ k.format.width) && !isNan k b) = true) : Ev P s o (fl k b) := ev_move ho (OpF.c h)
end
section
variable {P : Program} {t : TypeId} {n : Nat}
theorem TyA.mk {d : TypeDesc} (hu : P.underlying t = some d) (hd : isAggD d = true) (hs : (P.info? t).map (·.size) = some n) : TyA P t n := by
  cases hi : P.info? t with
  | none => rw [hi] at hs; cases hs
  | some i => rw [hi] at hs; exact ⟨d, i, hu, hd, hi, by simpa using hs⟩
theorem TyP.mk {d : TypeDesc} (hu : P.underlying t = some d) (hd : isAggD d = false) (hs : (P.info? t).map (·.size) = some 1) : TyP P t := by
  cases hi : P.info? t with
  | none => rw [hi] at hs; cases hs
  | some i => rw [hi] at hs; exact ⟨d, i, hu, hd, hi, by simpa using hs⟩
theorem TyF.mk {fs : Array Field} {fd : Field} {j off m : Nat} (hu : P.underlying t = some (.struct fs)) (hf : fs[j]? = some fd) (ho : fd.offset = off) (hs : (P.info? fd.type).map (·.size) = some m) (hm : m ≠ 0) : TyF P t j off := by
  cases hi : P.info? fd.type with
  | none => rw [hi] at hs; cases hs
  | some i => rw [hi] at hs; exact ⟨fs, fd, i, hu, hf, ho, hi, by simp at hs; omega⟩
theorem TyZ.mk {z : Value} {zl : List AV} (hs : (P.info? t).map (·.zero) = some (some z)) (h : ∀ w, All w zl z.cells.toList ∧ ∀ u ∈ z.cells.toList, u.oneCell' = true) : TyZ P t zl := by
  cases hi : P.info? t with
  | none => rw [hi] at hs; cases hs
  | some i => rw [hi] at hs; exact ⟨i, z, hi, by simpa using hs, h⟩
theorem TyB.mk {z : Value} {zl : List AV} {fs : Array Field} {pl : List (Nat × Nat)} (hu : P.underlying t = some (.struct fs)) (hs : (P.info? t).map (·.zero) = some (some z)) (hp : fs.toList.mapM (fun f => (P.info? f.type).map fun i => (f.offset, i.size)) = some pl) (h : ∀ w, All w zl z.cells.toList ∧ ∀ u ∈ z.cells.toList, u.oneCell' = true) : TyB P t zl pl := by
  cases hi : P.info? t with
  | none => rw [hi] at hs; cases hs
  | some i => rw [hi] at hs; exact ⟨i, z, fs, hi, by simpa using hs, hu, hp, h⟩
theorem TyS.mk {e : TypeId} (hu : P.underlying t = some (.slice e)) (hs : (P.info? e).map (·.size) = some n) : TyS P t e n := by
  cases hi : P.info? e with
  | none => rw [hi] at hs; cases hs
  | some i => rw [hi] at hs; exact ⟨i, hu, hi, by simpa using hs⟩
theorem TyE.mk {e size bytes : Nat} {z : Value} (hu : P.underlying t = some (.slice e)) (hs : (P.info? e).map (fun i => (i.zero, i.size, i.bytes)) = some (some z, size, bytes)) (hz : z.cells.size = size) (h0 : 0 < size) (h1 : size ≤ 64) (h2 : bytes ≤ 64) (h : ∀ u ∈ z.cells.toList, u.oneCell' = true) : TyE P t e size bytes := by
  cases hi : P.info? e with
  | none => rw [hi] at hs; cases hs
  | some i =>
    rw [hi] at hs
    simp at hs
    exact ⟨i, z, hu, hi, hs.1, hs.2.1, hs.2.2, hz, h0, h1, h2, h⟩
end
theorem Givs.nil {s : AS} : Givs s [] [] := trivial
theorem Parts.nil {s : AS} : Parts s [] [] := trivial
theorem Givs.cons {s : AS} {x : Operand} {A : AV} {xs : List Operand} {As : List AV} (h : Giv s x A) (k : Givs s xs As) : Givs s (x :: xs) (A :: As) := ⟨h, k⟩
theorem Parts.cons {s : AS} {i : Nat} {x : Operand} {A : AV} {la : List AV} {ps : List (Nat × Operand)} {pl : List (Nat × List AV)} (h : Opd s x A) (hc : CellsOf A la) (k : Parts s ps pl) : Parts s ((i, x) :: ps) ((i, la) :: pl) := ⟨⟨rfl, A, h, hc⟩, k⟩
def pole (A : V3) (S : Nat) : AV := agg [fl .f32 A.x, fl .f32 A.y, fl .f32 A.z, fl .f32 S]
def dip (A M : V3) : AV := agg [fl .f32 A.x, fl .f32 A.y, fl .f32 A.z, fl .f32 M.x, fl .f32 M.y, fl .f32 M.z]
def rel3 (U D W : Nat) : AV := agg [fl .f32 U, fl .f32 D, fl .f32 W]
def vec (A : V3) : AV := agg [fl .f32 A.x, fl .f32 A.y, fl .f32 A.z]
theorem Fb_zero : Fb .f32 0 0 := Fb_const (by decide +kernel)
theorem vec_Vb {A : V3} {w : World} {v : Value} : (vec A).R w v ↔ Vb A v := by
  constructor
  · rintro ⟨cs, rfl, h, _⟩
    match cs, h with
    | [a, b, c], ⟨h1, h2, h3, _⟩ =>
      obtain ⟨x, rfl, hx⟩ := h1
      obtain ⟨y, rfl, hy⟩ := h2
      obtain ⟨z, rfl, hz⟩ := h3
      exact ⟨x, y, z, rfl, hx, hy, hz⟩
  · rintro ⟨x, y, z, rfl, hx, hy, hz⟩
    exact ⟨_, rfl, ⟨⟨x, rfl, hx⟩, ⟨y, rfl, hy⟩, ⟨z, rfl, hz⟩, trivial⟩, by simp [Value.oneCell']⟩
end Go.Proofs.Ytejpamlaacffaaa

/-
  Slices of the call's own that are handed back; parts of slices; guards that are parted. Conditions: none.
-/
namespace Go.Proofs.Ytejpamlaacffaaa
open Go Go.RowKit

/-- The call hands back a value about a new slice of its own. -/
def RetRow (T size n : Nat) (c : Nat → List AV) (mk : Value → AV) (w : World) (v : Value) (w' : World) : Prop :=
  ∃ sv, (HE.row sv T size n c).ok w w' ∧ (∀ g, sv.ownBlock = some g → w.heap.size ≤ g ∧ g < w'.heap.size) ∧ ∀ wx, (mk sv).R wx v

section
variable {P : Program} {w0 : World} {s : AS}
theorem aex_ret2_row {fn : Func} {r r' : ResultVar} {v : Value} {B : AV} {T size n : Nat} {c : Nat → List AV} (hf : fn.results = #[r, r']) (h : ResV P s r (vv v)) (h' : ResV P s r' B) (hp' : B.p = true) (hm : HE.row v T size n c ∈ s.heap) : AEx w0 s .ret (bodyPost P fn (RetQ w0 (RetRow T size n c fun sv => tup [vv sv, B]))) := by
  refine ⟨fun a w hs => ?_⟩
  obtain ⟨u, hr, hv⟩ := h w0 a w hs
  obtain rfl : u = v := hv
  obtain ⟨v', hr', hv'⟩ := h' w0 a w hs
  refine ⟨hs.defers, .tuple #[u, v'], ?_, _, rfl, hs.below, u, hs.heap.get _ hm, fun g hg => hs.heap.foot _ hm g hg, fun wx => ⟨[u, v'], rfl, rfl, B.pure hp' hv', trivial⟩⟩
  rw [results_eq, hf]
  simp [hr, hr']
end

section
variable {P : Program} {w0 : World} {ops : Array Oper} {nt : Nat} {env : List (Nat × AV)} {H : List HE} {rest : List Oper} {Q : Exit → Act → World → Prop} {op : Op} {ty : TypeId} {pos : String} {after : Array Edge}
/-- A call that hands back a new slice. -/
theorem aops_call1 {d : Nat} {f : FuncId} {x : Operand} {As : List AV} {T size n : Nat} {c : Nat → List AV} {mk : Value → AV} {args : List Operand} {ts : Array TypeId} (hx : Opd ⟨nt, env, H⟩ x (vv (.func (.func f) #[] #[]))) (hc : Con P f As (RetRow T size n c mk)) (ha : Givs ⟨nt, env, H⟩ args As) (hp : ∀ k, (c k).all (·.p) = true) (hd : Nat.blt d nt = true)
    (k : ∀ sv, AOps P w0 ops ⟨nt, (d, mk sv) :: env, .row sv T size n c :: H⟩ rest Q) : AOps P w0 ops ⟨nt, env, H⟩ (⟨some d, .call { callee := .value x, args := args.toArray, argTypes := ts }, ty, pos, after, none⟩ :: rest) Q := by
  refine ⟨fun a w hs => wpList_plain rfl fun K hK => ?_⟩
  have e : a.eval x = _ := hx w0 a w hs
  unfold Oper.wp
  rw [run_call hc.1 x args.toArray ts rfl a e w]
  have := hc.2 w (args.map a.eval) (ha.all hs)
  simp only [Oper.upon]
  rw [show args.toArray.map a.eval = (args.map a.eval).toArray by simp]
  refine this.mono fun e w' h => ?_
  obtain ⟨v, rfl, hb, sv, ⟨xs, ⟨hl, hown⟩, hrow, h1⟩, hg, hmk⟩ := h
  have hb0 : Below w0.heap.size w w' := hb.mono hs.below.size
  refine hK _ _ ((k sv).out _ _ (hs.step (A := mk sv) (dst := some d) hb0 (hmk w0) hd ((hs.heap.below hb).cons ⟨xs, ⟨hl, ?_⟩, fun j hj => (hrow j hj).pure (hp j), h1⟩ fun g hgg => ⟨Nat.le_trans hs.below.size (hg g hgg).1, (hg g hgg).2, fun e' he' hf => absurd (hs.heap.foot e' he' g hf).2 (by have := (hg g hgg).1; omega)⟩)))
  rcases hown with h0 | ⟨g, cap, cur, rfl, hgb, r⟩
  · exact .inl h0
  · exact .inr ⟨g, cap, cur, rfl, Nat.le_trans hs.below.size hgb, r⟩
end

section
variable {P : Program} {s : AS} {o : Oper}
theorem ev_pickT {c x y : Operand} {A : AV} {b : Bool} (ho : o.op = .pick c x y) (hc : Opd s c (vv (.bool b))) (hb : b = true) (hx : Opd s x A) : Ev P s o A := ev_pick ho hc (fun _ => hx) (fun h => by rw [hb] at h; cases h)
theorem ev_pickF {c x y : Operand} {A : AV} {b : Bool} (ho : o.op = .pick c x y) (hc : Opd s c (vv (.bool b))) (hb : b = false) (hy : Opd s y A) : Ev P s o A := ev_pick ho hc (fun h => by rw [hb] at h; cases h) (fun _ => hy)
/-- 's[i:]', s only read. -/
theorem ev_sliceLo {t e : TypeId} {x y : Operand} {q : IntKind} {size n k : Nat} {c : Nat → List AV} (ho : o.op = .slice t x (some y) none none) (hx : Opd s x (rs size n c)) (hy : Opd s y (vv (.int q (k : Int)))) (ht : TyS P t e size) (hk : k ≤ n) : Ev P s o (rs size (n - k) fun j => c (k + j)) := by
  refine ⟨fun w0 a w hs => ?_⟩
  obtain ⟨ad, cap, ex, hcap, h⟩ := hx w0 a w hs
  have ey : a.eval y = .int q (k : Int) := hy w0 a w hs
  obtain ⟨i, hu, hi, hs'⟩ := ht
  have hr : (Instr.sliceAt t (.slice ad n cap) (some (.int q (k : Int))) none none).run P w = .ok (.slice (if cap = k then ad else ad.map (·.add (k * size))) (n - k) (cap - k)) w := by
    simp [Instr.sliceAt, Instr.slice, run_underlying hu, Instr.sliceBounds, Instr.sliceBound, asIntOf, sizeOf, typeInfo, hi, hs', hk]
  simp only [execOp, ho, ex, ey, Option.map_some, Option.map_none, hr, Sem.run_bind, Sem.run_pure, Result.andThen_ok]
  refine .of_val ⟨_, _, rfl, by omega, fun h0 => ?_⟩
  obtain ⟨b, p, rfl, hl⟩ := h (by omega)
  refine ⟨b, p + k * size, ?_, fun j hj => ?_⟩
  · rw [if_neg (by omega)]
    simp [add_lit]
  · have := hl (k + j) (by omega)
    rw [Nat.add_mul, ← Nat.add_assoc] at this
    exact this
end

section
variable {P : Program} {s : AS} {o : Oper}
theorem Opd.cast {x : Operand} {q : IntKind} {z : Int} {k : Nat} (h : Opd s x (vv (.int q z))) (e : z = (k : Int)) : Opd s x (vv (.int q (k : Int))) := by subst e; exact h
theorem ev_indexZ {t e : TypeId} {x y : Operand} {q : IntKind} {size n : Nat} {z : Int} {c : Nat → List AV} (ho : o.op = .indexAddr t x y) (hx : Opd s x (rs size n c)) (hy : Opd s y (vv (.int q z))) (ht : TyS P t e size) (h0 : 0 ≤ z) (hk : z < n) : Ev P s o (rp (c z.toNat) 0) :=
  ev_index ho hx (hy.cast (k := z.toNat) (by omega)) ht (by omega)
theorem ev_sliceLoZ {t e : TypeId} {x y : Operand} {q : IntKind} {size n : Nat} {z : Int} {c : Nat → List AV} (ho : o.op = .slice t x (some y) none none) (hx : Opd s x (rs size n c)) (hy : Opd s y (vv (.int q z))) (ht : TyS P t e size) (h0 : 0 ≤ z) (hk : z ≤ n) : Ev P s o (rs size (n - z.toNat) fun j => c (z.toNat + j)) :=
  ev_sliceLo ho hx (hy.cast (k := z.toNat) (by omega)) ht (by omega)
end
/- Loops that count from 0 up to n. -/
def AgN (w0 : World) (st : Nat → AS) (n k : Nat) (a : Act) (w : World) : Prop := k + 1 ≤ n ∧ Sat w0 (st (k + 1)) a w
def AgV (w0 : World) (st : Nat → Value → AS) (n k : Nat) (a : Act) (w : World) : Prop := k + 1 ≤ n ∧ ∃ v, Sat w0 (st (k + 1) v) a w
section
variable {P : Program} {w0 : World} {s : AS} {Q : Exit → Act → World → Prop} {c : Code}
theorem awp_loopN (st : Nat → AS) (n : Nat) (h0 : Imp s (st 0)) (round : ∀ k, k ≤ n → AWp P w0 (st k) c (Exit.then (AgN w0 st n k) Q)) : AWp P w0 s (.loop c) Q :=
  awp_loop st (fun k => k ≤ n) (fun k => n - k) 0 (Nat.zero_le _) h0 fun k hk => ⟨fun a w hs => Code.wp_mono (fun e a w q => by
    cases e
    case normal => exact ⟨k + 1, q.1, by have := q.1; show n - (k + 1) < n - k; omega, q.2⟩
    all_goals exact q) ((round k hk).out a w hs)⟩
theorem awp_loopV (st : Nat → Value → AS) (n : Nat) (v0 : Value) (h0 : Imp s (st 0 v0)) (round : ∀ k v, k ≤ n → AWp P w0 (st k v) c (Exit.then (AgV w0 st n k) Q)) : AWp P w0 s (.loop c) Q :=
  awp_loop (ι := Nat × Value) (fun x => st x.1 x.2) (fun x => x.1 ≤ n) (fun x => n - x.1) (0, v0) (Nat.zero_le _) h0 fun x hk => ⟨fun a w hs => Code.wp_mono (fun e a w q => by
    cases e
    case normal =>
      obtain ⟨h1, v, h2⟩ := q
      exact ⟨(x.1 + 1, v), h1, by show n - (x.1 + 1) < n - x.1; omega, h2⟩
    all_goals exact q) ((round x.1 x.2 hk).out a w hs)⟩
theorem aex_agN {st : Nat → AS} {n k : Nat} (hk : k + 1 ≤ n) (h : Imp s (st (k + 1))) : AEx w0 s .normal (Exit.then (AgN w0 st n k) Q) := ⟨fun a w hs => ⟨hk, h w0 a w hs⟩⟩
theorem aex_agV {st : Nat → Value → AS} {n k : Nat} (v : Value) (hk : k + 1 ≤ n) (h : Imp s (st (k + 1) v)) : AEx w0 s .normal (Exit.then (AgV w0 st n k) Q) := ⟨fun a w hs => ⟨hk, v, h w0 a w hs⟩⟩
end
end Go.Proofs.Ytejpamlaacffaaa
