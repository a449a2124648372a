/-
  Floats up to the bits of a not-a-number: what '+', '-', '*', '/', comparisons, conversions and the square root give, as functions of canonical bits. Conditions: none.
-/
import Derived.WalkKit
import Derived.WalkSpells
import Derived.WalkLawsBesides
import Derived.Deep.Draws
import Derived.Lib.Hide
namespace Go.Proofs.Ythnlpbfheefldaa
open Go Go.RowKit

def isNan (k : FloatKind) (b : Nat) : Bool := (k.format.read b).isNaN
def nanOf : FloatKind → Nat
  | .f32 => 2143289344
  | .f64 => 9221120237041090560
def can (k : FloatKind) (b : Nat) : Nat := if isNan k b then nanOf k else b
/-- The float b stands for the canonical bits X. -/
structure Fb (k : FloatKind) (X b : Nat) : Prop where
  lt : b < 2 ^ k.format.width
  can : can k b = X

theorem isNan_nanOf (k : FloatKind) : isNan k (nanOf k) = true := by cases k <;> decide +kernel
theorem can_can (k : FloatKind) (b : Nat) : can k (can k b) = can k b := by
  unfold can
  by_cases h : isNan k b = true
  · simp [h, isNan_nanOf]
  · simp [h]
theorem Fb.idem {k : FloatKind} {X b : Nat} (h : Fb k X b) : Go.Proofs.Ythnlpbfheefldaa.can k X = X := by rw [← h.can, can_can]
theorem Fb.self {k : FloatKind} {b : Nat} (h : b < 2 ^ k.format.width) : Fb k (Go.Proofs.Ythnlpbfheefldaa.can k b) b := ⟨h, rfl⟩
theorem Fb.of_wf {k : FloatKind} {b : Nat} (h : (Lit.float k b).wf = true) : Fb k (Go.Proofs.Ythnlpbfheefldaa.can k b) b := by
  refine ⟨?_, rfl⟩
  cases k
  · show b < 2 ^ 32; simpa [Lit.wf] using h
  · show b < 2 ^ 64; simpa [Lit.wf] using h
theorem can_num {k : FloatKind} {b : Nat} (h : isNan k b = false) : can k b = b := by unfold can; simp [h]
theorem isNan_can (k : FloatKind) (b : Nat) : isNan k (can k b) = isNan k b := by
  unfold can
  by_cases h : isNan k b = true
  · simp [h, isNan_nanOf]
  · simp [h]
theorem Fb.nan {k : FloatKind} {X b : Nat} (h : Fb k X b) : isNan k b = isNan k X := by rw [← h.can, isNan_can]

theorem nan_form {d : Ieee.Datum} (h : d.isNaN = true) : ∃ s t, d = .nan s t := by
  cases d with
  | nan s t => exact ⟨s, t, rfl⟩
  | number s m e => simp [Ieee.Datum.isNaN] at h
  | infinity s => simp [Ieee.Datum.isNaN] at h

theorem rung_lt_sign (f : Ieee.Format) {r : Nat} (h : r ≤ f.infRung) : r < f.signWeight := Nat.lt_of_le_of_lt h f.infRung_lt
theorem word_mod (f : Ieee.Format) (neg : Bool) {r : Nat} (h : r < f.signWeight) : f.word neg r % f.signWeight = r := by
  unfold Ieee.Format.word
  cases neg <;> simp [Nat.mod_eq_of_lt h]
theorem read_word_num (f : Ieee.Format) (neg : Bool) {r : Nat} (h : r ≤ f.infRung) : (f.read (f.word neg r)).isNaN = false := by
  unfold Ieee.Format.read
  simp only [word_mod f neg (rung_lt_sign f h)]
  split
  · rfl
  · split
    · rfl
    · split
      · rfl
      · omega
theorem nearest_num (f : Ieee.Format) (neg : Bool) (m : Nat) (e : Int) : (f.read (f.nearest neg m e)).isNaN = false := by
  unfold Ieee.Format.nearest
  dsimp only
  split
  · exact read_word_num f neg (Nat.zero_le _)
  · exact read_word_num f neg (Nat.min_le_right ..)
theorem write_num (f : Ieee.Format) {d : Ieee.Datum} (h : d.isNaN = false) : (f.read (f.write d)).isNaN = false := by
  cases d with
  | number s m e => exact nearest_num f s m e
  | infinity s => exact read_word_num f s (Nat.le_refl _)
  | nan s t => simp [Ieee.Datum.isNaN] at h

theorem sum_num {a b d : Ieee.Datum} (h : a.sum b = some d) : d.isNaN = false := by
  cases a <;> cases b <;> simp [Ieee.Datum.sum] at h
  case infinity.infinity => obtain ⟨_, rfl⟩ := h; rfl
  all_goals (subst h; rfl)
theorem product_num {a b d : Ieee.Datum} (h : a.product b = some d) : d.isNaN = false := by
  cases a <;> cases b <;> simp [Ieee.Datum.product] at h
  case number.infinity => obtain ⟨_, rfl⟩ := h; rfl
  case infinity.number => obtain ⟨_, rfl⟩ := h; rfl
  all_goals (subst h; rfl)
theorem quotient_num {n : Nat} {a b d : Ieee.Datum} (h : a.quotient n b = some d) : d.isNaN = false := by
  cases a <;> cases b <;> simp only [Ieee.Datum.quotient] at h
  case number.number =>
    split at h
    · split at h
      · cases h
      · cases h; rfl
    · cases h; rfl
  all_goals first | (cases h; done) | (cases h; rfl)
theorem root_num {n : Nat} {a d : Ieee.Datum} (h : a.root n = some d) : d.isNaN = false := by
  cases a <;> simp only [Ieee.Datum.root] at h
  case number =>
    split at h
    · cases h; rfl
    · split at h
      · cases h
      · cases h; rfl
  case infinity =>
    split at h
    · cases h
    · cases h; rfl
  case nan => cases h

theorem map_num (f : Ieee.Format) {o : Option Ieee.Datum} {r : Nat} (ho : ∀ d, o = some d → d.isNaN = false) (h : o.map f.write = some r) : (f.read r).isNaN = false := by
  cases o with
  | none => cases h
  | some d => cases h; exact write_num f (ho d rfl)

theorem floatBits_num {op : BinOp} {k : FloatKind} {x y r : Nat} (h : floatBits op k x y = some r) : isNan k r = false := by
  unfold floatBits at h
  split at h
  · exact map_num _ (fun _ => sum_num) h
  · exact map_num _ (fun _ => sum_num) h
  · exact map_num _ (fun _ => product_num) h
  · exact map_num _ (fun _ => quotient_num) h
  · cases h

theorem floatBits_lt {op : BinOp} {k : FloatKind} {x y r : Nat} (h : floatBits op k x y = some r) : r < 2 ^ k.format.width := by
  unfold floatBits at h
  split at h
  · exact k.format.add_lt h
  · exact k.format.sub_lt h
  · exact k.format.mul_lt h
  · exact k.format.div_lt h
  · cases h

theorem floatBits_nan_left {op : BinOp} {k : FloatKind} {x y : Nat} (h : isNan k x = true) : floatBits op k x y = none := by
  obtain ⟨s, t, e⟩ := nan_form h
  unfold floatBits
  split <;> first | rfl | (simp only [Ieee.Format.add, Ieee.Format.sub, Ieee.Format.mul, Ieee.Format.div, e]; cases k.format.read y <;> rfl)

theorem floatBits_nan_right {op : BinOp} {k : FloatKind} {x y : Nat} (h : isNan k y = true) : floatBits op k x y = none := by
  obtain ⟨s, t, e⟩ := nan_form h
  unfold floatBits
  split <;> first | rfl | (simp only [Ieee.Format.add, Ieee.Format.sub, Ieee.Format.mul, Ieee.Format.div, e]; cases k.format.read x <;> rfl)

theorem floatBits_can (op : BinOp) (k : FloatKind) (x y : Nat) : floatBits op k (can k x) (can k y) = floatBits op k x y := by
  unfold can
  by_cases hx : isNan k x = true
  · rw [if_pos hx, floatBits_nan_left hx, floatBits_nan_left (isNan_nanOf k)]
  · rw [if_neg hx]
    by_cases hy : isNan k y = true
    · rw [if_pos hy, floatBits_nan_right hy, floatBits_nan_right (isNan_nanOf k)]
    · rw [if_neg hy]

/-- An operation of IEEE 754 on canonical bits. -/
def fop (op : BinOp) (k : FloatKind) (X Y : Nat) : Nat := (floatBits op k X Y).getD (nanOf k)

def arith : BinOp → Bool
  | .add | .sub | .mul | .quo => true
  | _ => false

theorem nanBits_cut (k : FloatKind) (x y t : Nat) : isNan k ((Question.nanBits k x y).cut t) = true ∧ (Question.nanBits k x y).cut t < 2 ^ k.format.width := by
  cases k
  · have e1 : FloatKind.f32.format.signWeight = 2147483648 := rfl
    have e2 : FloatKind.f32.format.binade = 8388608 := rfl
    have e3 : FloatKind.f32.format.infRung = 2139095040 := rfl
    have e4 : 2 ^ FloatKind.f32.format.width = 4294967296 := rfl
    have hu : t / 2 % 8388607 < 8388607 := Nat.mod_lt _ (by omega)
    simp only [Question.cut, isNan, Ieee.Format.read, e1, e2, e3, e4]
    have h2 : ((t % 2) * 2 ^ 31 + 0x7f800000 + 1 + (t / 2) % (2 ^ 23 - 1)) % 2147483648 = 2139095041 + t / 2 % 8388607 := by
      have : t % 2 < 2 := Nat.mod_lt _ (by omega)
      omega
    have h3 : (t % 2) * 2 ^ 31 + 0x7f800000 + 1 + (t / 2) % (2 ^ 23 - 1) < 4294967296 := by
      have : t % 2 < 2 := Nat.mod_lt _ (by omega)
      omega
    refine ⟨?_, h3⟩
    rw [h2, if_neg (by omega), if_neg (by omega), if_neg (by omega)]
    rfl
  · have e1 : FloatKind.f64.format.signWeight = 9223372036854775808 := rfl
    have e2 : FloatKind.f64.format.binade = 4503599627370496 := rfl
    have e3 : FloatKind.f64.format.infRung = 9218868437227405312 := rfl
    have e4 : 2 ^ FloatKind.f64.format.width = 18446744073709551616 := rfl
    have hu : t / 2 % 4503599627370495 < 4503599627370495 := Nat.mod_lt _ (by omega)
    simp only [Question.cut, isNan, Ieee.Format.read, e1, e2, e3, e4]
    have h2 : ((t % 2) * 2 ^ 63 + 0x7ff0000000000000 + 1 + (t / 2) % (2 ^ 52 - 1)) % 9223372036854775808 = 9218868437227405313 + t / 2 % 4503599627370495 := by
      have : t % 2 < 2 := Nat.mod_lt _ (by omega)
      omega
    have h3 : (t % 2) * 2 ^ 63 + 0x7ff0000000000000 + 1 + (t / 2) % (2 ^ 52 - 1) < 18446744073709551616 := by
      have : t % 2 < 2 := Nat.mod_lt _ (by omega)
      omega
    refine ⟨?_, h3⟩
    rw [h2, if_neg (by omega), if_neg (by omega), if_neg (by omega)]
    rfl

theorem Fb.fop_some {op : BinOp} {k : FloatKind} {x y r X Y : Nat} (hx : Fb k X x) (hy : Fb k Y y) (h : floatBits op k x y = some r) : Fb k (fop op k X Y) r := by
  refine ⟨floatBits_lt h, ?_⟩
  unfold fop
  rw [← hx.can, ← hy.can, floatBits_can, h]
  exact can_num (floatBits_num h)
theorem Fb.fop_none {op : BinOp} {k : FloatKind} {x y r X Y : Nat} (hx : Fb k X x) (hy : Fb k Y y) (h : floatBits op k x y = none) (hn : isNan k r = true) (hl : r < 2 ^ k.format.width) : Fb k (fop op k X Y) r := by
  refine ⟨hl, ?_⟩
  unfold fop
  rw [← hx.can, ← hy.can, floatBits_can, h]
  unfold Go.Proofs.Ythnlpbfheefldaa.can
  rw [if_pos hn]
  rfl

section
variable {P : Program} (w : World)
theorem run_choose_nan (k : FloatKind) (x y : Nat) : (choose (.nanBits k x y)).run P w = .ok ((Question.nanBits k x y).cut (w.tape w.drawn (.nanBits k x y))) (w.drewN 1) := rfl

theorem run_eqGuard_float (op : BinOp) (t : TypeId) (x y : Operand) (k k' : FloatKind) (a b : Nat) : (eqGuard op t x y (.float k a) (.float k' b)).run P w = .ok () w := by
  cases op <;> rfl

theorem run_fop (op : BinOp) (hop : arith op = true) (t : TypeId) (k : FloatKind) (x y : Nat) : ∃ r n, (binOp op t (.float k x) (.float k y)).run P w = .ok (.float k r) (w.drewN n) ∧ ∀ X Y, Fb k X x → Fb k Y y → Fb k (fop op k X Y) r := by
  cases h : floatBits op k x y with
  | some r => exact ⟨r, 0, run_float_arith w op t k x y r h, fun X Y hx hy => hx.fop_some hy h⟩
  | none =>
    have hc := nanBits_cut k x y (w.tape w.drawn (.nanBits k x y))
    refine ⟨_, 1, ?_, fun X Y hx hy => hx.fop_none hy h hc.1 hc.2⟩
    cases op <;> simp only [arith] at hop <;> first | (cases hop; done) | skip
    all_goals
      simp only [floatBits] at h
      simp [binOp, Op.floatArith, h]
      cases k <;> rfl

/-- The same for every world at once: a rule for a region that draws its order. -/
theorem run_fop_all {P : Program} (op : BinOp) (hop : arith op = true) (t : TypeId) (k : FloatKind) (x y : Nat) : ∃ (q m : World → Nat), (∀ w, (binOp op t (.float k x) (.float k y)).run P w = .ok (.float k (q w)) (w.drewN (m w))) ∧ ∀ w X Y, Fb k X x → Fb k Y y → Fb k (fop op k X Y) (q w) :=
  ⟨fun w => Classical.choose (run_fop (P := P) w op hop t k x y), fun w => Classical.choose (Classical.choose_spec (run_fop (P := P) w op hop t k x y)),
    fun w => (Classical.choose_spec (Classical.choose_spec (run_fop (P := P) w op hop t k x y))).1, fun w => (Classical.choose_spec (Classical.choose_spec (run_fop (P := P) w op hop t k x y))).2⟩

theorem wpList_fop {ops : Array Oper} {rest : List Oper} {o : Oper} {a : Act} {Q : Exit → Act → World → Prop} (hg : o.guard = none) {op : BinOp} {t t' : TypeId} {x y : Operand} (ho : o.op = .binOp op t x y t')
    (hop : arith op = true) {k : FloatKind} {bx bY X Y : Nat} (hx : a.eval x = .float k bx) (hy : a.eval y = .float k bY) (hX : Fb k X bx) (hY : Fb k Y bY)
    (h : ∀ r n, Fb k (fop op k X Y) r → wpList P ops Q rest (a.put o.dst (.float k r)) (w.drewN n)) : wpList P ops Q (o :: rest) a w := by
  obtain ⟨r, n, hr, hf⟩ := run_fop (P := P) w op hop t k bx bY
  refine wpList_plain hg fun K hK => ?_
  unfold Oper.wp
  simp only [execOp, ho, hx, hy, Sem.run_bind, run_eqGuard_float, Result.andThen_ok, hr, Sem.run_pure]
  exact hK _ _ (h r n (hf X Y hX hY))
end

/-- A comparison on canonical bits. -/
def fcmp (c : Ordering → Bool) (k : FloatKind) (X Y : Nat) : Bool := match k.format.order X Y with | some o => c o | none => false
theorem order_nan_left {k : FloatKind} {x y : Nat} (h : isNan k x = true) : k.format.order x y = none := by
  obtain ⟨s, t, e⟩ := nan_form h
  simp only [Ieee.Format.order, e]; cases k.format.read y <;> rfl
theorem order_nan_right {k : FloatKind} {x y : Nat} (h : isNan k y = true) : k.format.order x y = none := by
  obtain ⟨s, t, e⟩ := nan_form h
  simp only [Ieee.Format.order, e]; cases k.format.read x <;> rfl
theorem order_can (k : FloatKind) (x y : Nat) : k.format.order (can k x) (can k y) = k.format.order x y := by
  unfold can
  by_cases hx : isNan k x = true
  · rw [if_pos hx, order_nan_left hx, order_nan_left (isNan_nanOf k)]
  · rw [if_neg hx]
    by_cases hy : isNan k y = true
    · rw [if_pos hy, order_nan_right hy, order_nan_right (isNan_nanOf k)]
    · rw [if_neg hy]
theorem Fb.order {k : FloatKind} {X Y x y : Nat} (hx : Fb k X x) (hy : Fb k Y y) : k.format.order x y = k.format.order X Y := by rw [← hx.can, ← hy.can, order_can]

/-- The six comparisons on canonical bits. -/
def cmpB (c : BinOp) (k : FloatKind) (X Y : Nat) : Bool :=
  match c with
  | .eql => k.format.order X Y == some .eq
  | .neq => k.format.order X Y != some .eq
  | .lss => k.format.order X Y == some .lt
  | .leq => k.format.order X Y == some .lt || k.format.order X Y == some .eq
  | .gtr => k.format.order X Y == some .gt
  | .geq => k.format.order X Y == some .gt || k.format.order X Y == some .eq
  | _ => false
def isCmp : BinOp → Bool
  | .eql | .neq | .lss | .leq | .gtr | .geq => true
  | _ => false

section
variable {P : Program} (w : World)
theorem run_fcmp (c : BinOp) (hc : isCmp c = true) (t : TypeId) (k : FloatKind) (x y X Y : Nat) (hx : Fb k X x) (hy : Fb k Y y) : (binOp c t (.float k x) (.float k y)).run P w = .ok (.bool (cmpB c k X Y)) w := by
  have ho := hx.order hy
  cases c <;> simp only [isCmp] at hc <;> first | (cases hc; done) | skip
  all_goals simp [binOp, Op.floatCmp, cmpB, ho]

theorem wpList_fcmp {ops : Array Oper} {rest : List Oper} {o : Oper} {a : Act} {Q : Exit → Act → World → Prop} (hg : o.guard = none) {c : BinOp} {t t' : TypeId} {x y : Operand} (ho : o.op = .binOp c t x y t')
    (hc : isCmp c = true) {k : FloatKind} {bx bY X Y : Nat} (hx : a.eval x = .float k bx) (hy : a.eval y = .float k bY) (hX : Fb k X bx) (hY : Fb k Y bY)
    (h : wpList P ops Q rest (a.put o.dst (.bool (cmpB c k X Y))) w) : wpList P ops Q (o :: rest) a w := by
  refine wpList_plain hg fun K hK => ?_
  unfold Oper.wp
  simp only [execOp, ho, hx, hy, Sem.run_bind, run_eqGuard_float, Result.andThen_ok, run_fcmp w c hc t k bx bY X Y hX hY, Sem.run_pure]
  exact hK _ _ h
end

/-- From one kind of float to the other, on canonical bits. -/
def fcvt (s k : FloatKind) (X : Nat) : Nat := (floatToFloatBits s X k).getD (nanOf k)
/-- The conversion does not overflow. -/
def fits (s k : FloatKind) (X : Nat) : Prop := isNan s X = false → (floatToFloatBits s X k).isSome = true

theorem nanConv_cut (k : FloatKind) (x t : Nat) : isNan k ((Question.nanConv k x).cut t) = true ∧ (Question.nanConv k x).cut t < 2 ^ k.format.width := by
  have h := nanBits_cut k 0 0 t
  cases k <;> exact h

theorem encode_num (k : FloatKind) {d : Ieee.Datum} (h : d.isNaN = false) : isNan k (k.encode d) = false := write_num _ h

theorem run_fcvt {P : Program} (src dst : TypeId) (s k : FloatKind) (hsk : s ≠ k) (b : Nat) (hs : (P.underlying src).isSome = true) (hd : P.underlying dst = some (.float k)) (w : World) :
    ∃ r n, (convert src dst (.float s b)).run P w = .ok (.float k r) (w.drewN n) ∧ ∀ X, Fb s X b → fits s k X → Fb k (fcvt s k X) r := by
  by_cases hn : isNan s b = true
  · have hc := nanConv_cut k b (w.tape w.drawn (.nanConv k b))
    obtain ⟨u, hs'⟩ := Option.isSome_iff_exists.1 hs
    obtain ⟨sg, t, e⟩ := nan_form hn
    have e' : s.decode b = .nan sg t := e
    refine ⟨(Question.nanConv k b).cut (w.tape w.drawn (.nanConv k b)), 1, ?_, fun X hX _ => ?_⟩
    · cases u <;> simp only [convert, Sem.run_bind, run_underlying hs', run_underlying hd, Result.andThen_ok, Conv.floatToFloat, if_neg hsk, e'] <;> rfl
    · refine ⟨hc.2, ?_⟩
      have hXn : isNan s X = true := by rw [← hX.nan]; exact hn
      obtain ⟨sg', t', e2⟩ := nan_form hXn
      have e2' : s.decode X = .nan sg' t' := e2
      have : fcvt s k X = nanOf k := by unfold fcvt floatToFloatBits; rw [if_neg hsk, e2']; rfl
      rw [this]
      unfold Go.Proofs.Ythnlpbfheefldaa.can
      rw [if_pos hc.1]
  · have hn' : isNan s b = false := by simpa using hn
    cases hb : floatToFloatBits s b k with
    | some r =>
      refine ⟨r, 0, run_convert_float_float w src dst s k b r hs hd hb, fun X hX _ => ?_⟩
      have hXb : X = b := by rw [← hX.can]; exact can_num hn'
      subst hXb
      have hr : isNan k r = false ∧ r < 2 ^ k.format.width := by
        unfold floatToFloatBits at hb
        rw [if_neg hsk] at hb
        split at hb
        · cases hb
        · cases hb; exact ⟨encode_num k rfl, k.format.write_lt _⟩
        · split at hb
          · cases hb
          · cases hb; exact ⟨encode_num k rfl, k.format.write_lt _⟩
      refine ⟨hr.2, ?_⟩
      unfold fcvt
      rw [hb]
      exact can_num hr.1
    | none =>
      obtain ⟨u, hs'⟩ := Option.isSome_iff_exists.1 hs
      unfold floatToFloatBits at hb
      rw [if_neg hsk] at hb
      split at hb
      · rename_i e; unfold isNan at hn'; unfold FloatKind.decode at e; rw [e] at hn'; cases hn'
      · cases hb
      · rename_i sg m ex e
        split at hb
        · rename_i hi
          refine ⟨(Question.floatToFloat b).cut (w.tape w.drawn (.floatToFloat b)), 1, ?_, fun X hX hf => ?_⟩
          · cases u <;> simp only [convert, Sem.run_bind, run_underlying hs', run_underlying hd, Result.andThen_ok, Conv.floatToFloat, if_neg hsk, e, hi, if_true] <;> rfl
          · have hXb : X = b := by rw [← hX.can]; exact can_num hn'
            subst hXb
            have := hf hn'
            unfold floatToFloatBits at this
            rw [if_neg hsk, e] at this
            simp [hi] at this
        · cases hb

theorem wpList_fcvt {P : Program} (w : World) {ops : Array Oper} {rest : List Oper} {o : Oper} {a : Act} {Q : Exit → Act → World → Prop} (hg : o.guard = none) {src dst : TypeId} {x : Operand} (ho : o.op = .convert src dst x)
    {s k : FloatKind} {b X : Nat} (hx : a.eval x = .float s b) (hs : P.underlying src = some (.float s)) (hd : P.underlying dst = some (.float k)) (hsk : s ≠ k) (hX : Fb s X b)
    (h : ∀ r n, (fits s k X → Fb k (fcvt s k X) r) → wpList P ops Q rest (a.put o.dst (.float k r)) (w.drewN n)) : wpList P ops Q (o :: rest) a w := by
  obtain ⟨r, n, hr, hf⟩ := run_fcvt (P := P) src dst s k hsk b (by rw [hs]; rfl) hd w
  refine wpList_plain hg fun K hK => ?_
  unfold Oper.wp
  simp only [execOp, ho, hx, Sem.run_bind, Result.andThen_ok, hr, Sem.run_pure]
  exact hK _ _ (h r n (hf X hX))

theorem cut_zero (neg : Bool) (n : Nat) : Ieee.Toward.even.cut neg n 0 = n := by
  unfold Ieee.Toward.cut
  simp [Nat.mod_one]

/-- A finite float32 is a float64. -/
theorem read32 (X : Nat) {s : Bool} {m : Nat} {e : Int} (h : FloatKind.f32.format.read X = .number s m e) : m < 2 ^ 24 ∧ -149 ≤ e ∧ e ≤ 104 := by
  have e1 : FloatKind.f32.format.signWeight = 2147483648 := rfl
  have e2 : FloatKind.f32.format.binade = 8388608 := rfl
  have e3 : FloatKind.f32.format.infRung = 2139095040 := rfl
  have e4 : FloatKind.f32.format.leastPlace = -149 := rfl
  unfold Ieee.Format.read at h
  simp only [e1, e2, e3, e4] at h
  split at h
  · injection h with _ h2 h3; subst h2; subst h3; omega
  · split at h
    · injection h with _ h2 h3; subst h2; subst h3; omega
    · split at h <;> cases h

theorem nearest_infinity (f : Ieee.Format) (neg : Bool) {r : Nat} (h : r < f.infRung) : (f.read (f.word neg r)).isInfinity = false := by
  unfold Ieee.Format.read
  simp only [word_mod f neg (rung_lt_sign f (Nat.le_of_lt h)), if_pos h]
  split <;> rfl

theorem shl_lt {m : Nat} (hl : m.log2 < 24) : m <<< (52 - m.log2) < 9007199254740992 := by
  rw [Nat.shiftLeft_eq]
  have h3 : m < 2 ^ (m.log2 + 1) := Nat.lt_log2_self
  have h4 : 2 ^ (m.log2 + 1) * 2 ^ (52 - m.log2) = 2 ^ 53 := by
    rw [← Nat.pow_add, show m.log2 + 1 + (52 - m.log2) = 53 from by omega]
  have h5 : m * 2 ^ (52 - m.log2) < 2 ^ (m.log2 + 1) * 2 ^ (52 - m.log2) := Nat.mul_lt_mul_of_pos_right h3 (Nat.two_pow_pos _)
  rw [h4] at h5
  exact h5
theorem rung_bound {a k : Nat} (ha : a ≤ 1149) (hk : k < 9007199254740992) : a * 4503599627370496 + k < 9218868437227405312 := by omega

theorem nearest64 (s : Bool) (m : Nat) (e : Int) (hm : m < 2 ^ 24) (h1 : -149 ≤ e) (h2 : e ≤ 104) : (FloatKind.f64.format.read (FloatKind.f64.format.nearest s m e)).isInfinity = false := by
  have e1 : FloatKind.f64.format.fractionBits = 52 := rfl
  have e2 : FloatKind.f64.format.binade = 4503599627370496 := rfl
  have e3 : FloatKind.f64.format.infRung = 9218868437227405312 := rfl
  have e4 : FloatKind.f64.format.leastPlace = -1074 := rfl
  unfold Ieee.Format.nearest
  by_cases h0 : m = 0
  · rw [if_pos h0]; exact nearest_infinity _ _ (by rw [e3]; exact Nat.lt_of_sub_ne_zero (by simp))
  · rw [if_neg h0]
    have hl : m.log2 < 24 := by rw [Nat.log2_lt h0]; exact hm
    have hlast : max (e + (m.log2 : Int) - (FloatKind.f64.format.fractionBits : Nat)) FloatKind.f64.format.leastPlace = e + (m.log2 : Int) - 52 := by rw [e1, e4]; omega
    have hz : (e + (m.log2 : Int) - 52 - e).toNat = 0 := by omega
    have hs : (e - (e + (m.log2 : Int) - 52)).toNat = 52 - m.log2 := by omega
    have hb : (e + (m.log2 : Int) - 52 - -1074).toNat ≤ 1149 := by omega
    dsimp only
    rw [hlast, hz, cut_zero, hs]
    apply nearest_infinity
    rw [e2, e3, e4]
    exact Nat.lt_of_le_of_lt (Nat.min_le_left ..) (rung_bound hb (shl_lt hl))

theorem fits_widen (X : Nat) : fits .f32 .f64 X := by
  intro hn
  unfold floatToFloatBits
  rw [if_neg (by decide)]
  cases he : FloatKind.f32.decode X with
  | nan s t => unfold isNan at hn; unfold FloatKind.decode at he; rw [he] at hn; cases hn
  | infinity s => rfl
  | number s m e =>
    obtain ⟨hm, h1, h2⟩ := read32 X he
    have : (FloatKind.f64.decode (FloatKind.f64.encode (.number s m e))).isInfinity = false := nearest64 s m e hm h1 h2
    dsimp only
    rw [this]
    rfl

theorem Fb_const {k : FloatKind} {b : Nat} (h : (decide (b < 2 ^ k.format.width) && !isNan k b) = true) : Fb k b b := by
  simp only [Bool.and_eq_true, decide_eq_true_eq, Bool.not_eq_true'] at h
  exact ⟨h.1, can_num h.2⟩
theorem Fb_ofInt (k : FloatKind) (n : Int) : Fb k (floatOfInt k n) (floatOfInt k n) := ⟨k.format.write_lt (.number (n < 0) n.natAbs 0), can_num (encode_num k (d := .number (n < 0) n.natAbs 0) rfl)⟩

/-- The opposite, on canonical bits. -/
def fneg (k : FloatKind) (X : Nat) : Nat := can k (Op.negFloat k X)
theorem xor_top {b n : Nat} (h : b < 2 ^ (n + 1)) : b ^^^ 2 ^ n < 2 ^ (n + 1) ∧ (b ^^^ 2 ^ n) % 2 ^ n = b % 2 ^ n := by
  refine ⟨Nat.xor_lt_two_pow h (Nat.pow_lt_pow_right (by omega) (by omega)), ?_⟩
  apply Nat.eq_of_testBit_eq
  intro i
  rw [Nat.testBit_mod_two_pow, Nat.testBit_mod_two_pow, Nat.testBit_xor, Nat.testBit_two_pow]
  by_cases hi : i < n
  · have : ¬ n = i := by omega
    simp [hi, this]
  · simp [hi]
theorem Fb.neg {k : FloatKind} {X b : Nat} (h : Fb k X b) : Fb k (fneg k X) (Op.negFloat k b) := by
  have hw : k.format.width = k.format.exponentBits + k.format.fractionBits + 1 := by unfold Ieee.Format.width; omega
  have hx := xor_top (n := k.format.exponentBits + k.format.fractionBits) (by rw [← hw]; exact h.lt)
  refine ⟨by rw [hw]; exact hx.1, ?_⟩
  have hnan : ∀ c, c < 2 ^ k.format.width → isNan k (Op.negFloat k c) = isNan k c := by
    intro c hc
    have hx := xor_top (n := k.format.exponentBits + k.format.fractionBits) (by rw [← hw]; exact hc)
    unfold isNan Ieee.Format.read Op.negFloat
    have e : k.format.signWeight = 2 ^ (k.format.exponentBits + k.format.fractionBits) := rfl
    simp only [e, hx.2]
    split
    · rfl
    · split
      · rfl
      · split <;> rfl
  unfold fneg
  by_cases hn : isNan k b = true
  · have hXn : isNan k X = true := by rw [← h.nan]; exact hn
    have hX : X = nanOf k := by rw [← h.can]; unfold Go.Proofs.Ythnlpbfheefldaa.can; rw [if_pos hn]
    have h1 : isNan k (Op.negFloat k b) = true := by rw [hnan b h.lt]; exact hn
    have h2 : isNan k (Op.negFloat k X) = true := by rw [hX]; cases k <;> decide +kernel
    unfold Go.Proofs.Ythnlpbfheefldaa.can
    rw [if_pos h1, if_pos h2]
  · have hXb : X = b := by rw [← h.can]; exact can_num (by simpa using hn)
    rw [hXb]

theorem run_store_float (P : Program) (w : World) (a : Addr) (m : Mode) (k : FloatKind) (b : Nat) : (store a (.float k b) m).run P w = stored P w a (.float k b) m := run_store P w a _ m rfl

end Go.Proofs.Ythnlpbfheefldaa
