/-
  The square root of a float32 by way of float64: it never overflows. Conditions: none.
-/
import Derived.Test.YtejpamlaacffaaaBA
namespace Go.Proofs.Ytejpamlaacffaaa
open Go Go.RowKit

theorem cut_le {neg : Bool} {n drop a : Nat} (h : n < 2 ^ (a + drop)) : Ieee.Toward.even.cut neg n drop ≤ 2 ^ a := by
  unfold Ieee.Toward.cut
  dsimp only
  have hpos : 0 < 2 ^ a := Nat.two_pow_pos a
  have hlow : n / (1 <<< min drop (n.log2 + 2)) + 1 ≤ 2 ^ a := by
    rw [Nat.shiftLeft_eq, Nat.one_mul]
    rcases Nat.le_total drop (n.log2 + 2) with hd | hd
    · rw [Nat.min_eq_left hd]
      have : n / 2 ^ drop < 2 ^ a := by
        rw [Nat.div_lt_iff_lt_mul (Nat.two_pow_pos _), ← Nat.pow_add]
        exact h
      omega
    · rw [Nat.min_eq_right hd]
      have h1 : n < 2 ^ (n.log2 + 1) := Nat.lt_log2_self
      have h2 : 2 ^ (n.log2 + 1) ≤ 2 ^ (n.log2 + 2) := Nat.pow_le_pow_right (by omega) (by omega)
      have : n / 2 ^ (n.log2 + 2) = 0 := Nat.div_eq_of_lt (by omega)
      omega
  have hb : ∀ b : Bool, b.toNat ≤ 1 := fun b => by cases b <;> simp
  exact Nat.le_trans (Nat.add_le_add_left (hb _) _) hlow

theorem nearest_rung (f : Ieee.Format) (neg : Bool) {m : Nat} (e : Int) (h0 : m ≠ 0) :
    ∃ R, f.nearest neg m e = f.word neg (min R f.infRung) ∧ R ≤ (max (e + (m.log2 : Int) - (f.fractionBits : Nat)) f.leastPlace - f.leastPlace).toNat * f.binade + 2 ^ (f.fractionBits + 1) := by
  unfold Ieee.Format.nearest
  rw [if_neg h0]
  dsimp only
  refine ⟨_, rfl, Nat.add_le_add_left ?_ _⟩
  apply cut_le
  rw [Nat.shiftLeft_eq]
  have h3 : m < 2 ^ (m.log2 + 1) := Nat.lt_log2_self
  refine Nat.lt_of_lt_of_le (Nat.mul_lt_mul_of_pos_right h3 (Nat.two_pow_pos _)) ?_
  rw [← Nat.pow_add]
  apply Nat.pow_le_pow_right (by omega)
  omega

theorem read_word (f : Ieee.Format) (neg : Bool) {r Q : Nat} (hr : r < f.infRung) (hq : r < (Q + 1) * f.binade) :
    ∃ s M E, f.read (f.word neg r) = .number s M E ∧ M < 2 * f.binade ∧ f.leastPlace ≤ E ∧ E ≤ f.leastPlace + (Q : Int) := by
  have hpos : 0 < f.binade := Nat.two_pow_pos _
  have hdiv : r / f.binade ≤ Q := by
    have : r / f.binade < Q + 1 := by rw [Nat.div_lt_iff_lt_mul hpos]; exact hq
    omega
  unfold Ieee.Format.read
  simp only [word_mod f neg (rung_lt_sign f (Nat.le_of_lt hr)), if_pos hr]
  split
  · refine ⟨_, _, _, rfl, by omega, by omega, by omega⟩
  · refine ⟨_, _, _, rfl, ?_, by omega, by omega⟩
    have : r % f.binade < f.binade := Nat.mod_lt _ hpos
    omega

theorem rootFrom_lt (n : Nat) : ∀ todo root, Ieee.Datum.rootFrom n todo root < root + 2 ^ todo := by
  intro todo
  induction todo with
  | zero => intro root; simp [Ieee.Datum.rootFrom]
  | succ t ih =>
    intro root
    unfold Ieee.Datum.rootFrom
    dsimp only
    have e : 2 ^ (t + 1) = 2 ^ t + 2 ^ t := by rw [Nat.pow_succ]; omega
    have hp : 0 < 2 ^ t := Nat.two_pow_pos t
    have e2 : root + 1 <<< t = root + 2 ^ t := by rw [Nat.shiftLeft_eq, Nat.one_mul]
    rw [e2]
    split
    · have := ih (root + 2 ^ t); omega
    · have := ih root; omega

/-- The square root on canonical bits. -/
def fsqrt (X : Nat) : Nat := (FloatKind.f64.format.sqrt X).getD (nanOf .f64)
def rootF (X : Nat) : Nat := fcvt .f64 .f32 (fsqrt (fcvt .f32 .f64 X))
def longV (A : V3) : Nat := rootF (innerV A A)

theorem log2_lt {m k : Nat} (h0 : m ≠ 0) (h : m < 2 ^ k) : m.log2 < k := by rw [Nat.log2_lt h0]; exact h

theorem e52 : FloatKind.f64.format.fractionBits = 52 := rfl
theorem eb64 : FloatKind.f64.format.binade = 4503599627370496 := rfl
theorem ei64 : FloatKind.f64.format.infRung = 9218868437227405312 := rfl
theorem el64 : FloatKind.f64.format.leastPlace = -1074 := rfl
theorem e23 : FloatKind.f32.format.fractionBits = 23 := rfl
theorem eb32 : FloatKind.f32.format.binade = 8388608 := rfl
theorem ei32 : FloatKind.f32.format.infRung = 2139095040 := rfl
theorem el32 : FloatKind.f32.format.leastPlace = -149 := rfl

theorem mul_bound64 {a k R : Nat} (h : R ≤ a * 4503599627370496 + 9007199254740992) (ha : a ≤ k) : R < (k + 3) * 4503599627370496 := by
  have : a * 4503599627370496 ≤ k * 4503599627370496 := Nat.mul_le_mul_right _ ha
  omega
theorem mul_inf64 {k R : Nat} (h : R < (k + 3) * 4503599627370496) (hk : k ≤ 2000) : R < 9218868437227405312 := by
  have : (k + 3) * 4503599627370496 ≤ 2003 * 4503599627370496 := Nat.mul_le_mul_right _ (by omega)
  omega

/-- A number of bounded size is written to float64 without overflow, and read back it is bounded, too. -/
theorem near64 (neg : Bool) {m : Nat} {e : Int} {k : Nat} (h0 : m ≠ 0) (hk : k ≤ 2000) (he : e + (m.log2 : Int) + 1022 ≤ k) :
    ∃ s M E, FloatKind.f64.format.read (FloatKind.f64.format.nearest neg m e) = .number s M E ∧ M < 9007199254740992 ∧ -1074 ≤ E ∧ E ≤ (k : Int) - 1072 := by
  obtain ⟨R, hR, hb⟩ := nearest_rung FloatKind.f64.format neg e h0
  rw [e52, eb64, el64] at hb
  have ha : (max (e + (m.log2 : Int) - ((52 : Nat) : Int)) (-1074) - -1074).toNat ≤ k := by omega
  have h1 := mul_bound64 hb ha
  have h2 := mul_inf64 h1 hk
  rw [hR, ei64, Nat.min_eq_left (Nat.le_of_lt h2)]
  obtain ⟨s, M, E, h3, h4, h5, h6⟩ := read_word FloatKind.f64.format neg (r := R) (Q := k + 2) (by rw [ei64]; exact h2) (by rw [eb64]; exact h1)
  rw [eb64] at h4
  rw [el64] at h5 h6
  exact ⟨s, M, E, h3, by omega, h5, by omega⟩

theorem near32 (neg : Bool) {m : Nat} {e : Int} {k : Nat} (h0 : m ≠ 0) (hk : k ≤ 250) (he : e + (m.log2 : Int) + 126 ≤ k) : (FloatKind.f32.format.read (FloatKind.f32.format.nearest neg m e)).isInfinity = false := by
  obtain ⟨R, hR, hb⟩ := nearest_rung FloatKind.f32.format neg e h0
  rw [e23, eb32, el32] at hb
  have ha : (max (e + (m.log2 : Int) - ((23 : Nat) : Int)) (-149) - -149).toNat ≤ k := by omega
  have h1 : R < 2139095040 := by
    have : (max (e + (m.log2 : Int) - ((23 : Nat) : Int)) (-149) - -149).toNat * 8388608 ≤ 250 * 8388608 := Nat.mul_le_mul_right _ (by omega)
    omega
  rw [hR, ei32, Nat.min_eq_left (Nat.le_of_lt h1)]
  exact nearest_infinity _ _ (by rw [ei32]; exact h1)

theorem nearest_zero (f : Ieee.Format) (neg : Bool) (e : Int) : f.nearest neg 0 e = f.word neg 0 := by unfold Ieee.Format.nearest; rw [if_pos rfl]
theorem inf_fits (neg : Bool) : (floatToFloatBits .f64 (FloatKind.f64.format.word neg FloatKind.f64.format.infRung) .f32).isSome = true := by cases neg <;> rfl

theorem f2f_number {X : Nat} {s : Bool} {M : Nat} {E : Int} (h : FloatKind.f64.format.read X = .number s M E) (hi : (FloatKind.f32.format.read (FloatKind.f32.format.nearest s M E)).isInfinity = false) :
    (floatToFloatBits .f64 X .f32).isSome = true := by
  have h' : FloatKind.f64.decode X = .number s M E := h
  have hi' : (FloatKind.f32.decode (FloatKind.f32.encode (.number s M E))).isInfinity = false := hi
  unfold floatToFloatBits
  rw [if_neg (by decide), h']
  dsimp only
  rw [hi']
  rfl

theorem root_number (s : Bool) (m : Nat) (i : Int) {d : Ieee.Datum} (hm : m < 9007199254740992) (hi : i ≤ 100) (h : (Ieee.Datum.number s m i).root 54 = some d) :
    (∃ s' E, d = .number s' 0 E) ∨ ∃ M E, d = .number false M E ∧ M ≠ 0 ∧ E + (M.log2 : Int) ≤ 80 := by
  unfold Ieee.Datum.root at h
  dsimp only at h
  split at h
  · rename_i h0; subst h0; injection h with h; exact .inl ⟨s, i, h.symm⟩
  · rename_i h0
    split at h
    · cases h
    · have hl : m.log2 < 53 := log2_lt h0 hm
      injection h with h
      generalize hmore : 2 * 54 - m.log2 + ((i - ((2 * 54 - m.log2 : Nat) : Int)) % 2).toNat = more at h
      have hmod : ((i - ((2 * 54 - m.log2 : Nat) : Int)) % 2).toNat ≤ 1 := by omega
      have hge : 56 ≤ more := by omega
      have hn0 : m <<< more ≠ 0 := by
        rw [Nat.shiftLeft_eq]
        exact Nat.mul_ne_zero h0 (Nat.pos_iff_ne_zero.1 (Nat.two_pow_pos _))
      have hnl : (m <<< more).log2 < 110 := by
        apply log2_lt hn0
        rw [Nat.shiftLeft_eq]
        have h3 : m < 2 ^ (m.log2 + 1) := Nat.lt_log2_self
        refine Nat.lt_of_lt_of_le (Nat.mul_lt_mul_of_pos_right h3 (Nat.two_pow_pos _)) ?_
        rw [← Nat.pow_add]
        exact Nat.pow_le_pow_right (by omega) (by omega)
      have hw := rootFrom_lt (m <<< more) ((m <<< more).log2 / 2 + 1) 0
      have hw2 : Ieee.Datum.rootFrom (m <<< more) ((m <<< more).log2 / 2 + 1) 0 < 2 ^ 55 := by
        refine Nat.lt_of_lt_of_le hw ?_
        rw [Nat.zero_add]
        exact Nat.pow_le_pow_right (by omega) (by omega)
      generalize Ieee.Datum.rootFrom (m <<< more) ((m <<< more).log2 / 2 + 1) 0 = W at h hw2
      have hb : ∀ b : Bool, b.toNat ≤ 1 := fun b => by cases b <;> simp
      have hb1 := hb (W * W != m <<< more)
      by_cases hz : 2 * W + (W * W != m <<< more).toNat = 0
      · exact .inl ⟨false, _, by rw [← h, hz]⟩
      · refine .inr ⟨_, _, h.symm, hz, ?_⟩
        have : (2 * W + (W * W != m <<< more).toNat).log2 < 56 := by
          apply log2_lt hz
          have : (2 : Nat) ^ 56 = 2 * 2 ^ 55 := by decide
          omega
        omega

theorem fits_sqrt (Y : Nat) (h : ∀ s M E, FloatKind.f64.format.read Y = .number s M E → M < 9007199254740992 ∧ E ≤ 100) : fits .f64 .f32 (fsqrt Y) := by
  intro hn
  unfold fsqrt at hn ⊢
  have e54 : FloatKind.f64.format.fractionBits + 2 = 54 := rfl
  unfold Ieee.Format.sqrt at hn ⊢
  rw [e54] at hn ⊢
  cases hr : FloatKind.f64.format.read Y with
  | nan s t =>
    rw [hr] at hn
    have : isNan .f64 (nanOf .f64) = true := isNan_nanOf _
    simp only [Ieee.Datum.root, Option.map_none, Option.getD_none] at hn
    rw [this] at hn
    cases hn
  | infinity s =>
    rw [hr] at hn
    simp only [Ieee.Datum.root] at hn ⊢
    cases s
    · exact inf_fits false
    · have : isNan .f64 (nanOf .f64) = true := isNan_nanOf _
      simp only [if_true, Option.map_none, Option.getD_none] at hn
      rw [this] at hn
      cases hn
  | number s M E =>
    obtain ⟨hM, hE⟩ := h s M E hr
    rw [hr] at hn
    cases hd : (Ieee.Datum.number s M E).root 54 with
    | none =>
      rw [hd] at hn
      have : isNan .f64 (nanOf .f64) = true := isNan_nanOf _
      simp only [Option.map_none, Option.getD_none] at hn
      rw [this] at hn
      cases hn
    | some d =>
      simp only [Option.map_some, Option.getD_some]
      rcases root_number s M E hM hE hd with ⟨s', E', rfl⟩ | ⟨M', E', rfl, hM0, hE'⟩
      · show (floatToFloatBits .f64 (FloatKind.f64.format.nearest s' 0 E') .f32).isSome = true
        rw [nearest_zero]
        cases s' <;> rfl
      · show (floatToFloatBits .f64 (FloatKind.f64.format.nearest false M' E') .f32).isSome = true
        obtain ⟨s2, M2, E2, h2, h3, h4, h5⟩ := near64 false (m := M') (e := E') (k := 1102) hM0 (by omega) (by omega)
        refine f2f_number h2 ?_
        by_cases hz : M2 = 0
        · subst hz; rw [nearest_zero]; cases s2 <;> rfl
        · have := log2_lt (k := 53) hz (by have : (2 : Nat) ^ 53 = 9007199254740992 := by decide
                                           omega)
          exact near32 s2 (k := 220) hz (by omega) (by omega)

theorem widen_bound (X : Nat) : ∀ s M E, FloatKind.f64.format.read (fcvt .f32 .f64 X) = .number s M E → M < 9007199254740992 ∧ E ≤ 100 := by
  intro s M E h
  unfold fcvt floatToFloatBits at h
  rw [if_neg (by decide)] at h
  cases he : FloatKind.f32.decode X with
  | nan s t =>
    rw [he] at h
    simp only [Option.getD_none] at h
    obtain ⟨s2, t2, e2⟩ := nan_form (isNan_nanOf .f64)
    rw [e2] at h
    cases h
  | infinity s' =>
    rw [he] at h
    simp only [Option.getD_some] at h
    have : FloatKind.f64.format.read (FloatKind.f64.encode (.infinity s')) = .infinity s' := by cases s' <;> rfl
    rw [this] at h
    cases h
  | number s' m e =>
    rw [he] at h
    obtain ⟨hm, h1, h2⟩ := read32 X he
    have hi : (FloatKind.f64.decode (FloatKind.f64.encode (.number s' m e))).isInfinity = false := nearest64 s' m e hm h1 h2
    dsimp only at h
    rw [hi] at h
    simp only [Bool.false_eq_true, if_false, Option.getD_some] at h
    by_cases h0 : m = 0
    · subst h0
      have : FloatKind.f64.encode (.number s' 0 e) = FloatKind.f64.format.word s' 0 := nearest_zero _ _ e
      rw [this] at h
      have hz : FloatKind.f64.format.read (FloatKind.f64.format.word s' 0) = .number s' 0 (-1074) := by cases s' <;> rfl
      rw [hz] at h
      injection h with _ h3 h4
      subst h3; subst h4
      omega
    · have hl := log2_lt h0 hm
      obtain ⟨s2, M2, E2, g1, g2, g3, g4⟩ := near64 s' (k := 1172) (e := e) h0 (by omega) (by omega)
      have h' : FloatKind.f64.format.read (FloatKind.f64.format.nearest s' m e) = .number s M E := h
      rw [g1] at h'
      injection h' with _ h3 h4
      subst h3; subst h4
      omega

theorem fits_root (X : Nat) : fits .f64 .f32 (fsqrt (fcvt .f32 .f64 X)) := fits_sqrt _ (widen_bound X)

theorem sqrt_nan {x : Nat} (h : isNan .f64 x = true) : FloatKind.f64.format.sqrt x = none := by
  obtain ⟨s, t, e⟩ := nan_form h
  unfold Ieee.Format.sqrt
  rw [e]
  rfl
theorem sqrt_can (x : Nat) : FloatKind.f64.format.sqrt (can .f64 x) = FloatKind.f64.format.sqrt x := by
  unfold can
  by_cases hx : isNan .f64 x = true
  · rw [if_pos hx, sqrt_nan hx, sqrt_nan (isNan_nanOf _)]
  · rw [if_neg hx]

theorem sqrt_eq (x : Nat) : Extern.MathSqrt.sqrt #[.float .f64 x] = (match FloatKind.f64.format.sqrt x with | some r => pure (.float .f64 r) | none => do pure (.float .f64 (← choose (.nanBits .f64 x x)))) := rfl
theorem run_sqrt {P : Program} (x : Nat) (w : World) : ∃ r n, (Extern.MathSqrt.sqrt #[.float .f64 x]).run P w = .ok (.float .f64 r) (w.drewN n) ∧ ∀ X, Fb .f64 X x → Fb .f64 (fsqrt X) r := by
  cases h : FloatKind.f64.format.sqrt x with
  | some r =>
    refine ⟨r, 0, by rw [sqrt_eq, h]; rfl, fun X hX => ⟨FloatKind.f64.format.sqrt_lt h, ?_⟩⟩
    unfold fsqrt
    rw [← hX.can, sqrt_can, h]
    exact can_num (map_num _ (fun _ => root_num) h)
  | none =>
    have hc := nanBits_cut .f64 x x (w.tape w.drawn (.nanBits .f64 x x))
    refine ⟨(Question.nanBits .f64 x x).cut (w.tape w.drawn (.nanBits .f64 x x)), 1, by rw [sqrt_eq, h]; rfl, fun X hX => ⟨hc.2, ?_⟩⟩
    unfold fsqrt
    rw [← hX.can, sqrt_can, h]
    unfold Go.Proofs.Ytejpamlaacffaaa.can
    rw [if_pos hc.1]
    rfl

theorem wpList_extern {P : Program} (w : World) {ops : Array Oper} {rest : List Oper} {o : Oper} {a : Act} {Q : Exit → Act → World → Prop} (hg : o.guard = none) {f : FuncId} {args : Array Operand} {ts : Array TypeId}
    (ho : o.op = .call { callee := .value (.func f), args := args, argTypes := ts }) {vs : Array Value} (hv : args.map a.eval = vs) {v : Value} {w' : World} (hrun : (callFunc f vs).run P w = .ok (.value v) w')
    (h : wpList P ops Q rest (a.put o.dst v) w') : wpList P ops Q (o :: rest) a w := by
  refine wpList_plain hg fun K hK => ?_
  unfold Oper.wp
  simp only [execOp, ho, resolve, Sem.run_bind, hv, invoke]
  simp only [Act.eval, Deferred.ofValue, Sem.run_pure, Result.andThen_ok, Array.empty_append, Array.append_empty]
  rw [hrun]
  exact hK _ _ h

end Go.Proofs.Ytejpamlaacffaaa
