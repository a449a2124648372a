/-
  The base texts, joined. Conditions: none.
-/
import Derived.Test.YtejpamlaacffaaaUb
import Derived.Test.YtejpamlaacffaaaQa
import Derived.Test.YtejpamlaacffaaaQc
/-
  Programs over lists of numbers: kept, summed up, looked at. Conditions: none.
-/
namespace Go.Proofs.Ytejpamlaacffaaa
open Go Go.RowKit

/-- Numbers by their places in a list. -/
abbrev L1 : Type := Nat → KK → Bool
def Good (k : FloatKind) (g : Nat → Nat) (L : L1) (j : Nat) : Prop := ∀ K, L j K = true → ∃ s m e, V k (g j) (sgnI s (m * 2 ^ e)) ∧ K s m e = true
def putL (L : L1) (k : Nat) (s : Bool) (m e : Nat) : L1 := fun j K => bc (Nat.beq j k) (K s m e) (L j K)
/-- Works out all and keeps them. -/
def memo (st : L1) (f : Nat) (C : L1 → Bool) : Nat → L1 → Bool := Nat.rec (motive := fun _ => Nat → L1 → Bool) (fun _ L => C L) (fun _ ih k L => st k fun s m e => force (Nat.succ k) fun k' => ih k' (putL L k s m e)) f
theorem memo_succ (st : L1) (f : Nat) (C : L1 → Bool) (k : Nat) (L : L1) : memo st (f + 1) C k L = st k fun s m e => force (Nat.succ k) fun k' => memo st f C k' (putL L k s m e) := rfl
theorem memo_go {fk : FloatKind} {g : Nat → Nat} {st : L1} {n : Nat} (hs : ∀ j, j < n → Good fk g st j) {C : L1 → Bool} : ∀ f k L, k + f = n → (∀ j, j < k → Good fk g L j) → memo st f C k L = true → ∃ L, (∀ j, j < n → Good fk g L j) ∧ C L = true
  | 0, k, L, hk, hL, h => ⟨L, fun j hj => hL j (by omega), h⟩
  | f + 1, k, L, hk, hL, h => by
    rw [memo_succ] at h
    obtain ⟨s, m, e, v, h⟩ := hs k (by omega) _ h
    rw [force_eq] at h
    refine memo_go hs f (k + 1) _ (by omega) (fun j hj K hK => ?_) h
    unfold putL at hK
    cases hb : Nat.beq j k <;> rw [hb] at hK
    · rw [bc_false] at hK
      have : j ≠ k := fun q => by
        subst q
        have := Nat.beq_refl j
        rw [this] at hb
        cases hb
      exact hL j (by omega) K hK
    · rw [bc_true] at hK
      obtain rfl := Nat.eq_of_beq_eq_true hb
      exact ⟨s, m, e, v, hK⟩
theorem memo_spec {fk : FloatKind} {g : Nat → Nat} {st : L1} {n : Nat} {C : L1 → Bool} (hs : ∀ j, j < n → Good fk g st j) (h : memo st n C 0 (fun _ _ => false) = true) : ∃ L, (∀ j, j < n → Good fk g L j) ∧ C L = true :=
  memo_go hs n 0 _ (by omega) (fun j hj => by omega) h
/-- The sum of all. -/
def sumL (L : L1) (f : Nat) (K : KK) : Nat → Bool → Nat → Nat → Bool := Nat.rec (motive := fun _ => Nat → Bool → Nat → Nat → Bool) (fun _ s m e => K s m e) (fun _ ih k s m e => L k fun t l d => add64 s m e t l d fun s m e => force (Nat.succ k) fun k => ih k s m e) f
theorem sumL_succ (L : L1) (f : Nat) (K : KK) (k : Nat) (s : Bool) (m e : Nat) : sumL L (f + 1) K k s m e = L k fun t l d => add64 s m e t l d fun s m e => force (Nat.succ k) fun k => sumL L f K k s m e := rfl
theorem zero64W : V .f64 0 (sgnI false (0 * 2 ^ 0)) := ⟨false, 0, -1074, by decide +kernel, by decide, by rw [Nat.zero_mul, Nat.zero_mul]⟩
theorem sumL_go {g : Nat → Nat} {L : L1} {n : Nat} (hs : ∀ j, j < n → Good .f64 g L j) {K : KK} : ∀ f k s m e, k + f = n → V .f64 (fcA g k) (sgnI s (m * 2 ^ e)) → sumL L f K k s m e = true → ∃ s m e, V .f64 (fcA g n) (sgnI s (m * 2 ^ e)) ∧ K s m e = true
  | 0, k, s, m, e, hk, hv, h => by
    obtain rfl : k = n := by omega
    exact ⟨s, m, e, hv, h⟩
  | f + 1, k, s, m, e, hk, hv, h => by
    rw [sumL_succ] at h
    obtain ⟨t, l, d, v, h⟩ := hs k (by omega) _ h
    obtain ⟨s, m, e, v2, h⟩ := add64_spec hv v h
    rw [force_eq] at h
    exact sumL_go hs f (k + 1) s m e (by omega) v2 h
theorem sumL_spec {g : Nat → Nat} {L : L1} {n : Nat} {K : KK} (hs : ∀ j, j < n → Good .f64 g L j) (h : sumL L n K 0 false 0 0 = true) : ∃ s m e, V .f64 (fcA g n) (sgnI s (m * 2 ^ e)) ∧ K s m e = true :=
  sumL_go hs n 0 false 0 0 (by omega) zero64W h
/-- Digits enough for a quotient. -/
def normK (m x : Nat) (K : Nat → Nat → Bool) : Bool := bc (Nat.beq m 0) (K 0 64) (bc (Nat.ble 1099511627776 m) (K m x) (bc (Nat.ble 40 x) (bc (Nat.ble 134217728 m) (force (Nat.shiftLeft m 13) fun m => force (Nat.sub x 13) fun x => K m x) (bc (Nat.ble 8192 m) (force (Nat.shiftLeft m 27) fun m => force (Nat.sub x 27) fun x => K m x) (force (Nat.shiftLeft m 40) fun m => force (Nat.sub x 40) fun x => K m x))) false))
theorem shl_sub {m x k : Nat} (h : k ≤ x) : m * 2 ^ x = Nat.shiftLeft m k * 2 ^ Nat.sub x k := by
  show _ = m <<< k * 2 ^ (x - k)
  rw [Nat.shiftLeft_eq, Nat.mul_assoc, ← Nat.pow_add, Nat.add_sub_cancel' h]
theorem normK_spec {m x : Nat} {K : Nat → Nat → Bool} (h : normK m x K = true) : ∃ n y, m * 2 ^ x = n * 2 ^ y ∧ K n y = true := by
  unfold normK at h
  cases h0 : Nat.beq m 0 <;> rw [h0] at h
  case true =>
    obtain rfl : m = 0 := Nat.eq_of_beq_eq_true h0
    rw [bc_true] at h
    exact ⟨0, 64, by rw [Nat.zero_mul, Nat.zero_mul], h⟩
  rw [bc_false] at h
  cases h1 : Nat.ble 1099511627776 m <;> rw [h1] at h
  · rw [bc_false] at h
    obtain ⟨h2, h⟩ := ble_or h
    cases h3 : Nat.ble 134217728 m <;> rw [h3] at h
    · rw [bc_false] at h
      cases h4 : Nat.ble 8192 m <;> rw [h4] at h
      · rw [bc_false, force_eq, force_eq] at h
        exact ⟨_, _, shl_sub h2, h⟩
      · rw [bc_true, force_eq, force_eq] at h
        exact ⟨_, _, shl_sub (Nat.le_trans (by omega) h2), h⟩
    · rw [bc_true, force_eq, force_eq] at h
      exact ⟨_, _, shl_sub (Nat.le_trans (by omega) h2), h⟩
  · rw [bc_true] at h
    exact ⟨_, _, rfl, h⟩
def quoN (s1 : Bool) (m1 x1 : Nat) (s2 : Bool) (m2 x2 : Nat) (K : KK) : Bool := normK m1 x1 fun m1 x1 => normK m2 x2 fun m2 x2 => bc (Nat.ble 13 x1) (force (Nat.shiftLeft m1 13) fun m1 => force (Nat.sub x1 13) fun x1 => quo64 s1 m1 x1 s2 m2 x2 K) false
theorem quoN_spec {X Y : Nat} {s1 s2 : Bool} {m1 m2 x1 x2 : Nat} {K : KK} (hx : V .f64 X (sgnI s1 (m1 * 2 ^ x1))) (hy : V .f64 Y (sgnI s2 (m2 * 2 ^ x2))) (h : quoN s1 m1 x1 s2 m2 x2 K = true) : ∃ s m x, V .f64 (fop .quo .f64 X Y) (sgnI s (m * 2 ^ x)) ∧ K s m x = true := by
  unfold quoN at h
  obtain ⟨a, b, e1, h⟩ := normK_spec h
  obtain ⟨c, d, e2, h⟩ := normK_spec h
  obtain ⟨h1, h⟩ := ble_or h
  rw [force_eq, force_eq] at h
  rw [e1, shl_sub h1] at hx
  rw [e2] at hy
  exact quo64_spec hx hy h
/-- Narrower, of tiny numbers too. -/
def downN (s : Bool) (m x : Nat) (K : KK) : Bool := bc (Nat.ble 925 x) (downK 250 s m x K) (force (Nat.sub 925 x) fun d => force (Nat.shiftRight m d) fun q => bc (Nat.beq (Nat.shiftLeft q d) m) (downK 250 s q 925 K) false)
theorem downN_spec {X m x : Nat} {s : Bool} {K : KK} (hx : V .f64 X (sgnI s (m * 2 ^ x))) (h : downN s m x K = true) : ∃ s m y, (V .f32 (fcvt .f64 .f32 X) (sgnI s (m * 2 ^ y)) ∧ fits .f64 .f32 X) ∧ K s m y = true := by
  unfold downN at h
  cases h1 : Nat.ble 925 x <;> rw [h1] at h
  · rw [bc_false, force_eq, force_eq] at h
    cases h2 : Nat.beq (Nat.shiftLeft (Nat.shiftRight m (Nat.sub 925 x)) (Nat.sub 925 x)) m <;> rw [h2] at h
    · cases h
    · rw [bc_true] at h
      have h3 := Nat.eq_of_beq_eq_true h2
      have h4 : x ≤ 925 := by
        rcases Nat.lt_or_ge x 925 with q | q
        · omega
        · rw [Nat.ble_eq_true_of_le q] at h1
          cases h1
      obtain ⟨Q, hQ⟩ : ∃ Q : Nat, 925 = Q := ⟨_, rfl⟩
      rw [hQ] at h h3 h4
      generalize Nat.shiftRight m (Nat.sub Q x) = q at *
      have e : m * 2 ^ x = q * 2 ^ Q := by
        rw [← h3]
        show q <<< (Q - x) * 2 ^ x = _
        rw [Nat.shiftLeft_eq, Nat.mul_assoc, ← Nat.pow_add, Nat.sub_add_cancel h4]
      rw [e] at hx
      exact downK_spec fit32.c hx h
  · rw [bc_true] at h
    exact downK_spec fit32.c hx h
/-- Wider, with the same digits. -/
theorem up_V {X m e : Nat} {s : Bool} (h : V .f32 X (sgnI s (m * 2 ^ e))) : V .f64 (fcvt .f32 .f64 X) (sgnI s (m * 2 ^ Nat.add e 925)) := by
  have hu := h.cvt_up
  obtain ⟨Q, hQ⟩ : ∃ Q : Nat, Q = 925 := ⟨_, rfl⟩
  rw [← hQ] at hu ⊢
  show V _ _ (sgnI s (m * 2 ^ (e + Q)))
  rw [Nat.pow_add, ← Nat.mul_assoc]
  have : sgnI s (m * 2 ^ e) * ((2 ^ Q : Nat) : Int) = sgnI s (m * 2 ^ e * 2 ^ Q) := by
    generalize (2 : Nat) ^ Q = T
    unfold sgnI
    cases s <;> simp [Int.neg_mul]
  rw [← this]
  exact hu
/-- Not more than 2 ^ (t + 53). -/
def capK (t m x : Nat) : Bool := bc (Nat.ble x t) (Nat.ble m 9007199254740992) (force (Nat.shiftLeft m (Nat.sub x t)) fun m => Nat.ble m 9007199254740992)
theorem capK_spec {t m x : Nat} (h : capK t m x = true) : m * 2 ^ x ≤ 9007199254740992 * 2 ^ t := by
  unfold capK at h
  cases h1 : Nat.ble x t <;> rw [h1] at h
  · rw [bc_false, force_eq] at h
    have h2 : t ≤ x := by
      rcases Nat.lt_or_ge x t with q | q
      · rw [Nat.ble_eq_true_of_le (Nat.le_of_lt q)] at h1
        cases h1
      · exact q
    rw [shl_sub (k := x - t) (by omega)]
    have h3 := Nat.le_of_ble_eq_true h
    have e : Nat.sub x (x - t) = t := by
      show x - (x - t) = t
      omega
    rw [e]
    exact Nat.mul_le_mul_right _ h3
  · rw [bc_true] at h
    exact Nat.mul_le_mul (Nat.le_of_ble_eq_true h) (Nat.pow_le_pow_right (by omega) (Nat.le_of_ble_eq_true h1))
end Go.Proofs.Ytejpamlaacffaaa

/-
  The sines that the compass needs: a table. Conditions: none.
-/
namespace Go.Proofs.Ytejpamlaacffaaa
open Go Go.RowKit

abbrev K6 : Type := Bool → Nat → Nat → Bool → Nat → Nat → Bool
def tab3 (k : Nat) (K : K6) : Bool := bc (Nat.beq k 0) (K false 8388608 126 false 0 0) (bc (Nat.beq k 1) (K true 8388612 125 false 14529495 125) (bc (Nat.beq k 2) (K true 16777212 124 true 14529496 125) (false)))
def tab4 (k : Nat) (K : K6) : Bool := bc (Nat.beq k 0) (K false 8388608 126 false 0 0) (bc (Nat.beq k 1) (K true 0 0 false 8388608 126) (bc (Nat.beq k 2) (K true 8388608 126 true 0 0) (bc (Nat.beq k 3) (K false 0 0 true 8388608 126) (false))))
def tab5 (k : Nat) (K : K6) : Bool := bc (Nat.beq k 0) (K false 8388608 126 false 0 0) (bc (Nat.beq k 1) (K false 10368892 124 false 15956081 125) (bc (Nat.beq k 2) (K true 13573051 125 false 9861400 125) (bc (Nat.beq k 3) (K true 13573051 125 true 9861402 125) (bc (Nat.beq k 4) (K false 10368880 124 true 15956080 125) (false)))))
def tab6 (k : Nat) (K : K6) : Bool := bc (Nat.beq k 0) (K false 8388608 126 false 0 0) (bc (Nat.beq k 1) (K false 16777212 124 false 14529496 125) (bc (Nat.beq k 2) (K true 8388612 125 false 14529495 125) (bc (Nat.beq k 3) (K true 8388608 126 true 0 0) (bc (Nat.beq k 4) (K true 16777212 124 true 14529496 125) (bc (Nat.beq k 5) (K false 16777201 124 true 14529496 125) (false))))))
def tab7 (k : Nat) (K : K6) : Bool := bc (Nat.beq k 0) (K false 8388608 126 false 0 0) (bc (Nat.beq k 1) (K false 10460424 125 false 13116956 125) (bc (Nat.beq k 2) (K true 14933120 123 false 16356576 125) (bc (Nat.beq k 3) (K true 15115751 125 false 14558722 124) (bc (Nat.beq k 4) (K true 15115748 125 true 14558727 124) (bc (Nat.beq k 5) (K true 14933120 123 true 16356577 125) (bc (Nat.beq k 6) (K false 10460429 125 true 13116955 125) (false)))))))
def tab8 (k : Nat) (K : K6) : Bool := bc (Nat.beq k 0) (K false 8388608 126 false 0 0) (bc (Nat.beq k 1) (K false 11863283 125 false 11863283 125) (bc (Nat.beq k 2) (K true 0 0 false 8388608 126) (bc (Nat.beq k 3) (K true 11863283 125 false 11863283 125) (bc (Nat.beq k 4) (K true 8388608 126 true 0 0) (bc (Nat.beq k 5) (K true 11863283 125 true 11863283 125) (bc (Nat.beq k 6) (K false 0 0 true 8388608 126) (bc (Nat.beq k 7) (K false 11863283 125 true 11863283 125) (false))))))))
def tab9 (k : Nat) (K : K6) : Bool := bc (Nat.beq k 0) (K false 8388608 126 false 0 0) (bc (Nat.beq k 1) (K false 12852094 125 false 10784187 125) (bc (Nat.beq k 2) (K false 11653337 123 false 16522332 125) (bc (Nat.beq k 3) (K true 8388612 125 false 14529495 125) (bc (Nat.beq k 4) (K true 15765425 125 false 11476291 124) (bc (Nat.beq k 5) (K true 15765425 125 true 11476297 124) (bc (Nat.beq k 6) (K true 16777212 124 true 14529496 125) (bc (Nat.beq k 7) (K false 11653337 123 true 16522332 125) (bc (Nat.beq k 8) (K false 12852089 125 true 10784186 125) (false)))))))))
def tab10 (k : Nat) (K : K6) : Bool := bc (Nat.beq k 0) (K false 8388608 126 false 0 0) (bc (Nat.beq k 1) (K false 13573053 125 false 9861400 125) (bc (Nat.beq k 2) (K false 10368892 124 false 15956081 125) (bc (Nat.beq k 3) (K true 10368892 124 false 15956080 125) (bc (Nat.beq k 4) (K true 13573051 125 false 9861400 125) (bc (Nat.beq k 5) (K true 8388608 126 true 0 0) (bc (Nat.beq k 6) (K true 13573051 125 true 9861402 125) (bc (Nat.beq k 7) (K true 10368892 124 true 15956080 125) (bc (Nat.beq k 8) (K false 10368880 124 true 15956080 125) (bc (Nat.beq k 9) (K false 13573051 125 true 9861402 125) (false))))))))))
def tabN (n k : Nat) (K : K6) : Bool := bc (Nat.beq n 3) (tab3 k K) (bc (Nat.beq n 4) (tab4 k K) (bc (Nat.beq n 5) (tab5 k K) (bc (Nat.beq n 6) (tab6 k K) (bc (Nat.beq n 7) (tab7 k K) (bc (Nat.beq n 8) (tab8 k K) (bc (Nat.beq n 9) (tab9 k K) (bc (Nat.beq n 10) (tab10 k K) (false))))))))
theorem tab_app {n k : Nat} (h3 : 3 ≤ n) (hn : n ≤ 10) (hk : k < n) : ∃ s m e t l d, ∀ K : K6, tabN n k K = K s m e t l d := by
  match n, h3, hn with
  | 3, _, _ =>
    match k, hk with
    | 0, _ => exact ⟨_, _, _, _, _, _, fun K => rfl⟩
    | 1, _ => exact ⟨_, _, _, _, _, _, fun K => rfl⟩
    | 2, _ => exact ⟨_, _, _, _, _, _, fun K => rfl⟩
  | 4, _, _ =>
    match k, hk with
    | 0, _ => exact ⟨_, _, _, _, _, _, fun K => rfl⟩
    | 1, _ => exact ⟨_, _, _, _, _, _, fun K => rfl⟩
    | 2, _ => exact ⟨_, _, _, _, _, _, fun K => rfl⟩
    | 3, _ => exact ⟨_, _, _, _, _, _, fun K => rfl⟩
  | 5, _, _ =>
    match k, hk with
    | 0, _ => exact ⟨_, _, _, _, _, _, fun K => rfl⟩
    | 1, _ => exact ⟨_, _, _, _, _, _, fun K => rfl⟩
    | 2, _ => exact ⟨_, _, _, _, _, _, fun K => rfl⟩
    | 3, _ => exact ⟨_, _, _, _, _, _, fun K => rfl⟩
    | 4, _ => exact ⟨_, _, _, _, _, _, fun K => rfl⟩
  | 6, _, _ =>
    match k, hk with
    | 0, _ => exact ⟨_, _, _, _, _, _, fun K => rfl⟩
    | 1, _ => exact ⟨_, _, _, _, _, _, fun K => rfl⟩
    | 2, _ => exact ⟨_, _, _, _, _, _, fun K => rfl⟩
    | 3, _ => exact ⟨_, _, _, _, _, _, fun K => rfl⟩
    | 4, _ => exact ⟨_, _, _, _, _, _, fun K => rfl⟩
    | 5, _ => exact ⟨_, _, _, _, _, _, fun K => rfl⟩
  | 7, _, _ =>
    match k, hk with
    | 0, _ => exact ⟨_, _, _, _, _, _, fun K => rfl⟩
    | 1, _ => exact ⟨_, _, _, _, _, _, fun K => rfl⟩
    | 2, _ => exact ⟨_, _, _, _, _, _, fun K => rfl⟩
    | 3, _ => exact ⟨_, _, _, _, _, _, fun K => rfl⟩
    | 4, _ => exact ⟨_, _, _, _, _, _, fun K => rfl⟩
    | 5, _ => exact ⟨_, _, _, _, _, _, fun K => rfl⟩
    | 6, _ => exact ⟨_, _, _, _, _, _, fun K => rfl⟩
  | 8, _, _ =>
    match k, hk with
    | 0, _ => exact ⟨_, _, _, _, _, _, fun K => rfl⟩
    | 1, _ => exact ⟨_, _, _, _, _, _, fun K => rfl⟩
    | 2, _ => exact ⟨_, _, _, _, _, _, fun K => rfl⟩
    | 3, _ => exact ⟨_, _, _, _, _, _, fun K => rfl⟩
    | 4, _ => exact ⟨_, _, _, _, _, _, fun K => rfl⟩
    | 5, _ => exact ⟨_, _, _, _, _, _, fun K => rfl⟩
    | 6, _ => exact ⟨_, _, _, _, _, _, fun K => rfl⟩
    | 7, _ => exact ⟨_, _, _, _, _, _, fun K => rfl⟩
  | 9, _, _ =>
    match k, hk with
    | 0, _ => exact ⟨_, _, _, _, _, _, fun K => rfl⟩
    | 1, _ => exact ⟨_, _, _, _, _, _, fun K => rfl⟩
    | 2, _ => exact ⟨_, _, _, _, _, _, fun K => rfl⟩
    | 3, _ => exact ⟨_, _, _, _, _, _, fun K => rfl⟩
    | 4, _ => exact ⟨_, _, _, _, _, _, fun K => rfl⟩
    | 5, _ => exact ⟨_, _, _, _, _, _, fun K => rfl⟩
    | 6, _ => exact ⟨_, _, _, _, _, _, fun K => rfl⟩
    | 7, _ => exact ⟨_, _, _, _, _, _, fun K => rfl⟩
    | 8, _ => exact ⟨_, _, _, _, _, _, fun K => rfl⟩
  | 10, _, _ =>
    match k, hk with
    | 0, _ => exact ⟨_, _, _, _, _, _, fun K => rfl⟩
    | 1, _ => exact ⟨_, _, _, _, _, _, fun K => rfl⟩
    | 2, _ => exact ⟨_, _, _, _, _, _, fun K => rfl⟩
    | 3, _ => exact ⟨_, _, _, _, _, _, fun K => rfl⟩
    | 4, _ => exact ⟨_, _, _, _, _, _, fun K => rfl⟩
    | 5, _ => exact ⟨_, _, _, _, _, _, fun K => rfl⟩
    | 6, _ => exact ⟨_, _, _, _, _, _, fun K => rfl⟩
    | 7, _ => exact ⟨_, _, _, _, _, _, fun K => rfl⟩
    | 8, _ => exact ⟨_, _, _, _, _, _, fun K => rfl⟩
    | 9, _ => exact ⟨_, _, _, _, _, _, fun K => rfl⟩
/-- X is worth this. -/
def isV (X : Nat) (s : Bool) (m e : Nat) : Bool := match FloatKind.f32.format.read X with
  | .number t n i => decide (FloatKind.f32.format.leastPlace ≤ i) && (decide (s = t) && (Nat.beq m n && Nat.beq e (i - FloatKind.f32.format.leastPlace).toNat))
  | _ => false
theorem isV_spec {X m e : Nat} {s : Bool} (h : isV X s m e = true) : V .f32 X (sgnI s (m * 2 ^ e)) := by
  unfold isV at h
  refine ⟨?_⟩
  split at h
  · rename_i t n i hr
    simp only [Bool.and_eq_true, decide_eq_true_eq] at h
    obtain ⟨h1, rfl, h3, h4⟩ := h
    obtain rfl := Nat.eq_of_beq_eq_true h3
    obtain rfl := Nat.eq_of_beq_eq_true h4
    exact ⟨_, _, _, hr, h1, rfl⟩
  · cases h
def tabC (n k : Nat) : Bool := tabN n k fun s m e t l d => isV (sinV (fop .add .f32 (cqF n k) 1048576000)) s m e && (isV (sinV (cqF n k)) t l d && (sinI (cqF n k) && sinI (fop .add .f32 (cqF n k) 1048576000)))
set_option maxRecDepth 100000 in
set_option maxHeartbeats 40000000 in
theorem tabC_3 : (alln 3 fun k => tabC 3 k) = true := by decide +kernel
set_option maxRecDepth 100000 in
set_option maxHeartbeats 40000000 in
theorem tabC_4 : (alln 4 fun k => tabC 4 k) = true := by decide +kernel
set_option maxRecDepth 100000 in
set_option maxHeartbeats 40000000 in
theorem tabC_5 : (alln 5 fun k => tabC 5 k) = true := by decide +kernel
set_option maxRecDepth 100000 in
set_option maxHeartbeats 40000000 in
theorem tabC_6 : (alln 6 fun k => tabC 6 k) = true := by decide +kernel
set_option maxRecDepth 100000 in
set_option maxHeartbeats 40000000 in
theorem tabC_7 : (alln 7 fun k => tabC 7 k) = true := by decide +kernel
set_option maxRecDepth 100000 in
set_option maxHeartbeats 40000000 in
theorem tabC_8 : (alln 8 fun k => tabC 8 k) = true := by decide +kernel
set_option maxRecDepth 100000 in
set_option maxHeartbeats 40000000 in
theorem tabC_9 : (alln 9 fun k => tabC 9 k) = true := by decide +kernel
set_option maxRecDepth 100000 in
set_option maxHeartbeats 40000000 in
theorem tabC_10 : (alln 10 fun k => tabC 10 k) = true := by decide +kernel
theorem tabC_all {n k : Nat} (h3 : 3 ≤ n) (hn : n ≤ 10) (hk : k < n) : tabC n k = true := by
  match n, h3, hn with
  | 3, _, _ => exact alln_spec _ tabC_3 k hk
  | 4, _, _ => exact alln_spec _ tabC_4 k hk
  | 5, _, _ => exact alln_spec _ tabC_5 k hk
  | 6, _, _ => exact alln_spec _ tabC_6 k hk
  | 7, _, _ => exact alln_spec _ tabC_7 k hk
  | 8, _, _ => exact alln_spec _ tabC_8 k hk
  | 9, _, _ => exact alln_spec _ tabC_9 k hk
  | 10, _, _ => exact alln_spec _ tabC_10 k hk
/-- Cosine and sine of a reading. -/
theorem tab_spec {n k : Nat} (h3 : 3 ≤ n) (hn : n ≤ 10) (hk : k < n) {K : K6} (h : tabN n k K = true) : ∃ s m e t l d, V .f32 (sinV (fop .add .f32 (cqF n k) 1048576000)) (sgnI s (m * 2 ^ e)) ∧ V .f32 (sinV (cqF n k)) (sgnI t (l * 2 ^ d)) ∧ K s m e t l d = true := by
  obtain ⟨s, m, e, t, l, d, hK⟩ := tab_app h3 hn hk
  have hc := tabC_all h3 hn hk
  unfold tabC at hc
  rw [hK] at hc
  rw [hK] at h
  simp only [Bool.and_eq_true] at hc
  exact ⟨s, m, e, t, l, d, isV_spec hc.1, isV_spec hc.2.1, h⟩
theorem sin_all {n k : Nat} (h3 : 3 ≤ n) (hn : n ≤ 10) (hk : k < n) : sinI (cqF n k) = true ∧ sinI (fop .add .f32 (cqF n k) 1048576000) = true := by
  obtain ⟨s, m, e, t, l, d, hK⟩ := tab_app h3 hn hk
  have hc := tabC_all h3 hn hk
  unfold tabC at hc
  rw [hK] at hc
  simp only [Bool.and_eq_true] at hc
  exact hc.2.2
end Go.Proofs.Ytejpamlaacffaaa

/-
  One axis of the compass: points, mean, distances from the mean. Conditions: none.
-/
namespace Go.Proofs.Ytejpamlaacffaaa
open Go Go.RowKit

theorem V.fin {X : Nat} {a : Int} (h : V .f32 X a) : finB X = true := by
  have h2 := h.sub h (by rw [Int.sub_self, Int.natAbs_zero, rndQ_zero]; exact cap_pos _)
  rw [Int.sub_self] at h2
  unfold rndZ at h2
  rw [Int.natAbs_zero, rndQ_zero, sgnI_zero] at h2
  unfold finB
  rw [eql_rk h2.num zero_V.num, h2.rk, zero_V.rk]
  rfl
theorem capM64 {E : Nat} (h : E ≤ 2090) {R : Nat} (hR : R ≤ 2 ^ E) : R < capF FloatKind.f64.format := by
  obtain ⟨T, hT⟩ : ∃ T : Nat, T = 2090 := ⟨_, rfl⟩
  have h5 : 2 ^ E ≤ 2 ^ T := Nat.pow_le_pow_right (by omega) (by omega)
  refine Nat.lt_of_le_of_lt (Nat.le_trans hR h5) ?_
  unfold capF
  exact Nat.pow_lt_pow_right (by omega) (by rw [hT]; decide)
theorem V_int64 (n : Nat) (hn : n ≤ 10) : V .f64 (floatOfInt .f64 n) (sgnI false (n * 2 ^ 1074)) := by
  obtain ⟨Q, hQ⟩ : ∃ Q : Nat, Q = 1074 := ⟨_, rfl⟩
  have hP : pF .f64 = Q := by rw [hQ]; decide
  have hr : rndQ 52 (n * 2 ^ Q) 1 = n * 2 ^ Q := rndQ_exact (by omega)
  have hlt : n * 2 ^ Q < capF FloatKind.f64.format := by
    refine capM64 (E := 4 + Q) (by omega) ?_
    rw [Nat.pow_add 2 4]
    exact Nat.mul_le_mul_right _ (by omega)
  have h := V.ofInt (k := .f64) (n := (n : Int)) (by
    rw [Int.natAbs_natCast, hP]
    show rndQ 52 _ _ < _
    rw [hr]
    exact hlt)
  rw [Int.natAbs_natCast, hP, decide_eq_false (Int.not_lt.2 (Int.natCast_nonneg n))] at h
  have e : rndQ FloatKind.f64.format.fractionBits (n * 2 ^ Q) 1 = n * 2 ^ Q := hr
  rw [e] at h
  rw [← hQ]
  exact h
abbrev KA : Type := L1 → Bool → Nat → Nat → L1 → Bool → Nat → Nat → Bool
/-- One axis. -/
def axP (n : Nat) (L : L1) (c : Int) (C : KA) : Bool :=
  intK c fun s m e => memo (fun j K => L j fun t l d => add32 s m e t l d K) n (fun P =>
  sumL (fun j K => P j fun s m e => force (Nat.add e 925) fun e => K s m e) n (fun s m e => quoN s m e false n 1074 fun xs xm xe =>
  memo (fun j K => P j fun s m e => force (Nat.add e 925) fun e => add64 s m e (!xs) xm xe K) n (fun U =>
  sumL (fun j K => U j fun s m e => mul64 s m e s m e K) n (fun sa am ae => C P xs xm xe U sa am ae) 0 false 0 0) 0 (fun _ _ => false)) 0 false 0 0) 0 (fun _ _ => false)
/-- The mean, the distance, the sum of squares. -/
def axM (H : Nat → Nat) (n : Nat) : Nat := fop .quo .f64 (fcA (fun k => fcvt .f32 .f64 (H k)) n) (floatOfInt .f64 n)
def axU (H : Nat → Nat) (x k : Nat) : Nat := fop .sub .f64 (fcvt .f32 .f64 (H k)) x
structure AxIs (n : Nat) (H : Nat → Nat) (P : L1) (xs : Bool) (xm xe : Nat) (U : L1) (sa : Bool) (am ae : Nat) : Prop where
  p : ∀ j, j < n → Good .f32 H P j
  x : V .f64 (axM H n) (sgnI xs (xm * 2 ^ xe))
  u : ∀ j, j < n → Good .f64 (axU H (axM H n)) U j
  a : V .f64 (fcA (fun k => fop .mul .f64 (axU H (axM H n) k) (axU H (axM H n) k)) n) (sgnI sa (am * 2 ^ ae))
theorem axP_spec {n : Nat} {G : Nat → Nat} {L : L1} {c : Int} {X : Nat} {C : KA} (hn : n ≤ 10) (hL : ∀ j, j < n → Good .f32 G L j) (hX : VU X c) (h : axP n L c C = true) : ∃ P xs xm xe U sa am ae, AxIs n (fun k => fop .add .f32 X (G k)) P xs xm xe U sa am ae ∧ C P xs xm xe U sa am ae = true := by
  unfold axP at h
  obtain ⟨s, m, e, v1, h⟩ := intK_spec hX h
  obtain ⟨P, hP, h⟩ := memo_spec (fk := .f32) (g := fun k => fop .add .f32 X (G k)) (fun j hj K hK => by
    obtain ⟨t, l, d, v2, hK⟩ := hL j hj _ hK
    exact add32_spec v1 v2 hK) h
  obtain ⟨s, m, e, v3, h⟩ := sumL_spec (g := fun k => fcvt .f32 .f64 (fop .add .f32 X (G k))) (fun j hj K hK => by
    obtain ⟨t, l, d, v2, hK⟩ := hP j hj _ hK
    rw [force_eq] at hK
    exact ⟨_, _, _, up_V v2, hK⟩) h
  obtain ⟨xs, xm, xe, v4, h⟩ := quoN_spec v3 (V_int64 n hn) h
  obtain ⟨U, hU, h⟩ := memo_spec (fk := .f64) (g := axU (fun k => fop .add .f32 X (G k)) (axM (fun k => fop .add .f32 X (G k)) n)) (fun j hj K hK => by
    obtain ⟨t, l, d, v2, hK⟩ := hP j hj _ hK
    rw [force_eq] at hK
    exact sub64_spec (up_V v2) v4 hK) h
  obtain ⟨sa, am, ae, v5, h⟩ := sumL_spec (g := fun k => fop .mul .f64 (axU (fun k => fop .add .f32 X (G k)) (axM (fun k => fop .add .f32 X (G k)) n) k) (axU (fun k => fop .add .f32 X (G k)) (axM (fun k => fop .add .f32 X (G k)) n) k)) (fun j hj K hK => by
    obtain ⟨t, l, d, v2, hK⟩ := hU j hj _ hK
    exact mul64_spec v2 v2 hK) h
  exact ⟨P, xs, xm, xe, U, sa, am, ae, ⟨hP, v4, hU, v5⟩, h⟩
end Go.Proofs.Ytejpamlaacffaaa

/-
  Torques and energies of dipoles: what they are worth. Conditions: none.
-/
namespace Go.Proofs.Ytejpamlaacffaaa
open Go Go.RowKit

theorem sgnI_pos {A : Nat} (h : 0 < A) : (0 : Int) < sgnI false A := by
  unfold sgnI
  simp only [Bool.false_eq_true, if_false]
  omega
def eC : Nat := 1015
theorem V_c2 : V .f64 4576918229304087675 (sgnI false (5764607523034235 * 2 ^ eC)) := by
  refine ⟨false, 5764607523034235, -59, by decide +kernel, by decide, ?_⟩
  have : (-59 - FloatKind.f64.format.leastPlace).toNat = eC := by decide
  rw [this]
theorem zero64V : V .f64 0 0 := ⟨false, 0, -1074, by decide +kernel, by decide, by rw [Nat.zero_mul]; rfl⟩
section
variable {F W L : V3} {fx fy fz a b c y z p q r : Int} (hs : Sm fx fy fz a b c y z) (hF : VUV F (16 * fx) (16 * fy) (16 * fz)) (hW : VUV W (16 * a) (16 * b) (16 * c))
include hs hF hW
variable (hp : (-4 ≤ p ∧ p ≤ 4) ∧ (-4 ≤ q ∧ q ≤ 4) ∧ -4 ≤ r ∧ r ≤ 4) (hL : VUV L (16 * p) (16 * q) (16 * r))
include hp hL
end
/-- The least energy: N and M are the squares of the lengths. -/
def enC (N M : Nat) : Bool :=
  intN false (Nat.mul 4 N) fun _ m1 x1 => rootK false m1 x1 fun s2 m2 x2 => intN false (Nat.mul 16 M) fun _ m3 x3 => rootK false m3 x3 fun s4 m4 x4 =>
  mul64 (!s2) (Nat.shiftLeft m2 29) (Nat.add x2 896) s4 (Nat.shiftLeft m4 29) (Nat.add x4 896) fun s5 m5 x5 => add64 s5 m5 x5 true 5764607523034235 eC fun s6 m6 x6 =>
  bc s6 (alln 25 fun k => bc (Nat.ble (Nat.mul k k) (Nat.mul N M)) (Nat.ble (Nat.shiftLeft k 1073) (Nat.shiftLeft m6 x6)) true) false
/-- Sixteenths that are not negative. -/
theorem VU.nat {X n : Nat} {a : Int} (h : VU X a) (e : a = (n : Int)) : V .f32 X (sgnI false (n * 2 ^ 145)) := by
  subst e
  unfold VU at h
  rw [decide_eq_false (Int.not_lt.2 (Int.natCast_nonneg n)), Int.natAbs_natCast] at h
  exact h
section
variable {F W L : V3} {fx fy fz a b c y z p q r : Int} (hs : Sm fx fy fz a b c y z) (hF : VUV F (16 * fx) (16 * fy) (16 * fz)) (hW : VUV W (16 * a) (16 * b) (16 * c)) (hp : (-4 ≤ p ∧ p ≤ 4) ∧ (-4 ≤ q ∧ q ≤ 4) ∧ -4 ≤ r ∧ r ≤ 4) (hL : VUV L (16 * p) (16 * q) (16 * r))
include hs hF hW hp hL
end
end Go.Proofs.Ytejpamlaacffaaa

/-
  What operations make of worths, for all numbers of these worths; bounds. Conditions: none.
-/
namespace Go.Proofs.Ytejpamlaacffaaa
open Go Go.RowKit

theorem cutQ_le {A B c : Nat} (hB : 0 < B) (h : A ≤ c * B) : cutQ A B ≤ c := by
  unfold cutQ
  rcases Nat.lt_or_eq_of_le h with q | q
  · have : A / B < c := (Nat.div_lt_iff_lt_mul hB).2 q
    have h3 : ∀ b : Bool, b.toNat ≤ 1 := fun b => by cases b <;> decide
    exact Nat.le_trans (Nat.add_le_add_left (h3 _) _) this
  · rw [q, Nat.mul_div_cancel _ hB, Nat.mul_mod_left]
    have e1 : decide (B < 2 * 0) = false := decide_eq_false (by omega)
    have e2 : decide (B = 2 * 0) = false := decide_eq_false (by omega)
    rw [e1, e2]
    exact Nat.le_refl _
theorem rndQ_le {fb A B E : Nat} (hB : 0 < B) (hE : fb ≤ E) (h : A ≤ 2 ^ E * B) : rndQ fb A B ≤ 2 ^ E := by
  unfold rndQ
  have hq : A / B ≤ 2 ^ E := Nat.div_le_of_le_mul (by rw [Nat.mul_comm]; exact h)
  have hl : (A / B).log2 ≤ E := by
    by_cases h0 : A / B = 0
    · rw [h0]; simp
    · have := Nat.log2_self_le h0
      exact (Nat.pow_le_pow_iff_right (by omega : 1 < 2)).1 (Nat.le_trans this hq)
  obtain ⟨d, hd⟩ : ∃ d, (A / B).log2 - fb = d := ⟨_, rfl⟩
  rw [hd]
  have hdE : d ≤ E := by omega
  have hp : 0 < 2 ^ d := Nat.pow_pos (by omega)
  have : cutQ A (B * 2 ^ d) ≤ 2 ^ (E - d) := by
    refine cutQ_le (Nat.mul_pos hB hp) (Nat.le_trans h (Nat.le_of_eq ?_))
    rw [Nat.mul_comm B, ← Nat.mul_assoc, ← Nat.pow_add, show E - d + d = E by omega]
  refine Nat.le_trans (Nat.mul_le_mul_right _ this) ?_
  rw [← Nat.pow_add, show E - d + d = E by omega]
  exact Nat.le_refl _
theorem capL32 {E : Nat} (h : E ≤ 270) {R : Nat} (hR : R ≤ 2 ^ E) : R < capF FloatKind.f32.format :=
  Nat.lt_of_le_of_lt (Nat.le_trans hR (Nat.pow_le_pow_right (by omega) h)) (by decide +kernel)
theorem capL64 {E : Nat} (h : E ≤ 2090) {R : Nat} (hR : R ≤ 2 ^ E) : R < capF FloatKind.f64.format := by
  obtain ⟨T, hT⟩ : ∃ T : Nat, T = 2090 := ⟨_, rfl⟩
  have h5 : 2 ^ E ≤ 2 ^ T := Nat.pow_le_pow_right (by omega) (by omega)
  refine Nat.lt_of_le_of_lt (Nat.le_trans hR h5) ?_
  unfold capF
  exact Nat.pow_lt_pow_right (by omega) (by rw [hT]; decide)
/-- The root of a number that is not great. -/
theorem sqrt_bd {X a G : Nat} (hx : V .f64 X (sgnI false a)) (ha : 0 < a) (hG : G ≤ 2000) (hb : a * 2 ^ pF .f64 ≤ 2 ^ (2 * G)) : ∃ R, V .f64 (fsqrt X) (sgnI false R) ∧ R ≤ 2 ^ (G + 1) := by
  have hN4 : 2 ^ 104 ≤ a * 2 ^ pF .f64 := by
    refine Nat.le_trans ?_ (Nat.mul_le_mul_right _ ha)
    rw [Nat.one_mul]
    exact Nat.pow_le_pow_right (by omega) (by decide)
  have hVs := fun w d g1 g2 g3 g4 => @V.sqrt X a w d hx ha g1 g2 g3 g4
  generalize a * 2 ^ pF .f64 = N at *
  have hN0 : N ≠ 0 := by
    have := Nat.pow_pos (n := 104) (show 0 < 2 by omega)
    omega
  have hL1 := Nat.log2_self_le hN0
  have hL2 : N < 2 ^ (N.log2 + 1) := Nat.lt_log2_self
  have hL3 : 104 ≤ N.log2 := (Nat.le_log2 hN0).2 hN4
  have hL4 : N.log2 ≤ 2 * G := (Nat.pow_le_pow_iff_right (by omega : 1 < 2)).1 (Nat.le_trans hL1 hb)
  generalize N.log2 = L at *
  obtain ⟨d, hd⟩ : ∃ d, d = L / 2 - 52 := ⟨_, rfl⟩
  have hp : 0 < 2 ^ (2 * d) := Nat.pow_pos (by omega)
  obtain ⟨M, hM⟩ : ∃ M, M = N / 2 ^ (2 * d) := ⟨_, rfl⟩
  have hM1 : 2 ^ 104 ≤ M := by
    rw [hM]
    refine (Nat.le_div_iff_mul_le hp).2 (Nat.le_trans ?_ hL1)
    rw [← Nat.pow_add]
    exact Nat.pow_le_pow_right (by omega) (by omega)
  have hM2 : M < 2 ^ 106 := by
    rw [hM]
    refine (Nat.div_lt_iff_lt_mul hp).2 (Nat.lt_of_lt_of_le hL2 ?_)
    rw [← Nat.pow_add]
    exact Nat.pow_le_pow_right (by omega) (by omega)
  obtain ⟨r1, r2⟩ := rootFrom_is M 53 0 (Nat.zero_le _) (by
    rw [Nat.zero_add, pow_two2]
    exact hM2)
  generalize Ieee.Datum.rootFrom M 53 0 = w at *
  have g3 : 2 ^ 52 ≤ w := by
    have : 2 ^ 52 < w + 1 := sq_lt (by rw [pow_two2]; omega)
    omega
  have g4 : w < 2 ^ 53 := sq_lt (by rw [pow_two2]; omega)
  have hdm := Nat.div_add_mod N (2 ^ (2 * d))
  have hdr := Nat.mod_lt N hp
  rw [← hM] at hdm
  have g1 : w * w * 2 ^ (2 * d) ≤ N := by
    have := Nat.mul_le_mul_right (2 ^ (2 * d)) r1
    rw [Nat.mul_comm M] at this
    omega
  have g2 : N < (w + 1) * (w + 1) * 2 ^ (2 * d) := by
    have := Nat.mul_le_mul_right (2 ^ (2 * d)) (show M + 1 ≤ (w + 1) * (w + 1) from r2)
    rw [Nat.add_mul, Nat.one_mul, Nat.mul_comm M] at this
    omega
  have hu : upS N w d ≤ 1 := by
    have h3 : ∀ b : Bool, b.toNat ≤ 1 := fun b => by cases b <;> decide
    exact h3 _
  have hR : (w + upS N w d) * 2 ^ d ≤ 2 ^ (G + 1) := by
    have h1 : w + upS N w d ≤ 2 ^ 53 := by omega
    refine Nat.le_trans (Nat.mul_le_mul_right _ h1) ?_
    rw [← Nat.pow_add]
    exact Nat.pow_le_pow_right (by omega) (by omega)
  exact ⟨_, hVs w d g1 g2 g3 g4 (capL64 (by omega) hR), hR⟩
theorem root_zero {X : Nat} {s : Bool} (hx : V .f32 X (sgnI s 0)) : V .f32 (rootF X) 0 := by
  have hx' : V .f32 X (sgnI false (0 * 2 ^ 0)) := by
    rw [Nat.zero_mul, sgnI_zero]
    rw [sgnI_zero] at hx
    exact hx
  obtain ⟨s, m, x, v, h⟩ := rootK_spec (K := fun _ m _ => Nat.beq m 0) hx' (show rootK false 0 0 (fun _ m _ => Nat.beq m 0) = true from rfl)
  obtain rfl := Nat.eq_of_beq_eq_true h
  rw [Nat.zero_mul, sgnI_zero] at v
  exact v
/-- A root that is not great, or is none. -/
theorem root_bd {X A E : Nat} {s : Bool} (hx : V .f32 X (sgnI s A)) (hE : E ≤ 200 ∧ E % 2 = 1) (hA : A ≤ 2 ^ E) : isNan .f32 (rootF X) = true ∨ ∃ R, V .f32 (rootF X) (sgnI false R) ∧ R ≤ 2 ^ ((E + 1) / 2 + 75) := by
  by_cases h0 : A = 0
  · subst h0
    exact .inr ⟨0, by rw [sgnI_zero]; exact root_zero hx, Nat.zero_le _⟩
  have hu := hx.cvt_up
  obtain ⟨Q, hQ⟩ : ∃ Q : Nat, Q = 925 := ⟨_, rfl⟩
  rw [← hQ] at hu
  have e : sgnI s A * ((2 ^ Q : Nat) : Int) = sgnI s (A * 2 ^ Q) := by
    generalize (2 : Nat) ^ Q = T
    unfold sgnI
    cases s <;> simp [Int.neg_mul]
  rw [e] at hu
  have hp : 0 < A * 2 ^ Q := Nat.mul_pos (by omega) (Nat.pow_pos (by omega))
  cases s
  · right
    have hP : pF .f64 = 1074 := by decide
    obtain ⟨R, hv, hR⟩ := sqrt_bd (G := (E + 1) / 2 + 999) hu hp (by omega) (by
      rw [Nat.mul_assoc, ← Nat.pow_add]
      refine Nat.le_trans (Nat.mul_le_mul_right _ hA) ?_
      rw [← Nat.pow_add]
      exact Nat.pow_le_pow_right (by omega) (by omega))
    have hr : rndQ 23 R (2 ^ Q) ≤ 2 ^ ((E + 1) / 2 + 75) := rndQ_le (Nat.pow_pos (by omega)) (by omega) (by
      rw [← Nat.pow_add]
      exact Nat.le_trans hR (Nat.pow_le_pow_right (by omega) (by omega)))
    have hd := (hv.cvt_down (by rw [sgnI_abs, ← hQ]; exact capL32 (by omega) hr)).1
    rw [rndZ_sgn, ← hQ] at hd
    exact ⟨_, hd, hr⟩
  · left
    obtain ⟨t, m, i, e1, hi, ea⟩ := hu.out
    have ht : true = t := by
      have : A * 2 ^ Q = m * 2 ^ (i - FloatKind.f64.format.leastPlace).toNat := by
        have := congrArg Int.natAbs ea
        rwa [sgnI_abs, sgnI_abs] at this
      rw [← this] at ea
      exact sgnI_sign ea (by omega)
    subst ht
    have hm : m ≠ 0 := fun q => by
      subst q
      rw [Nat.zero_mul, sgnI_zero] at ea
      have := congrArg Int.natAbs ea
      rw [sgnI_abs] at this
      omega
    have hn : fsqrt (fcvt .f32 .f64 X) = nanOf .f64 := by
      unfold fsqrt Ieee.Format.sqrt
      rw [e1]
      unfold Ieee.Datum.root
      simp only [hm, if_false, if_true, Option.map_none, Option.getD_none]
    unfold rootF
    rw [hn]
    decide +kernel
/-- A vector that is not great has no great length. -/
theorem long_bd {A : V3} {a b c : Int} (hx : V .f32 A.x a) (hy : V .f32 A.y b) (hz : V .f32 A.z c) (h : a.natAbs ≤ 2 ^ 136 ∧ b.natAbs ≤ 2 ^ 136 ∧ c.natAbs ≤ 2 ^ 136) {T : Nat} {X : Nat} (hX : V .f32 X (sgnI false T)) (hT : 2 ^ 138 ≤ T) : cmpB .gtr .f32 (longV A) X = false := by
  obtain ⟨M, hM⟩ : ∃ M : Nat, 136 = M := ⟨_, rfl⟩
  rw [hM] at h
  have sq : ∀ {x y : Nat} {u v : Int}, V .f32 x u → V .f32 y v → u.natAbs ≤ 2 ^ M → v.natAbs ≤ 2 ^ M → ∃ w, V .f32 (fop .mul .f32 x y) w ∧ w.natAbs ≤ 2 ^ 123 := fun {x y u v} h1 h2 k1 k2 => by
    have hr : rndQ 23 (u * v).natAbs (2 ^ pF .f32) ≤ 2 ^ 123 := rndQ_le (Nat.pow_pos (by omega)) (by omega) (by
      rw [Int.natAbs_mul, ← Nat.pow_add, show 123 + pF .f32 = M + M by rw [← hM]; decide, Nat.pow_add]
      exact Nat.mul_le_mul k1 k2)
    refine ⟨_, h1.mul h2 (capL32 (by omega) hr), ?_⟩
    unfold rndZ
    rw [sgnI_abs]
    exact hr
  have ad : ∀ {x y : Nat} {u v : Int} {E : Nat}, V .f32 x u → V .f32 y v → 23 ≤ E → E ≤ 200 → u.natAbs ≤ 2 ^ E → v.natAbs ≤ 2 ^ E → ∃ w, V .f32 (fop .add .f32 x y) w ∧ w.natAbs ≤ 2 ^ (E + 1) := fun {x y u v E} h1 h2 e1 e2 k1 k2 => by
    have hr : rndQ 23 (u + v).natAbs 1 ≤ 2 ^ (E + 1) := rndQ_le (by omega) (by omega) (by
      rw [Nat.mul_one, Nat.pow_succ]
      have := Int.natAbs_add_le u v
      omega)
    refine ⟨_, h1.add h2 (capL32 (by omega) hr), ?_⟩
    unfold rndZ
    rw [sgnI_abs]
    exact hr
  obtain ⟨w1, v1, k1⟩ := sq hx hx h.1 h.1
  obtain ⟨w2, v2, k2⟩ := sq hy hy h.2.1 h.2.1
  obtain ⟨w3, v3, k3⟩ := sq hz hz h.2.2 h.2.2
  obtain ⟨w4, v4, k4⟩ := ad v1 v2 (by omega) (by omega) k1 k2
  obtain ⟨w5, v5, k5⟩ := ad v4 v3 (by omega) (by omega) k4 (Nat.le_trans k3 (Nat.pow_le_pow_right (by omega) (by omega)))
  have e : w5 = sgnI (decide (w5 < 0)) w5.natAbs := by
    have := sgnI_mulU w5 1
    rw [Nat.mul_one] at this
    rw [this]
    simp
  rw [e] at v5
  rcases root_bd v5 (E := 125) (by omega) k5 with hn | ⟨R, hv, hR⟩
  · show cmpB .gtr .f32 (rootF (innerV A A)) X = false
    cases hc : cmpB .gtr .f32 (rootF (innerV A A)) X
    · rfl
    · have := (gtr_iff.1 hc).1
      have hn' : isNan .f32 (rootF (innerV A A)) = true := hn
      rw [hn'] at this
      cases this
  · have hv' : V .f32 (longV A) (sgnI false R) := hv
    rw [gtr_rk hv'.num hX.num, hv'.rk, hX.rk, decide_eq_false_iff_not]
    have : R ≤ T := Nat.le_trans hR hT
    unfold sgnI
    simp only [Bool.false_eq_true, if_false]
    omega
section
variable {s1 s2 : Bool} {m1 m2 x1 x2 : Nat} {K : KK}
/-- What a product is worth, for all signs. -/
def MulIs (A B R : Nat) : Prop := ∀ X Y s t, V .f32 X (sgnI s A) → V .f32 Y (sgnI t B) → V .f32 (fop .mul .f32 X Y) (sgnI (Bool.xor s t) R)
def QuoIs (A B R : Nat) : Prop := ∀ X Y s t, V .f32 X (sgnI s A) → V .f32 Y (sgnI t B) → V .f32 (fop .quo .f32 X Y) (sgnI (Bool.xor s t) R)
def RootIs (A R : Nat) : Prop := ∀ X, V .f32 X (sgnI false A) → V .f32 (rootF X) (sgnI false R)
theorem V_mul_is {A B R : Nat} (h : rndQ 23 (A * B) (2 ^ pF .f32) = R) (hc : R < capF FloatKind.f32.format) : MulIs A B R := fun X Y s t hx hy => by
  have he : sgnI s A * sgnI t B = sgnI (Bool.xor s t) (A * B) := sgnI_mul _ _ _ _
  have := hx.mul hy (by rw [he, sgnI_abs]; rw [← h] at hc; exact hc)
  rw [he, rndZ_sgn] at this
  rw [← h]
  exact this
end
end Go.Proofs.Ytejpamlaacffaaa

/-
  Products that may be tiny. Conditions: none.
-/
namespace Go.Proofs.Ytejpamlaacffaaa
open Go Go.RowKit

/-- A product that may be tiny. -/
def mulT (s1 : Bool) (m1 x1 : Nat) (s2 : Bool) (m2 x2 : Nat) (K : KK) : Bool := bc (Nat.ble 149 (Nat.add x1 x2)) (mul32 s1 m1 x1 s2 m2 x2 K)
  (force (Nat.mul m1 m2) fun A => force (Nat.sub 149 (Nat.add x1 x2)) fun d => force (Nat.shiftRight A d) fun q => seek q 23 (fun T => force T fun T => bc (Nat.ble T 200) (force (rne A (Nat.add d T)) fun m => K (bx s1 s2) m T) false) 60 20)
theorem rnd_sub {A d T : Nat} (hT : (A / 2 ^ d).log2 - 23 = T) : rndQ 23 A (2 ^ d) = cutQ A (2 ^ (d + T)) * 2 ^ T ∧ cutQ A (2 ^ (d + T)) ≤ 2 ^ 24 := by
  refine ⟨?_, cutQ_le (Nat.pow_pos (by omega)) ?_⟩
  · unfold rndQ
    rw [hT, Nat.pow_add]
  · have h1 : A / 2 ^ d < 2 ^ (24 + T) := by
      by_cases h0 : A / 2 ^ d = 0
      · rw [h0]
        exact Nat.pow_pos (by omega)
      · exact (Nat.log2_lt h0).1 (by omega)
    have h4 := Nat.div_add_mod A (2 ^ d)
    have h5 := Nat.mod_lt A (Nat.pow_pos (n := d) (show 0 < 2 by omega))
    have h6 := Nat.mul_le_mul_left (2 ^ d) (show A / 2 ^ d + 1 ≤ 2 ^ (24 + T) from h1)
    rw [Nat.mul_add, Nat.mul_one, Nat.pow_add] at h6
    rw [Nat.pow_add, ← Nat.mul_assoc, Nat.mul_right_comm, Nat.mul_comm _ (2 ^ d)]
    omega
theorem mulT_spec {X Y : Nat} {s1 s2 : Bool} {m1 m2 x1 x2 : Nat} {K : KK} (hx : V .f32 X (sgnI s1 (m1 * 2 ^ x1))) (hy : V .f32 Y (sgnI s2 (m2 * 2 ^ x2))) (h : mulT s1 m1 x1 s2 m2 x2 K = true) : ∃ s m x, V .f32 (fop .mul .f32 X Y) (sgnI s (m * 2 ^ x)) ∧ K s m x = true := by
  unfold mulT at h
  cases h1 : Nat.ble 149 (Nat.add x1 x2) <;> rw [h1] at h
  · rw [bc_false, force_eq, force_eq, force_eq] at h
    have hlt : x1 + x2 ≤ 149 := by
      rcases Nat.lt_or_ge (x1 + x2) 149 with q | q
      · omega
      · have : Nat.ble 149 (Nat.add x1 x2) = true := Nat.ble_eq_true_of_le q
        rw [this] at h1
        cases h1
    have h := seek_spec _ _ h
    simp only [force_eq] at h
    obtain ⟨h3, h⟩ := ble_or h
    obtain ⟨d, hd⟩ : ∃ d, 149 - (x1 + x2) = d := ⟨_, rfl⟩
    have hd' : Nat.sub 149 (Nat.add x1 x2) = d := hd
    rw [hd'] at h h3
    have hq : Nat.shiftRight (Nat.mul m1 m2) d = m1 * m2 / 2 ^ d := Nat.shiftRight_eq_div_pow _ _
    rw [hq] at h h3
    obtain ⟨T, hT⟩ : ∃ T, (m1 * m2 / 2 ^ d).log2 - 23 = T := ⟨_, rfl⟩
    rw [hT] at h h3
    rw [rne_eq, bx_eq] at h
    obtain ⟨r1, r2⟩ := rnd_sub hT
    have e : rndQ 23 (m1 * 2 ^ x1 * (m2 * 2 ^ x2)) (2 ^ pF .f32) = cutQ (m1 * m2) (2 ^ (d + T)) * 2 ^ T := by
      have e1 : m1 * 2 ^ x1 * (m2 * 2 ^ x2) = m1 * m2 * 2 ^ (x1 + x2) := by rw [Nat.pow_add, Nat.mul_mul_mul_comm]
      have e2 : 2 ^ pF .f32 = 1 * 2 ^ 149 := by rw [Nat.one_mul, show pF .f32 = 149 by decide]
      have e3 := rndQ_scale2 (fb := 23) (m := m1 * m2) (n := 1) (p1 := x1 + x2) (q1 := 149) (p2 := 0) (q2 := d) (by omega)
      rw [e1, e2, e3, Nat.pow_zero, Nat.mul_one, Nat.one_mul, r1]
    have hc : cutQ (m1 * m2) (2 ^ (d + T)) * 2 ^ T < capF FloatKind.f32.format := by
      refine capL32 (E := 24 + T) (by omega) ?_
      rw [Nat.pow_add 2 24]
      exact Nat.mul_le_mul_right _ r2
    exact ⟨_, _, _, V_mul_is e hc X Y s1 s2 hx hy, h⟩
  · rw [bc_true] at h
    exact mul32_spec hx hy h
end Go.Proofs.Ytejpamlaacffaaa

/-
  The circle of readings: a program. Conditions: none.
-/
namespace Go.Proofs.Ytejpamlaacffaaa
open Go Go.RowKit

/-- The product of two lists. -/
def mulL (U W : L1) : L1 := fun j K => U j fun us um ue => W j fun vs vm ve => mul64 us um ue vs vm ve K
/-- Products' difference. -/
def crsK (s1 : Bool) (m1 e1 : Nat) (s2 : Bool) (m2 e2 : Nat) (s3 : Bool) (m3 e3 : Nat) (s4 : Bool) (m4 e4 : Nat) (K : KK) : Bool := mul64 s1 m1 e1 s2 m2 e2 fun a b c => mul64 s3 m3 e3 s4 m4 e4 fun d f g => add64 a b c (!d) f g K
/-- Gap of two numbers, bounded. -/
def gapK (t : Nat) (s1 : Bool) (m1 e1 : Nat) (s2 : Bool) (m2 e2 : Nat) : Bool := bc (add64 s1 m1 e1 (!s2) m2 e2 fun _ m e => capK t m e) (add64 s2 m2 e2 (!s1) m1 e1 fun _ m e => capK t m e) false
/-- The length of a flat vector, of tiny numbers too. -/
def longT (a1 : Bool) (a2 a3 : Nat) (b1 : Bool) (b2 b3 : Nat) (K : KK) : Bool := mulT a1 a2 a3 a1 a2 a3 fun s1 n1 e1 => mulT b1 b2 b3 b1 b2 b3 fun s2 n2 e2 => add32 s1 n1 e1 s2 n2 e2 fun s3 n3 e3 => add32 s3 n3 e3 false 0 0 fun s n e => rootK s n e K
/-- A part of the centre. -/
def cenK (zs : Bool) (zm ze : Nat) (cx : Int) : Bool := intK cx fun s m e => add32 zs zm ze (!s) m e fun _ m e => capK 83 m e
/-- A corrected reading. -/
def corK (P Q : L1) (zs : Bool) (zm ze : Nat) (ws : Bool) (wm we rm rx j : Nat) : Bool := P j fun s m e => add32 s m e (!zs) zm ze fun a1 a2 a3 => Q j fun s m e => add32 s m e (!ws) wm we fun b1 b2 b3 => longT a1 a2 a3 b1 b2 b3 fun s m e => force (Nat.add e 925) fun e => force (Nat.add rx 925) fun rx => gapK 1015 s m e false rm rx
/-- What is looked at in the end. -/
def endK (n rm rx : Nat) (P Q : L1) (cx cy : Int) (rs : Bool) (m0 e0 : Nat) (zs : Bool) (zm ze : Nat) (ws : Bool) (wm we : Nat) : Bool :=
  bc (force (Nat.add e0 925) fun e0 => force (Nat.add rx 925) fun rx => gapK 1014 rs m0 e0 false rm rx) (bc (cenK zs zm ze cx) (bc (cenK ws wm we cy) (alln n fun j => corK P Q zs zm ze ws wm we rm rx j) false) false) false
def mainK (n rm rx : Nat) (cx cy : Int) (P : L1) (xs : Bool) (xm xe : Nat) (U : L1) (sa : Bool) (ma ea : Nat) (Q : L1) (ys : Bool) (ym ye : Nat) (W : L1) (sc : Bool) (mc ec : Nat) : Bool :=
  memo (fun j K => mulL U U j fun s1 m1 e1 => mulL W W j fun s2 m2 e2 => add64 s1 m1 e1 s2 m2 e2 K) n (fun B =>
  sumL (mulL U W) n (fun sb mb eb => sumL (mulL U B) n (fun sp mp ep => quoN sp mp ep false 1 1075 fun sp mp ep => sumL (mulL W B) n (fun sq mq eq => quoN sq mq eq false 1 1075 fun sq mq eq =>
  crsK sa ma ea sc mc ec sb mb eb sb mb eb fun se me ee => bc se false (bc (Nat.beq me 0) false (
  crsK sp mp ep sc mc ec sq mq eq sb mb eb fun s1 m1 e1 => quoN s1 m1 e1 se me ee fun ss ms es =>
  crsK sq mq eq sa ma ea sp mp ep sb mb eb fun s1 m1 e1 => quoN s1 m1 e1 se me ee fun st mt et =>
  mul64 ss ms es ss ms es fun s1 m1 e1 => mul64 st mt et st mt et fun s2 m2 e2 => add64 s1 m1 e1 s2 m2 e2 fun s3 m3 e3 => add64 sa ma ea sc mc ec fun s4 m4 e4 => quoN s4 m4 e4 false n 1074 fun s5 m5 e5 => add64 s3 m3 e3 s5 m5 e5 fun s6 m6 e6 =>
  bc s6 false (normK m6 e6 fun m6 e6 => sqrtK 1074 2040 m6 e6 fun s7 m7 e7 => downN s7 m7 e7 fun rs m0 e0 =>
  add64 xs xm xe ss ms es fun s8 m8 e8 => downN s8 m8 e8 fun zs zm ze => add64 ys ym ye st mt et fun s9 m9 e9 => downN s9 m9 e9 fun ws wm we => endK n rm rx P Q cx cy rs m0 e0 zs zm ze ws wm we)))) 0 false 0 0) 0 false 0 0) 0 false 0 0) 0 (fun _ _ => false)
/-- All centres, for one count of readings and one radius. -/
def cmpK (n a : Nat) : Bool :=
  intN false (Nat.mul 8 (Nat.succ a)) fun _ rm rx => memo (fun j K => tabN n j fun s m e _ _ _ => mul32 false rm rx s m e K) n (fun LX => memo (fun j K => tabN n j fun _ _ _ t l d => mul32 false rm rx t l d K) n (fun LY =>
  alln 9 fun i => axP n LX (16 * ((i : Int) - 4)) fun P xs xm xe U sa ma ea => alln 9 fun j => axP n LY (16 * ((j : Int) - 4)) fun Q ys ym ye W sc mc ec => mainK n rm rx (16 * ((i : Int) - 4)) (16 * ((j : Int) - 4)) P xs xm xe U sa ma ea Q ys ym ye W sc mc ec) 0 (fun _ _ => false)) 0 (fun _ _ => false)
end Go.Proofs.Ytejpamlaacffaaa

/-
  The circle of readings: what the program says. Conditions: none.
-/
namespace Go.Proofs.Ytejpamlaacffaaa
open Go Go.RowKit

section
variable {A B C D : Nat} {s1 s2 s3 s4 : Bool} {m1 m2 m3 m4 e1 e2 e3 e4 : Nat} {K : KK}
theorem mulL_good {g g' : Nat → Nat} {U W : L1} {j : Nat} (h1 : Good .f64 g U j) (h2 : Good .f64 g' W j) : Good .f64 (fun k => fop .mul .f64 (g k) (g' k)) (mulL U W) j := fun K hK => by
  unfold mulL at hK
  obtain ⟨_, _, _, v1, hK⟩ := h1 _ hK
  obtain ⟨_, _, _, v2, hK⟩ := h2 _ hK
  exact mul64_spec v1 v2 hK
theorem crsK_spec (v1 : V .f64 A (sgnI s1 (m1 * 2 ^ e1))) (v2 : V .f64 B (sgnI s2 (m2 * 2 ^ e2))) (v3 : V .f64 C (sgnI s3 (m3 * 2 ^ e3))) (v4 : V .f64 D (sgnI s4 (m4 * 2 ^ e4))) (h : crsK s1 m1 e1 s2 m2 e2 s3 m3 e3 s4 m4 e4 K = true) : ∃ s m e, V .f64 (fop .sub .f64 (fop .mul .f64 A B) (fop .mul .f64 C D)) (sgnI s (m * 2 ^ e)) ∧ K s m e = true := by
  unfold crsK at h
  obtain ⟨_, _, _, u1, h⟩ := mul64_spec v1 v2 h
  obtain ⟨_, _, _, u2, h⟩ := mul64_spec v3 v4 h
  exact sub64_spec u1 u2 h
theorem cap_gtr {k : FloatKind} {X Y m e t T : Nat} {s : Bool} (v : V k X (sgnI s (m * 2 ^ e))) (hY : V k Y (sgnI false T)) (hT : 9007199254740992 * 2 ^ t ≤ T) (h : capK t m e = true) : cmpB .gtr k X Y = false := by
  have h2 := Nat.le_trans (capK_spec h) hT
  rw [gtr_rk v.num hY.num, v.rk, hY.rk, decide_eq_false_iff_not]
  generalize m * 2 ^ e = M at *
  unfold sgnI
  cases s
  · simp only [Bool.false_eq_true, if_false]
    omega
  · simp only [Bool.false_eq_true, if_false, if_true]
    omega
theorem gapK_spec {Y t T : Nat} (v1 : V .f64 A (sgnI s1 (m1 * 2 ^ e1))) (v2 : V .f64 B (sgnI s2 (m2 * 2 ^ e2))) (hY : V .f64 Y (sgnI false T)) (hT : 9007199254740992 * 2 ^ t ≤ T) (h : gapK t s1 m1 e1 s2 m2 e2 = true) : cmpB .gtr .f64 (gapV A B) Y = false := by
  unfold gapK at h
  have hb : ∀ {a b : Bool}, bc a b false = true → a = true ∧ b = true := fun {a b} h => by
    cases a
    · cases h
    · exact ⟨rfl, h⟩
  obtain ⟨h1, h2⟩ := hb h
  obtain ⟨_, _, _, u1, h1⟩ := sub64_spec v1 v2 h1
  obtain ⟨_, _, _, u2, h2⟩ := sub64_spec v2 v1 h2
  unfold gapV
  split
  · exact cap_gtr u2 hY hT h2
  · exact cap_gtr u1 hY hT h1
end
end Go.Proofs.Ytejpamlaacffaaa

/-
  The circle of readings: what the program says of one circle. Conditions: none.
-/
namespace Go.Proofs.Ytejpamlaacffaaa
open Go Go.RowKit

theorem V_k1 : V .f32 1008981770 (sgnI false (10737418 * 2 ^ 119)) := ⟨false, 10737418, -30, by decide +kernel, by decide, rfl⟩
def eD : Nat := 1016
theorem V_k2 : V .f64 4581421828931458171 (sgnI false (5764607523034235 * 2 ^ eD)) := by
  refine ⟨false, 5764607523034235, -58, by decide +kernel, by decide, ?_⟩
  have : (-58 - FloatKind.f64.format.leastPlace).toNat = eD := by decide
  rw [this]
theorem V_two64 : V .f64 4611686018427387904 (sgnI false (1 * 2 ^ 1075)) := by
  refine ⟨false, 4503599627370496, -51, by decide +kernel, by decide, ?_⟩
  have : (-51 - FloatKind.f64.format.leastPlace).toNat = 1023 := by decide
  rw [this]
  obtain ⟨Q, hQ⟩ : ∃ Q : Nat, 1023 = Q := ⟨_, rfl⟩
  rw [show (1075 : Nat) = 52 + Q by omega, hQ, Nat.pow_add, Nat.one_mul]
theorem cap_le {t U : Nat} (h : U = t + 1) : 9007199254740992 * 2 ^ t ≤ 5764607523034235 * 2 ^ U := by
  subst h
  rw [Nat.pow_succ]
  generalize 2 ^ t = T
  omega
theorem zero32W : V .f32 0 (sgnI false (0 * 2 ^ 0)) := by
  rw [Nat.zero_mul, sgnI_zero]
  exact zero_V
theorem bc_and {a b : Bool} (h : bc a b false = true) : a = true ∧ b = true := by
  cases a
  · cases h
  · exact ⟨rfl, h⟩
section
variable {s1 s2 s3 s4 : Bool} {m1 m2 m3 m4 e1 e2 e3 e4 : Nat} {K : KK}
theorem longT_spec {A : V3} (v1 : V .f32 A.x (sgnI s1 (m1 * 2 ^ e1))) (v2 : V .f32 A.y (sgnI s2 (m2 * 2 ^ e2))) (hz : A.z = 0) (h : longT s1 m1 e1 s2 m2 e2 K = true) : ∃ s m e, V .f32 (longV A) (sgnI s (m * 2 ^ e)) ∧ K s m e = true := by
  unfold longT at h
  obtain ⟨_, _, _, u1, h⟩ := mulT_spec v1 v1 h
  obtain ⟨_, _, _, u2, h⟩ := mulT_spec v2 v2 h
  obtain ⟨_, _, _, u3, h⟩ := add32_spec u1 u2 h
  obtain ⟨_, _, _, u4, h⟩ := add32_spec u3 zero32W h
  unfold longV innerV
  rw [hz, show fop .mul .f32 0 0 = 0 by decide +kernel]
  exact rootK_spec u4 h
theorem cenK_spec {Z C : Nat} {c : Int} (v : V .f32 Z (sgnI s1 (m1 * 2 ^ e1))) (hc : VU C c) (h : cenK s1 m1 e1 c = true) : ∃ a, V .f32 (fop .sub .f32 Z C) a ∧ a.natAbs ≤ 2 ^ 136 := by
  unfold cenK at h
  obtain ⟨_, _, _, u1, h⟩ := intK_spec hc h
  obtain ⟨_, _, _, u2, h⟩ := sub32_spec v u1 h
  refine ⟨_, u2, ?_⟩
  rw [sgnI_abs]
  exact Nat.le_trans (capK_spec h) (by decide)
theorem corK_spec {G H : Nat → Nat} {P Q : L1} {k zx zy R rm rx : Nat} {X : V3} (hP : Good .f32 G P k) (hQ : Good .f32 H Q k) (vx : V .f32 zx (sgnI s1 (m1 * 2 ^ e1))) (vy : V .f32 zy (sgnI s2 (m2 * 2 ^ e2))) (vr : V .f32 R (sgnI false (rm * 2 ^ rx))) (ex : X.x = G k) (ey : X.y = H k) (ez : X.z = 0) (h : corK P Q s1 m1 e1 s2 m2 e2 rm rx k = true) : cmpB .gtr .f64 (gapV (fcvt .f32 .f64 (longV (lessV X ⟨zx, zy, 0⟩))) (fcvt .f32 .f64 R)) 4581421828931458171 = false ∧ finV X = true := by
  unfold corK at h
  obtain ⟨_, _, _, u1, h⟩ := hP _ h
  obtain ⟨_, _, _, u2, h⟩ := sub32_spec u1 vx h
  obtain ⟨_, _, _, u3, h⟩ := hQ _ h
  obtain ⟨_, _, _, u4, h⟩ := sub32_spec u3 vy h
  rw [← ex] at u1 u2
  rw [← ey] at u3 u4
  have hf : finV X = true := finV_and.2 ⟨u1.fin, u3.fin, by rw [ez]; exact zero_V.fin⟩
  obtain ⟨_, _, _, u5, h⟩ := longT_spec (A := lessV X ⟨zx, zy, 0⟩) u2 u4 (by show fop .sub .f32 X.z 0 = 0; rw [ez]; decide +kernel) h
  rw [force_eq, force_eq] at h
  obtain ⟨t, ht⟩ : ∃ t : Nat, 1015 = t := ⟨_, rfl⟩
  rw [ht] at h
  exact ⟨gapK_spec (up_V u5) (up_V vr) V_k2 (cap_le (by rw [← ht]; rfl)) h, hf⟩
end
/-- A circle that is found. -/
structure CirIs (C : V3) (R n : Nat) (x y a b c p q s t r : Nat) : Prop where
  fin : ∀ k, k < n → finV (cpP C R n k) = true
  fit : FitIs (cpP C R n) n x y a b c p q s t r
  cen : cmpB .gtr .f32 (longV (lessV ⟨fcvt .f64 .f32 (fop .add .f64 x s), fcvt .f64 .f32 (fop .add .f64 y t), 0⟩ C)) 1008981770 = false
  rad : cmpB .gtr .f64 (gapV (fcvt .f32 .f64 (fcvt .f64 .f32 r)) (fcvt .f32 .f64 R)) 4576918229304087675 = false
  cor : ∀ k, k < n → cmpB .gtr .f64 (gapV (fcvt .f32 .f64 (longV (lesP (cpP C R n) ⟨fcvt .f64 .f32 (fop .add .f64 x s), fcvt .f64 .f32 (fop .add .f64 y t), 0⟩ k))) (fcvt .f32 .f64 R)) 4581421828931458171 = false
theorem pos64 {X m e : Nat} {s : Bool} (v : V .f64 X (sgnI s (m * 2 ^ e))) (hs : s = false) (hm : Nat.beq m 0 = false) : cmpB .gtr .f64 X 0 = true := by
  subst hs
  rw [gtr_rk v.num zero64V.num, v.rk, zero64V.rk, decide_eq_true_eq]
  have : 0 < m * 2 ^ e := by
    rcases Nat.eq_zero_or_pos m with q | q
    · subst q; cases hm
    · exact Nat.mul_pos q (Nat.pow_pos (by omega))
  exact sgnI_pos this
theorem mainK_spec {C : V3} {R n rm rx : Nat} {cx cy : Int} {P U Q W : L1} {xs sa ys sc : Bool} {xm xe ma ea ym ye mc ec : Nat} (hn : n ≤ 10) (h1 : AxIs n (fun k => (cpP C R n k).x) P xs xm xe U sa ma ea) (h2 : AxIs n (fun k => (cpP C R n k).y) Q ys ym ye W sc mc ec) (hC : C.z = 0) (vr : V .f32 R (sgnI false (rm * 2 ^ rx))) (hx : VU C.x cx) (hy : VU C.y cy) (h : mainK n rm rx cx cy P xs xm xe U sa ma ea Q ys ym ye W sc mc ec = true) : ∃ x y a b c p q s t r, CirIs C R n x y a b c p q s t r := by
  have hz : ∀ k, (cpP C R n k).z = 0 := fun k => by
    show fop .add .f32 C.z 0 = 0
    rw [hC]
    decide +kernel
  unfold mainK at h
  obtain ⟨B, hB, h⟩ := memo_spec (fk := .f64) (g := fcw (cpP C R n) (axM (fun k => (cpP C R n k).x) n) (axM (fun k => (cpP C R n k).y) n)) (fun j hj K hK => by
    obtain ⟨_, _, _, u1, hK⟩ := mulL_good (h1.u j hj) (h1.u j hj) _ hK
    obtain ⟨_, _, _, u2, hK⟩ := mulL_good (h2.u j hj) (h2.u j hj) _ hK
    exact add64_spec u1 u2 hK) h
  obtain ⟨_, _, _, vb, h⟩ := sumL_spec (fun j hj => mulL_good (h1.u j hj) (h2.u j hj)) h
  obtain ⟨_, _, _, vp, h⟩ := sumL_spec (fun j hj => mulL_good (h1.u j hj) (hB j hj)) h
  obtain ⟨_, _, _, vp, h⟩ := quoN_spec vp V_two64 h
  obtain ⟨_, _, _, vq, h⟩ := sumL_spec (fun j hj => mulL_good (h2.u j hj) (hB j hj)) h
  obtain ⟨_, _, _, vq, h⟩ := quoN_spec vq V_two64 h
  have va := h1.a
  have vc := h2.a
  have vx := h1.x
  have vy := h2.x
  obtain ⟨se, me, ee, ve, h⟩ := crsK_spec va vc vb vb h
  cases hse : se <;> rw [hse] at h
  case true => cases h
  rw [bc_false] at h
  cases hme : Nat.beq me 0 <;> rw [hme] at h
  case true => cases h
  rw [bc_false] at h
  have he := pos64 ve hse hme
  rw [hse] at ve
  obtain ⟨_, _, _, vs, h⟩ := crsK_spec vp vc vq vb h
  obtain ⟨_, _, _, vs, h⟩ := quoN_spec vs ve h
  obtain ⟨_, _, _, vt, h⟩ := crsK_spec vq va vp vb h
  obtain ⟨_, _, _, vt, h⟩ := quoN_spec vt ve h
  obtain ⟨_, _, _, w1, h⟩ := mul64_spec vs vs h
  obtain ⟨_, _, _, w2, h⟩ := mul64_spec vt vt h
  obtain ⟨_, _, _, w3, h⟩ := add64_spec w1 w2 h
  obtain ⟨_, _, _, w4, h⟩ := add64_spec va vc h
  obtain ⟨_, _, _, w5, h⟩ := quoN_spec w4 (V_int64 n hn) h
  obtain ⟨s6, _, _, w6, h⟩ := add64_spec w3 w5 h
  cases hs6 : s6 <;> rw [hs6] at h w6
  case true => cases h
  rw [bc_false] at h
  obtain ⟨_, _, e6, h⟩ := normK_spec h
  rw [e6] at w6
  obtain ⟨_, _, _, w7, h⟩ := sqrtK_spec fit64 w6 h
  obtain ⟨_, _, _, w8, h⟩ := downN_spec w7 h
  obtain ⟨_, _, _, z1, h⟩ := add64_spec vx vs h
  obtain ⟨_, _, _, z1, h⟩ := downN_spec z1 h
  obtain ⟨_, _, _, z2, h⟩ := add64_spec vy vt h
  obtain ⟨_, _, _, z2, h⟩ := downN_spec z2 h
  unfold endK at h
  obtain ⟨g1, h⟩ := bc_and h
  obtain ⟨g2, h⟩ := bc_and h
  obtain ⟨g3, g4⟩ := bc_and h
  rw [force_eq, force_eq] at g1
  obtain ⟨t, ht⟩ : ∃ t : Nat, 1014 = t := ⟨_, rfl⟩
  rw [ht] at g1
  obtain ⟨ca, c1, c2⟩ := cenK_spec z1.1 hx g2
  obtain ⟨cb, c3, c4⟩ := cenK_spec z2.1 hy g3
  have hcor := fun k hk => corK_spec (h1.p k hk) (h2.p k hk) z1.1 z2.1 vr rfl rfl (hz k) (alln_spec _ g4 k hk)
  refine ⟨_, _, _, _, _, _, _, _, _, _, ⟨fun k hk => (hcor k hk).2, ⟨rfl, rfl, rfl, rfl, rfl, rfl, rfl, rfl, rfl, rfl, he, z1.2, z2.2, w8.2⟩, ?_, ?_, fun k hk => ?_⟩⟩
  · exact long_bd c1 c3 (by
      show V .f32 (fop .sub .f32 0 C.z) 0
      rw [hC, show fop .sub .f32 0 0 = 0 by decide +kernel]
      exact zero_V) ⟨c2, c4, by decide⟩ V_k1 (by decide)
  · exact gapK_spec (up_V w8.1) (up_V vr) V_c2 (cap_le (by rw [← ht]; rfl)) g1
  · exact (hcor k hk).1
end Go.Proofs.Ytejpamlaacffaaa
