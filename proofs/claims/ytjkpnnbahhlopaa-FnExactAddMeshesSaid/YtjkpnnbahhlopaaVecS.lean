/-
  Slices of vectors: the helpers of the laws. Conditions: none.
-/
import Derived.Test.YtjkpnnbahhlopaaVecB
import Derived.Test.YtjkpnnbahhlopaaBA
import Derived.OwnWalk
import Derived.Lib.Hide
import Derived.Deep.RegionHeld3
import Derived.Deep.DrawnRows
namespace Go.Proofs.Ytjkpnnbahhlopaa
open Go Go.RowKit
attribute [local go_sem] run_store_float
attribute [local go_sem ↓] Go.wp_at_zero Go.wp_at_succ

theorem infoVector : (Try.prog.info? 26).map (fun i => (i.zero, i.size, i.bytes)) = some (some (.agg #[.float .f32 0, .float .f32 0, .float .f32 0]), 3, 12) := by kernel_rfl

set_option maxHeartbeats 1000000 in
theorem lawsToVectorS {X : List Nat} {n c : Nat} {A : Option Addr} (w : World) (hr : Rd w w.heap.size 3 A n X) (hn : n ≤ 1048576) :
    Calls Try.prog 22 #[.slice A n c] w (RetS 26 3 n X w) := by
  obtain ⟨i0, hi, hz0, hz1, hz2⟩ := info_parts infoVector
  go_enter Try.func22, Try.ntmps22
  go_wp2_with (at_make; refine wpList_make_full _ rfl _ _ 35 rfl w.heap.size 26 i0 _ 3 Try.underlying35 hi hz0 hz1 .i64 .i64 _ _ n rfl rfl rfl rfl (by rw [hz2]; omega) (by simp [maxLen]; omega) (Nat.le_refl _) ?_; intro wm hown hgrow; have HF := Lib.hid (Filled.start (X := X) hown hgrow); clear hown hgrow)
  go_loopw [4] (fun i wr => ∃ k : Nat, k ≤ n ∧ i = .int .i64 k ∧ Filled w wr 26 3 n k X) (fun i _ => n - (intOf i).toNat)
  case atStart => exact ⟨0, Nat.zero_le _, rfl, HF.out⟩
  case round =>
    obtain ⟨k, hk, rfl, hbw, hlt, cs, hblk, hcs, hct⟩ := hrel
    by_cases hkn : k < n
    · have hl := hr.len
      obtain ⟨b, o, rfl, hb, hc⟩ := (hr.below hbw (Nat.le_refl _)).adr (by omega)
      obtain ⟨x0, hx0⟩ := some_at (X := X) (i := k * 3) (by omega)
      obtain ⟨x1, hx1⟩ := some_at (X := X) (i := k * 3 + 1) (by omega)
      obtain ⟨x2, hx2⟩ := some_at (X := X) (i := k * 3 + 2) (by omega)
      obtain ⟨p0, q0, f0⟩ := hc _ _ hx0
      obtain ⟨p1, q1, f1⟩ := hc _ _ hx1
      obtain ⟨p2, q2, f2⟩ := hc _ _ hx2
      have q1 : wr.cell? ⟨b, o + k * 3 + 1, none⟩ = some (.float .f32 p1) := q1
      have q2 : wr.cell? ⟨b, o + k * 3 + 2, none⟩ = some (.float .f32 p2) := q2
      have hfr := hblk.frozen
      obtain ⟨u0, hu0⟩ := some_cell (cs := cs) (i := k * 3) (by omega)
      obtain ⟨u1, hu1⟩ := some_cell (cs := cs) (i := k * 3 + 1) (by omega)
      obtain ⟨u2, hu2⟩ := some_cell (cs := cs) (i := k * 3 + 2) (by omega)
      have c0 := (hblk.cell _).trans hu0
      have c1 := (hblk.cell _).trans hu1
      have c2 := (hblk.cell _).trans hu2
      have HX := Lib.hid (And.intro hx0 (And.intro hx1 hx2))
      have HL := Lib.hid (And.intro hl hcs)
      clear hx0 hx1 hx2 hu0 hu1 hu2 hl hcs hc HF
      go_wp2_with (go_at_call 6; refine (lawsToVector _ (Vb.eta (A := ⟨x0, x1, x2⟩) f0 f1 f2)).mono ?_; rintro e w1 ⟨_, rfl, ⟨r0, r1, r2, rfl, hr0, hr1, hr2⟩, hb1⟩; have hb := hb1; (have hzb := hb.size; (try simp at hzb); (try (have hk : ∀ o, w1.cell? ⟨w.heap.size, o, none⟩ = _ := fun o => hb.cell (p := ⟨w.heap.size, o, none⟩) (by first | (simp; done) | omega | (simp; omega)))); (try (have hf : ∀ o, w1.frozen? ⟨w.heap.size, o, none⟩ = _ := fun o => hb.frozen (p := ⟨w.heap.size, o, none⟩) (by first | (simp; done) | omega | (simp; omega)))); (try (have hk : ∀ o, w1.cell? ⟨w.heap.size + 1, o, none⟩ = _ := fun o => hb.cell (p := ⟨w.heap.size + 1, o, none⟩) (by first | (simp; done) | omega | (simp; omega)))); (try (have hf : ∀ o, w1.frozen? ⟨w.heap.size + 1, o, none⟩ = _ := fun o => hb.frozen (p := ⟨w.heap.size + 1, o, none⟩) (by first | (simp; done) | omega | (simp; omega)))); (try (have hk : ∀ o, w1.cell? ⟨w.heap.size + 1 + 1, o, none⟩ = _ := fun o => hb.cell (p := ⟨w.heap.size + 1 + 1, o, none⟩) (by first | (simp; done) | omega | (simp; omega)))); (try (have hf : ∀ o, w1.frozen? ⟨w.heap.size + 1 + 1, o, none⟩ = _ := fun o => hb.frozen (p := ⟨w.heap.size + 1 + 1, o, none⟩) (by first | (simp; done) | omega | (simp; omega)))); (try (have hk : ∀ o, w1.cell? ⟨w.heap.size + 1 + 1 + 1, o, none⟩ = _ := fun o => hb.cell (p := ⟨w.heap.size + 1 + 1 + 1, o, none⟩) (by first | (simp; done) | omega | (simp; omega)))); (try (have hf : ∀ o, w1.frozen? ⟨w.heap.size + 1 + 1 + 1, o, none⟩ = _ := fun o => hb.frozen (p := ⟨w.heap.size + 1 + 1 + 1, o, none⟩) (by first | (simp; done) | omega | (simp; omega)))); (try (have hk : ∀ o, w1.cell? ⟨w.heap.size + 1 + 1 + 1 + 1, o, none⟩ = _ := fun o => hb.cell (p := ⟨w.heap.size + 1 + 1 + 1 + 1, o, none⟩) (by first | (simp; done) | omega | (simp; omega)))); (try (have hf : ∀ o, w1.frozen? ⟨w.heap.size + 1 + 1 + 1 + 1, o, none⟩ = _ := fun o => hb.frozen (p := ⟨w.heap.size + 1 + 1 + 1 + 1, o, none⟩) (by first | (simp; done) | omega | (simp; omega))))); clear hb)
      go_roundw
      case rel => exact ⟨k + 1, by omega, by go_num, Filled.step3 hkn hbw hlt hblk HL.out.2 hct hb1 HX.out.1 HX.out.2.1 HX.out.2.2 hr0 hr1 hr2⟩
      case measure => simp [intOf]; omega
    · obtain rfl : k = n := by omega
      have HD := Lib.hid (Filled.done ⟨hbw, hlt, cs, hblk, hcs, hct⟩ hr.len (by simp [maxLen]; omega))
      clear hblk hcs hct HF
      go_wp2
      go_ret
      exact ⟨_, rfl, HD.out, hbw⟩

theorem lawsSzVectorS {n c : Nat} {A : Option Addr} {L : Int} (w : World) (h0 : 0 ≤ L) (h1 : L ≤ 1048576) (hn : n ≤ maxLen) (hL : (n : Int) ≤ L) :
    Calls Try.prog 18 #[.slice A n c, .int .i64 L] w fun e w' => e = .returned (.int .i64 (L - n)) ∧ w = w' := by
  unfold maxLen at hn
  go_enter Try.func18, Try.ntmps18
  go_wp2
  go_ret
  exact ⟨rfl, rfl⟩
theorem lawsSzVectorS_no {n c : Nat} {A : Option Addr} {L : Int} (w : World) (h0 : 0 ≤ L) (h1 : L ≤ 1048576) (hn : n ≤ maxLen) (hL : L < (n : Int)) :
    Calls Try.prog 18 #[.slice A n c, .int .i64 L] w fun e w' => e = .returned (.int .i64 (-1)) ∧ w = w' := by
  unfold maxLen at hn
  go_enter Try.func18, Try.ntmps18
  go_wp2
  go_ret
  exact ⟨rfl, rfl⟩

set_option maxHeartbeats 1000000 in
theorem lawsEqVectorS {X : List Nat} {n c c2 : Nat} {A A2 : Option Addr} (w : World) (hr : Rd w w.heap.size 3 A n X) (hr2 : Rd w w.heap.size 3 A2 n X) (hn : n ≤ maxLen) :
    Calls Try.prog 29 #[.slice A n c, .slice A2 n c2] w (RetB true w) := by
  unfold maxLen at hn
  go_enter Try.func29, Try.ntmps29
  go_wp2_with fail
  go_loopw [5] (fun i wr => ∃ k : Nat, k ≤ n ∧ i = .int .i64 k ∧ Below w.heap.size w wr) (fun i _ => n - (intOf i).toNat)
  case atStart => exact ⟨0, Nat.zero_le _, rfl, Below.refl _ _⟩
  case round =>
    obtain ⟨k, hk, rfl, hbw⟩ := hrel
    by_cases hkn : k < n
    · have hl := hr.len
      obtain ⟨b, o, rfl, hb, hc⟩ := (hr.below hbw (Nat.le_refl _)).adr (by omega)
      obtain ⟨b2, o2, rfl, hb2, hc2⟩ := (hr2.below hbw (Nat.le_refl _)).adr (by omega)
      obtain ⟨x0, hx0⟩ := some_at (X := X) (i := k * 3) (by omega)
      obtain ⟨x1, hx1⟩ := some_at (X := X) (i := k * 3 + 1) (by omega)
      obtain ⟨x2, hx2⟩ := some_at (X := X) (i := k * 3 + 2) (by omega)
      obtain ⟨p0, q0, f0⟩ := hc _ _ hx0
      obtain ⟨p1, q1, f1⟩ := hc _ _ hx1
      obtain ⟨p2, q2, f2⟩ := hc _ _ hx2
      obtain ⟨r0, s0, g0⟩ := hc2 _ _ hx0
      obtain ⟨r1, s1, g1⟩ := hc2 _ _ hx1
      obtain ⟨r2, s2, g2⟩ := hc2 _ _ hx2
      have q1 : wr.cell? ⟨b, o + k * 3 + 1, none⟩ = some (.float .f32 p1) := q1
      have q2 : wr.cell? ⟨b, o + k * 3 + 2, none⟩ = some (.float .f32 p2) := q2
      have s1 : wr.cell? ⟨b2, o2 + k * 3 + 1, none⟩ = some (.float .f32 r1) := s1
      have s2 : wr.cell? ⟨b2, o2 + k * 3 + 2, none⟩ = some (.float .f32 r2) := s2
      clear hx0 hx1 hx2 hl hc hc2
      have k0 : (0 : Int) ≤ (k : Int) := by omega
      have k1 : (k : Int) < (n : Int) := by omega
      have hbz := hbw.size
      go_wp2_with fail
      go_region_held3 (fun w' => w'.cell? ⟨b, o + k * 3, none⟩ = some (.float .f32 p0) ∧ w'.cell? ⟨b, o + k * 3 + 1, none⟩ = some (.float .f32 p1) ∧ w'.cell? ⟨b, o + k * 3 + 2, none⟩ = some (.float .f32 p2) ∧ w'.cell? ⟨b2, o2 + k * 3, none⟩ = some (.float .f32 r0) ∧ w'.cell? ⟨b2, o2 + k * 3 + 1, none⟩ = some (.float .f32 r1) ∧ w'.cell? ⟨b2, o2 + k * 3 + 2, none⟩ = some (.float .f32 r2)) (go_keep)
        ((go_at_call 28; refine (lawsEqVector _ (Vb.eta (A := ⟨x0, x1, x2⟩) f0 f1 f2) (Vb.eta (A := ⟨x0, x1, x2⟩) g0 g1 g2)).mono ?_; rintro e w1 ⟨rfl, hb3⟩; (have hk1 : ∀ o, w1.cell? ⟨b, o, none⟩ = _ := fun o => hb3.cell (p := ⟨b, o, none⟩) (by first | (simp; done) | omega | (simp; omega))); (have hk2 : ∀ o, w1.cell? ⟨b2, o, none⟩ = _ := fun o => hb3.cell (p := ⟨b2, o, none⟩) (by first | (simp; done) | omega | (simp; omega)))))
      go_wp2_with fail
      go_roundw
      case rel => exact ⟨k + 1, by omega, by go_num, by (repeat (first | with_reducible exact Below.refl _ _ | with_reducible refine below_drewN ?_ _ | with_reducible refine Below.drew ?_ | with_reducible refine Below.alloc ?_ (by first | (simp; done) | omega | (simp; omega)) _ | with_reducible refine Below.setCell ?_ (by first | (simp; done) | omega | (simp; omega)) _ | with_reducible refine Below.trans ?_ (Below.mono (by assumption) (by first | (simp; done) | omega | (simp; omega)))))⟩
      case measure => simp [intOf]; omega
    · obtain rfl : k = n := by omega
      clear hr hr2
      go_wp2
      go_ret
      exact ⟨rfl, hbw⟩

set_option maxHeartbeats 1000000 in
theorem lawsMarkVectorS {X : List Nat} {n lo hi : Nat} {v : Value} {K : Int} (w : World) (ho : Ow w lo hi 26 3 v n X) (hn : n ≤ 1048576) (h0 : 0 ≤ K) (h1 : K ≤ 16777216) :
    Calls Try.prog 30 #[v, .int .i64 K] w fun e w' => e = .returned (.int .i64 (K + 3 * n)) ∧ Ow w' lo hi 26 3 v n (marks K (n * 3)) ∧ Only lo hi w w' := by
  by_cases hn0 : n = 0
  · subst hn0
    obtain ⟨A, c, rfl, _, _, hr⟩ := ho.shape
    have hX : X = [] := List.eq_nil_of_length_eq_zero (by have := ho.len; omega)
    subst hX
    have HO := Lib.hid ho
    clear ho hr
    go_enter Try.func30, Try.ntmps30
    go_wp2_with fail
    go_loopw [1, 5] (fun kk i wr => kk = .int .i64 K ∧ i = .int .i64 0 ∧ w = wr) (fun _ _ _ => 0)
    case atStart => exact ⟨rfl, rfl, rfl⟩
    case round =>
      obtain ⟨rfl, rfl, rfl⟩ := hrel
      go_wp2
      go_ret
      exact ⟨by simp, HO.out, Only.refl _ _ _⟩
  · obtain ⟨g, c, cs, rfl, hg, hg2, hblk, hnc, hcm, hcs⟩ := ho.block (by omega)
    have hiw := ho.hiw
    have HN := Lib.hid hn0
    clear hn0
    go_enter Try.func30, Try.ntmps30
    go_wp2_with fail
    go_loopw [1, 5] (fun kk i wr => ∃ k : Nat, k ≤ n ∧ kk = .int .i64 (K + 3 * (k : Int)) ∧ i = .int .i64 k ∧ Marking w wr lo hi g 26 3 c n k K) (fun _ i _ => n - (intOf i).toNat)
    case atStart => exact ⟨0, Nat.zero_le _, by simp, rfl, Only.refl _ _ _, cs, hblk, hcs, by rw [Nat.zero_mul]; exact CellsTo.zero _ _⟩
    case round =>
      obtain ⟨k, hk, rfl, rfl, hmk⟩ := hrel
      by_cases hkn : k < n
      · have HM := Lib.hid (Marking.step3 hkn hnc hg hg2 hmk)
        obtain ⟨_, cs', hb', hs', _⟩ := hmk
        have hfr := hb'.frozen
        have hmul : n * 3 ≤ c * 3 := Nat.mul_le_mul_right _ hnc
        obtain ⟨u0, hu0⟩ := some_cell (cs := cs') (i := k * 3) (by omega)
        obtain ⟨u1, hu1⟩ := some_cell (cs := cs') (i := k * 3 + 1) (by omega)
        obtain ⟨u2, hu2⟩ := some_cell (cs := cs') (i := k * 3 + 2) (by omega)
        have c0 := (hb'.cell _).trans hu0
        have c1 := (hb'.cell _).trans hu1
        have c2 := (hb'.cell _).trans hu2
        clear hu0 hu1 hu2 hs' hb' hblk hcs ho
        go_wp2_with fail
        go_roundw
        case rel => exact ⟨k + 1, by omega, by go_num, by go_num, HM.out⟩
        case measure => simp [intOf]; omega
      · obtain rfl : k = n := by omega
        have HD := Lib.hid (And.intro (hmk.done hg hg2 hnc hcm hiw) hmk.1)
        clear hmk hblk hcs ho
        go_wp2
        go_ret
        exact ⟨rfl, HD.out.1, HD.out.2⟩

set_option maxHeartbeats 1000000 in
theorem lawsHeldVectorS {n B c : Nat} {A : Option Addr} {K : Int} (w : World) (hr : Rd w B 3 A n (marks K (n * 3))) (hn : n ≤ 1048576) (h0 : 0 ≤ K) (h1 : K ≤ 16777216) :
    Calls Try.prog 31 #[.slice A n c, .int .i64 K] w fun e w' => e = .returned (.int .i64 (K + 3 * n)) ∧ w = w' := by
  go_enter Try.func31, Try.ntmps31
  go_wp2_with fail
  go_loopw [1, 5] (fun kk i wr => ∃ k : Nat, k ≤ n ∧ kk = .int .i64 (K + 3 * (k : Int)) ∧ i = .int .i64 k ∧ w = wr) (fun _ i _ => n - (intOf i).toNat)
  case atStart => exact ⟨0, Nat.zero_le _, by simp, rfl, rfl⟩
  case round =>
    obtain ⟨k, hk, rfl, rfl, rfl⟩ := hrel
    by_cases hkn : k < n
    · obtain ⟨b, o, rfl, hb, hc⟩ := hr.adr (by omega)
      obtain ⟨p0, q0, f0⟩ := hc _ _ (marks_at K (j := k * 3) (by omega))
      obtain ⟨p1, q1, f1⟩ := hc _ _ (marks_at K (j := k * 3 + 1) (by omega))
      obtain ⟨p2, q2, f2⟩ := hc _ _ (marks_at K (j := k * 3 + 2) (by omega))
      obtain rfl := mark_bits f0
      obtain rfl := mark_bits f1
      obtain rfl := mark_bits f2
      rw [show K + ((k * 3 : Nat) : Int) = K + 3 * (k : Int) from by omega] at q0
      rw [show K + ((k * 3 + 1 : Nat) : Int) = K + 3 * (k : Int) + 1 from by omega] at q1
      rw [show K + ((k * 3 + 2 : Nat) : Int) = K + 3 * (k : Int) + 1 + 1 from by omega] at q2
      have q1 : w.cell? ⟨b, o + k * 3 + 1, none⟩ = _ := q1
      have q2 : w.cell? ⟨b, o + k * 3 + 2, none⟩ = _ := q2
      have hom := order_mark
      clear f0 f1 f2 hc
      go_wp2_with fail
      go_roundw
      case rel => exact ⟨k + 1, by omega, by go_num, by go_num, by first | trivial | rfl⟩
      case measure => simp [intOf]; omega
    · obtain rfl : k = n := by omega
      clear hr
      go_wp2
      go_ret
      exact ⟨rfl, rfl⟩


end Go.Proofs.Ytjkpnnbahhlopaa
