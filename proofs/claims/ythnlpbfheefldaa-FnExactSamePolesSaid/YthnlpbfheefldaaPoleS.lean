/-
  Slices of poles: the helpers of the laws. Conditions: none.
-/
import Derived.Test.YthnlpbfheefldaaVecB
import Derived.Test.YthnlpbfheefldaaMem
import Derived.OwnWalk
import Derived.Lib.Hide
import Derived.Deep.RegionHeld3
import Derived.Deep.DrawnRows
namespace Go.Proofs.Ythnlpbfheefldaa
open Go Go.RowKit
attribute [local go_sem] run_store_float
attribute [local go_sem ↓] Go.wp_at_zero Go.wp_at_succ

def RetP (A : V3) (S : Nat) (w : World) (e : Ending) (w' : World) : Prop := ∃ v, e = .returned v ∧ Pb A S v ∧ Below w.heap.size w w'

set_option maxHeartbeats 400000 in
theorem lawsToPole {A : V3} {S : Nat} {a : Value} (w : World) (ha : Pb A S a) : Calls Try.prog 42 #[a] w (RetP A S w) := by
  obtain ⟨x, y, z, s, rfl, hx, hy, hz, hs⟩ := ha
  go_enter Try.func42, Try.ntmps42
  go_wp2_with (go_at_call 19; refine (lawsToVector _ (Vb.eta (by assumption) (by assumption) (by assumption))).mono ?_; rintro e w1 ⟨_, rfl, ⟨c0, c1, c2, rfl, hr0, hr1, hr2⟩, hb⟩; (have hzb := hb.size; (try simp at hzb); (try (have hk : ∀ o, w1.cell? ⟨w.heap.size, o, none⟩ = _ := fun o => hb.cell (p := ⟨w.heap.size, o, none⟩) (by first | (simp; done) | omega | (simp; omega)))); (try (have hf : ∀ o, w1.frozen? ⟨w.heap.size, o, none⟩ = _ := fun o => hb.frozen (p := ⟨w.heap.size, o, none⟩) (by first | (simp; done) | omega | (simp; omega)))); (try (have hk : ∀ o, w1.cell? ⟨w.heap.size + 1, o, none⟩ = _ := fun o => hb.cell (p := ⟨w.heap.size + 1, o, none⟩) (by first | (simp; done) | omega | (simp; omega)))); (try (have hf : ∀ o, w1.frozen? ⟨w.heap.size + 1, o, none⟩ = _ := fun o => hb.frozen (p := ⟨w.heap.size + 1, o, none⟩) (by first | (simp; done) | omega | (simp; omega)))); (try (have hk : ∀ o, w1.cell? ⟨w.heap.size + 1 + 1, o, none⟩ = _ := fun o => hb.cell (p := ⟨w.heap.size + 1 + 1, o, none⟩) (by first | (simp; done) | omega | (simp; omega)))); (try (have hf : ∀ o, w1.frozen? ⟨w.heap.size + 1 + 1, o, none⟩ = _ := fun o => hb.frozen (p := ⟨w.heap.size + 1 + 1, o, none⟩) (by first | (simp; done) | omega | (simp; omega)))); (try (have hk : ∀ o, w1.cell? ⟨w.heap.size + 1 + 1 + 1, o, none⟩ = _ := fun o => hb.cell (p := ⟨w.heap.size + 1 + 1 + 1, o, none⟩) (by first | (simp; done) | omega | (simp; omega)))); (try (have hf : ∀ o, w1.frozen? ⟨w.heap.size + 1 + 1 + 1, o, none⟩ = _ := fun o => hb.frozen (p := ⟨w.heap.size + 1 + 1 + 1, o, none⟩) (by first | (simp; done) | omega | (simp; omega)))); (try (have hk : ∀ o, w1.cell? ⟨w.heap.size + 1 + 1 + 1 + 1, o, none⟩ = _ := fun o => hb.cell (p := ⟨w.heap.size + 1 + 1 + 1 + 1, o, none⟩) (by first | (simp; done) | omega | (simp; omega)))); (try (have hf : ∀ o, w1.frozen? ⟨w.heap.size + 1 + 1 + 1 + 1, o, none⟩ = _ := fun o => hb.frozen (p := ⟨w.heap.size + 1 + 1 + 1 + 1, o, none⟩) (by first | (simp; done) | omega | (simp; omega))))))
  refine bodyPost_ret (v := ?v) ?h rfl ?_
  case h => (simp [results, Try.results42, go_sem, *]; rfl)
  exact ⟨_, rfl, Pb.eta (by assumption) (by assumption) (by assumption) (by assumption), by (repeat (first | with_reducible exact Below.refl _ _ | with_reducible refine below_drewN ?_ _ | with_reducible refine Below.drew ?_ | with_reducible refine Below.alloc ?_ (by first | (simp; done) | omega | (simp; omega)) _ | with_reducible refine Below.setCell ?_ (by first | (simp; done) | omega | (simp; omega)) _ | with_reducible refine Below.trans ?_ (Below.mono (by assumption) (by first | (simp; done) | omega | (simp; omega)))))⟩

set_option maxHeartbeats 800000 in
theorem lawsEqPole {A : V3} {S : Nat} {a b : Value} (w : World) (ha : Pb A S a) (hb : Pb A S b) : Calls Try.prog 66 #[a, b] w (RetB true w) := by
  obtain ⟨x, y, z, p, rfl, hx, hy, hz, hp⟩ := ha
  obtain ⟨u, v, s, q, rfl, hu, hv, hs, hq⟩ := hb
  go_enter Try.func66, Try.ntmps66
  go_wp2_with (first | (first | (refine wpList_fcvt _ rfl (src := 22) (dst := 34) (s := .f32) (k := .f64) rfl rfl Try.underlying22 Try.underlying34 (by decide) (by assumption) ?_; intro r n hr0; have hr := hr0 (fits_widen _); clear hr0) | (refine wpList_fcvt _ rfl (src := 34) (dst := 22) (s := .f64) (k := .f32) rfl rfl Try.underlying34 Try.underlying22 (by decide) (by assumption) ?_; intro r n hr0; have hr := hr0 (by assumption); clear hr0)) | (go_at_call 21; refine (lawsSameFloat _ (by assumption) (by assumption)).mono ?_; rintro e w1 ⟨rfl, hb⟩; (have hzb := hb.size; (try simp at hzb); (try (have hk : ∀ o, w1.cell? ⟨w.heap.size, o, none⟩ = _ := fun o => hb.cell (p := ⟨w.heap.size, o, none⟩) (by first | (simp; done) | omega | (simp; omega)))); (try (have hf : ∀ o, w1.frozen? ⟨w.heap.size, o, none⟩ = _ := fun o => hb.frozen (p := ⟨w.heap.size, o, none⟩) (by first | (simp; done) | omega | (simp; omega)))); (try (have hk : ∀ o, w1.cell? ⟨w.heap.size + 1, o, none⟩ = _ := fun o => hb.cell (p := ⟨w.heap.size + 1, o, none⟩) (by first | (simp; done) | omega | (simp; omega)))); (try (have hf : ∀ o, w1.frozen? ⟨w.heap.size + 1, o, none⟩ = _ := fun o => hb.frozen (p := ⟨w.heap.size + 1, o, none⟩) (by first | (simp; done) | omega | (simp; omega)))); (try (have hk : ∀ o, w1.cell? ⟨w.heap.size + 1 + 1, o, none⟩ = _ := fun o => hb.cell (p := ⟨w.heap.size + 1 + 1, o, none⟩) (by first | (simp; done) | omega | (simp; omega)))); (try (have hf : ∀ o, w1.frozen? ⟨w.heap.size + 1 + 1, o, none⟩ = _ := fun o => hb.frozen (p := ⟨w.heap.size + 1 + 1, o, none⟩) (by first | (simp; done) | omega | (simp; omega)))); (try (have hk : ∀ o, w1.cell? ⟨w.heap.size + 1 + 1 + 1, o, none⟩ = _ := fun o => hb.cell (p := ⟨w.heap.size + 1 + 1 + 1, o, none⟩) (by first | (simp; done) | omega | (simp; omega)))); (try (have hf : ∀ o, w1.frozen? ⟨w.heap.size + 1 + 1 + 1, o, none⟩ = _ := fun o => hb.frozen (p := ⟨w.heap.size + 1 + 1 + 1, o, none⟩) (by first | (simp; done) | omega | (simp; omega)))); (try (have hk : ∀ o, w1.cell? ⟨w.heap.size + 1 + 1 + 1 + 1, o, none⟩ = _ := fun o => hb.cell (p := ⟨w.heap.size + 1 + 1 + 1 + 1, o, none⟩) (by first | (simp; done) | omega | (simp; omega)))); (try (have hf : ∀ o, w1.frozen? ⟨w.heap.size + 1 + 1 + 1 + 1, o, none⟩ = _ := fun o => hb.frozen (p := ⟨w.heap.size + 1 + 1 + 1 + 1, o, none⟩) (by first | (simp; done) | omega | (simp; omega)))))) | (go_at_call 24; refine (lawsEqVector _ (Vb.eta hx hy hz) (Vb.eta hu hv hs)).mono ?_; rintro e w1 ⟨rfl, hb⟩; (have hzb := hb.size; (try simp at hzb); (try (have hk : ∀ o, w1.cell? ⟨w.heap.size, o, none⟩ = _ := fun o => hb.cell (p := ⟨w.heap.size, o, none⟩) (by first | (simp; done) | omega | (simp; omega)))); (try (have hf : ∀ o, w1.frozen? ⟨w.heap.size, o, none⟩ = _ := fun o => hb.frozen (p := ⟨w.heap.size, o, none⟩) (by first | (simp; done) | omega | (simp; omega)))); (try (have hk : ∀ o, w1.cell? ⟨w.heap.size + 1, o, none⟩ = _ := fun o => hb.cell (p := ⟨w.heap.size + 1, o, none⟩) (by first | (simp; done) | omega | (simp; omega)))); (try (have hf : ∀ o, w1.frozen? ⟨w.heap.size + 1, o, none⟩ = _ := fun o => hb.frozen (p := ⟨w.heap.size + 1, o, none⟩) (by first | (simp; done) | omega | (simp; omega)))); (try (have hk : ∀ o, w1.cell? ⟨w.heap.size + 1 + 1, o, none⟩ = _ := fun o => hb.cell (p := ⟨w.heap.size + 1 + 1, o, none⟩) (by first | (simp; done) | omega | (simp; omega)))); (try (have hf : ∀ o, w1.frozen? ⟨w.heap.size + 1 + 1, o, none⟩ = _ := fun o => hb.frozen (p := ⟨w.heap.size + 1 + 1, o, none⟩) (by first | (simp; done) | omega | (simp; omega)))); (try (have hk : ∀ o, w1.cell? ⟨w.heap.size + 1 + 1 + 1, o, none⟩ = _ := fun o => hb.cell (p := ⟨w.heap.size + 1 + 1 + 1, o, none⟩) (by first | (simp; done) | omega | (simp; omega)))); (try (have hf : ∀ o, w1.frozen? ⟨w.heap.size + 1 + 1 + 1, o, none⟩ = _ := fun o => hb.frozen (p := ⟨w.heap.size + 1 + 1 + 1, o, none⟩) (by first | (simp; done) | omega | (simp; omega)))); (try (have hk : ∀ o, w1.cell? ⟨w.heap.size + 1 + 1 + 1 + 1, o, none⟩ = _ := fun o => hb.cell (p := ⟨w.heap.size + 1 + 1 + 1 + 1, o, none⟩) (by first | (simp; done) | omega | (simp; omega)))); (try (have hf : ∀ o, w1.frozen? ⟨w.heap.size + 1 + 1 + 1 + 1, o, none⟩ = _ := fun o => hb.frozen (p := ⟨w.heap.size + 1 + 1 + 1 + 1, o, none⟩) (by first | (simp; done) | omega | (simp; omega)))))))
  go_ret
  exact ⟨rfl, by (repeat (first | with_reducible exact Below.refl _ _ | with_reducible refine below_drewN ?_ _ | with_reducible refine Below.drew ?_ | with_reducible refine Below.alloc ?_ (by first | (simp; done) | omega | (simp; omega)) _ | with_reducible refine Below.setCell ?_ (by first | (simp; done) | omega | (simp; omega)) _ | with_reducible refine Below.trans ?_ (Below.mono (by assumption) (by first | (simp; done) | omega | (simp; omega)))))⟩

theorem infoPole : (Try.prog.info? 59).map (fun i => (i.zero, i.size, i.bytes)) = some (some (.agg #[.float .f32 0, .float .f32 0, .float .f32 0, .float .f32 0]), 4, 16) := by kernel_rfl

set_option maxHeartbeats 1000000 in
theorem lawsToPoleS {X : List Nat} {n c : Nat} {A : Option Addr} (w : World) (hr : Rd w w.heap.size 4 A n X) (hn : n ≤ 1048576) :
    Calls Try.prog 27 #[.slice A n c] w (RetS 59 4 n X w) := by
  obtain ⟨i0, hi, hz0, hz1, hz2⟩ := info_parts infoPole
  go_enter Try.func27, Try.ntmps27
  go_wp2_with (at_make; refine wpList_make_full _ rfl _ _ 41 rfl w.heap.size 59 i0 _ 4 Try.underlying41 hi hz0 hz1 .i64 .i64 _ _ n rfl rfl rfl rfl (by rw [hz2]; omega) (by simp [maxLen]; omega) (Nat.le_refl _) ?_; intro wm hown hgrow; have HF := Lib.hid (Filled.start (X := X) hown hgrow); clear hown hgrow)
  go_loopw [4] (fun i wr => ∃ k : Nat, k ≤ n ∧ i = .int .i64 k ∧ Filled w wr 59 4 n k X) (fun i _ => n - (intOf i).toNat)
  case atStart => exact ⟨0, Nat.zero_le _, rfl, HF.out⟩
  case round =>
    obtain ⟨k, hk, rfl, hbw, hlt, cs, hblk, hcs, hct⟩ := hrel
    by_cases hkn : k < n
    · have hl := hr.len
      obtain ⟨b, o, rfl, hb, hc⟩ := (hr.below hbw (Nat.le_refl _)).adr (by omega)
      obtain ⟨x0, hx0⟩ := some_at (X := X) (i := k * 4) (by omega)
      obtain ⟨x1, hx1⟩ := some_at (X := X) (i := k * 4 + 1) (by omega)
      obtain ⟨x2, hx2⟩ := some_at (X := X) (i := k * 4 + 2) (by omega)
      obtain ⟨x3, hx3⟩ := some_at (X := X) (i := k * 4 + 3) (by omega)
      obtain ⟨p0, q0, f0⟩ := hc _ _ hx0
      obtain ⟨p1, q1, f1⟩ := hc _ _ hx1
      obtain ⟨p2, q2, f2⟩ := hc _ _ hx2
      obtain ⟨p3, q3, f3⟩ := hc _ _ hx3
      have q1 : wr.cell? ⟨b, o + k * 4 + 1, none⟩ = some (.float .f32 p1) := q1
      have q2 : wr.cell? ⟨b, o + k * 4 + 2, none⟩ = some (.float .f32 p2) := q2
      have q3 : wr.cell? ⟨b, o + k * 4 + 3, none⟩ = some (.float .f32 p3) := q3
      have hfr := hblk.frozen
      obtain ⟨u0, hu0⟩ := some_cell (cs := cs) (i := k * 4) (by omega)
      obtain ⟨u1, hu1⟩ := some_cell (cs := cs) (i := k * 4 + 1) (by omega)
      obtain ⟨u2, hu2⟩ := some_cell (cs := cs) (i := k * 4 + 2) (by omega)
      obtain ⟨u3, hu3⟩ := some_cell (cs := cs) (i := k * 4 + 3) (by omega)
      have c0 := (hblk.cell _).trans hu0
      have c1 := (hblk.cell _).trans hu1
      have c2 := (hblk.cell _).trans hu2
      have c3 := (hblk.cell _).trans hu3
      have HX := Lib.hid (And.intro hx0 (And.intro hx1 (And.intro hx2 hx3)))
      have HL := Lib.hid (And.intro hl hcs)
      clear hx0 hx1 hx2 hx3 hu0 hu1 hu2 hu3 hl hcs hc HF
      go_wp2_with (go_at_call 42; refine (lawsToPole _ (Pb.eta (A := ⟨x0, x1, x2⟩) f0 f1 f2 f3)).mono ?_; rintro e w1 ⟨_, rfl, ⟨r0, r1, r2, r3, rfl, hr0, hr1, hr2, hr3⟩, hb1⟩; have hb := hb1; (have hzb := hb.size; (try simp at hzb); (try (have hk : ∀ o, w1.cell? ⟨w.heap.size, o, none⟩ = _ := fun o => hb.cell (p := ⟨w.heap.size, o, none⟩) (by first | (simp; done) | omega | (simp; omega)))); (try (have hf : ∀ o, w1.frozen? ⟨w.heap.size, o, none⟩ = _ := fun o => hb.frozen (p := ⟨w.heap.size, o, none⟩) (by first | (simp; done) | omega | (simp; omega)))); (try (have hk : ∀ o, w1.cell? ⟨w.heap.size + 1, o, none⟩ = _ := fun o => hb.cell (p := ⟨w.heap.size + 1, o, none⟩) (by first | (simp; done) | omega | (simp; omega)))); (try (have hf : ∀ o, w1.frozen? ⟨w.heap.size + 1, o, none⟩ = _ := fun o => hb.frozen (p := ⟨w.heap.size + 1, o, none⟩) (by first | (simp; done) | omega | (simp; omega)))); (try (have hk : ∀ o, w1.cell? ⟨w.heap.size + 1 + 1, o, none⟩ = _ := fun o => hb.cell (p := ⟨w.heap.size + 1 + 1, o, none⟩) (by first | (simp; done) | omega | (simp; omega)))); (try (have hf : ∀ o, w1.frozen? ⟨w.heap.size + 1 + 1, o, none⟩ = _ := fun o => hb.frozen (p := ⟨w.heap.size + 1 + 1, o, none⟩) (by first | (simp; done) | omega | (simp; omega)))); (try (have hk : ∀ o, w1.cell? ⟨w.heap.size + 1 + 1 + 1, o, none⟩ = _ := fun o => hb.cell (p := ⟨w.heap.size + 1 + 1 + 1, o, none⟩) (by first | (simp; done) | omega | (simp; omega)))); (try (have hf : ∀ o, w1.frozen? ⟨w.heap.size + 1 + 1 + 1, o, none⟩ = _ := fun o => hb.frozen (p := ⟨w.heap.size + 1 + 1 + 1, o, none⟩) (by first | (simp; done) | omega | (simp; omega)))); (try (have hk : ∀ o, w1.cell? ⟨w.heap.size + 1 + 1 + 1 + 1, o, none⟩ = _ := fun o => hb.cell (p := ⟨w.heap.size + 1 + 1 + 1 + 1, o, none⟩) (by first | (simp; done) | omega | (simp; omega)))); (try (have hf : ∀ o, w1.frozen? ⟨w.heap.size + 1 + 1 + 1 + 1, o, none⟩ = _ := fun o => hb.frozen (p := ⟨w.heap.size + 1 + 1 + 1 + 1, o, none⟩) (by first | (simp; done) | omega | (simp; omega))))); clear hb)
      go_roundw
      case rel => exact ⟨k + 1, by omega, by go_num, Filled.step4 hkn hbw hlt hblk HL.out.2 hct hb1 HX.out.1 HX.out.2.1 HX.out.2.2.1 HX.out.2.2.2 hr0 hr1 hr2 hr3⟩
      case measure => simp [intOf]; omega
    · obtain rfl : k = n := by omega
      have HD := Lib.hid (Filled.done ⟨hbw, hlt, cs, hblk, hcs, hct⟩ hr.len (by simp [maxLen]; omega))
      clear hblk hcs hct HF
      go_wp2
      go_ret
      exact ⟨_, rfl, HD.out, hbw⟩

theorem lawsSzPoleS {n c : Nat} {A : Option Addr} {L : Int} (w : World) (h0 : 0 ≤ L) (h1 : L ≤ 1048576) (hn : n ≤ maxLen) (hL : (n : Int) ≤ L) :
    Calls Try.prog 25 #[.slice A n c, .int .i64 L] w fun e w' => e = .returned (.int .i64 (L - n)) ∧ w = w' := by
  unfold maxLen at hn
  go_enter Try.func25, Try.ntmps25
  go_wp2
  go_ret
  exact ⟨rfl, rfl⟩
theorem lawsSzPoleS_no {n c : Nat} {A : Option Addr} {L : Int} (w : World) (h0 : 0 ≤ L) (h1 : L ≤ 1048576) (hn : n ≤ maxLen) (hL : L < (n : Int)) :
    Calls Try.prog 25 #[.slice A n c, .int .i64 L] w fun e w' => e = .returned (.int .i64 (-1)) ∧ w = w' := by
  unfold maxLen at hn
  go_enter Try.func25, Try.ntmps25
  go_wp2
  go_ret
  exact ⟨rfl, rfl⟩

set_option maxHeartbeats 1000000 in
theorem lawsEqPoleS {X : List Nat} {n c c2 : Nat} {A A2 : Option Addr} (w : World) (hr : Rd w w.heap.size 4 A n X) (hr2 : Rd w w.heap.size 4 A2 n X) (hn : n ≤ maxLen) :
    Calls Try.prog 29 #[.slice A n c, .slice A2 n c2] w (RetB true w) := by
  unfold maxLen at hn
  go_enter Try.func29, Try.ntmps29
  go_wp2_with fail
  go_loopw [5] (fun i wr => ∃ k : Nat, k ≤ n ∧ i = .int .i64 k ∧ Below w.heap.size w wr) (fun i _ => n - (intOf i).toNat)
  case atStart => exact ⟨0, Nat.zero_le _, rfl, Below.refl _ _⟩
  case round =>
    obtain ⟨k, hk, rfl, hbw⟩ := hrel
    by_cases hkn : k < n
    · have hl := hr.len
      obtain ⟨b, o, rfl, hb, hc⟩ := (hr.below hbw (Nat.le_refl _)).adr (by omega)
      obtain ⟨b2, o2, rfl, hb2, hc2⟩ := (hr2.below hbw (Nat.le_refl _)).adr (by omega)
      obtain ⟨x0, hx0⟩ := some_at (X := X) (i := k * 4) (by omega)
      obtain ⟨x1, hx1⟩ := some_at (X := X) (i := k * 4 + 1) (by omega)
      obtain ⟨x2, hx2⟩ := some_at (X := X) (i := k * 4 + 2) (by omega)
      obtain ⟨x3, hx3⟩ := some_at (X := X) (i := k * 4 + 3) (by omega)
      obtain ⟨p0, q0, f0⟩ := hc _ _ hx0
      obtain ⟨p1, q1, f1⟩ := hc _ _ hx1
      obtain ⟨p2, q2, f2⟩ := hc _ _ hx2
      obtain ⟨p3, q3, f3⟩ := hc _ _ hx3
      obtain ⟨r0, s0, g0⟩ := hc2 _ _ hx0
      obtain ⟨r1, s1, g1⟩ := hc2 _ _ hx1
      obtain ⟨r2, s2, g2⟩ := hc2 _ _ hx2
      obtain ⟨r3, s3, g3⟩ := hc2 _ _ hx3
      have q1 : wr.cell? ⟨b, o + k * 4 + 1, none⟩ = some (.float .f32 p1) := q1
      have q2 : wr.cell? ⟨b, o + k * 4 + 2, none⟩ = some (.float .f32 p2) := q2
      have q3 : wr.cell? ⟨b, o + k * 4 + 3, none⟩ = some (.float .f32 p3) := q3
      have s1 : wr.cell? ⟨b2, o2 + k * 4 + 1, none⟩ = some (.float .f32 r1) := s1
      have s2 : wr.cell? ⟨b2, o2 + k * 4 + 2, none⟩ = some (.float .f32 r2) := s2
      have s3 : wr.cell? ⟨b2, o2 + k * 4 + 3, none⟩ = some (.float .f32 r3) := s3
      clear hx0 hx1 hx2 hx3 hl hc hc2
      have k0 : (0 : Int) ≤ (k : Int) := by omega
      have k1 : (k : Int) < (n : Int) := by omega
      have hbz := hbw.size
      go_wp2_with fail
      go_region_held3 (fun w' => w'.cell? ⟨b, o + k * 4, none⟩ = some (.float .f32 p0) ∧ w'.cell? ⟨b, o + k * 4 + 1, none⟩ = some (.float .f32 p1) ∧ w'.cell? ⟨b, o + k * 4 + 2, none⟩ = some (.float .f32 p2) ∧ w'.cell? ⟨b, o + k * 4 + 3, none⟩ = some (.float .f32 p3) ∧ w'.cell? ⟨b2, o2 + k * 4, none⟩ = some (.float .f32 r0) ∧ w'.cell? ⟨b2, o2 + k * 4 + 1, none⟩ = some (.float .f32 r1) ∧ w'.cell? ⟨b2, o2 + k * 4 + 2, none⟩ = some (.float .f32 r2) ∧ w'.cell? ⟨b2, o2 + k * 4 + 3, none⟩ = some (.float .f32 r3)) (go_keep)
        ((go_at_call 66; refine (lawsEqPole _ (Pb.eta (A := ⟨x0, x1, x2⟩) f0 f1 f2 f3) (Pb.eta (A := ⟨x0, x1, x2⟩) g0 g1 g2 g3)).mono ?_; rintro e w1 ⟨rfl, hb3⟩; (have hk1 : ∀ o, w1.cell? ⟨b, o, none⟩ = _ := fun o => hb3.cell (p := ⟨b, o, none⟩) (by first | (simp; done) | omega | (simp; omega))); (have hk2 : ∀ o, w1.cell? ⟨b2, o, none⟩ = _ := fun o => hb3.cell (p := ⟨b2, o, none⟩) (by first | (simp; done) | omega | (simp; omega)))))
      go_wp2_with fail
      go_roundw
      case rel => exact ⟨k + 1, by omega, by go_num, by (repeat (first | with_reducible exact Below.refl _ _ | with_reducible refine below_drewN ?_ _ | with_reducible refine Below.drew ?_ | with_reducible refine Below.alloc ?_ (by first | (simp; done) | omega | (simp; omega)) _ | with_reducible refine Below.setCell ?_ (by first | (simp; done) | omega | (simp; omega)) _ | with_reducible refine Below.trans ?_ (Below.mono (by assumption) (by first | (simp; done) | omega | (simp; omega)))))⟩
      case measure => simp [intOf]; omega
    · obtain rfl : k = n := by omega
      clear hr hr2
      go_wp2
      go_ret
      exact ⟨rfl, hbw⟩

set_option maxHeartbeats 1000000 in
theorem lawsMarkPoleS {X : List Nat} {n lo hi : Nat} {v : Value} {K : Int} (w : World) (ho : Ow w lo hi 59 4 v n X) (hn : n ≤ 1048576) (h0 : 0 ≤ K) (h1 : K ≤ 16777216) :
    Calls Try.prog 32 #[v, .int .i64 K] w fun e w' => e = .returned (.int .i64 (K + 4 * n)) ∧ Ow w' lo hi 59 4 v n (marks K (n * 4)) ∧ Only lo hi w w' := by
  by_cases hn0 : n = 0
  · subst hn0
    obtain ⟨A, c, rfl, _, _, hr⟩ := ho.shape
    have hX : X = [] := List.eq_nil_of_length_eq_zero (by have := ho.len; omega)
    subst hX
    have HO := Lib.hid ho
    clear ho hr
    go_enter Try.func32, Try.ntmps32
    go_wp2_with fail
    go_loopw [1, 5] (fun kk i wr => kk = .int .i64 K ∧ i = .int .i64 0 ∧ w = wr) (fun _ _ _ => 0)
    case atStart => exact ⟨rfl, rfl, rfl⟩
    case round =>
      obtain ⟨rfl, rfl, rfl⟩ := hrel
      go_wp2
      go_ret
      exact ⟨by simp, HO.out, Only.refl _ _ _⟩
  · obtain ⟨g, c, cs, rfl, hg, hg2, hblk, hnc, hcm, hcs⟩ := ho.block (by omega)
    have hiw := ho.hiw
    have HN := Lib.hid hn0
    clear hn0
    go_enter Try.func32, Try.ntmps32
    go_wp2_with fail
    go_loopw [1, 5] (fun kk i wr => ∃ k : Nat, k ≤ n ∧ kk = .int .i64 (K + 4 * (k : Int)) ∧ i = .int .i64 k ∧ Marking w wr lo hi g 59 4 c n k K) (fun _ i _ => n - (intOf i).toNat)
    case atStart => exact ⟨0, Nat.zero_le _, by simp, rfl, Only.refl _ _ _, cs, hblk, hcs, by rw [Nat.zero_mul]; exact CellsTo.zero _ _⟩
    case round =>
      obtain ⟨k, hk, rfl, rfl, hmk⟩ := hrel
      by_cases hkn : k < n
      · have HM := Lib.hid (Marking.step4 hkn hnc hg hg2 hmk)
        obtain ⟨_, cs', hb', hs', _⟩ := hmk
        have hfr := hb'.frozen
        have hmul : n * 4 ≤ c * 4 := Nat.mul_le_mul_right _ hnc
        obtain ⟨u0, hu0⟩ := some_cell (cs := cs') (i := k * 4) (by omega)
        obtain ⟨u1, hu1⟩ := some_cell (cs := cs') (i := k * 4 + 1) (by omega)
        obtain ⟨u2, hu2⟩ := some_cell (cs := cs') (i := k * 4 + 2) (by omega)
        obtain ⟨u3, hu3⟩ := some_cell (cs := cs') (i := k * 4 + 3) (by omega)
        have c0 := (hb'.cell _).trans hu0
        have c1 := (hb'.cell _).trans hu1
        have c2 := (hb'.cell _).trans hu2
        have c3 := (hb'.cell _).trans hu3
        clear hu0 hu1 hu2 hu3 hs' hb' hblk hcs ho
        go_wp2_with fail
        go_roundw
        case rel => exact ⟨k + 1, by omega, by go_num, by go_num, HM.out⟩
        case measure => simp [intOf]; omega
      · obtain rfl : k = n := by omega
        have HD := Lib.hid (And.intro (hmk.done hg hg2 hnc hcm hiw) hmk.1)
        clear hmk hblk hcs ho
        go_wp2
        go_ret
        exact ⟨rfl, HD.out.1, HD.out.2⟩

set_option maxHeartbeats 1000000 in
theorem lawsHeldPoleS {n B c : Nat} {A : Option Addr} {K : Int} (w : World) (hr : Rd w B 4 A n (marks K (n * 4))) (hn : n ≤ 1048576) (h0 : 0 ≤ K) (h1 : K ≤ 16777216) :
    Calls Try.prog 33 #[.slice A n c, .int .i64 K] w fun e w' => e = .returned (.int .i64 (K + 4 * n)) ∧ w = w' := by
  go_enter Try.func33, Try.ntmps33
  go_wp2_with fail
  go_loopw [1, 5] (fun kk i wr => ∃ k : Nat, k ≤ n ∧ kk = .int .i64 (K + 4 * (k : Int)) ∧ i = .int .i64 k ∧ w = wr) (fun _ i _ => n - (intOf i).toNat)
  case atStart => exact ⟨0, Nat.zero_le _, by simp, rfl, rfl⟩
  case round =>
    obtain ⟨k, hk, rfl, rfl, rfl⟩ := hrel
    by_cases hkn : k < n
    · obtain ⟨b, o, rfl, hb, hc⟩ := hr.adr (by omega)
      obtain ⟨p0, q0, f0⟩ := hc _ _ (marks_at K (j := k * 4) (by omega))
      obtain ⟨p1, q1, f1⟩ := hc _ _ (marks_at K (j := k * 4 + 1) (by omega))
      obtain ⟨p2, q2, f2⟩ := hc _ _ (marks_at K (j := k * 4 + 2) (by omega))
      obtain ⟨p3, q3, f3⟩ := hc _ _ (marks_at K (j := k * 4 + 3) (by omega))
      obtain rfl := mark_bits f0
      obtain rfl := mark_bits f1
      obtain rfl := mark_bits f2
      obtain rfl := mark_bits f3
      rw [show K + ((k * 4 : Nat) : Int) = K + 4 * (k : Int) from by omega] at q0
      rw [show K + ((k * 4 + 1 : Nat) : Int) = K + 4 * (k : Int) + 1 from by omega] at q1
      rw [show K + ((k * 4 + 2 : Nat) : Int) = K + 4 * (k : Int) + 1 + 1 from by omega] at q2
      rw [show K + ((k * 4 + 3 : Nat) : Int) = K + 4 * (k : Int) + 1 + 1 + 1 from by omega] at q3
      have q1 : w.cell? ⟨b, o + k * 4 + 1, none⟩ = _ := q1
      have q2 : w.cell? ⟨b, o + k * 4 + 2, none⟩ = _ := q2
      have q3 : w.cell? ⟨b, o + k * 4 + 3, none⟩ = _ := q3
      have hom := order_mark
      clear f0 f1 f2 f3 hc
      go_wp2_with fail
      go_roundw
      case rel => exact ⟨k + 1, by omega, by go_num, by go_num, by first | trivial | rfl⟩
      case measure => simp [intOf]; omega
    · obtain rfl : k = n := by omega
      clear hr
      go_wp2
      go_ret
      exact ⟨rfl, rfl⟩


end Go.Proofs.Ythnlpbfheefldaa
