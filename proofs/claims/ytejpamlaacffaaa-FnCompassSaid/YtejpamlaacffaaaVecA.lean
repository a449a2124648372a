/-
  Contracts of the vector functions of both packages. Conditions: none.
-/
import Derived.Test.YtejpamlaacffaaaRows
import Derived.Test.YtejpamlaacffaaaBA
namespace Go.Proofs.Ytejpamlaacffaaa
open Go Go.RowKit
attribute [local go_sem] run_store_float

set_option maxHeartbeats 400000 in
theorem specInner {A B : V3} {a b : Value} (w : World) (ha : Vb A a) (hb : Vb B b) : Calls Try.prog 53 #[a, b] w (RetF .f32 (innerV A B) w) := by
  obtain ⟨x, y, z, rfl, hx, hy, hz⟩ := ha
  obtain ⟨u, v, s, rfl, hu, hv, hs⟩ := hb
  go_enter Try.func53, Try.ntmps53
  go_wp2_with ((refine wpList_fop _ rfl rfl rfl rfl rfl (by (first | assumption | exact Fb_const (by decide +kernel) | exact Fb_ofInt _ _)) (by (first | assumption | exact Fb_const (by decide +kernel) | exact Fb_ofInt _ _)) ?_); intro r n hr)
  go_ret
  exact ⟨_, rfl, by assumption, by (repeat (first | with_reducible exact Below.refl _ _ | with_reducible refine below_drewN ?_ _ | with_reducible refine Below.drew ?_ | with_reducible refine Below.alloc ?_ (by first | (simp; done) | omega | (simp; omega)) _ | with_reducible refine Below.setCell ?_ (by first | (simp; done) | omega | (simp; omega)) _ | with_reducible refine Below.trans ?_ (Below.mono (by assumption) (by first | (simp; done) | omega | (simp; omega)))))⟩

set_option maxHeartbeats 400000 in
theorem specAdd {A B : V3} {a b : Value} (w : World) (ha : Vb A a) (hb : Vb B b) : Calls Try.prog 41 #[a, b] w (RetV (addV A B) w) := by
  obtain ⟨x, y, z, rfl, hx, hy, hz⟩ := ha
  obtain ⟨u, v, s, rfl, hu, hv, hs⟩ := hb
  go_enter Try.func41, Try.ntmps41
  go_wp2_with ((refine wpList_fop _ rfl rfl rfl rfl rfl (by (first | assumption | exact Fb_const (by decide +kernel) | exact Fb_ofInt _ _)) (by (first | assumption | exact Fb_const (by decide +kernel) | exact Fb_ofInt _ _)) ?_); intro r n hr)
  refine bodyPost_ret (v := ?v) ?h rfl ?_
  case h => (simp [results, Try.results41, go_sem]; rfl)
  exact ⟨_, rfl, Vb.eta (by assumption) (by assumption) (by assumption), by (repeat (first | with_reducible exact Below.refl _ _ | with_reducible refine below_drewN ?_ _ | with_reducible refine Below.drew ?_ | with_reducible refine Below.alloc ?_ (by first | (simp; done) | omega | (simp; omega)) _ | with_reducible refine Below.setCell ?_ (by first | (simp; done) | omega | (simp; omega)) _ | with_reducible refine Below.trans ?_ (Below.mono (by assumption) (by first | (simp; done) | omega | (simp; omega)))))⟩
set_option maxHeartbeats 400000 in
theorem implLess {A B : V3} {a b : Value} (w : World) (ha : Vb A a) (hb : Vb B b) : Calls Try.prog 48 #[a, b] w (RetV (lessV A B) w) := by
  obtain ⟨x, y, z, rfl, hx, hy, hz⟩ := ha
  obtain ⟨u, v, s, rfl, hu, hv, hs⟩ := hb
  go_enter Try.func48, Try.ntmps48
  go_wp2_with ((refine wpList_fop _ rfl rfl rfl rfl rfl (by (first | assumption | exact Fb_const (by decide +kernel) | exact Fb_ofInt _ _)) (by (first | assumption | exact Fb_const (by decide +kernel) | exact Fb_ofInt _ _)) ?_); intro r n hr)
  refine bodyPost_ret (v := ?v) ?h rfl ?_
  case h => (simp [results, Try.results48, go_sem]; rfl)
  exact ⟨_, rfl, Vb.eta (by assumption) (by assumption) (by assumption), by (repeat (first | with_reducible exact Below.refl _ _ | with_reducible refine below_drewN ?_ _ | with_reducible refine Below.drew ?_ | with_reducible refine Below.alloc ?_ (by first | (simp; done) | omega | (simp; omega)) _ | with_reducible refine Below.setCell ?_ (by first | (simp; done) | omega | (simp; omega)) _ | with_reducible refine Below.trans ?_ (Below.mono (by assumption) (by first | (simp; done) | omega | (simp; omega)))))⟩
set_option maxHeartbeats 400000 in
theorem specLess {A B : V3} {a b : Value} (w : World) (ha : Vb A a) (hb : Vb B b) : Calls Try.prog 47 #[a, b] w (RetV (lessV A B) w) := by
  obtain ⟨x, y, z, rfl, hx, hy, hz⟩ := ha
  obtain ⟨u, v, s, rfl, hu, hv, hs⟩ := hb
  go_enter Try.func47, Try.ntmps47
  go_wp2_with ((refine wpList_fop _ rfl rfl rfl rfl rfl (by (first | assumption | exact Fb_const (by decide +kernel) | exact Fb_ofInt _ _)) (by (first | assumption | exact Fb_const (by decide +kernel) | exact Fb_ofInt _ _)) ?_); intro r n hr)
  refine bodyPost_ret (v := ?v) ?h rfl ?_
  case h => (simp [results, Try.results47, go_sem]; rfl)
  exact ⟨_, rfl, Vb.eta (by assumption) (by assumption) (by assumption), by (repeat (first | with_reducible exact Below.refl _ _ | with_reducible refine below_drewN ?_ _ | with_reducible refine Below.drew ?_ | with_reducible refine Below.alloc ?_ (by first | (simp; done) | omega | (simp; omega)) _ | with_reducible refine Below.setCell ?_ (by first | (simp; done) | omega | (simp; omega)) _ | with_reducible refine Below.trans ?_ (Below.mono (by assumption) (by first | (simp; done) | omega | (simp; omega)))))⟩
end Go.Proofs.Ytejpamlaacffaaa
