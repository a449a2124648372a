/-
  Contracts of the vector functions of both packages. Conditions: none.
-/
import Derived.Test.YtokhbfbanofchaaRows
import Derived.Test.YtokhbfbanofchaaBA
namespace Go.Proofs.Ytokhbfbanofchaa
open Go Go.RowKit
attribute [local go_sem] run_store_float

set_option maxHeartbeats 400000 in
theorem implInner {A B : V3} {a b : Value} (w : World) (ha : Vb A a) (hb : Vb B b) : Calls Try.prog 57 #[a, b] w (RetF .f32 (innerV A B) w) := by
  obtain ⟨x, y, z, rfl, hx, hy, hz⟩ := ha
  obtain ⟨u, v, s, rfl, hu, hv, hs⟩ := hb
  go_enter Try.func57, Try.ntmps57
  go_wp2_with ((refine wpList_fop _ rfl rfl rfl rfl rfl (by (first | assumption | exact Fb_const (by decide +kernel) | exact Fb_ofInt _ _)) (by (first | assumption | exact Fb_const (by decide +kernel) | exact Fb_ofInt _ _)) ?_); intro r n hr)
  go_ret
  exact ⟨_, rfl, by assumption, by (repeat (first | with_reducible exact Below.refl _ _ | with_reducible refine below_drewN ?_ _ | with_reducible refine Below.drew ?_ | with_reducible refine Below.alloc ?_ (by first | (simp; done) | omega | (simp; omega)) _ | with_reducible refine Below.setCell ?_ (by first | (simp; done) | omega | (simp; omega)) _ | with_reducible refine Below.trans ?_ (Below.mono (by assumption) (by first | (simp; done) | omega | (simp; omega)))))⟩
set_option maxHeartbeats 400000 in
theorem specInner {A B : V3} {a b : Value} (w : World) (ha : Vb A a) (hb : Vb B b) : Calls Try.prog 53 #[a, b] w (RetF .f32 (innerV A B) w) := by
  obtain ⟨x, y, z, rfl, hx, hy, hz⟩ := ha
  obtain ⟨u, v, s, rfl, hu, hv, hs⟩ := hb
  go_enter Try.func53, Try.ntmps53
  go_wp2_with ((refine wpList_fop _ rfl rfl rfl rfl rfl (by (first | assumption | exact Fb_const (by decide +kernel) | exact Fb_ofInt _ _)) (by (first | assumption | exact Fb_const (by decide +kernel) | exact Fb_ofInt _ _)) ?_); intro r n hr)
  go_ret
  exact ⟨_, rfl, by assumption, by (repeat (first | with_reducible exact Below.refl _ _ | with_reducible refine below_drewN ?_ _ | with_reducible refine Below.drew ?_ | with_reducible refine Below.alloc ?_ (by first | (simp; done) | omega | (simp; omega)) _ | with_reducible refine Below.setCell ?_ (by first | (simp; done) | omega | (simp; omega)) _ | with_reducible refine Below.trans ?_ (Below.mono (by assumption) (by first | (simp; done) | omega | (simp; omega)))))⟩

set_option maxHeartbeats 400000 in
theorem implAdd {A B : V3} {a b : Value} (w : World) (ha : Vb A a) (hb : Vb B b) : Calls Try.prog 69 #[a, b] w (RetV (addV A B) w) := by
  obtain ⟨x, y, z, rfl, hx, hy, hz⟩ := ha
  obtain ⟨u, v, s, rfl, hu, hv, hs⟩ := hb
  go_enter Try.func69, Try.ntmps69
  go_wp2_with ((refine wpList_fop _ rfl rfl rfl rfl rfl (by (first | assumption | exact Fb_const (by decide +kernel) | exact Fb_ofInt _ _)) (by (first | assumption | exact Fb_const (by decide +kernel) | exact Fb_ofInt _ _)) ?_); intro r n hr)
  refine bodyPost_ret (v := ?v) ?h rfl ?_
  case h => (simp [results, Try.results69, go_sem]; rfl)
  exact ⟨_, rfl, Vb.eta (by assumption) (by assumption) (by assumption), by (repeat (first | with_reducible exact Below.refl _ _ | with_reducible refine below_drewN ?_ _ | with_reducible refine Below.drew ?_ | with_reducible refine Below.alloc ?_ (by first | (simp; done) | omega | (simp; omega)) _ | with_reducible refine Below.setCell ?_ (by first | (simp; done) | omega | (simp; omega)) _ | with_reducible refine Below.trans ?_ (Below.mono (by assumption) (by first | (simp; done) | omega | (simp; omega)))))⟩
set_option maxHeartbeats 400000 in
theorem specAdd {A B : V3} {a b : Value} (w : World) (ha : Vb A a) (hb : Vb B b) : Calls Try.prog 76 #[a, b] w (RetV (addV A B) w) := by
  obtain ⟨x, y, z, rfl, hx, hy, hz⟩ := ha
  obtain ⟨u, v, s, rfl, hu, hv, hs⟩ := hb
  go_enter Try.func76, Try.ntmps76
  go_wp2_with ((refine wpList_fop _ rfl rfl rfl rfl rfl (by (first | assumption | exact Fb_const (by decide +kernel) | exact Fb_ofInt _ _)) (by (first | assumption | exact Fb_const (by decide +kernel) | exact Fb_ofInt _ _)) ?_); intro r n hr)
  refine bodyPost_ret (v := ?v) ?h rfl ?_
  case h => (simp [results, Try.results76, go_sem]; rfl)
  exact ⟨_, rfl, Vb.eta (by assumption) (by assumption) (by assumption), by (repeat (first | with_reducible exact Below.refl _ _ | with_reducible refine below_drewN ?_ _ | with_reducible refine Below.drew ?_ | with_reducible refine Below.alloc ?_ (by first | (simp; done) | omega | (simp; omega)) _ | with_reducible refine Below.setCell ?_ (by first | (simp; done) | omega | (simp; omega)) _ | with_reducible refine Below.trans ?_ (Below.mono (by assumption) (by first | (simp; done) | omega | (simp; omega)))))⟩
set_option maxHeartbeats 400000 in
theorem implLess {A B : V3} {a b : Value} (w : World) (ha : Vb A a) (hb : Vb B b) : Calls Try.prog 70 #[a, b] w (RetV (lessV A B) w) := by
  obtain ⟨x, y, z, rfl, hx, hy, hz⟩ := ha
  obtain ⟨u, v, s, rfl, hu, hv, hs⟩ := hb
  go_enter Try.func70, Try.ntmps70
  go_wp2_with ((refine wpList_fop _ rfl rfl rfl rfl rfl (by (first | assumption | exact Fb_const (by decide +kernel) | exact Fb_ofInt _ _)) (by (first | assumption | exact Fb_const (by decide +kernel) | exact Fb_ofInt _ _)) ?_); intro r n hr)
  refine bodyPost_ret (v := ?v) ?h rfl ?_
  case h => (simp [results, Try.results70, go_sem]; rfl)
  exact ⟨_, rfl, Vb.eta (by assumption) (by assumption) (by assumption), by (repeat (first | with_reducible exact Below.refl _ _ | with_reducible refine below_drewN ?_ _ | with_reducible refine Below.drew ?_ | with_reducible refine Below.alloc ?_ (by first | (simp; done) | omega | (simp; omega)) _ | with_reducible refine Below.setCell ?_ (by first | (simp; done) | omega | (simp; omega)) _ | with_reducible refine Below.trans ?_ (Below.mono (by assumption) (by first | (simp; done) | omega | (simp; omega)))))⟩
set_option maxHeartbeats 400000 in
theorem specLess {A B : V3} {a b : Value} (w : World) (ha : Vb A a) (hb : Vb B b) : Calls Try.prog 88 #[a, b] w (RetV (lessV A B) w) := by
  obtain ⟨x, y, z, rfl, hx, hy, hz⟩ := ha
  obtain ⟨u, v, s, rfl, hu, hv, hs⟩ := hb
  go_enter Try.func88, Try.ntmps88
  go_wp2_with ((refine wpList_fop _ rfl rfl rfl rfl rfl (by (first | assumption | exact Fb_const (by decide +kernel) | exact Fb_ofInt _ _)) (by (first | assumption | exact Fb_const (by decide +kernel) | exact Fb_ofInt _ _)) ?_); intro r n hr)
  refine bodyPost_ret (v := ?v) ?h rfl ?_
  case h => (simp [results, Try.results88, go_sem]; rfl)
  exact ⟨_, rfl, Vb.eta (by assumption) (by assumption) (by assumption), by (repeat (first | with_reducible exact Below.refl _ _ | with_reducible refine below_drewN ?_ _ | with_reducible refine Below.drew ?_ | with_reducible refine Below.alloc ?_ (by first | (simp; done) | omega | (simp; omega)) _ | with_reducible refine Below.setCell ?_ (by first | (simp; done) | omega | (simp; omega)) _ | with_reducible refine Below.trans ?_ (Below.mono (by assumption) (by first | (simp; done) | omega | (simp; omega)))))⟩
set_option maxHeartbeats 400000 in
theorem implCross {A B : V3} {a b : Value} (w : World) (ha : Vb A a) (hb : Vb B b) : Calls Try.prog 61 #[a, b] w (RetV (crossV A B) w) := by
  obtain ⟨x, y, z, rfl, hx, hy, hz⟩ := ha
  obtain ⟨u, v, s, rfl, hu, hv, hs⟩ := hb
  go_enter Try.func61, Try.ntmps61
  go_wp2_with ((refine wpList_fop _ rfl rfl rfl rfl rfl (by (first | assumption | exact Fb_const (by decide +kernel) | exact Fb_ofInt _ _)) (by (first | assumption | exact Fb_const (by decide +kernel) | exact Fb_ofInt _ _)) ?_); intro r n hr)
  refine bodyPost_ret (v := ?v) ?h rfl ?_
  case h => (simp [results, Try.results61, go_sem]; rfl)
  exact ⟨_, rfl, Vb.eta (by assumption) (by assumption) (by assumption), by (repeat (first | with_reducible exact Below.refl _ _ | with_reducible refine below_drewN ?_ _ | with_reducible refine Below.drew ?_ | with_reducible refine Below.alloc ?_ (by first | (simp; done) | omega | (simp; omega)) _ | with_reducible refine Below.setCell ?_ (by first | (simp; done) | omega | (simp; omega)) _ | with_reducible refine Below.trans ?_ (Below.mono (by assumption) (by first | (simp; done) | omega | (simp; omega)))))⟩
set_option maxHeartbeats 400000 in
theorem specCross {A B : V3} {a b : Value} (w : World) (ha : Vb A a) (hb : Vb B b) : Calls Try.prog 59 #[a, b] w (RetV (crossV A B) w) := by
  obtain ⟨x, y, z, rfl, hx, hy, hz⟩ := ha
  obtain ⟨u, v, s, rfl, hu, hv, hs⟩ := hb
  go_enter Try.func59, Try.ntmps59
  go_wp2_with ((refine wpList_fop _ rfl rfl rfl rfl rfl (by (first | assumption | exact Fb_const (by decide +kernel) | exact Fb_ofInt _ _)) (by (first | assumption | exact Fb_const (by decide +kernel) | exact Fb_ofInt _ _)) ?_); intro r n hr)
  refine bodyPost_ret (v := ?v) ?h rfl ?_
  case h => (simp [results, Try.results59, go_sem]; rfl)
  exact ⟨_, rfl, Vb.eta (by assumption) (by assumption) (by assumption), by (repeat (first | with_reducible exact Below.refl _ _ | with_reducible refine below_drewN ?_ _ | with_reducible refine Below.drew ?_ | with_reducible refine Below.alloc ?_ (by first | (simp; done) | omega | (simp; omega)) _ | with_reducible refine Below.setCell ?_ (by first | (simp; done) | omega | (simp; omega)) _ | with_reducible refine Below.trans ?_ (Below.mono (by assumption) (by first | (simp; done) | omega | (simp; omega)))))⟩
set_option maxHeartbeats 400000 in
theorem implScale {A : V3} {B : Nat} {a : Value} {b : Nat} (w : World) (ha : Vb A a) (hb : Fb .f32 B b) : Calls Try.prog 85 #[a, .float .f32 b] w (RetV (scaleV A B) w) := by
  obtain ⟨x, y, z, rfl, hx, hy, hz⟩ := ha
  go_enter Try.func85, Try.ntmps85
  go_wp2_with ((refine wpList_fop _ rfl rfl rfl rfl rfl (by (first | assumption | exact Fb_const (by decide +kernel) | exact Fb_ofInt _ _)) (by (first | assumption | exact Fb_const (by decide +kernel) | exact Fb_ofInt _ _)) ?_); intro r n hr)
  refine bodyPost_ret (v := ?v) ?h rfl ?_
  case h => (simp [results, Try.results85, go_sem]; rfl)
  exact ⟨_, rfl, Vb.eta (by assumption) (by assumption) (by assumption), by (repeat (first | with_reducible exact Below.refl _ _ | with_reducible refine below_drewN ?_ _ | with_reducible refine Below.drew ?_ | with_reducible refine Below.alloc ?_ (by first | (simp; done) | omega | (simp; omega)) _ | with_reducible refine Below.setCell ?_ (by first | (simp; done) | omega | (simp; omega)) _ | with_reducible refine Below.trans ?_ (Below.mono (by assumption) (by first | (simp; done) | omega | (simp; omega)))))⟩
set_option maxHeartbeats 400000 in
theorem specScale {A : V3} {B : Nat} {a : Value} {b : Nat} (w : World) (ha : Vb A a) (hb : Fb .f32 B b) : Calls Try.prog 78 #[a, .float .f32 b] w (RetV (scaleV A B) w) := by
  obtain ⟨x, y, z, rfl, hx, hy, hz⟩ := ha
  go_enter Try.func78, Try.ntmps78
  go_wp2_with ((refine wpList_fop _ rfl rfl rfl rfl rfl (by (first | assumption | exact Fb_const (by decide +kernel) | exact Fb_ofInt _ _)) (by (first | assumption | exact Fb_const (by decide +kernel) | exact Fb_ofInt _ _)) ?_); intro r n hr)
  refine bodyPost_ret (v := ?v) ?h rfl ?_
  case h => (simp [results, Try.results78, go_sem]; rfl)
  exact ⟨_, rfl, Vb.eta (by assumption) (by assumption) (by assumption), by (repeat (first | with_reducible exact Below.refl _ _ | with_reducible refine below_drewN ?_ _ | with_reducible refine Below.drew ?_ | with_reducible refine Below.alloc ?_ (by first | (simp; done) | omega | (simp; omega)) _ | with_reducible refine Below.setCell ?_ (by first | (simp; done) | omega | (simp; omega)) _ | with_reducible refine Below.trans ?_ (Below.mono (by assumption) (by first | (simp; done) | omega | (simp; omega)))))⟩
end Go.Proofs.Ytokhbfbanofchaa
