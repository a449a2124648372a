/-
  Slices of the call's own that are handed back; parts of slices; guards that are parted. Conditions: none.
-/
import Derived.Test.YthnlpbfheefldaaAh
namespace Go.Proofs.Ythnlpbfheefldaa
open Go Go.RowKit

/-- The call hands back a value about a new slice of its own. -/
def RetRow (T size n : Nat) (c : Nat → List AV) (mk : Value → AV) (w : World) (v : Value) (w' : World) : Prop :=
  ∃ sv, (HE.row sv T size n c).ok w w' ∧ (∀ g, sv.ownBlock = some g → w.heap.size ≤ g ∧ g < w'.heap.size) ∧ ∀ wx, (mk sv).R wx v

section
variable {P : Program} {w0 : World} {s : AS}
theorem aex_ret1_row {fn : Func} {r : ResultVar} {v : Value} {T size n : Nat} {c : Nat → List AV} (hf : fn.results = #[r]) (h : ResV P s r (vv v)) (hm : HE.row v T size n c ∈ s.heap) : AEx w0 s .ret (bodyPost P fn (RetQ w0 (RetRow T size n c fun sv => vv sv))) := by
  refine ⟨fun a w hs => ?_⟩
  obtain ⟨u, hr, hv⟩ := h w0 a w hs
  obtain rfl : u = v := hv
  refine ⟨hs.defers, u, ?_, u, rfl, hs.below, u, hs.heap.get _ hm, fun g hg => hs.heap.foot _ hm g hg, fun _ => rfl⟩
  rw [results_eq, hf]
  simp [hr]
theorem aex_ret2_row {fn : Func} {r r' : ResultVar} {v : Value} {B : AV} {T size n : Nat} {c : Nat → List AV} (hf : fn.results = #[r, r']) (h : ResV P s r (vv v)) (h' : ResV P s r' B) (hp' : B.p = true) (hm : HE.row v T size n c ∈ s.heap) : AEx w0 s .ret (bodyPost P fn (RetQ w0 (RetRow T size n c fun sv => tup [vv sv, B]))) := by
  refine ⟨fun a w hs => ?_⟩
  obtain ⟨u, hr, hv⟩ := h w0 a w hs
  obtain rfl : u = v := hv
  obtain ⟨v', hr', hv'⟩ := h' w0 a w hs
  refine ⟨hs.defers, .tuple #[u, v'], ?_, _, rfl, hs.below, u, hs.heap.get _ hm, fun g hg => hs.heap.foot _ hm g hg, fun wx => ⟨[u, v'], rfl, rfl, B.pure hp' hv', trivial⟩⟩
  rw [results_eq, hf]
  simp [hr, hr']
theorem aex_nilrow {e : Exit} {Q : Exit → Act → World → Prop} {T size : Nat} {c : Nat → List AV} (k : AEx w0 ⟨s.nt, s.env, .row (.slice none 0 0) T size 0 c :: s.heap⟩ e Q) : AEx w0 s e Q :=
  ⟨fun a w hs => k.out a w ⟨hs.below, hs.size, hs.defers, hs.env, hs.heap.cons ⟨[], World.ownsRow_nil _ _ _ _, fun k hk => absurd hk (by omega), fun u hu => by simp at hu⟩ fun g hg => by simp [HE.foot, Value.ownBlock] at hg⟩⟩
theorem resV_bool {t : Nat} {b b' : Bool} (h : Opd s (.tmp t) (vv (.bool b))) (e : b = b') : ResV P s (.tmp t) (vv (.bool b')) := by subst e; exact resV_tmp h
theorem resV_as {t : Nat} {A B : AV} (h : Opd s (.tmp t) A) (e : A = B) : ResV P s (.tmp t) B := by subst e; exact resV_tmp h
end

section
variable {P : Program} {w0 : World} {ops : Array Oper} {nt : Nat} {env : List (Nat × AV)} {H : List HE} {rest : List Oper} {Q : Exit → Act → World → Prop} {op : Op} {ty : TypeId} {pos : String} {after : Array Edge}
/-- A call that hands back a new slice. -/
theorem aops_call1 {d : Nat} {f : FuncId} {x : Operand} {As : List AV} {T size n : Nat} {c : Nat → List AV} {mk : Value → AV} {args : List Operand} {ts : Array TypeId} (hx : Opd ⟨nt, env, H⟩ x (vv (.func (.func f) #[] #[]))) (hc : Con P f As (RetRow T size n c mk)) (ha : Givs ⟨nt, env, H⟩ args As) (hp : ∀ k, (c k).all (·.p) = true) (hd : Nat.blt d nt = true)
    (k : ∀ sv, AOps P w0 ops ⟨nt, (d, mk sv) :: env, .row sv T size n c :: H⟩ rest Q) : AOps P w0 ops ⟨nt, env, H⟩ (⟨some d, .call { callee := .value x, args := args.toArray, argTypes := ts }, ty, pos, after, none⟩ :: rest) Q := by
  refine ⟨fun a w hs => wpList_plain rfl fun K hK => ?_⟩
  have e : a.eval x = _ := hx w0 a w hs
  unfold Oper.wp
  rw [run_call hc.1 x args.toArray ts rfl a e w]
  have := hc.2 w (args.map a.eval) (ha.all hs)
  simp only [Oper.upon]
  rw [show args.toArray.map a.eval = (args.map a.eval).toArray by simp]
  refine this.mono fun e w' h => ?_
  obtain ⟨v, rfl, hb, sv, ⟨xs, ⟨hl, hown⟩, hrow, h1⟩, hg, hmk⟩ := h
  have hb0 : Below w0.heap.size w w' := hb.mono hs.below.size
  refine hK _ _ ((k sv).out _ _ (hs.step (A := mk sv) (dst := some d) hb0 (hmk w0) hd ((hs.heap.below hb).cons ⟨xs, ⟨hl, ?_⟩, fun j hj => (hrow j hj).pure (hp j), h1⟩ fun g hgg => ⟨Nat.le_trans hs.below.size (hg g hgg).1, (hg g hgg).2, fun e' he' hf => absurd (hs.heap.foot e' he' g hf).2 (by have := (hg g hgg).1; omega)⟩)))
  rcases hown with h0 | ⟨g, cap, cur, rfl, hgb, r⟩
  · exact .inl h0
  · exact .inr ⟨g, cap, cur, rfl, Nat.le_trans hs.below.size hgb, r⟩
/-- A guard is parted. -/
theorem aops_gcase {d : Option Tmp} {j dj : Nat} {want b : Bool} {s : AS} (hj : (ops[j]?).bind (·.dst) = some dj) (hb : look dj s.env = some (vv (.bool b))) (h1 : b = true → AOps P w0 ops s (⟨d, op, ty, pos, after, some (j, want)⟩ :: rest) Q) (h2 : b = false → AOps P w0 ops s (⟨d, op, ty, pos, after, some (j, want)⟩ :: rest) Q) : AOps P w0 ops s (⟨d, op, ty, pos, after, some (j, want)⟩ :: rest) Q := by
  cases b
  · exact h2 rfl
  · exact h1 rfl
end

section
variable {P : Program} {s : AS} {o : Oper}
theorem ev_pickT {c x y : Operand} {A : AV} {b : Bool} (ho : o.op = .pick c x y) (hc : Opd s c (vv (.bool b))) (hb : b = true) (hx : Opd s x A) : Ev P s o A := ev_pick ho hc (fun _ => hx) (fun h => by rw [hb] at h; cases h)
theorem ev_pickF {c x y : Operand} {A : AV} {b : Bool} (ho : o.op = .pick c x y) (hc : Opd s c (vv (.bool b))) (hb : b = false) (hy : Opd s y A) : Ev P s o A := ev_pick ho hc (fun h => by rw [hb] at h; cases h) (fun _ => hy)
/-- 's[i:]', s only read. -/
theorem ev_sliceLo {t e : TypeId} {x y : Operand} {q : IntKind} {size n k : Nat} {c : Nat → List AV} (ho : o.op = .slice t x (some y) none none) (hx : Opd s x (rs size n c)) (hy : Opd s y (vv (.int q (k : Int)))) (ht : TyS P t e size) (hk : k ≤ n) : Ev P s o (rs size (n - k) fun j => c (k + j)) := by
  refine ⟨fun w0 a w hs => ?_⟩
  obtain ⟨ad, cap, ex, hcap, h⟩ := hx w0 a w hs
  have ey : a.eval y = .int q (k : Int) := hy w0 a w hs
  obtain ⟨i, hu, hi, hs'⟩ := ht
  have hr : (Instr.sliceAt t (.slice ad n cap) (some (.int q (k : Int))) none none).run P w = .ok (.slice (if cap = k then ad else ad.map (·.add (k * size))) (n - k) (cap - k)) w := by
    simp [Instr.sliceAt, Instr.slice, run_underlying hu, Instr.sliceBounds, Instr.sliceBound, asIntOf, sizeOf, typeInfo, hi, hs', hk]
  simp only [execOp, ho, ex, ey, Option.map_some, Option.map_none, hr, Sem.run_bind, Sem.run_pure, Result.andThen_ok]
  refine .of_val ⟨_, _, rfl, by omega, fun h0 => ?_⟩
  obtain ⟨b, p, rfl, hl⟩ := h (by omega)
  refine ⟨b, p + k * size, ?_, fun j hj => ?_⟩
  · rw [if_neg (by omega)]
    simp [add_lit]
  · have := hl (k + j) (by omega)
    rw [Nat.add_mul, ← Nat.add_assoc] at this
    exact this
end

section
variable {P : Program} {s : AS} {o : Oper}
theorem Opd.cast {x : Operand} {q : IntKind} {z : Int} {k : Nat} (h : Opd s x (vv (.int q z))) (e : z = (k : Int)) : Opd s x (vv (.int q (k : Int))) := by subst e; exact h
theorem ev_indexZ {t e : TypeId} {x y : Operand} {q : IntKind} {size n : Nat} {z : Int} {c : Nat → List AV} (ho : o.op = .indexAddr t x y) (hx : Opd s x (rs size n c)) (hy : Opd s y (vv (.int q z))) (ht : TyS P t e size) (h0 : 0 ≤ z) (hk : z < n) : Ev P s o (rp (c z.toNat) 0) :=
  ev_index ho hx (hy.cast (k := z.toNat) (by omega)) ht (by omega)
theorem ev_sliceLoZ {t e : TypeId} {x y : Operand} {q : IntKind} {size n : Nat} {z : Int} {c : Nat → List AV} (ho : o.op = .slice t x (some y) none none) (hx : Opd s x (rs size n c)) (hy : Opd s y (vv (.int q z))) (ht : TyS P t e size) (h0 : 0 ≤ z) (hk : z ≤ n) : Ev P s o (rs size (n - z.toNat) fun j => c (z.toNat + j)) :=
  ev_sliceLo ho hx (hy.cast (k := z.toNat) (by omega)) ht (by omega)
end
/- Loops that count from 0 up to n. -/
def AgN (w0 : World) (st : Nat → AS) (n k : Nat) (a : Act) (w : World) : Prop := k + 1 ≤ n ∧ Sat w0 (st (k + 1)) a w
def AgV (w0 : World) (st : Nat → Value → AS) (n k : Nat) (a : Act) (w : World) : Prop := k + 1 ≤ n ∧ ∃ v, Sat w0 (st (k + 1) v) a w
section
variable {P : Program} {w0 : World} {s : AS} {Q : Exit → Act → World → Prop} {c : Code}
theorem awp_loopN (st : Nat → AS) (n : Nat) (h0 : Imp s (st 0)) (round : ∀ k, k ≤ n → AWp P w0 (st k) c (Exit.then (AgN w0 st n k) Q)) : AWp P w0 s (.loop c) Q :=
  awp_loop st (fun k => k ≤ n) (fun k => n - k) 0 (Nat.zero_le _) h0 fun k hk => ⟨fun a w hs => Code.wp_mono (fun e a w q => by
    cases e
    case normal => exact ⟨k + 1, q.1, by have := q.1; show n - (k + 1) < n - k; omega, q.2⟩
    all_goals exact q) ((round k hk).out a w hs)⟩
theorem awp_loopV (st : Nat → Value → AS) (n : Nat) (v0 : Value) (h0 : Imp s (st 0 v0)) (round : ∀ k v, k ≤ n → AWp P w0 (st k v) c (Exit.then (AgV w0 st n k) Q)) : AWp P w0 s (.loop c) Q :=
  awp_loop (ι := Nat × Value) (fun x => st x.1 x.2) (fun x => x.1 ≤ n) (fun x => n - x.1) (0, v0) (Nat.zero_le _) h0 fun x hk => ⟨fun a w hs => Code.wp_mono (fun e a w q => by
    cases e
    case normal =>
      obtain ⟨h1, v, h2⟩ := q
      exact ⟨(x.1 + 1, v), h1, by show n - (x.1 + 1) < n - x.1; omega, h2⟩
    all_goals exact q) ((round x.1 x.2 hk).out a w hs)⟩
theorem aex_agN {st : Nat → AS} {n k : Nat} (hk : k + 1 ≤ n) (h : Imp s (st (k + 1))) : AEx w0 s .normal (Exit.then (AgN w0 st n k) Q) := ⟨fun a w hs => ⟨hk, h w0 a w hs⟩⟩
theorem aex_agV {st : Nat → Value → AS} {n k : Nat} (v : Value) (hk : k + 1 ≤ n) (h : Imp s (st (k + 1) v)) : AEx w0 s .normal (Exit.then (AgV w0 st n k) Q) := ⟨fun a w hs => ⟨hk, v, h w0 a w hs⟩⟩
end
end Go.Proofs.Ythnlpbfheefldaa
