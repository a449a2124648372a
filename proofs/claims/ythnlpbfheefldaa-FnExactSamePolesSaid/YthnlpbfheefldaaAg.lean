/-
  Branches, loops, the end of a call, regions that draw their order: abstractly. Conditions: none.
-/
import Derived.Test.YthnlpbfheefldaaAf
namespace Go.Proofs.Ythnlpbfheefldaa
open Go Go.RowKit

section
variable {P : Program} {w0 : World} {s : AS} {Q : Exit → Act → World → Prop}

theorem awp_seq {x y : Code} (h : AWp P w0 s x (Exit.then (y.wp P Q) Q)) : AWp P w0 s (.seq x y) Q := ⟨fun a w hs => wp_seq (h.out a w hs)⟩
theorem awp_skip (h : AEx w0 s .normal Q) : AWp P w0 s .skip Q := ⟨fun a w hs => wp_skip (h.out a w hs)⟩
theorem awp_ret (h : AEx w0 s .ret Q) : AWp P w0 s .ret Q := ⟨fun a w hs => wp_ret (h.out a w hs)⟩
theorem awp_exit {id : Nat} (h : AEx w0 s (.exit id) Q) : AWp P w0 s (.exit id) Q := ⟨fun a w hs => wp_exit (h.out a w hs)⟩
theorem awp_label {l : Nat} (h : AEx w0 s .normal Q) : AWp P w0 s (.label l) Q := ⟨fun a w hs => wp_label (h.out a w hs)⟩
theorem awp_block {id : Nat} {c : Code} (h : AWp P w0 s c (Exit.inBlock id Q)) : AWp P w0 s (.block id c) Q := ⟨fun a w hs => wp_block (h.out a w hs)⟩
theorem awp_cond {c : Operand} {x y : Code} {b : Bool} (hc : Opd s c (vv (.bool b))) (ht : b = true → AWp P w0 s x Q) (hf : b = false → AWp P w0 s y Q) : AWp P w0 s (.cond c x y) Q := by
  refine ⟨fun a w hs => ?_⟩
  exact wp_cond_split (hc w0 a w hs) (fun h => (ht h).out a w hs) (fun h => (hf h).out a w hs)
theorem awp_cond_t {c : Operand} {x y : Code} {b : Bool} (hc : Opd s c (vv (.bool b))) (hb : b = true) (ht : AWp P w0 s x Q) : AWp P w0 s (.cond c x y) Q :=
  awp_cond hc (fun _ => ht) (fun h => by rw [hb] at h; cases h)
theorem awp_cond_f {c : Operand} {x y : Code} {b : Bool} (hc : Opd s c (vv (.bool b))) (hb : b = false) (hf : AWp P w0 s y Q) : AWp P w0 s (.cond c x y) Q :=
  awp_cond hc (fun h => by rw [hb] at h; cases h) (fun _ => hf)
theorem awp_region {id : Nat} {l : List Oper} (h : AOps P w0 l.toArray s l Q) : AWp P w0 s (.region id l.toArray false) Q := ⟨fun a w hs => wp_region_lit (h.out a w hs)⟩

/- Where a piece of code ends. -/
theorem aex_then {y : Code} (h : AWp P w0 s y Q) : AEx w0 s .normal (Exit.then (y.wp P Q) Q) := ⟨h.out⟩
theorem aex_thenK {K : Act → World → Prop} (h : ∀ a w, Sat w0 s a w → K a w) : AEx w0 s .normal (Exit.then K Q) := ⟨h⟩
theorem aex_ret_then {K : Act → World → Prop} (h : AEx w0 s .ret Q) : AEx w0 s .ret (Exit.then K Q) := ⟨h.out⟩
theorem aex_exit_then {K : Act → World → Prop} {i : Nat} (h : AEx w0 s (.exit i) Q) : AEx w0 s (.exit i) (Exit.then K Q) := ⟨h.out⟩
theorem aex_ret_block {id : Nat} (h : AEx w0 s .ret Q) : AEx w0 s .ret (Exit.inBlock id Q) := ⟨h.out⟩
theorem aex_normal_block {id : Nat} (h : AEx w0 s .normal Q) : AEx w0 s .normal (Exit.inBlock id Q) := ⟨h.out⟩
theorem aex_exit_here {id : Nat} (h : AEx w0 s .normal Q) : AEx w0 s (.exit id) (Exit.inBlock id Q) := by
  refine ⟨fun a w hs => ?_⟩
  simp only [Exit.inBlock, if_true]; exact h.out a w hs
theorem aex_exit_out {i id : Nat} (hne : Nat.beq i id = false) (h : AEx w0 s (.exit i) Q) : AEx w0 s (.exit i) (Exit.inBlock id Q) := by
  refine ⟨fun a w hs => ?_⟩
  simp only [Exit.inBlock, if_neg (Nat.ne_of_beq_eq_false hne)]; exact h.out a w hs

/- Loops. -/
def Imp (s s' : AS) : Prop := ∀ w0 a w, Sat w0 s a w → Sat w0 s' a w
def Again {ι : Type} (w0 : World) (st : ι → AS) (p : ι → Prop) (m : ι → Nat) (n : Nat) (a : Act) (w : World) : Prop := ∃ y, p y ∧ m y < n ∧ Sat w0 (st y) a w
theorem wp_loop_rel {c : Code} {a : Act} {w : World} (J : Nat → Act → World → Prop) (n : Nat) (h0 : J n a w) (round : ∀ n a w, J n a w → c.wp P (Exit.then (fun a' w' => ∃ m, m < n ∧ J m a' w') Q) a w) : (Code.loop c).wp P Q a w := by
  intro b k cs
  have key : ∀ n a w, J n a w → ∃ e a' w', Q e a' w' ∧ Arrives P (lone (b.at a (.code c :: .inLoop c :: k)) cs w) b k cs e a' w' := by
    intro n
    induction n using Nat.strongRecOn with
    | _ n ih =>
      intro a w hJ
      obtain ⟨e, a₁, w₁, hq, harr⟩ := round n a w hJ b (.inLoop c :: k) cs
      cases e with
      | normal =>
        obtain ⟨m, hlt, hJ₁⟩ := hq
        obtain ⟨e₂, a₂, w₂, hq₂, harr₂⟩ := ih m hlt a₁ w₁ hJ₁
        exact ⟨e₂, a₂, w₂, hq₂, .of_steps (Steps.trans harr (.one step_inLoop)) harr₂⟩
      | exit id => exact ⟨_, a₁, w₁, hq, .pass (x := .inLoop c) rfl (fun _ _ => .inl (by simp)) harr⟩
      | goto l => exact ⟨_, a₁, w₁, hq, .pass (x := .inLoop c) rfl (fun _ _ => .inl (by simp)) harr⟩
      | ret => exact ⟨_, a₁, w₁, hq, .pass (x := .inLoop c) rfl (fun _ _ => .inl (by simp)) harr⟩
      | panic ch => exact ⟨_, a₁, w₁, hq, .pass (x := .inLoop c) rfl (fun _ _ => .inl (by simp)) harr⟩
      | outgrown => exact ⟨_, a₁, w₁, hq, .pass (x := .inLoop c) rfl (fun _ _ => .inl (by simp)) harr⟩
  obtain ⟨e, a', w', hq, harr⟩ := key n a w h0
  exact ⟨e, a', w', hq, .of_steps (.one step_loop) harr⟩
/-- A loop: st y is what is known at the head of a round, y ranges over whatever varies; m falls. -/
theorem awp_loop {ι : Type} {c : Code} (st : ι → AS) (p : ι → Prop) (m : ι → Nat) (x : ι) (hx : p x) (h0 : Imp s (st x)) (round : ∀ y, p y → AWp P w0 (st y) c (Exit.then (Again w0 st p m (m y)) Q)) : AWp P w0 s (.loop c) Q := by
  refine ⟨fun a w hs => ?_⟩
  exact wp_loop_rel (fun n a w => ∃ y, p y ∧ m y = n ∧ Sat w0 (st y) a w) (m x) ⟨x, hx, rfl, h0 w0 a w hs⟩ fun n a w ⟨y, hy, hm, hsy⟩ => by
    subst hm
    refine Code.wp_mono (fun e a w q => ?_) ((round y hy).out a w hsy)
    cases e
    case normal =>
      obtain ⟨z, hz, hlt, hsz⟩ := q
      exact ⟨m z, hlt, z, hz, rfl, hsz⟩
    all_goals exact q
theorem aex_again {ι : Type} {st : ι → AS} {p : ι → Prop} {m : ι → Nat} {n : Nat} (y : ι) (hy : p y) (hm : m y < n) (h : Imp s (st y)) : AEx w0 s .normal (Exit.then (Again w0 st p m n) Q) := ⟨fun a w hs => ⟨y, hy, hm, h w0 a w hs⟩⟩
def EnvImp (s : AS) : List (Nat × AV) → Prop
  | [] => True
  | (t, A) :: r => Opd s (.tmp t) A ∧ EnvImp s r
theorem EnvImp.nil : EnvImp s [] := trivial
theorem EnvImp.cons {t : Nat} {A : AV} {r : List (Nat × AV)} (h : Opd s (.tmp t) A) (k : EnvImp s r) : EnvImp s ((t, A) :: r) := ⟨h, k⟩
/-- The second memory is the first one less some entries. -/
inductive HSub : List HE → List HE → Prop where
  | nil : HSub [] []
  | keep {e H H'} : HSub H H' → HSub (e :: H) (e :: H')
  | drop {e H H'} : HSub H H' → HSub (e :: H) H'
theorem HSub.mem {H H' : List HE} (h : HSub H H') : ∀ e ∈ H', e ∈ H := by
  induction h with
  | nil => intro e he; exact he
  | keep _ ih => intro e he; cases he with
    | head => exact .head _
    | tail _ hm => exact .tail _ (ih e hm)
  | drop _ ih => intro e he; exact .tail _ (ih e he)
theorem HSub.ok {w0 w : World} {H H' : List HE} (h : HSub H H') : HOk w0 w H → HOk w0 w H' := by
  induction h with
  | nil => intro _; trivial
  | keep hp ih => intro hH; exact ⟨hH.1, fun g hg => ⟨(hH.2.1 g hg).1, (hH.2.1 g hg).2.1, fun x hx => (hH.2.1 g hg).2.2 x (hp.mem x hx)⟩, ih hH.2.2⟩
  | drop _ ih => intro hH; exact ih hH.2.2
theorem HSub.all : ∀ (H : List HE), HSub H []
  | [] => .nil
  | _ :: H => .drop (HSub.all H)
theorem EnvImp.look {s : AS} {w0 w : World} {a : Act} (hs : Sat w0 s a w) : ∀ {l : List (Nat × AV)}, EnvImp s l → ∀ t A, look t l = some A → A.R w0 (a.tmps.getD t undef)
  | (d, B) :: r, h, t, A, e => by
    unfold Go.Proofs.Ythnlpbfheefldaa.look at e
    split at e
    · rename_i hb
      obtain rfl : t = d := Nat.eq_of_beq_eq_true hb
      injection e with e
      subst e
      exact h.1 w0 a w hs
    · exact EnvImp.look hs h.2 t A e
theorem imp_mk {nt : Nat} {env env' : List (Nat × AV)} {H H' : List HE} (he : EnvImp ⟨nt, env, H⟩ env') (hh : HSub H H') : Imp ⟨nt, env, H⟩ ⟨nt, env', H'⟩ := fun w0 a w hs =>
  ⟨hs.below, hs.size, hs.defers, fun t A e => EnvImp.look hs he t A e, hh.ok hs.heap⟩
theorem awp_imp {s' : AS} {c : Code} (h : Imp s s') (k : AWp P w0 s' c Q) : AWp P w0 s c Q := ⟨fun a w hs => k.out a w (h w0 a w hs)⟩
theorem aex_imp {s' : AS} {e : Exit} (h : Imp s s') (k : AEx w0 s' e Q) : AEx w0 s e Q := ⟨fun a w hs => k.out a w (h w0 a w hs)⟩

/- The end of a call. -/
def resF (tmps : Array Value) : ResultVar → Sem Value
  | .tmp t => Pure.pure (tmps.getD t undef)
  | .cell x t => do loadVar t (← asAddr (tmps.getD x undef))
theorem results_eq (fn : Func) (tmps : Array Value) : results fn tmps = (do
    let vs ← fn.results.mapM (resF tmps)
    Pure.pure (if h : vs.size = 1 then vs[0] else .tuple vs)) := by
  unfold results
  congr 1
/-- What a result variable gives. -/
def ResV (P : Program) (s : AS) (r : ResultVar) (A : AV) : Prop := ∀ w0 a w, Sat w0 s a w → ∃ v, (resF a.tmps r).run P w = .ok v w ∧ A.R w0 v
theorem resV_tmp {t : Nat} {A : AV} (h : Opd s (.tmp t) A) : ResV P s (.tmp t) A := fun w0 a w hs => ⟨_, rfl, h w0 a w hs⟩
theorem resV_cellA {x t n b i : Nat} {l l' : List AV} (hx : Opd s (.tmp x) (ptr b i)) (ht : TyA P t n) (hm : HE.cells b l ∈ s.heap) (hl : (l.drop i).take n = l') (hn : l'.length = n) : ResV P s (.cell x t) (agg l') := fun w0 a w hs => by
  have e : a.tmps.getD x undef = .pointer (some ⟨b, i, none⟩) := hx w0 a w hs
  obtain ⟨v, hr, hv⟩ := run_loadA (w := w) (w0 := w0) (b := b) (p := i) ht hn fun j A hj => by
    rw [← hl, List.getElem?_take] at hj
    split at hj
    · rw [List.getElem?_drop] at hj
      exact own_cells hs hm hj
    · cases hj
  refine ⟨v, ?_, hv⟩
  simp only [resF, e, asAddr, Sem.run_bind, Sem.run_pure, Result.andThen_ok, hr]
def RetQ (w : World) (Q : World → Value → World → Prop) (e : Ending) (w' : World) : Prop := ∃ v, e = .returned v ∧ Below w.heap.size w w' ∧ Q w v w'
theorem aex_ret1 {fn : Func} {r : ResultVar} {A : AV} (hf : fn.results = #[r]) (h : ResV P s r A) (hp : A.p = true) : AEx w0 s .ret (bodyPost P fn (RetQ w0 (RetA A))) := by
  refine ⟨fun a w hs => ?_⟩
  obtain ⟨v, hr, hv⟩ := h w0 a w hs
  refine ⟨hs.defers, v, ?_, v, rfl, hs.below, fun wx => A.pure hp hv⟩
  rw [results_eq, hf]
  simp [hr]
theorem aex_ret2 {fn : Func} {r r' : ResultVar} {A B : AV} (hf : fn.results = #[r, r']) (h : ResV P s r A) (h' : ResV P s r' B) (hp : A.p = true) (hp' : B.p = true) : AEx w0 s .ret (bodyPost P fn (RetQ w0 (RetA (tup [A, B])))) := by
  refine ⟨fun a w hs => ?_⟩
  obtain ⟨v, hr, hv⟩ := h w0 a w hs
  obtain ⟨v', hr', hv'⟩ := h' w0 a w hs
  refine ⟨hs.defers, .tuple #[v, v'], ?_, _, rfl, hs.below, fun wx => ⟨[v, v'], rfl, A.pure hp hv, B.pure hp' hv', trivial⟩⟩
  rw [results_eq, hf]
  simp [hr, hr']
theorem aex_ret3 {fn : Func} {r r' r'' : ResultVar} {A B C : AV} (hf : fn.results = #[r, r', r'']) (h : ResV P s r A) (h' : ResV P s r' B) (h'' : ResV P s r'' C) (hp : A.p = true) (hp' : B.p = true) (hp'' : C.p = true) : AEx w0 s .ret (bodyPost P fn (RetQ w0 (RetA (tup [A, B, C])))) := by
  refine ⟨fun a w hs => ?_⟩
  obtain ⟨v, hr, hv⟩ := h w0 a w hs
  obtain ⟨v', hr', hv'⟩ := h' w0 a w hs
  obtain ⟨v'', hr'', hv''⟩ := h'' w0 a w hs
  refine ⟨hs.defers, .tuple #[v, v', v''], ?_, _, rfl, hs.below, fun wx => ⟨[v, v', v''], rfl, A.pure hp hv, B.pure hp' hv', C.pure hp'' hv'', trivial⟩⟩
  rw [results_eq, hf]
  simp [hr, hr', hr'']
/-- The end without a 'return'. -/
theorem aex_end {fn : Func} {R : Ending → World → Prop} (h : AEx w0 s .ret (bodyPost P fn R)) : AEx w0 s .normal (bodyPost P fn R) := ⟨h.out⟩

def zipEnv : Nat → List AV → List (Nat × AV)
  | _, [] => []
  | k, A :: l => (k, A) :: zipEnv (k + 1) l
theorem zipEnv_look {w : World} : ∀ {As : List AV} {vs : List Value} (k : Nat), All w As vs → ∀ t A, look t (zipEnv k As) = some A → ∃ j, t = k + j ∧ ∃ u, vs[j]? = some u ∧ A.R w u
  | B :: As, u :: vs, k, h, t, A, e => by
    unfold zipEnv look at e
    split at e
    · rename_i hb
      obtain rfl : t = k := Nat.eq_of_beq_eq_true hb
      injection e with e
      subst e
      exact ⟨0, rfl, u, rfl, h.1⟩
    · obtain ⟨j, hj, x, hx, hr⟩ := zipEnv_look (k + 1) h.2 t A e
      exact ⟨j + 1, by omega, x, by simpa using hx, hr⟩
/-- The way into a function. -/
theorem con_enter {f : FuncId} {fn : Func} {c : Code} {As : List AV} {nt : Nat} {Q : World → Value → World → Prop} (hf : P.funcs[f]? = some fn) (hb : fn.body = some c) (hn : (fn.name == "runtime.NumGoroutine") = false) (ht : fn.ntmps = nt) (hl : Nat.ble As.length nt = true)
    (h : ∀ w0, AWp P w0 ⟨nt, zipEnv 0 As, []⟩ c (bodyPost P fn (RetQ w0 Q))) : Con P f As Q := by
  refine ⟨⟨fn, hf, by rw [hb]; rfl, hn⟩, fun w vs hv => calls_of_wp hf hb ((h w).out _ w ⟨Below.refl _ _, ?_, rfl, fun t A e => ?_, trivial⟩)⟩
  · have := hv.length
    have hl' : As.length ≤ nt := Nat.ble_eq ▸ hl
    simp [ht]
    omega
  · obtain ⟨j, rfl, u, hu, hr⟩ := zipEnv_look 0 hv t A e
    have hj : j < vs.length := (List.getElem?_eq_some_iff.1 hu).1
    have : (vs.toArray ++ Array.replicate (fn.ntmps - vs.toArray.size) undef).getD (0 + j) undef = u := by
      rw [Array.getD_eq_getD_getElem?, Nat.zero_add, Array.getElem?_append_left (by simpa using hj)]
      simp [hu]
    rw [this]
    exact hr
/-- A contract out of one of the older form. -/
theorem con_of {f : FuncId} {As : List AV} {Q : World → Value → World → Prop} (hc : Can P f) (h : ∀ w vs, All w As vs → Calls P f vs.toArray w (RetQ w Q)) : Con P f As Q := ⟨hc, h⟩

end
end Go.Proofs.Ythnlpbfheefldaa
