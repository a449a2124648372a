/-
  Calls that turn memory of the caller's own; closures; parts of elements written and read; slices that grow by slices; slices cut. Conditions: none.
-/
import Derived.Test.YthnlpbfheefldaaAn
import Derived.Laws.AppendOwnNone
namespace Go.Proofs.Ythnlpbfheefldaa
open Go Go.RowKit

theorem HSub.refl : ∀ H, HSub H H
  | [] => .nil
  | _ :: H => .keep (HSub.refl H)

/-- Memory in two parts. -/
inductive HSplit : List HE → List HE → List HE → Prop where
  | nil : HSplit [] [] []
  | left {e A H R} : HSplit A H R → HSplit (e :: A) (e :: H) R
  | right {e A H R} : HSplit A H R → HSplit (e :: A) H (e :: R)
theorem HSplit.mem {A H R : List HE} (h : HSplit A H R) : (∀ e ∈ H, e ∈ A) ∧ ∀ e ∈ R, e ∈ A := by
  induction h with
  | nil => exact ⟨fun e h => h, fun e h => h⟩
  | left _ ih => exact ⟨fun e h => by
      cases h with
      | head => exact .head _
      | tail _ h => exact .tail _ (ih.1 e h), fun e h => .tail _ (ih.2 e h)⟩
  | right _ ih => exact ⟨fun e h => .tail _ (ih.1 e h), fun e h => by
      cases h with
      | head => exact .head _
      | tail _ h => exact .tail _ (ih.2 e h)⟩
theorem HSplit.ok {w0 w : World} {A H R : List HE} (h : HSplit A H R) : HOk w0 w A → HOk w0 w H ∧ HOk w0 w R ∧ ∀ e ∈ H, ∀ e' ∈ R, ∀ g, e.foot g → ¬ e'.foot g := by
  induction h with
  | nil => intro _; exact ⟨trivial, trivial, fun e h => by cases h⟩
  | @left e A H R hs ih =>
    intro hA
    obtain ⟨h1, h2, h3⟩ := ih hA.2.2
    refine ⟨⟨hA.1, fun g hg => ⟨(hA.2.1 g hg).1, (hA.2.1 g hg).2.1, fun e' he' => (hA.2.1 g hg).2.2 e' (hs.mem.1 e' he')⟩, h1⟩, h2, fun x hx e' he' g hg => ?_⟩
    cases hx with
    | head => exact (hA.2.1 g hg).2.2 e' (hs.mem.2 e' he')
    | tail _ hx => exact h3 x hx e' he' g hg
  | @right e A H R hs ih =>
    intro hA
    obtain ⟨h1, h2, h3⟩ := ih hA.2.2
    refine ⟨h1, ⟨hA.1, fun g hg => ⟨(hA.2.1 g hg).1, (hA.2.1 g hg).2.1, fun e' he' => (hA.2.1 g hg).2.2 e' (hs.mem.2 e' he')⟩, h2⟩, fun x hx e' he' g hg hg' => ?_⟩
    cases he' with
    | head => exact (hA.2.1 g hg').2.2 x (hs.mem.1 x hx) hg
    | tail _ he' => exact h3 x hx e' he' g hg hg'
theorem HOk.append {w0 w : World} : ∀ {H R : List HE}, HOk w0 w H → HOk w0 w R → (∀ e ∈ H, ∀ e' ∈ R, ∀ g, e.foot g → ¬ e'.foot g) → HOk w0 w (H ++ R)
  | [], _, _, hR, _ => hR
  | e :: H, R, hH, hR, hd => ⟨hH.1, fun g hg => ⟨(hH.2.1 g hg).1, (hH.2.1 g hg).2.1, fun e' he' => by
      rcases List.mem_append.1 he' with h | h
      · exact (hH.2.1 g hg).2.2 e' h
      · exact hd e (.head _) e' h g hg⟩, HOk.append hH.2.2 hR fun x hx => hd x (.tail _ hx)⟩
theorem HOk.parts {w0 w : World} : ∀ {H R : List HE}, HOk w0 w (H ++ R) → HOk w0 w H ∧ HOk w0 w R ∧ ∀ e ∈ H, ∀ e' ∈ R, ∀ g, e.foot g → ¬ e'.foot g
  | [], _, h => ⟨trivial, h, fun e he => by cases he⟩
  | e :: H, R, h => by
    obtain ⟨h1, h2, h3⟩ := HOk.parts h.2.2
    refine ⟨⟨h.1, fun g hg => ⟨(h.2.1 g hg).1, (h.2.1 g hg).2.1, fun e' he' => (h.2.1 g hg).2.2 e' (List.mem_append_left _ he')⟩, h1⟩, h2, fun x hx e' he' g hg => ?_⟩
    cases hx with
    | head => exact (h.2.1 g hg).2.2 e' (List.mem_append_right _ he')
    | tail _ hx => exact h3 x hx e' he' g hg

/-- What is left alone by a call that is handed the entries H. -/
def Rest (w0 w : World) (H : List HE) (g : Nat) : Prop := w0.heap.size ≤ g ∧ g < w.heap.size ∧ ∀ e ∈ H, ¬ e.foot g
/-- The contract of a function that turns memory of its caller's own: H becomes H' i, for some i, and the value is A i. -/
def ConM (P : Program) (f : FuncId) (As : List AV) (H : List HE) {ι : Type} (A : ι → AV) (H' : ι → List HE) : Prop :=
  Can P f ∧ ∀ w0 w vs, Below w0.heap.size w0 w → All w0 As vs → HOk w0 w H → Calls P f vs.toArray w fun e w' => ∃ v i, e = .returned v ∧ (A i).R w0 v ∧ Below w0.heap.size w0 w' ∧ HOk w0 w' (H' i) ∧ w.heap.size ≤ w'.heap.size ∧
    (∀ g, Rest w0 w H g → w'.heap[g]? = w.heap[g]?) ∧ ∀ e ∈ H' i, ∀ g, e.foot g → ¬ Rest w0 w H g

theorem HOk.rest {w0 w : World} {H : List HE} (h : HOk w0 w H) : HOk w0 w (H ++ [.fr w (Rest w0 w H)]) :=
  h.append ⟨⟨Nat.le_refl _, fun _ _ => rfl⟩, fun g hg => ⟨hg.1, hg.2.1, fun e' he' => by cases he'⟩, trivial⟩ fun e he e' he' g hg hg' => by
    cases he' with
    | head => exact hg'.2.2 e he hg
    | tail _ he' => cases he'

section
variable {P : Program}
def RetM (w0 w : World) (H : List HE) {ι : Type} (A : ι → AV) (H' : ι → List HE) (e : Ending) (w' : World) : Prop :=
  ∃ v i, e = .returned v ∧ (A i).R w0 v ∧ Below w0.heap.size w0 w' ∧ HOk w0 w' (H' i) ∧ w.heap.size ≤ w'.heap.size ∧ (∀ g, Rest w0 w H g → w'.heap[g]? = w.heap[g]?) ∧ ∀ e ∈ H' i, ∀ g, e.foot g → ¬ Rest w0 w H g
/-- The way into a function that turns memory of its caller's own. -/
theorem conM_enter {f : FuncId} {fn : Func} {c : Code} {As : List AV} {nt : Nat} {H : List HE} {ι : Type} {A : ι → AV} {H' : ι → List HE} (hf : P.funcs[f]? = some fn) (hb : fn.body = some c) (hn : (fn.name == "runtime.NumGoroutine") = false) (ht : fn.ntmps = nt) (hl : Nat.ble As.length nt = true)
    (h : ∀ w0 w, AWp P w0 ⟨nt, zipEnv 0 As, H ++ [.fr w (Rest w0 w H)]⟩ c (bodyPost P fn (RetM w0 w H A H'))) : ConM P f As H A H' := by
  refine ⟨⟨fn, hf, by rw [hb]; rfl, hn⟩, fun w0 w vs hbel hv hH => calls_of_wp hf hb ((h w0 w).out _ w ⟨hbel, ?_, rfl, fun t A e => ?_, hH.rest⟩)⟩
  · have := hv.length
    have hl' : As.length ≤ nt := Nat.ble_eq ▸ hl
    simp [ht]
    omega
  · obtain ⟨j, rfl, u, hu, hr⟩ := zipEnv_look 0 hv t A e
    have hj : j < vs.length := (List.getElem?_eq_some_iff.1 hu).1
    have : (vs.toArray ++ Array.replicate (fn.ntmps - vs.toArray.size) undef).getD (0 + j) undef = u := by
      rw [Array.getD_eq_getD_getElem?, Nat.zero_add, Array.getElem?_append_left (by simpa using hj)]
      simp [hu]
    rw [this]
    exact hr
theorem retM_of {w0 w w' : World} {H : List HE} {ι : Type} {A : ι → AV} {H' : ι → List HE} {v : Value} (i : ι) (hv : (A i).R w0 v) (hb : Below w0.heap.size w0 w') (hH : HOk w0 w' (H' i ++ [.fr w (Rest w0 w H)])) : RetM w0 w H A H' (.returned v) w' := by
  obtain ⟨h1, h2, h3⟩ := hH.parts
  exact ⟨v, i, rfl, hv, hb, h1, h2.1.1, fun g hg => h2.1.2 g hg, fun e he g hg => h3 e he _ (.head _) g hg⟩
theorem aex_retM {w0 w : World} {s : AS} {fn : Func} {r : ResultVar} {H : List HE} {ι : Type} {A : ι → AV} {H' : ι → List HE} (i : ι) (hf : fn.results = #[r]) (h : ResV P s r (A i)) (hH : HSub s.heap (H' i ++ [.fr w (Rest w0 w H)])) : AEx w0 s .ret (bodyPost P fn (RetM w0 w H A H')) := by
  refine ⟨fun a w' hs => ?_⟩
  obtain ⟨v, hr, hv⟩ := h w0 a w' hs
  refine ⟨hs.defers, v, ?_, retM_of i hv hs.below (hH.ok hs.heap)⟩
  rw [results_eq, hf]
  simp [hr]
/-- A function without results. -/
theorem aex_retM0 {w0 w : World} {s : AS} {fn : Func} {H : List HE} {ι : Type} {H' : ι → List HE} (i : ι) (hf : fn.results = #[]) (hH : HSub s.heap (H' i ++ [.fr w (Rest w0 w H)])) : AEx w0 s .ret (bodyPost P fn (RetM w0 w H (fun _ => vv (.tuple #[])) H')) := by
  refine ⟨fun a w' hs => ?_⟩
  refine ⟨hs.defers, .tuple #[], ?_, retM_of i rfl hs.below (hH.ok hs.heap)⟩
  rw [results_eq, hf]
  simp
theorem aex_retM2 {w0 w : World} {s : AS} {fn : Func} {r r' : ResultVar} {H : List HE} {ι : Type} {A B : ι → AV} {H' : ι → List HE} (i : ι) (hf : fn.results = #[r, r']) (h : ResV P s r (A i)) (h' : ResV P s r' (B i)) (hH : HSub s.heap (H' i ++ [.fr w (Rest w0 w H)])) : AEx w0 s .ret (bodyPost P fn (RetM w0 w H (fun i => tup [A i, B i]) H')) := by
  refine ⟨fun a w' hs => ?_⟩
  obtain ⟨v, hr, hv⟩ := h w0 a w' hs
  obtain ⟨v', hr', hv'⟩ := h' w0 a w' hs
  refine ⟨hs.defers, .tuple #[v, v'], ?_, retM_of i ⟨[v, v'], rfl, hv, hv', trivial⟩ hs.below (hH.ok hs.heap)⟩
  rw [results_eq, hf]
  simp [hr, hr']

/-- A function value: a function of the program with what it has captured. -/
def clo (f : FuncId) (l : List AV) : AV := ⟨fun w v => ∃ cs : List Value, v = .func (.func f) #[] cs.toArray ∧ All w l cs, l.all (·.p),
  fun hb h => by obtain ⟨cs, e, h⟩ := h; exact ⟨cs, e, h.mono hb⟩, fun hp _ _ _ h => by obtain ⟨cs, e, h⟩ := h; exact ⟨cs, e, All.pure hp h⟩⟩
def Opds (s : AS) : List Operand → List AV → Prop
  | [], [] => True
  | x :: xs, A :: As => Opd s x A ∧ Opds s xs As
  | _, _ => False
theorem Opds.nil {s : AS} : Opds s [] [] := trivial
theorem Opds.cons {s : AS} {x : Operand} {A : AV} {xs : List Operand} {As : List AV} (h : Opd s x A) (k : Opds s xs As) : Opds s (x :: xs) (A :: As) := ⟨h, k⟩
theorem Opds.all {s : AS} {w0 w : World} {a : Act} (hs : Sat w0 s a w) : ∀ {xs : List Operand} {As : List AV}, Opds s xs As → All w0 As (xs.map a.eval)
  | [], [], _ => trivial
  | _ :: _, _ :: _, h => ⟨h.1 w0 a w hs, Opds.all hs h.2⟩
  | [], _ :: _, h => h.elim
  | _ :: _, [], h => h.elim
theorem Opd.cloF {s : AS} (f : FuncId) : Opd s (.func f) (clo f []) := fun _ _ _ _ => ⟨[], rfl, trivial⟩
theorem Opd.cloV {s : AS} {x : Operand} {f : FuncId} (h : Opd s x (vv (.func (.func f) #[] #[]))) : Opd s x (clo f []) := fun w0 a w hs => ⟨[], h w0 a w hs, trivial⟩
theorem run_callC {o : Oper} {f : FuncId} (hc : Can P f) (x : Operand) (args : Array Operand) (ts : Array TypeId) (ho : o.op = .call { callee := .value x, args := args, argTypes := ts }) (a : Act) (cs : List Value) (hx : a.eval x = .func (.func f) #[] cs.toArray) (w : World) :
    (execOp a.eval o).run P w = .ok (.enter f (args.map a.eval ++ cs.toArray)) w := by
  obtain ⟨fn, hf, hb, hn⟩ := hc
  simp only [execOp, ho, resolve, hx, Deferred.ofValue, Sem.run_bind, Sem.run_pure, Result.andThen_ok, invoke, callFunc, run_program, hf, hn, hb]
  simp
/-- A call of a function value that only computes. -/
theorem ev_callC {s : AS} {o : Oper} {f : FuncId} {x : Operand} {As l : List AV} {A : AV} {args : List Operand} {ts : Array TypeId} (ho : o.op = .call { callee := .value x, args := args.toArray, argTypes := ts }) (hx : Opd s x (clo f l)) (hc : Con P f (As ++ l) (RetA A)) (ha : Givs s args As) : Ev P s o A := by
  refine ⟨fun w0 a w hs => ?_⟩
  obtain ⟨cs, e, hcs⟩ := hx w0 a w hs
  rw [run_callC hc.1 x args.toArray ts ho a cs e w]
  refine ⟨Below.refl _ _, ?_⟩
  have := hc.2 w (args.map a.eval ++ cs) ((ha.all hs).append (hcs.mono hs.below))
  rw [show args.toArray.map a.eval ++ cs.toArray = (args.map a.eval ++ cs).toArray by simp]
  refine this.mono fun e w' h => ?_
  obtain ⟨v, rfl, hb, hq⟩ := h
  exact ⟨v, rfl, hb, hq _⟩
theorem ev_makeFunc {s : AS} {o : Oper} {f : FuncId} {xs : List Operand} {l : List AV} (ho : o.op = .makeFunc (.func f) #[] xs.toArray) (h : Opds s xs l) : Ev P s o (clo f l) := by
  refine ⟨fun w0 a w hs => ?_⟩
  have he : (xs.toArray.map a.eval) = (xs.map a.eval).toArray := by simp
  simp only [execOp, ho, Instr.makeFunc, he, List.map_toArray, List.map_nil, Array.map_empty, Sem.run_bind, Sem.run_pure, Result.andThen_ok]
  exact .of_val ⟨_, rfl, h.all hs⟩
end

section
variable {P : Program} {w0 : World} {ops : Array Oper} {nt : Nat} {env : List (Nat × AV)} {H : List HE} {rest : List Oper} {Q : Exit → Act → World → Prop} {ty : TypeId} {pos : String} {after : Array Edge}
theorem Sat.step2 {w0 : World} {s : AS} {a : Act} {w w' : World} {A : AV} {v : Value} {dst : Option Tmp} {H : List HE} (h : Sat w0 s a w) (hb0 : Below w0.heap.size w0 w') (hv : A.R w0 v) (hd : dok s dst = true) (hH : HOk w0 w' H) : Sat w0 (s.with dst A H) (a.put dst v) w' := by
  cases dst with
  | none => exact ⟨hb0, h.size, h.defers, h.env, hH⟩
  | some d =>
    have hd' : d < a.tmps.size := by rw [h.size]; exact Nat.blt_eq ▸ hd
    exact ⟨hb0, by simp [AS.with, Act.put, h.size], h.defers, look_put h.env hv hd', hH⟩
theorem callM_sat {s : AS} {a : Act} {w w' : World} {H1 R : List HE} {dst : Option Tmp} {ι : Type} {A : ι → AV} {H' : ι → List HE} {v : Value} {i : ι} (hs : Sat w0 s a w) (hsp : HSplit s.heap H1 R) (hd : dok s dst = true)
    (hv : (A i).R w0 v) (hb : Below w0.heap.size w0 w') (hH : HOk w0 w' (H' i)) (hsz : w.heap.size ≤ w'.heap.size) (hk : ∀ g, Rest w0 w H1 g → w'.heap[g]? = w.heap[g]?) (hf : ∀ e ∈ H' i, ∀ g, e.foot g → ¬ Rest w0 w H1 g) : Sat w0 (s.with dst (A i) (H' i ++ R)) (a.put dst v) w' := by
  obtain ⟨k1, k2, k3⟩ := hsp.ok hs.heap
  have hr : ∀ e ∈ R, ∀ g, e.foot g → Rest w0 w H1 g := fun e he g hg => ⟨(k2.foot e he g hg).1, (k2.foot e he g hg).2, fun e' he' hg' => k3 e' he' e he g hg' hg⟩
  exact hs.step2 hb hv hd (hH.append (k2.keep hsz fun e he g hg => hk g (hr e he g hg)) fun e he e' he' g hg hg' => hf e he g hg (hr e' he' g hg'))
/-- A call that turns memory of the call's own. -/
theorem aops_callM {d : Nat} {f : FuncId} {x : Operand} {As l : List AV} {H1 R : List HE} {ι : Type} {A : ι → AV} {H' : ι → List HE} {args : List Operand} {ts : Array TypeId} (hc : ConM P f (As ++ l) H1 A H') (hx : Opd ⟨nt, env, H⟩ x (clo f l)) (ha : Opds ⟨nt, env, H⟩ args As) (hsp : HSplit H H1 R) (hd : Nat.blt d nt = true)
    (k : ∀ i, AOps P w0 ops ⟨nt, (d, A i) :: env, H' i ++ R⟩ rest Q) : AOps P w0 ops ⟨nt, env, H⟩ (⟨some d, .call { callee := .value x, args := args.toArray, argTypes := ts }, ty, pos, after, none⟩ :: rest) Q := by
  refine ⟨fun a w hs => wpList_plain rfl fun K hK => ?_⟩
  obtain ⟨cs, e, hcs⟩ := hx w0 a w hs
  unfold Oper.wp
  rw [run_callC hc.1 x args.toArray ts rfl a cs e w]
  simp only [Oper.upon]
  rw [show args.toArray.map a.eval ++ cs.toArray = (args.map a.eval ++ cs).toArray by simp]
  refine (hc.2 w0 w _ hs.below ((ha.all hs).append hcs) (hsp.ok hs.heap).1).mono fun e w' h => ?_
  obtain ⟨v, i, rfl, hv, hb, hH, hsz, hk, hf⟩ := h
  exact hK _ _ ((k i).out _ _ (callM_sat (dst := some d) hs hsp hd hv hb hH hsz hk hf))
theorem aops_callMn {f : FuncId} {x : Operand} {As l : List AV} {H1 R : List HE} {ι : Type} {A : ι → AV} {H' : ι → List HE} {args : List Operand} {ts : Array TypeId} (hc : ConM P f (As ++ l) H1 A H') (hx : Opd ⟨nt, env, H⟩ x (clo f l)) (ha : Opds ⟨nt, env, H⟩ args As) (hsp : HSplit H H1 R)
    (k : ∀ i, AOps P w0 ops ⟨nt, env, H' i ++ R⟩ rest Q) : AOps P w0 ops ⟨nt, env, H⟩ (⟨none, .call { callee := .value x, args := args.toArray, argTypes := ts }, ty, pos, after, none⟩ :: rest) Q := by
  refine ⟨fun a w hs => wpList_plain rfl fun K hK => ?_⟩
  obtain ⟨cs, e, hcs⟩ := hx w0 a w hs
  unfold Oper.wp
  rw [run_callC hc.1 x args.toArray ts rfl a cs e w]
  simp only [Oper.upon]
  rw [show args.toArray.map a.eval ++ cs.toArray = (args.map a.eval ++ cs).toArray by simp]
  refine (hc.2 w0 w _ hs.below ((ha.all hs).append hcs) (hsp.ok hs.heap).1).mono fun e w' h => ?_
  obtain ⟨v, i, rfl, hv, hb, hH, hsz, hk, hf⟩ := h
  exact hK _ _ ((k i).out _ _ (callM_sat (dst := none) hs hsp rfl hv hb hH hsz hk hf))

/-- A slice of the call's own that is not empty lies in a block. -/
theorem row_case {w0 w : World} {v : Value} {T size n : Nat} {c : Nat → List AV} (h : (HE.row v T size n c).ok w0 w) (hn : 0 < n) : ∃ g cap, v = .slice (some ⟨g, 0, none⟩) n cap := by
  obtain ⟨xs, ⟨_, h1⟩, _⟩ := h
  rcases h1 with ⟨_, h0⟩ | ⟨g, cap, cur, rfl, _⟩
  · omega
  · exact ⟨g, cap, rfl⟩
theorem aops_rowcase {s : AS} {l : List Oper} {v : Value} {T size n : Nat} {c : Nat → List AV} (hm : HE.row v T size n c ∈ s.heap) (hn : 0 < n) (k : ∀ g cap, v = .slice (some ⟨g, 0, none⟩) n cap → AOps P w0 ops s l Q) : AOps P w0 ops s l Q := by
  refine ⟨fun a w hs => ?_⟩
  obtain ⟨g, cap, e⟩ := row_case (hs.heap.get _ hm) hn
  exact (k g cap e).out a w hs
theorem awp_rowcase {s : AS} {cd : Code} {v : Value} {T size n : Nat} {c : Nat → List AV} (hm : HE.row v T size n c ∈ s.heap) (hn : 0 < n) (k : ∀ g cap, v = .slice (some ⟨g, 0, none⟩) n cap → AWp P w0 s cd Q) : AWp P w0 s cd Q := by
  refine ⟨fun a w hs => ?_⟩
  obtain ⟨g, cap, e⟩ := row_case (hs.heap.get _ hm) hn
  exact (k g cap e).out a w hs
theorem aops_rowc {l : List Oper} {v : Value} {T size n : Nat} {c c' : Nat → List AV} {s : AS} {H' : List HE} (hr : HRep s.heap (.row v T size n c) (.row v T size n c') H') (hc : ∀ j, j < n → c' j = c j) (k : AOps P w0 ops ⟨s.nt, s.env, H'⟩ l Q) : AOps P w0 ops s l Q :=
  ⟨fun a w hs => k.out a w ⟨hs.below, hs.size, hs.defers, hs.env, hr.ok (show ∀ g, (HE.row v T size n c').foot g → (HE.row v T size n c).foot g from fun _ h => h) hs.heap (Nat.le_refl _) (fun _ _ _ => rfl) (by
    obtain ⟨xs, h1, h2, h3⟩ := hs.heap.get _ hr.mem
    exact ⟨xs, h1, fun j hj => by rw [hc j hj]; exact h2 j hj, h3⟩)⟩⟩
/-- A cell of a slice of the call's own. -/
theorem own_row_cell {s : AS} {a : Act} {w : World} (hs : Sat w0 s a w) {g size n cap T k r : Nat} {c : Nat → List AV} {A : AV} (hm : HE.row (.slice (some ⟨g, 0, none⟩) n cap) T size n c ∈ s.heap) (hk : k < n) (hr : (c k)[r]? = some A) : ∃ u, w.cell? ⟨g, k * size + r, none⟩ = some u ∧ A.R w0 u ∧ u.oneCell' = true := by
  obtain ⟨xs, ⟨hlen, h1⟩, h2, h3⟩ := hs.heap.get _ hm
  rcases h1 with ⟨h1, _⟩ | ⟨g', cap', cur, hvv, hg, hh, hnc, hcm, hcs, htk⟩
  · cases h1
  injection hvv with q1 q2 q3
  injection q1 with q1
  injection q1 with q1 q4
  subst q1
  obtain ⟨u, hu, hru⟩ := (h2 k hk).get hr
  rw [List.getElem?_take] at hu
  split at hu
  · rw [List.getElem?_drop] at hu
    refine ⟨u, ?_, hru, h3 u (List.mem_of_getElem? hu)⟩
    rw [← htk, List.getElem?_take] at hu
    split at hu
    · rw [cell_of_row w g _ cur T (0, 0) hh, ← Array.getElem?_toList]
      exact hu
    · cases hu
  · cases hu
end
section
variable {P : Program} {s : AS} {o : Oper}
theorem ev_loadRow {t : TypeId} {x : Operand} {g size n cap T k r i : Nat} {c : Nat → List AV} {A : AV} (ho : o.op = .load t x) (hx : Opd s x (ptr g i)) (ht : TyP P t) (hm : HE.row (.slice (some ⟨g, 0, none⟩) n cap) T size n c ∈ s.heap) (hi : i = k * size + r) (hk : k < n) (hr : (c k)[r]? = some A) : Ev P s o A := by
  refine ⟨fun w0 a w hs => ?_⟩
  subst hi
  have e : a.eval x = .pointer (some ⟨g, k * size + r, none⟩) := hx w0 a w hs
  obtain ⟨u, hu, hru, _⟩ := own_row_cell hs hm hk hr
  simp only [execOp, ho, e, Instr.loadAt, Instr.sureAddr, Sem.run_bind, Sem.run_pure, Result.andThen_ok, run_loadP ht hu]
  exact .of_val hru
theorem ev_loadRowA {t : TypeId} {x : Operand} {g size n cap T k r i m : Nat} {c : Nat → List AV} {l : List AV} (ho : o.op = .load t x) (hx : Opd s x (ptr g i)) (ht : TyA P t m) (hm : HE.row (.slice (some ⟨g, 0, none⟩) n cap) T size n c ∈ s.heap) (hi : i = k * size + r) (hk : k < n) (hl : ((c k).drop r).take m = l) (hlm : l.length = m) : Ev P s o (agg l) := by
  refine ⟨fun w0 a w hs => ?_⟩
  subst hi
  have e : a.eval x = .pointer (some ⟨g, k * size + r, none⟩) := hx w0 a w hs
  obtain ⟨v, hr, hv⟩ := run_loadA (w := w) (w0 := w0) (b := g) (p := k * size + r) ht hlm fun j A hj => by
    rw [← hl, List.getElem?_take] at hj
    split at hj
    · rw [List.getElem?_drop] at hj
      obtain ⟨u, h1, h2, h3⟩ := own_row_cell hs hm hk hj
      exact ⟨u, by rw [Nat.add_assoc]; exact h1, h2, h3⟩
    · cases hj
  simp only [execOp, ho, e, Instr.loadAt, Instr.sureAddr, Sem.run_bind, Sem.run_pure, Result.andThen_ok, hr]
  exact .of_val hv
end

theorem blk_part {α : Type} {A ys : List α} {k s n off : Nat} (ho : off + ys.length ≤ s) (hi : k * s + s ≤ A.length) (hk : k < n) : (((A.take (k * s + off) ++ ys ++ A.drop (k * s + off + ys.length)).take (n * s)).drop (k * s)).take s = (((A.take (n * s)).drop (k * s)).take s).take off ++ ys ++ (((A.take (n * s)).drop (k * s)).take s).drop (off + ys.length) := by
  have hn : (k + 1) * s ≤ n * s := Nat.mul_le_mul_right _ hk
  rw [Nat.add_mul, Nat.one_mul] at hn
  have hl : (((A.take (n * s)).drop (k * s)).take s).length = s := by simp; omega
  have hB : ∀ p, (((A.take (n * s)).drop (k * s)).take s)[p]? = if p < s then A[k * s + p]? else none := fun p => by
    simp only [List.getElem?_take, List.getElem?_drop]
    split
    · rw [if_pos (by omega)]
    · rfl
  generalize ((A.take (n * s)).drop (k * s)).take s = B at *
  apply List.ext_getElem?
  intro p
  rw [upd_get B ys off p (by omega)]
  simp only [hB, List.getElem?_take, List.getElem?_drop]
  split
  · rename_i hp
    rw [if_pos (by omega), upd_get A ys (k * s + off) (k * s + p) (by omega)]
    by_cases h1 : p < off
    · rw [if_pos (by omega), if_pos h1]
    · rw [if_neg (by omega), if_neg h1]
      by_cases h2 : p < off + ys.length
      · rw [if_pos (by omega), if_pos h2]
        congr 1
        omega
      · rw [if_neg (by omega), if_neg h2]
  · rename_i hp
    rw [if_neg (by omega), if_neg (by omega)]
theorem blk_other {α : Type} {A ys : List α} {k j s N off : Nat} (ho : off + ys.length ≤ s) (hi : k * s + s ≤ A.length) (hj : j ≠ k) : (((A.take (k * s + off) ++ ys ++ A.drop (k * s + off + ys.length)).take N).drop (j * s)).take s = ((A.take N).drop (j * s)).take s := by
  apply List.ext_getElem?
  intro p
  simp only [List.getElem?_take, List.getElem?_drop]
  split
  · split
    · rename_i hp _
      rw [upd_get A ys (k * s + off) (j * s + p) (by omega)]
      rcases Nat.lt_or_gt_of_ne hj with h | h
      · have : (j + 1) * s ≤ k * s := Nat.mul_le_mul_right _ h
        rw [Nat.add_mul, Nat.one_mul] at this
        rw [if_pos (by omega)]
      · have : (k + 1) * s ≤ j * s := Nat.mul_le_mul_right _ h
        rw [Nat.add_mul, Nat.one_mul] at this
        rw [if_neg (by omega), if_neg (by omega)]
    · rfl
  · rfl
section
variable {P : Program} {w0 : World} {ops : Array Oper} {nt : Nat} {env : List (Nat × AV)} {H : List HE} {rest : List Oper} {Q : Exit → Act → World → Prop} {ty : TypeId} {pos : String} {after : Array Edge}
/-- A part of an element of a slice of the call's own is written. -/
theorem aops_storeP {t : TypeId} {x y : Operand} {g size n cap k off i T : Nat} {c c' : Nat → List AV} {la : List AV} {A : AV} {H' : List HE} (hx : Opd ⟨nt, env, H⟩ x (ptr g i)) (hy : Opd ⟨nt, env, H⟩ y A) (hc : CellsOf A la) (ht : (P.info? t).map (·.size) = some la.length) (hi : i = k * size + off) (hla : off + la.length ≤ size)
    (hr : HRep H (.row (.slice (some ⟨g, 0, none⟩) n cap) T size n c) (.row (.slice (some ⟨g, 0, none⟩) n cap) T size n c') H') (hk : k < n) (hc1 : c' k = splice (c k) off la) (hc2 : ∀ j, j ≠ k → c' j = c j)
    (kk : AOps P w0 ops ⟨nt, env, H'⟩ rest Q) : AOps P w0 ops ⟨nt, env, H⟩ (⟨none, .store t x y, ty, pos, after, none⟩ :: rest) Q := by
  subst hi
  refine ⟨fun a w hs => ?_⟩
  exact wpList_plain rfl fun K hK => by
    have hv := hc _ _ (hy w0 a w hs)
    have e : a.eval x = .pointer (some ⟨g, k * size + off, none⟩) := hx w0 a w hs
    obtain ⟨xs, ⟨hlen, h1⟩, hrow, hone⟩ := hs.heap.get _ hr.mem
    have hgf := hs.heap.foot _ hr.mem g rfl
    rcases h1 with ⟨h1, _⟩ | ⟨g', cap', cur, hvv, hg, hh, hnc, hcm, hcs, htk⟩
    · cases h1
    injection hvv with q1 q2 q3
    injection q1 with q1
    injection q1 with q1 q4
    subst q1
    subst q3
    have hlen2 := hv.1.length
    have hb : k * size + size ≤ cur.size := by
      have : (k + 1) * size ≤ cap * size := Nat.mul_le_mul_right _ (by omega)
      rw [Nat.add_mul, Nat.one_mul] at this
      omega
    have hst := run_storeCells_at (P := P) g (k * size + off) T (a.eval y).cells.toList 0 cur w hh (by rw [hlen2]; omega) hv.2
    obtain ⟨ii, hii, his⟩ : ∃ ii, P.info? t = some ii ∧ ii.size = la.length := by
      cases hq : P.info? t with
      | none => rw [hq] at ht; cases ht
      | some ii => rw [hq] at ht; exact ⟨ii, rfl, by simpa using ht⟩
    have hr' : (execOp a.eval (⟨none, .store t x y, ty, pos, after, none⟩ : Oper)).run P w = .ok .skip (w.setRow g (cur.toList.take (k * size + off + 0) ++ (a.eval y).cells.toList ++ cur.toList.drop (k * size + off + 0 + (a.eval y).cells.toList.length)).toArray) := by
      have hsz : (a.eval y).cells.size = ii.size := by rw [his, ← hlen2]; simp
      simp only [execOp, e, Instr.storeAt, Instr.sureAddr, storeVar, sizeOf, typeInfo, Sem.run_bind, Sem.run_pure, Result.andThen_ok, run_program, hii, Sem.run_map]
      rw [Sem.run_ite, if_neg (by simpa using hsz)]
      simp only [Sem.run_bind, Sem.run_pure, Result.andThen_ok, hst]
    unfold Oper.wp
    rw [hr']
    rw [Nat.add_zero]
    have hys : (a.eval y).cells.toList.length = la.length := hlen2
    generalize hys0 : (a.eval y).cells.toList = ys at *
    refine hK _ _ (kk.out _ _ ?_)
    have hset : ∀ b, b ≠ g → (w.setRow g (cur.toList.take (k * size + off) ++ ys ++ cur.toList.drop (k * size + off + ys.length)).toArray).heap[b]? = w.heap[b]? := fun b hb => by
      simp only [World.setRow, Array.getElem?_modify]
      rw [if_neg (by omega)]
    have hset2 : (w.setRow g (cur.toList.take (k * size + off) ++ ys ++ cur.toList.drop (k * size + off + ys.length)).toArray).heap[g]? = some (.cells (cur.toList.take (k * size + off) ++ ys ++ cur.toList.drop (k * size + off + ys.length)).toArray T (0, 0)) := by
      simp [World.setRow, Array.getElem?_modify, hh]
    have hsz' : (w.setRow g (cur.toList.take (k * size + off) ++ ys ++ cur.toList.drop (k * size + off + ys.length)).toArray).heap.size = w.heap.size := by simp [World.setRow]
    have hcl : cur.toList.length = cur.size := by simp
    have hLl : (cur.toList.take (k * size + off) ++ ys ++ cur.toList.drop (k * size + off + ys.length)).length = cur.size := by
      simp only [List.length_append, List.length_take, List.length_drop, hcl]
      omega
    have hnN : n * size ≤ cur.size := by rw [hcs]; exact Nat.mul_le_mul_right _ hnc
    have hfg : ∀ b, ¬ (HE.row (.slice (some ⟨g, 0, none⟩) n cap) T size n c).foot b → b ≠ g := fun b hb q => hb (by subst q; rfl)
    refine Sat.step (dst := none) (A := vv undef) (v := undef) hs ⟨rfl, rfl, rfl, by omega, fun b hb => hset b (by have := hgf.1; omega)⟩ rfl rfl
      (hr.ok (show ∀ b, (HE.row (.slice (some ⟨g, 0, none⟩) n cap) T size n c').foot b → (HE.row (.slice (some ⟨g, 0, none⟩) n cap) T size n c).foot b from fun _ h => h) hs.heap (by omega) (fun b _ hb => hset b (hfg b hb)) ⟨(cur.toList.take (k * size + off) ++ ys ++ cur.toList.drop (k * size + off + ys.length)).take (n * size), ⟨?_, .inr ⟨g, cap, _, rfl, hg, hset2, hnc, hcm, ?_, by simp⟩⟩, fun j hj => ?_, fun u hu => ?_⟩)
    · rw [List.length_take, hLl]; omega
    · rw [List.size_toArray, hLl, hcs]
    · by_cases hjk : j = k
      · subst hjk
        rw [blk_part (by omega) (by omega) hj, hc1, splice, htk, hys]
        exact (((hrow j hj).take off).append hv.1).append ((hrow j hj).drop (off + la.length))
      · rw [blk_other (by omega) (by omega) hjk, hc2 j hjk, htk]
        exact hrow j hj
    · obtain ⟨p, hp⟩ := List.mem_iff_getElem?.1 hu
      rw [List.getElem?_take] at hp
      split at hp
      · rename_i hpN
        rw [upd_get cur.toList ys (k * size + off) p (by omega)] at hp
        have hA : cur.toList[p]? = some u → u.oneCell' = true := fun h => hone u (by rw [← htk]; exact List.mem_iff_getElem?.2 ⟨p, by rw [List.getElem?_take, if_pos hpN]; exact h⟩)
        split at hp
        · exact hA hp
        · split at hp
          · exact hv.2 u (List.mem_of_getElem? hp)
          · exact hA hp
      · cases hp
/-- 'make([]T, n)'. -/
theorem aops_make {d t e size bytes n : Nat} {x y : Operand} {kl kc : IntKind} {zl : List AV} (ht : TyE P t e size bytes) (hz : TyZ P e zl) (hx : Opd ⟨nt, env, H⟩ x (vv (.int kl (n : Int)))) (hy : Opd ⟨nt, env, H⟩ y (vv (.int kc (n : Int)))) (hn : n ≤ 1048576) (hd : Nat.blt d nt = true)
    (k : ∀ g, AOps P w0 ops ⟨nt, (d, vv (.slice (some ⟨g, 0, none⟩) n n)) :: env, .row (.slice (some ⟨g, 0, none⟩) n n) e size n (fun _ => zl) :: H⟩ rest Q) : AOps P w0 ops ⟨nt, env, H⟩ (⟨some d, .makeSlice t x y, ty, pos, after, none⟩ :: rest) Q := by
  obtain ⟨i, z, hu, hi, hz0, hsz, hby, hzs, hpos, hsm, hbm, hz1⟩ := ht
  obtain ⟨i2, z2, hi2, hz2, hl⟩ := hz
  obtain rfl : i = i2 := by rw [hi] at hi2; exact Option.some.inj hi2
  obtain rfl : z = z2 := by rw [hz0] at hz2; exact Option.some.inj hz2
  refine ⟨fun a w hs => wpList_make_full w rfl x y t rfl w0.heap.size e i z size hu hi hz0 hsz kl kc _ _ n (hx w0 a w hs) (hy w0 a w hs) rfl rfl (by rw [hby]; exact Nat.le_trans (Nat.mul_le_mul hbm hn) (by decide)) (by simp [maxLen]; omega) hs.below.size fun w' hown hg => ?_⟩
  have hb : Below w.heap.size w w' := (Below.refl _ _).grown hg (Nat.le_refl _) (fun k h => by cases h)
  have hlt := World.ownsRow.lt hown w.heap.size rfl
  refine (k w.heap.size).out _ _ (row_sat hs (hb.mono hs.below.size) hd (hs.heap.below hb) ⟨_, hown, fun j hj => ?_, fun u hu => ?_⟩ fun g hg => ?_)
  · have e : (((madeCells z.cells (n * size)).toList.drop (j * size)).take size) = z.cells.toList := by
      have h2 : (j + 1) * size ≤ n * size := Nat.mul_le_mul_right _ hj
      rw [Nat.add_mul, Nat.one_mul] at h2
      apply List.ext_getElem?
      intro p
      rw [List.getElem?_take]
      split
      · rename_i hp
        rw [List.getElem?_drop]
        have hlt2 : p < z.cells.size := by omega
        simp [madeCells, hzs, show j * size + p < n * size by omega, show (j * size + p) % size = p by rw [Nat.add_comm, Nat.add_mul_mod_self_right, Nat.mod_eq_of_lt hp]]
        rw [getElem!_pos z.cells p hlt2, Array.getElem?_eq_getElem hlt2]
      · rw [List.getElem?_eq_none (by simp; omega)]
    rw [e]
    exact (hl w0).1
  · have : u ∈ (madeCells z.cells (n * size)).toList := hu
    simp only [madeCells, Array.toList_map, List.mem_map] at this
    obtain ⟨p, hp, rfl⟩ := this
    have hlt2 : p % z.cells.size < z.cells.size := Nat.mod_lt _ (by omega)
    rw [getElem!_pos z.cells _ hlt2]
    exact hz1 _ (by simp)
  · obtain rfl : w.heap.size = g := by simpa [Value.ownBlock] using hg
    exact ⟨hs.below.size, hlt.2, fun e' he' hf => absurd (hs.heap.foot e' he' _ hf).2 (by omega)⟩

/-- The cells of a slice that only is read. -/
theorem rs_cells {w0 w : World} (hb : Below w0.heap.size w0 w) {size n b p : Nat} {c : Nat → List AV} (hs : 0 < size) (hl : ∀ k, k < n → (c k).length = size) (h : ∀ k, k < n → Lies w0 b (p + k * size) (c k)) :
    ∃ news : List Value, news.length = n * size ∧ (∀ j u, news[j]? = some u → w.cell? ((⟨b, p, none⟩ : Addr).add j) = some u) ∧ (∀ u ∈ news, u.oneCell' = true) ∧ ∀ k, k < n → All w0 (c k) ((news.drop (k * size)).take size) := by
  have hch : ∀ j, j < n * size → ∃ u, w.cell? ⟨b, p + j, none⟩ = some u ∧ (∀ A, (c (j / size))[j % size]? = some A → A.R w0 u) ∧ u.oneCell' = true := fun j hj => by
    have hk : j / size < n := by rw [Nat.div_lt_iff_lt_mul hs]; exact hj
    have hr : j % size < (c (j / size)).length := by rw [hl _ hk]; exact Nat.mod_lt _ hs
    obtain ⟨u, h1, h2, h3⟩ := lies_now hb (h _ hk) (List.getElem?_eq_getElem hr)
    rw [Nat.add_assoc, Nat.div_add_mod' j size] at h1
    exact ⟨u, h1, fun A hA => by rw [List.getElem?_eq_getElem hr] at hA; injection hA with hA; subst hA; exact h2, h3⟩
  let g : Nat → Value := fun j => if hj : j < n * size then Classical.choose (hch j hj) else undef
  have hg : ∀ j, (hj : j < n * size) → w.cell? ⟨b, p + j, none⟩ = some (g j) ∧ (∀ A, (c (j / size))[j % size]? = some A → A.R w0 (g j)) ∧ (g j).oneCell' = true := fun j hj => by
    have := Classical.choose_spec (hch j hj)
    simp only [g, dif_pos hj]
    exact this
  have hget : ∀ j u, ((List.range (n * size)).map g)[j]? = some u → j < n * size ∧ u = g j := fun j u hu => by
    rw [List.getElem?_map] at hu
    by_cases hj : j < n * size
    · rw [List.getElem?_range hj] at hu
      simp only [Option.map_some, Option.some.injEq] at hu
      exact ⟨hj, hu.symm⟩
    · rw [List.getElem?_eq_none (by simpa using hj)] at hu
      cases hu
  refine ⟨(List.range (n * size)).map g, by simp, fun j u hu => ?_, fun u hu => ?_, fun k hk => All.of_get ?_ fun r A hr => ?_⟩
  · obtain ⟨hj, rfl⟩ := hget j u hu
    rw [add_lit]
    exact (hg j hj).1
  · obtain ⟨j, hj, rfl⟩ := List.mem_map.1 hu
    exact (hg j (by simpa using hj)).2.2
  · have : (k + 1) * size ≤ n * size := Nat.mul_le_mul_right _ hk
    rw [Nat.add_mul, Nat.one_mul] at this
    simp [hl k hk]
    omega
  · have hrs : r < size := by rw [← hl k hk]; exact (List.getElem?_eq_some_iff.1 hr).1
    have : (k + 1) * size ≤ n * size := Nat.mul_le_mul_right _ hk
    rw [Nat.add_mul, Nat.one_mul] at this
    refine ⟨g (k * size + r), ?_, (hg (k * size + r) (by omega)).2.1 A ?_⟩
    · rw [List.getElem?_take, if_pos hrs, List.getElem?_drop, List.getElem?_map, List.getElem?_range (by omega)]
      rfl
    · rw [show (k * size + r) / size = k by rw [Nat.add_comm, Nat.add_mul_div_right _ _ hs, Nat.div_eq_of_lt hrs, Nat.zero_add], show (k * size + r) % size = r by rw [Nat.add_comm, Nat.add_mul_mod_self_right, Nat.mod_eq_of_lt hrs]]
      exact hr
/-- 'append(s, x...)', s of the call's own, x only read. -/
theorem aops_appendR {d t e size bytes n m : Nat} {xs xx : Operand} {v : Value} {c c2 cm : Nat → List AV} {H' : List HE} (ht : TyE P t e size bytes) (hs' : Opd ⟨nt, env, H⟩ xs (vv v)) (hx : Opd ⟨nt, env, H⟩ xx (rs size m cm))
    (htk : HTake H (.row v e size n c) H') (hn : n + m ≤ 1048576) (hcl : ∀ k, k < m → (cm k).length = size)
    (hc1 : ∀ k, k < n → c2 k = c k) (hc2 : ∀ k, k < m → c2 (n + k) = cm k) (hd : Nat.blt d nt = true)
    (k : ∀ v', AOps P w0 ops ⟨nt, (d, vv v') :: env, .row v' e size (n + m) c2 :: H'⟩ rest Q) : AOps P w0 ops ⟨nt, env, H⟩ (⟨some d, .call { callee := .builtin .append, args := #[xs, xx], argTypes := #[t, t] }, ty, pos, after, none⟩ :: rest) Q := by
  refine ⟨fun a w hs => ?_⟩
  obtain ⟨i, z, hu, hi, hz, hsz, hby, hzs, hpos, hsm, hbm, hz1⟩ := ht
  have e1 : a.eval xs = v := hs' w0 a w hs
  obtain ⟨ad, cap, e2, hmc, hl⟩ := hx w0 a w hs
  obtain ⟨⟨ys, hown, hrow, hy1⟩, hH', hfoot⟩ := htk.ok hs.heap
  have fin : ∀ (news : List Value), news.length = m * size → (∀ u ∈ news, u.oneCell' = true) → (∀ k, k < m → All w0 (cm k) ((news.drop (k * size)).take size)) → ∀ v' w', w'.ownsRow w0.heap.size e size v' (n + m) (ys ++ news) → w.grownBy w' v.ownBlock → (v'.ownBlock = v.ownBlock ∨ v'.ownBlock = some w.heap.size) → wpList P ops Q rest (a.put (some d) v') w' := by
    intro news hnl h3 hall v' w' k1 k2 hat
    have hb : Below w0.heap.size w0 w' := hs.below.trans ((Below.refl w0.heap.size w).grown k2 hs.below.size fun q hq => (hfoot q hq).1)
    have hlenY := hown.1
    refine (k v').out _ _ (hs.step (A := vv v') (dst := some d) ((Below.refl _ _).grown k2 hs.below.size fun q hq => (hfoot q hq).1) rfl hd ((hH'.keep k2.size fun e' he' q hq => k2.block q (hH'.foot e' he' q hq).2 fun hv => ?_).cons ⟨_, k1, fun j hj => ?_, fun u hu => ?_⟩ fun q hq => ?_))
    · exact (hfoot q hv.symm).2.2 e' he' hq
    · by_cases hjn : j < n
      · have := hrow j hjn
        rw [hc1 j hjn]
        have e3 : (ys ++ news).drop (j * size) = ys.drop (j * size) ++ news := by
          rw [List.drop_append_of_le_length]
          rw [hlenY]
          exact Nat.mul_le_mul_right _ (by omega)
        rw [e3, List.take_append_of_le_length]
        · exact this
        · rw [List.length_drop, hlenY]
          have : (j + 1) * size ≤ n * size := Nat.mul_le_mul_right _ (by omega)
          rw [Nat.add_mul, Nat.one_mul] at this
          omega
      · obtain ⟨r, rfl⟩ : ∃ r, j = n + r := ⟨j - n, by omega⟩
        rw [hc2 r (by omega)]
        have e3 : (ys ++ news).drop ((n + r) * size) = news.drop (r * size) := by
          rw [Nat.add_mul, ← hlenY, ← List.drop_drop, List.drop_left]
        rw [e3]
        exact hall r (by omega)
    · rcases List.mem_append.1 hu with hu | hu
      · exact hy1 u hu
      · exact h3 u hu
    · have hq : v'.ownBlock = some q := hq
      obtain ⟨q1, q2⟩ := World.ownsRow.lt k1 q hq
      refine ⟨q1, q2, fun e' he' hf => ?_⟩
      rcases hat with hat | hat
      · rw [hat] at hq
        exact (hfoot q hq).2.2 e' he' hf
      · rw [hat] at hq
        injection hq with hq
        exact absurd (hH'.foot e' he' q hf).2 (by omega)
  have hbytes : (n + m) * bytes ≤ 140737488355328 := Nat.le_trans (Nat.mul_le_mul hn hbm) (by decide)
  rcases Nat.eq_zero_or_pos m with h0 | h0
  · subst h0
    cases ad with
    | none =>
      by_cases hcap : cap = 0
      · subst hcap
        exact wpList_append_own_none rfl xs xx t rfl w0.heap.size e i size hu hi v n ys e1 hown e2 (fin [] (by simp) (by simp) (fun k hk => absurd hk (by omega)) v w (by simpa using hown) ⟨rfl, rfl, rfl, Nat.le_refl _, fun _ _ _ => rfl⟩ (.inl rfl))
      · refine wpList_plain rfl fun K hK => ?_
        have hr : (Builtin.append_ #[t, t] ty #[v, .slice none 0 cap]).run P w = .ok v w := by
          rcases hown.2 with ⟨rfl, rfl⟩ | ⟨g, cp, cur, rfl, _, _, hnc, _⟩
          · simp [Builtin.append_, run_underlying hu, sizeOf, typeInfo, hi, Builtin.lenOf, Builtin.firstCells]
          · simp [Builtin.append_, run_underlying hu, sizeOf, typeInfo, hi, Builtin.lenOf, Builtin.firstCells, hnc, storeCells]
        unfold Oper.wp execOp
        simp only [resolve, invoke, builtin, Sem.run_bind, Sem.run_pure, Result.andThen_ok, List.map_toArray, List.map_cons, List.map_nil, e1, e2, hr]
        exact hK _ _ (fin [] (by simp) (by simp) (fun k hk => absurd hk (by omega)) v w (by simpa using hown) ⟨rfl, rfl, rfl, Nat.le_refl _, fun _ _ _ => rfl⟩ (.inl rfl))
    | some ad =>
      exact wpList_append_own_at w rfl xs xx t rfl w0.heap.size e i z size bytes hu hi hz hsz hby hzs hpos v n ys e1 hown ad 0 cap [] e2 (by simp) (fun j u hj => by simp at hj) (by simp) (by simp [maxLen]; omega) hbytes hs.below.size
        fun v' w' k1 k2 _ hat => fin [] (by simp) (by simp) (fun k hk => absurd hk (by omega)) v' w' k1 k2 hat
  · obtain ⟨b, p, rfl, hl2⟩ := hl h0
    obtain ⟨news, q1, q2, q3, q4⟩ := rs_cells (w := w) hs.below hpos hcl hl2
    exact wpList_append_own_at w rfl xs xx t rfl w0.heap.size e i z size bytes hu hi hz hsz hby hzs hpos v n ys e1 hown _ m cap news e2 q1 q2 q3 (by simp [maxLen]; omega) hbytes hs.below.size
      fun v' w' k1 k2 _ hat => fin news q1 q3 q4 v' w' k1 k2 hat

/-- An empty slice without room. -/
def es0 : AV := ⟨fun _ v => ∃ a, v = .slice a 0 0, true, fun _ h => h, fun _ _ _ _ h => h⟩
/-- 'append(s[:0:0], x...)', x only read and not empty. -/
theorem aops_clone {d t e size bytes m : Nat} {xs xx : Operand} {cm : Nat → List AV} (ht : TyE P t e size bytes) (hs' : Opd ⟨nt, env, H⟩ xs es0) (hx : Opd ⟨nt, env, H⟩ xx (rs size m cm)) (hm0 : 0 < m) (hn : m ≤ 1048576) (hcl : ∀ k, k < m → (cm k).length = size) (hd : Nat.blt d nt = true)
    (k : ∀ v', AOps P w0 ops ⟨nt, (d, vv v') :: env, .row v' e size m cm :: H⟩ rest Q) : AOps P w0 ops ⟨nt, env, H⟩ (⟨some d, .call { callee := .builtin .append, args := #[xs, xx], argTypes := #[t, t] }, ty, pos, after, none⟩ :: rest) Q := by
  refine ⟨fun a w hs => wpList_plain rfl fun K hK => ?_⟩
  obtain ⟨i, z, hu, hi, hz, hsz, hby, hzs, hpos, hsm, hbm, hz1⟩ := ht
  obtain ⟨ad0, e1⟩ := hs' w0 a w hs
  obtain ⟨ad, cap, e2, hmc, hl⟩ := hx w0 a w hs
  obtain ⟨b, p, rfl, hl2⟩ := hl hm0
  obtain ⟨news, q1, q2, q3, q4⟩ := rs_cells (w := w) hs.below hpos hcl hl2
  subst hsz
  subst hby
  have hb1 : m * i.bytes ≤ 140737488355328 := Nat.le_trans (Nat.mul_le_mul hn hbm) (by decide)
  have hr : (Builtin.append_ #[t, t] ty #[.slice ad0 0 0, .slice (some ⟨b, p, none⟩) m cap]).run P w = .ok (.slice (some ⟨w.heap.size, 0, none⟩) m (grownCap w m 0 e)) (w.drew.alloc (.cells (news.toArray ++ Builtin.zeroCells z.cells (grownCap w m 0 e - m)) e)) := by
    cases ad0 with
    | none => exact run_append_nil (P := P) w t ty e i z hu hi hz _ m cap news q1 q2 hm0 (by omega) (by omega)
    | some ad0 =>
      have := run_append_grow (P := P) w t ty e i z hu hi hz ad0 0 0 [] (by simp) (fun j v h => by simp at h) _ m cap news q1 q2 (by omega) (by omega) (growslice_fits (by omega) (by simpa using hb1))
      simpa using this
  unfold Oper.wp execOp
  simp only [resolve, invoke, builtin, Sem.run_bind, Sem.run_pure, Result.andThen_ok, List.map_toArray, List.map_cons, List.map_nil, e1, e2, hr]
  have hge : m ≤ grownCap w m 0 e := grownCap_ge w m 0 e
  have hcm : grownCap w m 0 e ≤ maxLen := grownCap_le_maxLen w m 0 e (by simp [maxLen]; omega)
  have hb : Below w.heap.size w (w.drew.alloc (.cells (news.toArray ++ Builtin.zeroCells z.cells (grownCap w m 0 e - m)) e)) := ⟨rfl, rfl, rfl, by simp, fun g hg => heap_alloc_old w.drew _ hg⟩
  have hsz' : (w.drew.alloc (.cells (news.toArray ++ Builtin.zeroCells z.cells (grownCap w m 0 e - m)) e)).heap.size = w.heap.size + 1 := by simp
  refine hK _ _ ((k _).out _ _ (row_sat hs (hb.mono hs.below.size) hd (hs.heap.below hb) ⟨news, ⟨q1, .inr ⟨w.heap.size, _, _, rfl, hs.below.size, heap_alloc_new w.drew _, hge, hcm, ?_, ?_⟩⟩, q4, q3⟩ fun g hg => ?_))
  · simp only [Array.size_append, List.size_toArray, size_zeroCells, hzs, q1, ← Nat.add_mul]
    congr 1
    omega
  · simp only [Array.toList_append]
    rw [← q1]
    exact List.take_left
  · obtain rfl : w.heap.size = g := by simpa [Value.ownBlock] using hg
    exact ⟨hs.below.size, by omega, fun e' he' hf => absurd (hs.heap.foot e' he' _ hf).2 (by omega)⟩
/-- 's[:h]', s of the call's own. -/
theorem aops_cut {d t e size n h cap g T : Nat} {x y : Operand} {q : IntKind} {c : Nat → List AV} {H' : List HE} (ht : TyS P t e size) (hx : Opd ⟨nt, env, H⟩ x (vv (.slice (some ⟨g, 0, none⟩) n cap))) (hy : Opd ⟨nt, env, H⟩ y (vv (.int q (h : Int)))) (hh : h ≤ n)
    (hr : HRep H (.row (.slice (some ⟨g, 0, none⟩) n cap) T size n c) (.row (.slice (some ⟨g, 0, none⟩) h cap) T size h c) H') (hd : Nat.blt d nt = true)
    (k : AOps P w0 ops ⟨nt, (d, vv (.slice (some ⟨g, 0, none⟩) h cap)) :: env, H'⟩ rest Q) : AOps P w0 ops ⟨nt, env, H⟩ (⟨some d, .slice t x none (some y) none, ty, pos, after, none⟩ :: rest) Q := by
  refine ⟨fun a w hs => wpList_plain rfl fun K hK => ?_⟩
  have ex : a.eval x = .slice (some ⟨g, 0, none⟩) n cap := hx w0 a w hs
  have ey : a.eval y = .int q (h : Int) := hy w0 a w hs
  obtain ⟨i, hu, hi, hs'⟩ := ht
  obtain ⟨xs, ⟨hlen, h1⟩, hrow, hone⟩ := hs.heap.get _ hr.mem
  rcases h1 with ⟨h1, _⟩ | ⟨g', cap', cur, hvv, hg, hh', hnc, hcm, hcs, htk⟩
  · cases h1
  injection hvv with q1 q2 q3
  injection q1 with q1
  injection q1 with q1 q4
  subst q1
  subst q3
  have hrun : (Instr.sliceAt t (.slice (some ⟨g, 0, none⟩) n cap) none (some (.int q (h : Int))) none).run P w = .ok (.slice (some ⟨g, 0, none⟩) h cap) w := by
    simp [Instr.sliceAt, Instr.slice, run_underlying hu, Instr.sliceBounds, Instr.sliceBound, asIntOf, sizeOf, typeInfo, hi, hs', Nat.le_trans hh hnc, add_lit]
  unfold Oper.wp
  simp only [execOp, ex, ey, Option.map_some, Option.map_none, hrun, Sem.run_bind, Sem.run_pure, Result.andThen_ok]
  have hle : h * size ≤ n * size := Nat.mul_le_mul_right _ hh
  refine hK _ _ (k.out _ _ (hs.step (A := vv _) (dst := some d) (Below.refl _ _) rfl hd (hr.ok (show ∀ b, (HE.row (.slice (some ⟨g, 0, none⟩) h cap) T size h c).foot b → (HE.row (.slice (some ⟨g, 0, none⟩) n cap) T size n c).foot b from fun _ h => h) hs.heap (Nat.le_refl _) (fun _ _ _ => rfl) ⟨xs.take (h * size), ⟨by rw [List.length_take, hlen]; omega, .inr ⟨g, cap, cur, rfl, hg, hh', Nat.le_trans hh hnc, hcm, hcs, by rw [← htk, List.take_take, Nat.min_eq_left hle]⟩⟩, fun j hj => ?_, fun u hu => hone u (List.mem_of_mem_take hu)⟩)))
  have hj2 : (j + 1) * size ≤ h * size := Nat.mul_le_mul_right _ hj
  rw [Nat.add_mul, Nat.one_mul] at hj2
  rw [List.drop_take, List.take_take, Nat.min_eq_left (by omega)]
  exact hrow j (by omega)
end
section
variable {P : Program} {s : AS} {o : Oper}
/-- Division of integers that are not negative. -/
theorem ev_idiv64 {t t' : TypeId} {x y : Operand} {a b : Int} (ho : o.op = .binOp .quo t x y t') (hx : Opd s x (vv (.int .i64 a))) (hy : Opd s y (vv (.int .i64 b))) (ha : 0 ≤ a) (ha' : a ≤ 9223372036854775807) (hb : 0 < b) : Ev P s o (vv (.int .i64 (a.tdiv b))) := by
  refine ⟨fun w0 ac w hs => ?_⟩
  have e : ac.eval x = .int .i64 a := hx w0 ac w hs
  have e2 : ac.eval y = .int .i64 b := hy w0 ac w hs
  have hb0 : b ≠ 0 := by omega
  have h0 : 0 ≤ a.tdiv b := Int.tdiv_nonneg ha (by omega)
  have h1 : a.tdiv b ≤ a := by
    rw [Int.tdiv_eq_ediv_of_nonneg ha]
    exact Int.ediv_le_self _ ha
  have hw : IntKind.wrap .i64 (a.tdiv b) = a.tdiv b := IntWalk.i64_in _ (by omega)
  have : (binOp .quo t (.int .i64 a) (.int .i64 b)).run P w = .ok (.int .i64 (a.tdiv b)) w := by
    simp [binOp, Op.intArith, Op.intDiv, hw, hb0]
  simp only [execOp, ho, e, e2, run_eqGuard_int, this, Sem.run_bind, Sem.run_pure, Result.andThen_ok]
  exact .of_val rfl
/-- 's[l:h]', s only read. -/
theorem ev_sliceLH {t e : TypeId} {x y z : Operand} {q q2 : IntKind} {size n l h : Nat} {c : Nat → List AV} (ho : o.op = .slice t x (some y) (some z) none) (hx : Opd s x (rs size n c)) (hy : Opd s y (vv (.int q (l : Int)))) (hz : Opd s z (vv (.int q2 (h : Int)))) (ht : TyS P t e size) (hl : l ≤ h) (hh : h ≤ n) : Ev P s o (rs size (h - l) fun j => c (l + j)) := by
  refine ⟨fun w0 a w hs => ?_⟩
  obtain ⟨ad, cap, ex, hcap, hc⟩ := hx w0 a w hs
  have ey : a.eval y = .int q (l : Int) := hy w0 a w hs
  have ez : a.eval z = .int q2 (h : Int) := hz w0 a w hs
  obtain ⟨i, hu, hi, hs'⟩ := ht
  have hr : (Instr.sliceAt t (.slice ad n cap) (some (.int q (l : Int))) (some (.int q2 (h : Int))) none).run P w = .ok (.slice (if cap = l then ad else ad.map (·.add (l * size))) (h - l) (cap - l)) w := by
    simp [Instr.sliceAt, Instr.slice, run_underlying hu, Instr.sliceBounds, Instr.sliceBound, asIntOf, sizeOf, typeInfo, hi, hs', Nat.le_trans hh hcap, hl]
  simp only [execOp, ho, ex, ey, ez, Option.map_some, Option.map_none, hr, Sem.run_bind, Sem.run_pure, Result.andThen_ok]
  refine .of_val ⟨_, _, rfl, by omega, fun h0 => ?_⟩
  obtain ⟨b, p, rfl, hl⟩ := hc (by omega)
  refine ⟨b, p + l * size, ?_, fun j hj => ?_⟩
  · rw [if_neg (by omega)]
    simp [add_lit]
  · have := hl (l + j) (by omega)
    rw [Nat.add_mul, ← Nat.add_assoc] at this
    exact this
/-- 's[:0:0]', s only read. -/
theorem ev_slice00 {t e : TypeId} {x y z : Operand} {q q2 : IntKind} {size n : Nat} {c : Nat → List AV} (ho : o.op = .slice t x none (some y) (some z)) (hx : Opd s x (rs size n c)) (hy : Opd s y (vv (.int q 0))) (hz : Opd s z (vv (.int q2 0))) (ht : TyS P t e size) : Ev P s o es0 := by
  refine ⟨fun w0 a w hs => ?_⟩
  obtain ⟨ad, cap, ex, hcap, hc⟩ := hx w0 a w hs
  have ey : a.eval y = .int q 0 := hy w0 a w hs
  have ez : a.eval z = .int q2 0 := hz w0 a w hs
  obtain ⟨i, hu, hi, hs'⟩ := ht
  have hr : (Instr.sliceAt t (.slice ad n cap) none (some (.int q 0)) (some (.int q2 0))).run P w = .ok (.slice ad 0 0) w := by
    simp [Instr.sliceAt, Instr.slice, run_underlying hu, Instr.sliceBounds, Instr.sliceBound, asIntOf, sizeOf, typeInfo, hi, hs']
  simp only [execOp, ho, ex, ey, ez, Option.map_some, Option.map_none, hr, Sem.run_bind, Sem.run_pure, Result.andThen_ok]
  exact .of_val ⟨ad, rfl⟩
end
end Go.Proofs.Ythnlpbfheefldaa
