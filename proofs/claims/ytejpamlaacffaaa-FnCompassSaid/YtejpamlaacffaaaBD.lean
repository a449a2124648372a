/-
  The base texts, joined. Conditions: none.
-/
import Derived.Test.YtejpamlaacffaaaCon
import Derived.Test.YtejpamlaacffaaaBr
import Derived.Test.YtejpamlaacffaaaLw
import Derived.Test.YtejpamlaacffaaaSu
import Derived.Test.YtejpamlaacffaaaBB
import Derived.Test.YtejpamlaacffaaaBC
import Derived.Test.YtejpamlaacffaaaAq
/-
  The helpers of the laws over slices of floats, in the abstract form. Conditions: none.
-/
namespace Go.Proofs.Ytejpamlaacffaaa
open Go Go.RowKit

def floC (F : Nat → Nat) (k : Nat) : List AV := [fl .f32 (F k)]
def fillC (F : Nat → Nat) (k j : Nat) : List AV := if j < k then [fl .f32 (F j)] else [fl .f32 0]
end Go.Proofs.Ytejpamlaacffaaa

/-
  Helpers of the laws over slices of floats, bools and relays: marks, copies, comparisons. Conditions: none.
-/
namespace Go.Proofs.Ytejpamlaacffaaa
open Go Go.RowKit

section
variable {P : Program} {w0 : World} {ops : Array Oper} {nt : Nat} {env : List (Nat × AV)} {H : List HE} {rest : List Oper} {Q : Exit → Act → World → Prop} {ty : TypeId} {pos : String} {after : Array Edge}
end
section
variable {w0 : World} {ops : Array Oper} {nt : Nat} {env : List (Nat × AV)} {H : List HE} {rest : List Oper} {Q : Exit → Act → World → Prop} {ty : TypeId} {pos : String} {after : Array Edge}
/-- A call of a function value that stands in a slot. -/
theorem sCs {d f t : Nat} {A : AV} {As : List AV} {args : List Operand} {ts : Array TypeId} (hc : Con Try.prog f As (RetA A)) (k : AOps Try.prog w0 ops ⟨nt, (d, A) :: env, H⟩ rest Q)
    (hx : Opd ⟨nt, env, H⟩ (.tmp t) (vv (.func (.func f) #[] #[])) := by exact Opd.tmp rfl)
    (hg : Givs ⟨nt, env, H⟩ args As := by repeat (first | exact Givs.nil | refine Givs.cons (by first | exact Giv.of (Opd.tmp rfl) | exact Giv.of (Opd.c _)) ?_))
    (hd : Nat.blt d nt = true := by exact rfl)
    : AOps Try.prog w0 ops ⟨nt, env, H⟩ (⟨some d, .call ⟨.value (.tmp t), args.toArray, ts⟩, ty, pos, after, none⟩ :: rest) Q := aops_ev (ev_call rfl hx hc hg) hd k
end

def mixC (a b : Nat → List AV) (k j : Nat) : List AV := if j < k then a j else b j
def boolC (B : Nat → Bool) (k : Nat) : List AV := [vv (.bool (B k))]
def markB (K : Int) (k : Nat) : List AV := [vv (.bool (decide ((K + ((k * 1 + 0 : Nat) : Int)).tmod 3 = 0)))]
end Go.Proofs.Ytejpamlaacffaaa

/-
  Calls that hand back two new slices; loops with more than one value. Conditions: none.
-/
namespace Go.Proofs.Ytejpamlaacffaaa
open Go Go.RowKit

def HE.pure : HE → Prop
  | .row _ _ _ _ c => ∀ k, (c k).all (·.p) = true
  | .cells _ l => l.all (·.p) = true
  | .fr _ _ => False
theorem HE.rebase {w0 w w' : World} (hb : w0.heap.size ≤ w.heap.size) {e : HE} (h : e.ok w w') (hp : e.pure) : e.ok w0 w' := by
  cases e with
  | cells b l =>
    obtain ⟨cs, T, h1, h2, h3⟩ := h
    exact ⟨cs, T, h1, All.pure hp h2, h3⟩
  | row v T size n c =>
    obtain ⟨xs, ⟨hl, h1⟩, h2, h3⟩ := h
    refine ⟨xs, ⟨hl, ?_⟩, fun k hk => (h2 k hk).pure (hp k), h3⟩
    rcases h1 with h1 | ⟨g, cap, cur, rfl, hg, r⟩
    · exact .inl h1
    · exact .inr ⟨g, cap, cur, rfl, Nat.le_trans hb hg, r⟩
  | fr _ _ => exact hp.elim
theorem HOk.rebase {w0 w w' : World} (hb : w0.heap.size ≤ w.heap.size) : ∀ {H : List HE}, HOk w w' H → (∀ e ∈ H, e.pure) → HOk w0 w' H
  | [], _, _ => trivial
  | e :: H, h, hp => ⟨HE.rebase hb h.1 (hp e (.head _)), fun g hg => ⟨Nat.le_trans hb (h.2.1 g hg).1, (h.2.1 g hg).2⟩, HOk.rebase hb h.2.2 fun e he => hp e (.tail _ he)⟩
/-- What a function hands back that makes memory. -/
def RetH {ι : Type} (A : ι → AV) (H' : ι → List HE) (w : World) (v : Value) (w' : World) : Prop := ∃ i, (∀ wx, (A i).R wx v) ∧ HOk w w' (H' i)
section
variable {P : Program} {w0 : World} {ops : Array Oper} {nt : Nat} {env : List (Nat × AV)} {H : List HE} {rest : List Oper} {Q : Exit → Act → World → Prop} {ty : TypeId} {pos : String} {after : Array Edge}
theorem aops_callH {d : Nat} {f : FuncId} {As : List AV} {ι : Type} {A : ι → AV} {H' : ι → List HE} {args : List Operand} {ts : Array TypeId} (hc : Con P f As (RetH A H')) (ha : Givs ⟨nt, env, H⟩ args As) (hp : ∀ i, ∀ e ∈ H' i, e.pure) (hd : Nat.blt d nt = true)
    (k : ∀ i, AOps P w0 ops ⟨nt, (d, A i) :: env, H' i ++ H⟩ rest Q) : AOps P w0 ops ⟨nt, env, H⟩ (⟨some d, .call { callee := .value (.func f), args := args.toArray, argTypes := ts }, ty, pos, after, none⟩ :: rest) Q := by
  refine ⟨fun a w hs => wpList_plain rfl fun K hK => ?_⟩
  unfold Oper.wp
  rw [run_call hc.1 (.func f) args.toArray ts rfl a rfl w]
  have := hc.2 w (args.map a.eval) (ha.all hs)
  simp only [Oper.upon]
  rw [show args.toArray.map a.eval = (args.map a.eval).toArray by simp]
  refine this.mono fun e w' h => ?_
  obtain ⟨v, rfl, hb, i, hv, hH⟩ := h
  refine hK _ _ ((k i).out _ _ (hs.step (A := A i) (dst := some d) (hb.mono hs.below.size) (hv w0) hd ((hH.rebase hs.below.size (hp i)).append (hs.heap.below hb) fun e he e' he' g hg hg' => ?_)))
  have h1 := (hH.foot e he g hg).1
  have h2 := (hs.heap.foot e' he' g hg').2
  omega
end
def RetRow2 (T1 s1 n1 : Nat) (c1 : Nat → List AV) (T2 s2 n2 : Nat) (c2 : Nat → List AV) (mk : Value → Value → AV) : World → Value → World → Prop := RetH (ι := Value × Value) (fun i => mk i.1 i.2) (fun i => [.row i.1 T1 s1 n1 c1, .row i.2 T2 s2 n2 c2])
section
variable {w0 : World} {ops : Array Oper} {nt : Nat} {env : List (Nat × AV)} {H : List HE} {rest : List Oper} {Q : Exit → Act → World → Prop} {ty : TypeId} {pos : String} {after : Array Edge}
end
section
variable {P : Program} {w0 : World} {s : AS} {Q : Exit → Act → World → Prop} {c : Code}
def AgG {ι : Type} (w0 : World) (st : Nat → ι → AS) (n k : Nat) (a : Act) (w : World) : Prop := k + 1 ≤ n ∧ ∃ v, Sat w0 (st (k + 1) v) a w
end
end Go.Proofs.Ytejpamlaacffaaa

/-
  Lists of wires: sizes, copies, comparisons of the laws. Conditions: none.
-/
namespace Go.Proofs.Ytejpamlaacffaaa
open Go Go.RowKit

section
variable {P : Program} {w0 : World} {s : AS}
end
/-- The frozen blocks: of the call's own, all but g. -/
def Fz (w0 w1 : World) (g x : Nat) : Prop := w0.heap.size ≤ x ∧ x < w1.heap.size ∧ x ≠ g
/-- A wire. -/
structure WI where
  m : Nat
  F : Nat → V3
  c : Bool
  X : Nat
def wireC (W : Nat → WI) (k : Nat) : List AV := [rs 3 (W k).m (vecC (W k).F), vv (.bool (W k).c), fl .f32 (W k).X]
def wireV (sv : Nat → Value) (W : Nat → WI) (k : Nat) : List AV := [vv (sv k), vv (.bool (W k).c), fl .f32 (W k).X]
def sumM (W : Nat → WI) : Nat → Nat
  | 0 => 0
  | k + 1 => sumM W k + (W k).m
def zeroW : List AV := [vv (.slice none 0 0), vv (.bool false), fl .f32 0]
def setV (sv : Nat → Value) (k : Nat) (v : Value) (j : Nat) : Value := if j = k then v else sv j
end Go.Proofs.Ytejpamlaacffaaa

/-
  Literals in regions that draw; appends of what is the call's own. Conditions: none.
-/
namespace Go.Proofs.Ytejpamlaacffaaa
open Go Go.RowKit

section
variable {P : Program} {w0 : World} {ops : Array Oper} {nt : Nat} {env : List (Nat × AV)} {H : List HE} {rest : List Oper} {Q : Exit → Act → World → Prop} {ty : TypeId} {pos : String} {after : Array Edge}
end
section
variable {P : Program} {nt : Nat} {env : List (Nat × AV)} {H : List HE} {ops : Array Oper} {rest : List Oper} {ty : TypeId} {pos : String} {after : Array Edge} {ns : NS} {K : AS → NS → Prop}
end
section
variable {w0 : World} {nt : Nat} {env : List (Nat × AV)} {H : List HE} {ops : Array Oper} {rest : List Oper} {Q : Exit → Act → World → Prop} {ty : TypeId} {pos : String} {after : Array Edge} {ns : NS} {K : AS → NS → Prop}
end
end Go.Proofs.Ytejpamlaacffaaa

/-
  Segments of wires and their fields, on both sides: contracts. Conditions: none.
-/
namespace Go.Proofs.Ytejpamlaacffaaa
open Go Go.RowKit

def segD (a b t : V3) : Nat := fop .mul .f32 (fop .mul .f32 (longV (lessV t a)) (longV (lessV t b))) (fop .add .f32 (fop .mul .f32 (longV (lessV t a)) (longV (lessV t b))) (innerV (lessV t a) (lessV t b)))
def segQ (a b t : V3) : Nat := fop .quo .f32 (fop .add .f32 (longV (lessV t a)) (longV (lessV t b))) (segD a b t)
def segF (a b t : V3) : V3 := if (cmpB .gtr .f32 (segD a b t) 0 && finB (segQ a b t)) = true then scaleV (crossV (lessV t a) (lessV t b)) (segQ a b t) else ⟨0, 0, 0⟩
end Go.Proofs.Ytejpamlaacffaaa

/-
  Segments of wires: the list that the program makes. Conditions: none.
-/
namespace Go.Proofs.Ytejpamlaacffaaa
open Go Go.RowKit

/-- The segment k goes from point k to the next one, which is point 0 behind the last. -/
def nxt (m k : Nat) : Nat := if k + 1 = m then 0 else k + 1
def segC (m : Nat) (F : Nat → V3) (k : Nat) : List AV := [fl .f32 (F k).x, fl .f32 (F k).y, fl .f32 (F k).z, fl .f32 (F (nxt m k)).x, fl .f32 (F (nxt m k)).y, fl .f32 (F (nxt m k)).z]
def cntW (m : Nat) (b : Bool) : Nat := if b = true then m else m - 1
end Go.Proofs.Ytejpamlaacffaaa

/-
  Fields of wires, on both sides: contracts. Conditions: none.
-/
namespace Go.Proofs.Ytejpamlaacffaaa
open Go Go.RowKit

def sumS (m : Nat) (F : Nat → V3) (t : V3) : Nat → V3
  | 0 => ⟨0, 0, 0⟩
  | k + 1 => addV (sumS m F t k) (segF (F k) (F (nxt m k)) t)
def fieldW (W : WI) (t : V3) : V3 := scaleV (sumS W.m W.F t (cntW W.m W.c)) W.X
end Go.Proofs.Ytejpamlaacffaaa

/-
  Fields of lists of wires: the program's side. Conditions: none.
-/
namespace Go.Proofs.Ytejpamlaacffaaa
open Go Go.RowKit

def sumF (W : Nat → WI) (t : V3) : Nat → V3
  | 0 => ⟨0, 0, 0⟩
  | k + 1 => addV (sumF W t k) (fieldW (W k) t)
def fieldOk (W : Nat → WI) (t : V3) (n : Nat) : Bool := finV t && finV (sumF W t n)
end Go.Proofs.Ytejpamlaacffaaa

/-
  Regions that draw their order and whose head stores into boxes of the call's own. Conditions: none.
-/
namespace Go.Proofs.Ytejpamlaacffaaa
open Go Go.RowKit

/-- What a step of the head may do to the world. -/
structure BlOk (Bl : World → World → Prop) : Prop where
  refl : ∀ w, Bl w w
  trans : ∀ {w w' w''}, Bl w w' → Bl w' w'' → Bl w w''
  size : ∀ {w w'}, Bl w w' → w.heap.size ≤ w'.heap.size
def StB (Bl : World → World → Prop) (F : World → Prop) : Prop := ∀ w w', Bl w w' → F w → F w'
structure SFB (Bl : World → World → Prop) where
  R : Value → World → Prop
  st : ∀ v, StB Bl (R v)
  ft : Value → Nat → Prop

section
variable {P : Program} {ops : Array Oper} {md : Region.Mode} {C : World → Prop} {Bl : World → World → Prop} {Rs : Nat → SFB Bl} {n nt lo : Nat}

def EFactB (md : Region.Mode) (ops : Array Oper) (Rs : Nat → SFB Bl) (n : Nat) (o : Oper) (a : Act) (w : World) : Prop :=
  ∀ e ∈ o.after, Region.binds md e = true → ∀ d, made ops e.on = some d → e.on < n → (Rs e.on).R (a.tmps.getD d undef) w
def relUponB (P : Program) (C : World → Prop) (w : World) (R : SFB Bl) : Result Next → Prop
  | .ok (.value u) w' => C w' ∧ Bl w w' ∧ R.R u w' ∧ ∀ g, R.ft u g → w.heap.size ≤ g ∧ g < w'.heap.size
  | .ok .skip w' => C w' ∧ Bl w w' ∧ R.R undef w' ∧ ∀ g, R.ft undef g → w.heap.size ≤ g ∧ g < w'.heap.size
  | .ok (.enter f args) w' => Calls P f args w' fun e w'' => ∃ v, e = .returned v ∧ C w'' ∧ Bl w w'' ∧ R.R v w'' ∧ ∀ g, R.ft v g → w.heap.size ≤ g ∧ g < w''.heap.size
  | _ => False
def YieldsB (P : Program) (md : Region.Mode) (ops : Array Oper) (C : World → Prop) (Rs : Nat → SFB Bl) (n : Nat) (o : Oper) (i : Nat) (a : Act) : Prop :=
  (Region.wanted o (yielded ops a.tmps) = true ∧ ∀ w, C w → EFactB md ops Rs n o a w → relUponB P C w (Rs i) ((execOp a.eval o).run P w)) ∨
  (Region.wanted o (yielded ops a.tmps) = false ∧ ∀ w, (Rs i).R undef w ∧ ∀ g, ¬ (Rs i).ft undef g)
def rOpB (P : Program) (md : Region.Mode) (ops : Array Oper) (C : World → Prop) (Rs : Nat → SFB Bl) (n : Nat) (i : Nat) (K : Act → (World → Prop) → Prop) (a : Act) (F : World → Prop) : Prop :=
  match ops[i]? with
  | none => False
  | some o => YieldsB P md ops C Rs n o i a ∧ ∀ v, (∃ w, C w ∧ F w ∧ (Rs i).R v w) → K (a.put o.dst v) (fun w => F w ∧ (Rs i).R v w)
def wpAnyRB (P : Program) (md : Region.Mode) (ops : Array Oper) (C : World → Prop) (Rs : Nat → SFB Bl) (n : Nat) (L : Array Bool → Act → (World → Prop) → Prop) : Nat → Array Bool → Act → (World → Prop) → Prop
  | 0, listed, a, F => L listed a F
  | f + 1, listed, a, F => Region.ready md ops listed ≠ [] ∧ ∀ i ∈ Region.ready md ops listed, i < n ∧ rOpB P md ops C Rs n i (wpAnyRB P md ops C Rs n L f (listed.setIfInBounds i true)) a F

def KnownB (ops : Array Oper) (Rs : Nat → SFB Bl) (n : Nat) (listed : Array Bool) (a : Act) (w : World) : Prop :=
  ∀ j d, j < n → made ops j = some d → listed.getD j false = true → (Rs j).R (a.tmps.getD d undef) w
structure FeetB (ops : Array Oper) (Rs : Nat → SFB Bl) (n lo : Nat) (listed : Array Bool) (a : Act) (w : World) : Prop where
  lt : ∀ j d, j < n → made ops j = some d → listed.getD j false = true → ∀ g, (Rs j).ft (a.tmps.getD d undef) g → lo ≤ g ∧ g < w.heap.size
  ap : ∀ j k d e, j < n → k < n → j ≠ k → made ops j = some d → made ops k = some e → listed.getD j false = true → listed.getD k false = true → ∀ g, (Rs j).ft (a.tmps.getD d undef) g → ¬ (Rs k).ft (a.tmps.getD e undef) g


theorem KnownB.step (hS : Stat ops n nt) {i : Nat} {o : Oper} (hi : i < n) (ho : ops[i]? = some o) {a : Act} {v : Value} {listed : Array Bool} {w : World} (hsz : a.tmps.size = nt) (h : KnownB ops Rs n listed a w) (hv : (Rs i).R v w) : KnownB ops Rs n (listed.setIfInBounds i true) (a.put o.dst v) w := by
  intro j d hj hm hl
  by_cases hij : i = j
  · subst hij
    have : o.dst = some d := (made_of ho).symm.trans hm
    rw [this, got_put (by rw [hsz]; exact hS.bnd _ _ hi hm)]
    exact hv
  · rw [listed_ne hij] at hl
    rw [got_ne fun e => hij (hS.dist i j d hi hj ((made_of ho).trans e) hm)]
    exact h j d hj hm hl
theorem FeetB.step (hS : Stat ops n nt) {i : Nat} {o : Oper} (hi : i < n) (ho : ops[i]? = some o) {a : Act} {v : Value} {listed : Array Bool} {w w' : World} (hsz : a.tmps.size = nt) (hlo : lo ≤ w.heap.size) (hb : w.heap.size ≤ w'.heap.size) (h : FeetB ops Rs n lo listed a w) (hv : ∀ g, (Rs i).ft v g → w.heap.size ≤ g ∧ g < w'.heap.size) : FeetB ops Rs n lo (listed.setIfInBounds i true) (a.put o.dst v) w' := by
  have get : ∀ j d, j < n → made ops j = some d → i ≠ j → (a.put o.dst v).tmps.getD d undef = a.tmps.getD d undef := fun j d hj hm hij => got_ne fun e => hij (hS.dist i j d hi hj ((made_of ho).trans e) hm)
  have gi : ∀ d, made ops i = some d → (a.put o.dst v).tmps.getD d undef = v := fun d hm => by
    have : o.dst = some d := (made_of ho).symm.trans hm
    rw [this, got_put (by rw [hsz]; exact hS.bnd _ _ hi hm)]
  constructor
  · intro j d hj hm hl g hg
    by_cases hij : i = j
    · subst hij
      rw [gi d hm] at hg
      have := hv g hg
      omega
    · rw [listed_ne hij] at hl
      rw [get j d hj hm hij] at hg
      have := h.lt j d hj hm hl g hg
      omega
  · intro j k d e hj hk hjk hm hm' hl hl' g hg hg'
    by_cases hij : i = j
    · subst hij
      rw [gi d hm] at hg
      rw [listed_ne hjk] at hl'
      rw [get k e hk hm' hjk] at hg'
      have := h.lt k e hk hm' hl' g hg'
      have := hv g hg
      omega
    · rw [listed_ne hij] at hl
      rw [get j d hj hm hij] at hg
      by_cases hik : i = k
      · subst hik
        rw [gi e hm'] at hg'
        have := h.lt j d hj hm hl g hg
        have := hv g hg'
        omega
      · rw [listed_ne hik] at hl'
        rw [get k e hk hm' hik] at hg'
        exact h.ap j k d e hj hk hjk hm hm' hl hl' g hg hg'

theorem YieldsB.some_ (hBl : BlOk Bl) {o : Oper} {i : Nat} {a : Act} {F : World → Prop} (hF : StB Bl F) (hex : ∃ w, C w ∧ F w) (hE : ∀ w, F w → EFactB md ops Rs n o a w) (hy : YieldsB P md ops C Rs n o i a) : ∃ v w, C w ∧ F w ∧ (Rs i).R v w := by
  obtain ⟨w, hw, hf⟩ := hex
  rcases hy with ⟨_, hy⟩ | ⟨_, hy⟩
  case inr => exact ⟨undef, w, hw, hf, (hy w).1⟩
  have h3 := hy w hw (hE w hf)
  generalize (execOp a.eval o).run P w = r at *
  cases r with
  | ok n w' =>
    cases n <;> simp only [relUponB] at h3
    case value u => exact ⟨u, w', h3.1, hF w w' h3.2.1 hf, h3.2.2.1⟩
    case skip => exact ⟨undef, w', h3.1, hF w w' h3.2.1 hf, h3.2.2.1⟩
    case enter f args =>
      obtain ⟨e, w'', _, ⟨v, _, h1, h4, h2, _⟩, _⟩ := h3 []
      exact ⟨v, w'', h1, hF w w'' h4 hf, h2⟩
  | halt x w' => simp only [relUponB] at h3

theorem EFactB.put (hS : Stat ops n nt) {o ok : Oper} {k : Nat} {a : Act} {v : Value} {w : World} (hno : ∀ e ∈ o.after, Region.binds md e = true → e.on ≠ k) (hk : ops[k]? = some ok) (hkn : k < n) : EFactB md ops Rs n o (a.put ok.dst v) w ↔ EFactB md ops Rs n o a w := by
  have q : ∀ e ∈ o.after, Region.binds md e = true → ∀ d, made ops e.on = some d → e.on < n → (a.put ok.dst v).tmps.getD d undef = a.tmps.getD d undef := fun e he hb d hm hn => got_ne fun x => hno e he hb (hS.dist e.on k d hn hkn hm ((made_of hk).trans x))
  constructor
  · intro h e he hb d hm hn
    rw [← q e he hb d hm hn]
    exact h e he hb d hm hn
  · intro h e he hb d hm hn
    rw [q e he hb d hm hn]
    exact h e he hb d hm hn

/-- The walk in the order of the text: k is the number of the operation at hand. -/
def wpRelB2 (P : Program) (md : Region.Mode) (ops : Array Oper) (C : World → Prop) (Rs : Nat → SFB Bl) (n : Nat) (T : Act → (World → Prop) → Prop) : Nat → List Oper → Act → (World → Prop) → Prop
  | _, [], a, F => T a F
  | k, o :: rest, a, F => YieldsB P md ops C Rs n o k a ∧ ∀ v, (∃ w, C w ∧ F w ∧ (Rs k).R v w) → wpRelB2 P md ops C Rs n T (k + 1) rest (a.put o.dst v) (fun w => F w ∧ (Rs k).R v w)

end
/-- What a step may do to the world: the box b of the call's own may get the cells c. -/
structure Bx (w0 : World) (b : Nat) (c : List AV) (w w' : World) : Prop where
  os : w'.os = w.os
  tape : w'.tape = w.tape
  output : w'.output = w.output
  size : w.heap.size ≤ w'.heap.size
  block : ∀ g, g < w.heap.size → g ≠ b → w'.heap[g]? = w.heap[g]?
  own : b < w.heap.size → w'.heap[b]? = w.heap[b]? ∨ (HE.cells b c).ok w0 w'
def SFB.pure {Bl : World → World → Prop} (R : Value → Prop) : SFB Bl := ⟨fun v _ => R v, fun _ _ _ _ h => h, fun _ _ => False⟩
theorem cells_lt {w0 w : World} {b : Nat} {c : List AV} (h : (HE.cells b c).ok w0 w) : b < w.heap.size := by
  obtain ⟨cs, T, h1, _⟩ := h
  exact (Array.getElem?_eq_some_iff.1 h1).1
def SFB.cells (w0 : World) (b : Nat) (c : List AV) : SFB (Bx w0 b c) := ⟨fun _ w => (HE.cells b c).ok w0 w, fun _ w w' hb h => by
  rcases hb.own (cells_lt h) with h1 | h1
  · exact h.keep hb.size fun g hg => by obtain rfl : g = b := hg; exact h1
  · exact h1, fun _ _ => False⟩
/-- The box that will be stored into. -/
structure Xok (w0 w1 : World) (b : Nat) (c : List AV) (H : List HE) : Prop where
  ge : w0.heap.size ≤ b
  lt : b < w1.heap.size
  has : ∃ l : List AV, l.length = c.length ∧ (HE.cells b l).ok w0 w1
  free : ∀ e ∈ H, ¬ e.foot b
structure PreX (w0 w1 : World) (s : AS) (a : Act) : Prop where
  size : a.tmps.size = s.nt
  defers : a.defers = []
  env : ∀ t A, look t s.env = some A → A.R w0 (a.tmps.getD t undef)
  heap : HOk w0 w1 s.heap
theorem PreX.sat {w0 w1 w : World} {s : AS} {a : Act} {b : Nat} {c : List AV} (h : PreX w0 w1 s a) (h0 : Below w0.heap.size w0 w1) (hX : Xok w0 w1 b c s.heap) (hw : Bx w0 b c w1 w) : Sat w0 s a w :=
  ⟨h0.trans ⟨hw.os, hw.tape, hw.output, hw.size, fun g hg => hw.block g (Nat.lt_of_lt_of_le hg h0.size) (by have := hX.ge; omega)⟩, h.size, h.defers, h.env, h.heap.keep hw.size fun e he g hg => hw.block g (h.heap.foot e he g hg).2 fun hgb => by
    subst hgb
    exact hX.free e he hg⟩
theorem Xok.now {w0 w1 w : World} {b : Nat} {c : List AV} {H : List HE} (hX : Xok w0 w1 b c H) (hw : Bx w0 b c w1 w) : ∃ l : List AV, l.length = c.length ∧ (HE.cells b l).ok w0 w := by
  rcases hw.own hX.lt with h1 | h1
  · obtain ⟨l, h2, h3⟩ := hX.has
    exact ⟨l, h2, h3.keep hw.size fun g hg => by obtain rfl : g = b := hg; exact h1⟩
  · exact ⟨c, rfl, h1⟩
/-- A store that fills a box of the call's own. -/
structure EvS (P : Program) (s : AS) (o : Oper) (b : Nat) (c : List AV) : Prop where
  out : ∀ w0 a w, Sat w0 s a w → (∃ l : List AV, l.length = c.length ∧ (HE.cells b l).ok w0 w) → ∃ w', (execOp a.eval o).run P w = .ok .skip w' ∧ w'.os = w.os ∧ w'.tape = w.tape ∧ w'.output = w.output ∧ w'.heap.size = w.heap.size ∧ (∀ g, g ≠ b → w'.heap[g]? = w.heap[g]?) ∧ (HE.cells b c).ok w0 w'
/-- Behind the operations ahead of the store. -/
structure SEnd (P : Program) (w0 : World) (ops : Array Oper) (n : Nat) (l : List Oper) (Q : Exit → Act → World → Prop) (so : Oper) (b : Nat) (c : List AV) (s : AS) (es : List Ent) : Prop where
  nil : es = []
  ev : EvS P s so b c
  k : ADrop P w0 ops ⟨s.nt, s.env, .cells b c :: s.heap⟩ (n + 1) l Q
end Go.Proofs.Ytejpamlaacffaaa

/-
  Ends of a segment, fields of wires: the reference. Conditions: none.
-/
namespace Go.Proofs.Ytejpamlaacffaaa
open Go Go.RowKit

/-- The reference's field of all wires, from a first sum on. -/
def allZ (Z : V3) (W : Nat → WI) (t : V3) : Nat → V3
  | 0 => Z
  | k + 1 => addV (allZ Z W t k) (fieldW (W k) t)
def allF (W : Nat → WI) (t : V3) (n : Nat) : V3 := allZ (if finV t = true then ⟨0, 0, 0⟩ else lessV t t) W t n
end Go.Proofs.Ytejpamlaacffaaa

/-
  Helpers of the laws over slices of bools and of relays: copies, comparisons, marks. Conditions: none.
-/
namespace Go.Proofs.Ytejpamlaacffaaa
open Go Go.RowKit

section
variable {P : Program} {w0 : World} {ops : Array Oper} {Q : Exit → Act → World → Prop}
end

/-- An element in place of another. -/
def updC (c : Nat → List AV) (k : Nat) (l : List AV) (j : Nat) : List AV := if j = k then l else c j
def zero3 : List AV := [fl .f32 0, fl .f32 0, fl .f32 0]
end Go.Proofs.Ytejpamlaacffaaa

/-
  Whether some element of a slice is bad: contracts of the library's search, over floats and over relays; relays on both sides. Conditions: none.
-/
namespace Go.Proofs.Ytejpamlaacffaaa
open Go Go.RowKit

section
variable {P : Program} {w0 : World} {s : AS} {Q : Exit → Act → World → Prop} {c : Code}
/-- A loop that counts from 0 up to n, with a fact that holds at each round's head. -/
def AgI (w0 : World) (st : Nat → AS) (I : Nat → Prop) (n k : Nat) (a : Act) (w : World) : Prop := k + 1 ≤ n ∧ I (k + 1) ∧ Sat w0 (st (k + 1)) a w
theorem awp_loopI (st : Nat → AS) (I : Nat → Prop) (n : Nat) (hI : I 0) (h0 : Imp s (st 0)) (round : ∀ k, k ≤ n → I k → AWp P w0 (st k) c (Exit.then (AgI w0 st I n k) Q)) : AWp P w0 s (.loop c) Q :=
  awp_loop st (fun k => k ≤ n ∧ I k) (fun k => n - k) 0 ⟨Nat.zero_le _, hI⟩ h0 fun k hk => ⟨fun a w hs => Code.wp_mono (fun e a w q => by
    cases e
    case normal => exact ⟨k + 1, ⟨q.1, q.2.1⟩, by have := q.1; show n - (k + 1) < n - k; omega, q.2.2⟩
    all_goals exact q) ((round k hk.1 hk.2).out a w hs)⟩
theorem aex_agI {st : Nat → AS} {I : Nat → Prop} {n k : Nat} (hk : k + 1 ≤ n) (hI : I (k + 1)) (h : Imp s (st (k + 1))) : AEx w0 s .normal (Exit.then (AgI w0 st I n k) Q) := ⟨fun a w hs => ⟨hk, hI, h w0 a w hs⟩⟩
end

/-- The first place of a bad one, -1 if there is none. -/
def idxB (p : Nat → Bool) : Nat → Int
  | 0 => -1
  | k + 1 => if idxB p k ≥ 0 then idxB p k else if p k = true then (k : Int) else -1
def anyB (p : Nat → Bool) (n : Nat) : Bool := decide (idxB p n ≥ 0)
theorem idx_none {p : Nat → Bool} : ∀ {k : Nat}, (∀ j, j < k → p j = false) → idxB p k = -1
  | 0, _ => rfl
  | k + 1, h => by
    unfold idxB
    rw [idx_none fun j hj => h j (by omega), if_neg (by omega), if_neg (by rw [h k (by omega)]; simp)]
theorem idx_hit {p : Nat → Bool} {k : Nat} (h : ∀ j, j < k → p j = false) (hk : p k = true) : ∀ m, idxB p (k + 1 + m) = (k : Int)
  | 0 => by
    rw [Nat.add_zero]
    unfold idxB
    rw [idx_none h, if_neg (by omega), if_pos hk]
  | m + 1 => by
    rw [show k + 1 + (m + 1) = (k + 1 + m) + 1 by omega]
    unfold idxB
    rw [idx_hit h hk m, if_pos (by omega)]
theorem idx_at {p : Nat → Bool} {k n : Nat} (h : ∀ j, j < k → p j = false) (hk : p k = true) (hn : k < n) : idxB p n = (k : Int) := by
  have := idx_hit h hk (n - (k + 1))
  rwa [show k + 1 + (n - (k + 1)) = n by omega] at this
def badR (A : V3) : Bool := !finB A.x || !finB A.y || !finB A.z || !cmpB .lss .f32 A.y A.x
def relOk (F : Nat → V3) (n : Nat) : Bool := !anyB (fun k => badR (F k)) n && (decide ((n : Int) ≥ 1) && decide ((n : Int) ≤ 36))
end Go.Proofs.Ytejpamlaacffaaa

/-
  Valid wires and lists of wires, on both sides: contracts. Conditions: none.
-/
namespace Go.Proofs.Ytejpamlaacffaaa
open Go Go.RowKit

def okW (W : WI) : Bool := decide ((W.m : Int) ≥ 2) && decide ((W.m : Int) ≤ 48) && !anyB (fun k => !finV (W.F k)) W.m && finB W.X
def okWs (W : Nat → WI) (n : Nat) : Bool := decide ((n : Int) ≤ 8) && !anyB (fun k => !okW (W k)) n
def wireA (W : WI) : AV := wire (rs 3 W.m (vecC W.F)) W.c W.X
set_option maxRecDepth 100000 in
set_option maxHeartbeats 2000000 in
theorem c_implBadVector {A : V3} : Con Try.prog 67 [vec A] (RetA (vv (.bool (!finV A)))) := by
  refine con_enter Try.func67 rfl (by kernel_rfl) Try.ntmps67 rfl fun w0 => ?_
  (repeat (first | (refine gA ?_; first | refine aops_nil ?_ | (refine gA_gd ?_; first | refine gY ?_ | refine gN ?_ | refine gS ?_) | (refine gA_callf ?_; refine sC (c_implFiniteVector) ?_) | (refine gA_alloc ?_; refine sA ?_; intro _) | (refine gA_store ?_; first | refine sS ?_ | refine sSr ?_) | (refine gA_box ?_; refine sB ?_; intro _) | (refine gA_move ?_; refine sE_move ?_) | (refine gA_load ?_; refine sE_load ?_) | (refine gA_assign ?_; refine sE_assign ?_) | (refine gA_field ?_; refine sE_field ?_) | (refine gA_bin ?_; refine sE_bin ?_) | (refine gA_index ?_; refine sE_index ?_) | (refine gA_callb ?_; refine sE_callb ?_) | (refine gA_un ?_; refine sE_un ?_) | (refine gA_conv ?_; refine sE_conv ?_) | (refine gA_build ?_; refine sE_build ?_) | (refine gA_ext ?_; refine sE_ext ?_) | (refine gA_slice ?_; refine sE_slice ?_) | (refine gA_nilc ?_; refine sE_nilc ?_) | (refine gA_pick ?_; refine sE_pick ?_) | (refine gA_func ?_; refine sE_func ?_)) | (refine gW ?_; first | refine awp_seq ?_ | refine awp_region ?_ | refine awp_block ?_ | refine awp_skip ?_ | refine awp_ret ?_ | refine awp_exit ?_ | refine awp_label ?_) | (refine gX ?_; first | refine aex_then ?_ | refine aex_normal_block ?_ | refine aex_ret_then ?_ | refine aex_ret_block ?_ | refine aex_exit_then ?_ | refine aex_exit_here ?_ | refine aex_exit_out rfl ?_)))
  exact aex_ret1 rfl (resV_tmp (Opd.tmp rfl)) (by exact rfl)
set_option maxRecDepth 100000 in
set_option maxHeartbeats 2000000 in
theorem c_indexBadVector {n : Nat} {X : Nat → V3} (hn : n ≤ maxLen) : Con Try.prog 73 [rs 3 n (vecC X), vv (.func (.func 67) #[] #[])] (RetA (vv (.int .i64 (idxB (fun k => !finV (X k)) n)))) := by
  refine con_enter Try.func73 rfl (by kernel_rfl) Try.ntmps73 rfl fun w0 => ?_
  unfold maxLen at hn
  (repeat (first | (refine gA ?_; first | refine aops_nil ?_ | (refine gA_gd ?_; first | refine gY ?_ | refine gN ?_ | refine gS ?_) | (refine gA_alloc ?_; refine sA ?_; intro _) | (refine gA_store ?_; first | refine sS ?_ | refine sSr ?_) | (refine gA_box ?_; refine sB ?_; intro _) | (refine gA_move ?_; refine sE_move ?_) | (refine gA_load ?_; refine sE_load ?_) | (refine gA_assign ?_; refine sE_assign ?_) | (refine gA_field ?_; refine sE_field ?_) | (refine gA_bin ?_; refine sE_bin ?_) | (refine gA_index ?_; refine sE_index ?_) | (refine gA_callb ?_; refine sE_callb ?_) | (refine gA_un ?_; refine sE_un ?_) | (refine gA_conv ?_; refine sE_conv ?_) | (refine gA_build ?_; refine sE_build ?_) | (refine gA_ext ?_; refine sE_ext ?_) | (refine gA_slice ?_; refine sE_slice ?_) | (refine gA_nilc ?_; refine sE_nilc ?_) | (refine gA_pick ?_; refine sE_pick ?_) | (refine gA_func ?_; refine sE_func ?_)) | (refine gW ?_; first | refine awp_seq ?_ | refine awp_region ?_ | refine awp_block ?_ | refine awp_skip ?_ | refine awp_ret ?_ | refine awp_exit ?_ | refine awp_label ?_) | (refine gX ?_; first | refine aex_then ?_ | refine aex_normal_block ?_ | refine aex_ret_then ?_ | refine aex_ret_block ?_ | refine aex_exit_then ?_ | refine aex_exit_here ?_ | refine aex_exit_out rfl ?_)))
  refine awp_loopI (fun k => ⟨19, [(0, rs 3 n (vecC X)), (1, vv (.func (.func 67) #[] #[])), (7, vv (.int .i64 (n : Int))), (8, vv (.int .i64 (k : Int)))], []⟩) (fun k => ∀ j, j < k → (fun k => !finV (X k)) j = false) n (fun j hj => absurd hj (by omega)) (imp_mk (by repeat (first | exact EnvImp.nil | refine EnvImp.cons (by first | exact Opd.tmp rfl | exact OpF.tmp rfl) ?_)) (by repeat (first | exact HSub.nil | refine HSub.keep ?_ | refine HSub.drop ?_))) (fun k hk hI => ?_)
  (repeat (first | (refine gA ?_; first | refine aops_nil ?_ | (refine gA_gd ?_; first | refine gY ?_ | refine gN ?_ | refine gS ?_) | (refine gA_alloc ?_; refine sA ?_; intro _) | (refine gA_store ?_; first | refine sS ?_ | refine sSr ?_) | (refine gA_box ?_; refine sB ?_; intro _) | (refine gA_move ?_; refine sE_move ?_) | (refine gA_load ?_; refine sE_load ?_) | (refine gA_assign ?_; refine sE_assign ?_) | (refine gA_field ?_; refine sE_field ?_) | (refine gA_bin ?_; refine sE_bin ?_) | (refine gA_index ?_; refine sE_index ?_) | (refine gA_callb ?_; refine sE_callb ?_) | (refine gA_un ?_; refine sE_un ?_) | (refine gA_conv ?_; refine sE_conv ?_) | (refine gA_build ?_; refine sE_build ?_) | (refine gA_ext ?_; refine sE_ext ?_) | (refine gA_slice ?_; refine sE_slice ?_) | (refine gA_nilc ?_; refine sE_nilc ?_) | (refine gA_pick ?_; refine sE_pick ?_) | (refine gA_func ?_; refine sE_func ?_)) | (refine gW ?_; first | refine awp_seq ?_ | refine awp_region ?_ | refine awp_block ?_ | refine awp_skip ?_ | refine awp_ret ?_ | refine awp_exit ?_ | refine awp_label ?_) | (refine gX ?_; first | refine aex_then ?_ | refine aex_normal_block ?_ | refine aex_ret_then ?_ | refine aex_ret_block ?_ | refine aex_exit_then ?_ | refine aex_exit_here ?_ | refine aex_exit_out rfl ?_)))
  refine cC (fun hg => ?_) (fun hg => ?_)
  · have hkn : k < n := by simp at hg; omega
    clear hg
    (repeat (first | (refine gA ?_; first | refine aops_nil ?_ | (refine gA_gd ?_; first | refine gY ?_ | refine gN ?_ | refine gS ?_) | (refine gA_callf ?_; refine sCs (c_implBadVector) ?_) | (refine gA_alloc ?_; refine sA ?_; intro _) | (refine gA_store ?_; first | refine sS ?_ | refine sSr ?_) | (refine gA_box ?_; refine sB ?_; intro _) | (refine gA_move ?_; refine sE_move ?_) | (refine gA_load ?_; refine sE_load ?_) | (refine gA_assign ?_; refine sE_assign ?_) | (refine gA_field ?_; refine sE_field ?_) | (refine gA_bin ?_; refine sE_bin ?_) | (refine gA_index ?_; refine sE_index ?_) | (refine gA_callb ?_; refine sE_callb ?_) | (refine gA_un ?_; refine sE_un ?_) | (refine gA_conv ?_; refine sE_conv ?_) | (refine gA_build ?_; refine sE_build ?_) | (refine gA_ext ?_; refine sE_ext ?_) | (refine gA_slice ?_; refine sE_slice ?_) | (refine gA_nilc ?_; refine sE_nilc ?_) | (refine gA_pick ?_; refine sE_pick ?_) | (refine gA_func ?_; refine sE_func ?_)) | (refine gW ?_; first | refine awp_seq ?_ | refine awp_region ?_ | refine awp_block ?_ | refine awp_skip ?_ | refine awp_ret ?_ | refine awp_exit ?_ | refine awp_label ?_) | (refine gX ?_; first | refine aex_then ?_ | refine aex_normal_block ?_ | refine aex_ret_then ?_ | refine aex_ret_block ?_ | refine aex_exit_then ?_ | refine aex_exit_here ?_ | refine aex_exit_out rfl ?_)))
    cases hb : (fun k => !finV (X k)) k
    · have hb' : (!finV (X k)) = false := hb
      (repeat (first | (refine gA ?_; first | refine aops_nil ?_ | (refine gA_gd ?_; first | refine gY ?_ | refine gN ?_ | refine gS ?_) | (refine gA_alloc ?_; refine sA ?_; intro _) | (refine gA_store ?_; first | refine sS ?_ | refine sSr ?_) | (refine gA_box ?_; refine sB ?_; intro _) | (refine gA_move ?_; refine sE_move ?_) | (refine gA_load ?_; refine sE_load ?_) | (refine gA_assign ?_; refine sE_assign ?_) | (refine gA_field ?_; refine sE_field ?_) | (refine gA_bin ?_; refine sE_bin ?_) | (refine gA_index ?_; refine sE_index ?_) | (refine gA_callb ?_; refine sE_callb ?_) | (refine gA_un ?_; refine sE_un ?_) | (refine gA_conv ?_; refine sE_conv ?_) | (refine gA_build ?_; refine sE_build ?_) | (refine gA_ext ?_; refine sE_ext ?_) | (refine gA_slice ?_; refine sE_slice ?_) | (refine gA_nilc ?_; refine sE_nilc ?_) | (refine gA_pick ?_; refine sE_pick ?_) | (refine gA_func ?_; refine sE_func ?_)) | (refine gW ?_; first | refine awp_seq ?_ | refine awp_region ?_ | refine awp_block ?_ | refine awp_skip ?_ | refine awp_ret ?_ | refine awp_exit ?_ | refine awp_label ?_ | refine cF ?_ | refine cT ?_) | (refine gX ?_; first | refine aex_then ?_ | refine aex_normal_block ?_ | refine aex_ret_then ?_ | refine aex_ret_block ?_ | refine aex_exit_then ?_ | refine aex_exit_here ?_ | refine aex_exit_out rfl ?_)))
      exact aex_agI (by omega) (fun j hj => by rcases Nat.lt_or_eq_of_le (Nat.le_of_lt_succ hj) with h | h; exact hI j h; subst h; exact hb) (imp_mk (by repeat (first | exact EnvImp.nil | refine EnvImp.cons (by first | exact Opd.tmp rfl | exact OpF.tmp rfl) ?_)) (by repeat (first | exact HSub.nil | refine HSub.keep ?_ | refine HSub.drop ?_)))
    · have hb' : (!finV (X k)) = true := hb
      rw [idx_at hI hb hkn]
      (repeat (first | (refine gA ?_; first | refine aops_nil ?_ | (refine gA_gd ?_; first | refine gY ?_ | refine gN ?_ | refine gS ?_) | (refine gA_alloc ?_; refine sA ?_; intro _) | (refine gA_store ?_; first | refine sS ?_ | refine sSr ?_) | (refine gA_box ?_; refine sB ?_; intro _) | (refine gA_move ?_; refine sE_move ?_) | (refine gA_load ?_; refine sE_load ?_) | (refine gA_assign ?_; refine sE_assign ?_) | (refine gA_field ?_; refine sE_field ?_) | (refine gA_bin ?_; refine sE_bin ?_) | (refine gA_index ?_; refine sE_index ?_) | (refine gA_callb ?_; refine sE_callb ?_) | (refine gA_un ?_; refine sE_un ?_) | (refine gA_conv ?_; refine sE_conv ?_) | (refine gA_build ?_; refine sE_build ?_) | (refine gA_ext ?_; refine sE_ext ?_) | (refine gA_slice ?_; refine sE_slice ?_) | (refine gA_nilc ?_; refine sE_nilc ?_) | (refine gA_pick ?_; refine sE_pick ?_) | (refine gA_func ?_; refine sE_func ?_)) | (refine gW ?_; first | refine awp_seq ?_ | refine awp_region ?_ | refine awp_block ?_ | refine awp_skip ?_ | refine awp_ret ?_ | refine awp_exit ?_ | refine awp_label ?_ | refine cF ?_ | refine cT ?_) | (refine gX ?_; first | refine aex_then ?_ | refine aex_normal_block ?_ | refine aex_ret_then ?_ | refine aex_ret_block ?_ | refine aex_exit_then ?_ | refine aex_exit_here ?_ | refine aex_exit_out rfl ?_)))
      exact aex_ret1 rfl (resV_tmp (Opd.tmp rfl)) (by exact rfl)
  · obtain rfl : k = n := by simp at hg; omega
    rw [idx_none hI]
    (repeat (first | (refine gA ?_; first | refine aops_nil ?_ | (refine gA_gd ?_; first | refine gY ?_ | refine gN ?_ | refine gS ?_) | (refine gA_alloc ?_; refine sA ?_; intro _) | (refine gA_store ?_; first | refine sS ?_ | refine sSr ?_) | (refine gA_box ?_; refine sB ?_; intro _) | (refine gA_move ?_; refine sE_move ?_) | (refine gA_load ?_; refine sE_load ?_) | (refine gA_assign ?_; refine sE_assign ?_) | (refine gA_field ?_; refine sE_field ?_) | (refine gA_bin ?_; refine sE_bin ?_) | (refine gA_index ?_; refine sE_index ?_) | (refine gA_callb ?_; refine sE_callb ?_) | (refine gA_un ?_; refine sE_un ?_) | (refine gA_conv ?_; refine sE_conv ?_) | (refine gA_build ?_; refine sE_build ?_) | (refine gA_ext ?_; refine sE_ext ?_) | (refine gA_slice ?_; refine sE_slice ?_) | (refine gA_nilc ?_; refine sE_nilc ?_) | (refine gA_pick ?_; refine sE_pick ?_) | (refine gA_func ?_; refine sE_func ?_)) | (refine gW ?_; first | refine awp_seq ?_ | refine awp_region ?_ | refine awp_block ?_ | refine awp_skip ?_ | refine awp_ret ?_ | refine awp_exit ?_ | refine awp_label ?_) | (refine gX ?_; first | refine aex_then ?_ | refine aex_normal_block ?_ | refine aex_ret_then ?_ | refine aex_ret_block ?_ | refine aex_exit_then ?_ | refine aex_exit_here ?_ | refine aex_exit_out rfl ?_)))
    exact aex_ret1 rfl (resV_tmp (Opd.tmp rfl)) (by exact rfl)
set_option maxRecDepth 100000 in
set_option maxHeartbeats 2000000 in
theorem c_anyBadVector {n : Nat} {X : Nat → V3} (hn : n ≤ maxLen) : Con Try.prog 66 [rs 3 n (vecC X), vv (.func (.func 67) #[] #[])] (RetA (vv (.bool (anyB (fun k => !finV (X k)) n)))) := by
  refine con_enter Try.func66 rfl (by kernel_rfl) Try.ntmps66 rfl fun w0 => ?_
  (repeat (first | (refine gA ?_; first | refine aops_nil ?_ | (refine gA_gd ?_; first | refine gY ?_ | refine gN ?_ | refine gS ?_) | (refine gA_callf ?_; refine sC (c_indexBadVector hn) ?_) | (refine gA_alloc ?_; refine sA ?_; intro _) | (refine gA_store ?_; first | refine sS ?_ | refine sSr ?_) | (refine gA_box ?_; refine sB ?_; intro _) | (refine gA_move ?_; refine sE_move ?_) | (refine gA_load ?_; refine sE_load ?_) | (refine gA_assign ?_; refine sE_assign ?_) | (refine gA_field ?_; refine sE_field ?_) | (refine gA_bin ?_; refine sE_bin ?_) | (refine gA_index ?_; refine sE_index ?_) | (refine gA_callb ?_; refine sE_callb ?_) | (refine gA_un ?_; refine sE_un ?_) | (refine gA_conv ?_; refine sE_conv ?_) | (refine gA_build ?_; refine sE_build ?_) | (refine gA_ext ?_; refine sE_ext ?_) | (refine gA_slice ?_; refine sE_slice ?_) | (refine gA_nilc ?_; refine sE_nilc ?_) | (refine gA_pick ?_; refine sE_pick ?_) | (refine gA_func ?_; refine sE_func ?_)) | (refine gW ?_; first | refine awp_seq ?_ | refine awp_region ?_ | refine awp_block ?_ | refine awp_skip ?_ | refine awp_ret ?_ | refine awp_exit ?_ | refine awp_label ?_) | (refine gX ?_; first | refine aex_then ?_ | refine aex_normal_block ?_ | refine aex_ret_then ?_ | refine aex_ret_block ?_ | refine aex_exit_then ?_ | refine aex_exit_here ?_ | refine aex_exit_out rfl ?_)))
  exact aex_ret1 rfl (resV_tmp (Opd.tmp rfl)) (by exact rfl)
set_option maxRecDepth 100000 in
set_option maxHeartbeats 2000000 in
theorem c_implAreFiniteV {n : Nat} {X : Nat → V3} (hn : n ≤ maxLen) : Con Try.prog 56 [rs 3 n (vecC X)] (RetA (vv (.bool (!anyB (fun k => !finV (X k)) n)))) := by
  refine con_enter Try.func56 rfl (by kernel_rfl) Try.ntmps56 rfl fun w0 => ?_
  (repeat (first | (refine gA ?_; first | refine aops_nil ?_ | (refine gA_gd ?_; first | refine gY ?_ | refine gN ?_ | refine gS ?_) | (refine gA_callf ?_; refine sC (c_anyBadVector hn) ?_) | (refine gA_alloc ?_; refine sA ?_; intro _) | (refine gA_store ?_; first | refine sS ?_ | refine sSr ?_) | (refine gA_box ?_; refine sB ?_; intro _) | (refine gA_move ?_; refine sE_move ?_) | (refine gA_load ?_; refine sE_load ?_) | (refine gA_assign ?_; refine sE_assign ?_) | (refine gA_field ?_; refine sE_field ?_) | (refine gA_bin ?_; refine sE_bin ?_) | (refine gA_index ?_; refine sE_index ?_) | (refine gA_callb ?_; refine sE_callb ?_) | (refine gA_un ?_; refine sE_un ?_) | (refine gA_conv ?_; refine sE_conv ?_) | (refine gA_build ?_; refine sE_build ?_) | (refine gA_ext ?_; refine sE_ext ?_) | (refine gA_slice ?_; refine sE_slice ?_) | (refine gA_nilc ?_; refine sE_nilc ?_) | (refine gA_pick ?_; refine sE_pick ?_) | (refine gA_func ?_; refine sE_func ?_)) | (refine gW ?_; first | refine awp_seq ?_ | refine awp_region ?_ | refine awp_block ?_ | refine awp_skip ?_ | refine awp_ret ?_ | refine awp_exit ?_ | refine awp_label ?_) | (refine gX ?_; first | refine aex_then ?_ | refine aex_normal_block ?_ | refine aex_ret_then ?_ | refine aex_ret_block ?_ | refine aex_exit_then ?_ | refine aex_exit_here ?_ | refine aex_exit_out rfl ?_)))
  exact aex_ret1 rfl (resV_tmp (Opd.tmp rfl)) (by exact rfl)
end Go.Proofs.Ytejpamlaacffaaa
