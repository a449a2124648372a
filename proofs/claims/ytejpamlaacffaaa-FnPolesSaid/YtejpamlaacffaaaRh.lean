/-
  Calls that hand back two new slices; loops with more than one value. Conditions: none.
-/
import Derived.Test.YtejpamlaacffaaaBB
import Derived.Test.YtejpamlaacffaaaCon
namespace Go.Proofs.Ytejpamlaacffaaa
open Go Go.RowKit

def HE.pure : HE → Prop
  | .row _ _ _ _ c => ∀ k, (c k).all (·.p) = true
  | .cells _ l => l.all (·.p) = true
  | .fr _ _ => False
theorem HE.rebase {w0 w w' : World} (hb : w0.heap.size ≤ w.heap.size) {e : HE} (h : e.ok w w') (hp : e.pure) : e.ok w0 w' := by
  cases e with
  | cells b l =>
    obtain ⟨cs, T, h1, h2, h3⟩ := h
    exact ⟨cs, T, h1, All.pure hp h2, h3⟩
  | row v T size n c =>
    obtain ⟨xs, ⟨hl, h1⟩, h2, h3⟩ := h
    refine ⟨xs, ⟨hl, ?_⟩, fun k hk => (h2 k hk).pure (hp k), h3⟩
    rcases h1 with h1 | ⟨g, cap, cur, rfl, hg, r⟩
    · exact .inl h1
    · exact .inr ⟨g, cap, cur, rfl, Nat.le_trans hb hg, r⟩
  | fr _ _ => exact hp.elim
theorem HOk.rebase {w0 w w' : World} (hb : w0.heap.size ≤ w.heap.size) : ∀ {H : List HE}, HOk w w' H → (∀ e ∈ H, e.pure) → HOk w0 w' H
  | [], _, _ => trivial
  | e :: H, h, hp => ⟨HE.rebase hb h.1 (hp e (.head _)), fun g hg => ⟨Nat.le_trans hb (h.2.1 g hg).1, (h.2.1 g hg).2⟩, HOk.rebase hb h.2.2 fun e he => hp e (.tail _ he)⟩
/-- What a function hands back that makes memory. -/
def RetH {ι : Type} (A : ι → AV) (H' : ι → List HE) (w : World) (v : Value) (w' : World) : Prop := ∃ i, (∀ wx, (A i).R wx v) ∧ HOk w w' (H' i)
section
variable {P : Program} {w0 : World} {ops : Array Oper} {nt : Nat} {env : List (Nat × AV)} {H : List HE} {rest : List Oper} {Q : Exit → Act → World → Prop} {ty : TypeId} {pos : String} {after : Array Edge}
theorem aops_callH {d : Nat} {f : FuncId} {As : List AV} {ι : Type} {A : ι → AV} {H' : ι → List HE} {args : List Operand} {ts : Array TypeId} (hc : Con P f As (RetH A H')) (ha : Givs ⟨nt, env, H⟩ args As) (hp : ∀ i, ∀ e ∈ H' i, e.pure) (hd : Nat.blt d nt = true)
    (k : ∀ i, AOps P w0 ops ⟨nt, (d, A i) :: env, H' i ++ H⟩ rest Q) : AOps P w0 ops ⟨nt, env, H⟩ (⟨some d, .call { callee := .value (.func f), args := args.toArray, argTypes := ts }, ty, pos, after, none⟩ :: rest) Q := by
  refine ⟨fun a w hs => wpList_plain rfl fun K hK => ?_⟩
  unfold Oper.wp
  rw [run_call hc.1 (.func f) args.toArray ts rfl a rfl w]
  have := hc.2 w (args.map a.eval) (ha.all hs)
  simp only [Oper.upon]
  rw [show args.toArray.map a.eval = (args.map a.eval).toArray by simp]
  refine this.mono fun e w' h => ?_
  obtain ⟨v, rfl, hb, i, hv, hH⟩ := h
  refine hK _ _ ((k i).out _ _ (hs.step (A := A i) (dst := some d) (hb.mono hs.below.size) (hv w0) hd ((hH.rebase hs.below.size (hp i)).append (hs.heap.below hb) fun e he e' he' g hg hg' => ?_)))
  have h1 := (hH.foot e he g hg).1
  have h2 := (hs.heap.foot e' he' g hg').2
  omega
end
def RetRow2 (T1 s1 n1 : Nat) (c1 : Nat → List AV) (T2 s2 n2 : Nat) (c2 : Nat → List AV) (mk : Value → Value → AV) : World → Value → World → Prop := RetH (ι := Value × Value) (fun i => mk i.1 i.2) (fun i => [.row i.1 T1 s1 n1 c1, .row i.2 T2 s2 n2 c2])
section
variable {w0 : World} {ops : Array Oper} {nt : Nat} {env : List (Nat × AV)} {H : List HE} {rest : List Oper} {Q : Exit → Act → World → Prop} {ty : TypeId} {pos : String} {after : Array Edge}
end
section
variable {P : Program} {w0 : World} {s : AS} {Q : Exit → Act → World → Prop} {c : Code}
def AgG {ι : Type} (w0 : World) (st : Nat → ι → AS) (n k : Nat) (a : Act) (w : World) : Prop := k + 1 ≤ n ∧ ∃ v, Sat w0 (st (k + 1) v) a w
theorem awp_loopG {ι : Type} (st : Nat → ι → AS) (n : Nat) (v0 : ι) (h0 : Imp s (st 0 v0)) (round : ∀ k v, k ≤ n → AWp P w0 (st k v) c (Exit.then (AgG w0 st n k) Q)) : AWp P w0 s (.loop c) Q :=
  awp_loop (ι := Nat × ι) (fun x => st x.1 x.2) (fun x => x.1 ≤ n) (fun x => n - x.1) (0, v0) (Nat.zero_le _) h0 fun x hk => ⟨fun a w hs => Code.wp_mono (fun e a w q => by
    cases e
    case normal =>
      obtain ⟨h1, v, h2⟩ := q
      exact ⟨(x.1 + 1, v), h1, by show n - (x.1 + 1) < n - x.1; omega, h2⟩
    all_goals exact q) ((round x.1 x.2 hk).out a w hs)⟩
theorem aex_agG {ι : Type} {st : Nat → ι → AS} {n k : Nat} (v : ι) (hk : k + 1 ≤ n) (h : Imp s (st (k + 1) v)) : AEx w0 s .normal (Exit.then (AgG w0 st n k) Q) := ⟨fun a w hs => ⟨hk, v, h w0 a w hs⟩⟩
end
end Go.Proofs.Ytejpamlaacffaaa
