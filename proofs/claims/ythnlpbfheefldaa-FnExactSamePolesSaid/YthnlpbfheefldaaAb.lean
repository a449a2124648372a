/-
  Abstract values and states: what a walk over a function's text needs to know of the frame and of memory. Conditions: none.
-/
import Derived.Test.YthnlpbfheefldaaReg
namespace Go.Proofs.Ythnlpbfheefldaa
open Go Go.RowKit

/-- An abstract value: a relation that later worlds keep. -/
structure AV where
  R : World → Value → Prop
  p : Bool
  mono : ∀ {w w' : World} {v : Value}, Below w.heap.size w w' → R w v → R w' v
  pure : p = true → ∀ {w w' : World} {v : Value}, R w v → R w' v

def All (w : World) : List AV → List Value → Prop
  | [], [] => True
  | A :: l, u :: us => A.R w u ∧ All w l us
  | _, _ => False

theorem All.mono {w w' : World} (hb : Below w.heap.size w w') : ∀ {l : List AV} {us : List Value}, All w l us → All w' l us
  | [], [], _ => trivial
  | A :: l, u :: us, h => ⟨A.mono hb h.1, All.mono hb h.2⟩
  | [], _ :: _, h => h.elim
  | _ :: _, [], h => h.elim
theorem All.pure {w w' : World} : ∀ {l : List AV} {us : List Value}, l.all (·.p) = true → All w l us → All w' l us
  | [], [], _, _ => trivial
  | A :: l, u :: us, hp, h => by
    simp only [List.all_cons, Bool.and_eq_true] at hp
    exact ⟨A.pure hp.1 h.1, All.pure hp.2 h.2⟩
  | [], _ :: _, _, h => h.elim
  | _ :: _, [], _, h => h.elim
theorem All.length {w : World} : ∀ {l : List AV} {us : List Value}, All w l us → us.length = l.length
  | [], [], _ => rfl
  | _ :: _, _ :: _, h => by simp [All.length h.2]
  | [], _ :: _, h => h.elim
  | _ :: _, [], h => h.elim
theorem All.get {w : World} : ∀ {l : List AV} {us : List Value}, All w l us → ∀ {j : Nat} {A : AV}, l[j]? = some A → ∃ u, us[j]? = some u ∧ A.R w u
  | [], [], _, j, A, e => by simp at e
  | B :: l, u :: us, h, 0, A, e => by
    simp at e
    subst e
    exact ⟨u, by simp, h.1⟩
  | B :: l, u :: us, h, j + 1, A, e => by
    simp at e
    obtain ⟨x, hx, hr⟩ := All.get h.2 e
    exact ⟨x, by simpa using hx, hr⟩
  | [], _ :: _, h, _, _, _ => h.elim
  | _ :: _, [], h, _, _, _ => h.elim
theorem All.of_get {w : World} : ∀ {l : List AV} {us : List Value}, us.length = l.length → (∀ (j : Nat) (A : AV), l[j]? = some A → ∃ u, us[j]? = some u ∧ A.R w u) → All w l us
  | [], [], _, _ => trivial
  | B :: l, u :: us, hl, h => by
    obtain ⟨x, hx, hr⟩ := h 0 B (by simp)
    simp at hx
    subst hx
    exact ⟨hr, All.of_get (by simpa using hl) fun j A e => by
      obtain ⟨y, hy, hs⟩ := h (j + 1) A (by simpa using e)
      exact ⟨y, by simpa using hy, hs⟩⟩
  | [], _ :: _, hl, _ => by simp at hl
  | _ :: _, [], hl, _ => by simp at hl
theorem All.append {w : World} : ∀ {l l' : List AV} {us us' : List Value}, All w l us → All w l' us' → All w (l ++ l') (us ++ us')
  | [], _, [], _, _, k => k
  | _ :: _, _, _ :: _, _, h, k => ⟨h.1, All.append h.2 k⟩
  | [], _, _ :: _, _, h, _ => h.elim
  | _ :: _, _, [], _, h, _ => h.elim
theorem All.take {w : World} (n : Nat) : ∀ {l : List AV} {us : List Value}, All w l us → All w (l.take n) (us.take n) := by
  induction n with
  | zero => intro l us _; simp [All]
  | succ n ih =>
    intro l us h
    match l, us, h with
    | [], [], _ => simp [All]
    | A :: l, u :: us, h => exact ⟨h.1, ih h.2⟩
theorem All.drop {w : World} (n : Nat) : ∀ {l : List AV} {us : List Value}, All w l us → All w (l.drop n) (us.drop n) := by
  induction n with
  | zero => intro l us h; simpa using h
  | succ n ih =>
    intro l us h
    match l, us, h with
    | [], [], _ => simp [All]
    | A :: l, u :: us, h => simpa using ih h.2

/-- A float of kind k that stands for X. -/
def fl (k : FloatKind) (X : Nat) : AV := ⟨fun _ v => ∃ b, v = .float k b ∧ Fb k X b, true, fun _ h => h, fun _ _ _ _ h => h⟩
/-- Just this value. -/
def vv (u : Value) : AV := ⟨fun _ v => v = u, true, fun _ h => h, fun _ _ _ _ h => h⟩
/-- A struct by value: its cells. -/
def agg (l : List AV) : AV := ⟨fun w v => ∃ cs : List Value, v = .agg cs.toArray ∧ All w l cs ∧ ∀ u ∈ cs, u.oneCell' = true, l.all (·.p),
  fun hb h => by obtain ⟨cs, e, h, ho⟩ := h; exact ⟨cs, e, h.mono hb, ho⟩, fun hp _ _ _ h => by obtain ⟨cs, e, h, ho⟩ := h; exact ⟨cs, e, All.pure hp h, ho⟩⟩
def tup (l : List AV) : AV := ⟨fun w v => ∃ cs : List Value, v = .tuple cs.toArray ∧ All w l cs, l.all (·.p),
  fun hb h => by obtain ⟨cs, e, h⟩ := h; exact ⟨cs, e, h.mono hb⟩, fun hp _ _ _ h => by obtain ⟨cs, e, h⟩ := h; exact ⟨cs, e, All.pure hp h⟩⟩
/-- The cells from place p of block b on hold l. -/
def Lies (w : World) (b p : Nat) (l : List AV) : Prop := b < w.heap.size ∧ ∀ (j : Nat) (A : AV), l[j]? = some A → ∃ u, w.cell? ⟨b, p + j, none⟩ = some u ∧ A.R w u ∧ u.oneCell' = true
theorem Lies.mono {w w' : World} {b p : Nat} {l : List AV} (hb : Below w.heap.size w w') (h : Lies w b p l) : Lies w' b p l := by
  refine ⟨Nat.lt_of_lt_of_le h.1 hb.size, fun j A e => ?_⟩
  obtain ⟨u, hu, hr, h1⟩ := h.2 j A e
  exact ⟨u, (hb.cell (p := ⟨b, p + j, none⟩) h.1).trans hu, A.mono hb hr, h1⟩
/-- A pointer to place o of cells l that only are read. -/
def rp (l : List AV) (o : Nat) : AV := ⟨fun w v => ∃ b p, v = .pointer (some ⟨b, p + o, none⟩) ∧ Lies w b p l, false,
  fun hb h => by obtain ⟨b, p, e, h⟩ := h; exact ⟨b, p, e, h.mono hb⟩, fun hp => by cases hp⟩
/-- A slice of n elements of size cells each that only is read. -/
def rs (size n : Nat) (c : Nat → List AV) : AV := ⟨fun w v => ∃ a cap, v = .slice a n cap ∧ n ≤ cap ∧ (0 < n → ∃ b p, a = some ⟨b, p, none⟩ ∧ ∀ k, k < n → Lies w b (p + k * size) (c k)), false,
  fun hb h => by
    obtain ⟨a, cap, e, hn, h⟩ := h
    refine ⟨a, cap, e, hn, fun h0 => ?_⟩
    obtain ⟨b, p, e2, h2⟩ := h h0
    exact ⟨b, p, e2, fun k hk => (h2 k hk).mono hb⟩, fun hp => by cases hp⟩
def ptr (b o : Nat) : AV := vv (.pointer (some ⟨b, o, none⟩))

/-- The cells that a value fills. -/
def CellsOf (A : AV) (l : List AV) : Prop := ∀ w v, A.R w v → All w l v.cells.toList ∧ ∀ u ∈ v.cells.toList, u.oneCell' = true
theorem cellsOf_fl (k : FloatKind) (X : Nat) : CellsOf (fl k X) [fl k X] := fun w v h => by
  obtain ⟨b, rfl, hb⟩ := h
  exact ⟨⟨⟨b, rfl, hb⟩, trivial⟩, fun u hu => by simp [Value.cells] at hu; subst hu; rfl⟩
theorem cellsOf_vv {u : Value} (h : u.oneCell' = true) : CellsOf (vv u) [vv u] := fun w v e => by
  obtain rfl : v = u := e
  have hc : v.cells = #[v] := by cases v <;> first | rfl | (simp [Value.oneCell'] at h)
  rw [hc]
  exact ⟨⟨rfl, trivial⟩, fun u hu => by simp at hu; subst hu; exact h⟩
theorem cellsOf_agg (l : List AV) : CellsOf (agg l) l := fun w v h => by
  obtain ⟨cs, rfl, h, ho⟩ := h
  exact ⟨by simpa [Value.cells] using h, by simpa [Value.cells] using ho⟩
theorem cellsOf_rs (size n : Nat) (c : Nat → List AV) : CellsOf (rs size n c) [rs size n c] := fun w v h => by
  obtain ⟨a, cap, rfl, hh⟩ := h
  exact ⟨⟨⟨a, cap, rfl, hh⟩, trivial⟩, fun u hu => by simp [Value.cells] at hu; subst hu; rfl⟩
theorem cellsOf_rp (l : List AV) (o : Nat) : CellsOf (rp l o) [rp l o] := fun w v h => by
  obtain ⟨b, p, rfl, hh⟩ := h
  exact ⟨⟨⟨b, p, rfl, hh⟩, trivial⟩, fun u hu => by simp [Value.cells] at hu; subst hu; rfl⟩

/-- Memory of the call's own. -/
inductive HE where
  | cells (b : Nat) (l : List AV)
  | row (v : Value) (T size n : Nat) (c : Nat → List AV)
  | fr (w1 : World) (p : Nat → Prop)
def HE.foot : HE → Nat → Prop
  | .cells b _, g => g = b
  | .row v .., g => v.ownBlock = some g
  | .fr _ p, g => p g
def HE.ok (w0 w : World) : HE → Prop
  | .cells b l => ∃ cs T, w.heap[b]? = some (.cells cs T (0, 0)) ∧ All w0 l cs.toList ∧ ∀ u ∈ cs.toList, u.oneCell' = true
  | .row v T size n c => ∃ xs, w.ownsRow w0.heap.size T size v n xs ∧ (∀ k, k < n → All w0 (c k) ((xs.drop (k * size)).take size)) ∧ ∀ u ∈ xs, u.oneCell' = true
  | .fr w1 p => w1.heap.size ≤ w.heap.size ∧ ∀ g, p g → w.heap[g]? = w1.heap[g]?
def HOk (w0 w : World) : List HE → Prop
  | [] => True
  | e :: H => e.ok w0 w ∧ (∀ g, e.foot g → w0.heap.size ≤ g ∧ g < w.heap.size ∧ ∀ e' ∈ H, ¬ e'.foot g) ∧ HOk w0 w H

theorem HE.ok.keep {w0 w w' : World} {e : HE} (h : e.ok w0 w) (hs : w.heap.size ≤ w'.heap.size) (hk : ∀ g, e.foot g → w'.heap[g]? = w.heap[g]?) : e.ok w0 w' := by
  cases e with
  | cells b l =>
    obtain ⟨cs, T, h1, h2⟩ := h
    exact ⟨cs, T, (hk b rfl).trans h1, h2⟩
  | row v T size n c =>
    obtain ⟨xs, ⟨hl, h1⟩, h2⟩ := h
    refine ⟨xs, ⟨hl, ?_⟩, h2⟩
    rcases h1 with h1 | ⟨g, cap, cur, rfl, hg, hh, r⟩
    · exact .inl h1
    · exact .inr ⟨g, cap, cur, rfl, hg, (hk g rfl).trans hh, r⟩
  | fr w1 p => exact ⟨Nat.le_trans h.1 hs, fun g hg => (hk g hg).trans (h.2 g hg)⟩
theorem HOk.keep {w0 w w' : World} : ∀ {H : List HE}, HOk w0 w H → w.heap.size ≤ w'.heap.size → (∀ e ∈ H, ∀ g, e.foot g → w'.heap[g]? = w.heap[g]?) → HOk w0 w' H
  | [], _, _, _ => trivial
  | e :: H, h, hs, hk => ⟨h.1.keep hs (hk e List.mem_cons_self), fun g hg => ⟨(h.2.1 g hg).1, Nat.lt_of_lt_of_le (h.2.1 g hg).2.1 hs, (h.2.1 g hg).2.2⟩, HOk.keep h.2.2 hs fun e' he' => hk e' (List.mem_cons_of_mem _ he')⟩
theorem HOk.foot {w0 w : World} : ∀ {H : List HE}, HOk w0 w H → ∀ e ∈ H, ∀ g, e.foot g → w0.heap.size ≤ g ∧ g < w.heap.size
  | e :: H, h, e', he', g, hg => by
    cases he' with
    | head => exact ⟨(h.2.1 g hg).1, (h.2.1 g hg).2.1⟩
    | tail _ hm => exact HOk.foot h.2.2 e' hm g hg
theorem HOk.below {w0 w w' : World} {H : List HE} (h : HOk w0 w H) (hb : Below w.heap.size w w') : HOk w0 w' H :=
  h.keep hb.size fun e he g hg => hb.block g (h.foot e he g hg).2
theorem HOk.get {w0 w : World} : ∀ {H : List HE}, HOk w0 w H → ∀ e ∈ H, e.ok w0 w
  | e :: H, h, e', he' => by
    cases he' with
    | head => exact h.1
    | tail _ hm => exact HOk.get h.2.2 e' hm
theorem HOk.cons {w0 w : World} {H : List HE} {e : HE} (h : HOk w0 w H) (he : e.ok w0 w) (hf : ∀ g, e.foot g → w0.heap.size ≤ g ∧ g < w.heap.size ∧ ∀ e' ∈ H, ¬ e'.foot g) : HOk w0 w (e :: H) := ⟨he, hf, h⟩

/-- One entry of the memory is put in place of another one of the same block. -/
inductive HPut : List HE → Nat → List AV → List AV → List HE → Prop where
  | here {b l l' H} : HPut (.cells b l :: H) b l l' (.cells b l' :: H)
  | there {e b l l' H H'} : HPut H b l l' H' → HPut (e :: H) b l l' (e :: H')
theorem HPut.mem {H H' : List HE} {b : Nat} {l l' : List AV} (h : HPut H b l l' H') : HE.cells b l ∈ H := by
  induction h with
  | here => exact .head _
  | there _ ih => exact .tail _ ih
theorem HPut.foots {H H' : List HE} {b : Nat} {l l' : List AV} (h : HPut H b l l' H') : ∀ e' ∈ H', ∃ e ∈ H, ∀ g, e'.foot g → e.foot g := by
  induction h with
  | here =>
    intro e' he'
    cases he' with
    | head => exact ⟨_, .head _, fun g hg => hg⟩
    | tail _ hm => exact ⟨e', .tail _ hm, fun g hg => hg⟩
  | there _ ih =>
    intro e' he'
    cases he' with
    | head => exact ⟨_, .head _, fun g hg => hg⟩
    | tail _ hm =>
      obtain ⟨e, h1, h2⟩ := ih e' hm
      exact ⟨e, .tail _ h1, h2⟩
theorem HPut.ok {w0 w w' : World} {H H' : List HE} {b : Nat} {l l' : List AV} (h : HPut H b l l' H') : HOk w0 w H → w.heap.size ≤ w'.heap.size → (∀ g, g < w.heap.size → g ≠ b → w'.heap[g]? = w.heap[g]?) → (HE.cells b l').ok w0 w' → HOk w0 w' H' := by
  induction h with
  | @here b l l' H =>
    intro hH hs hk hn
    refine ⟨hn, fun g hg => ⟨(hH.2.1 g hg).1, Nat.lt_of_lt_of_le (hH.2.1 g hg).2.1 hs, (hH.2.1 g hg).2.2⟩, hH.2.2.keep hs fun e he g hg => hk g (hH.2.2.foot e he g hg).2 fun hgb => ?_⟩
    subst hgb
    exact (hH.2.1 g rfl).2.2 e he hg
  | @there e b l l' H H' hp ih =>
    intro hH hs hk hn
    have hne : ∀ g, e.foot g → g ≠ b := fun g hg hgb => by
      subst hgb
      exact (hH.2.1 g hg).2.2 _ hp.mem rfl
    refine ⟨hH.1.keep hs fun g hg => hk g (hH.2.1 g hg).2.1 (hne g hg), fun g hg => ⟨(hH.2.1 g hg).1, Nat.lt_of_lt_of_le (hH.2.1 g hg).2.1 hs, fun e' he' hf => ?_⟩, ih hH.2.2 hs hk hn⟩
    obtain ⟨e2, h1, h2⟩ := hp.foots e' he'
    exact (hH.2.1 g hg).2.2 e2 h1 (h2 g hf)

/-- An entry is taken out. -/
inductive HTake : List HE → HE → List HE → Prop where
  | here {e H} : HTake (e :: H) e H
  | there {e e' H H'} : HTake H e H' → HTake (e' :: H) e (e' :: H')
theorem HTake.sub {H H' : List HE} {e : HE} (h : HTake H e H') : (∀ x ∈ H', x ∈ H) ∧ e ∈ H := by
  induction h with
  | here => exact ⟨fun x hx => .tail _ hx, .head _⟩
  | there _ ih => exact ⟨fun x hx => by
      cases hx with
      | head => exact .head _
      | tail _ hm => exact .tail _ (ih.1 x hm), .tail _ ih.2⟩
theorem HTake.ok {w0 w : World} {H H' : List HE} {e : HE} (h : HTake H e H') : HOk w0 w H → e.ok w0 w ∧ HOk w0 w H' ∧ ∀ g, e.foot g → w0.heap.size ≤ g ∧ g < w.heap.size ∧ ∀ e' ∈ H', ¬ e'.foot g := by
  induction h with
  | here => intro hH; exact ⟨hH.1, hH.2.2, hH.2.1⟩
  | @there e e' H H' hp ih =>
    intro hH
    obtain ⟨h1, h2, h3⟩ := ih hH.2.2
    refine ⟨h1, ⟨hH.1, fun g hg => ⟨(hH.2.1 g hg).1, (hH.2.1 g hg).2.1, fun x hx => (hH.2.1 g hg).2.2 x (hp.sub.1 x hx)⟩, h2⟩, fun g hg => ⟨(h3 g hg).1, (h3 g hg).2.1, fun x hx hf => ?_⟩⟩
    cases hx with
    | head => exact (hH.2.1 g hf).2.2 e hp.sub.2 hg
    | tail _ hm => exact (h3 g hg).2.2 x hm hf

/-- What is known of a frame and of memory. -/
structure AS where
  nt : Nat
  env : List (Nat × AV)
  heap : List HE
def look (t : Nat) : List (Nat × AV) → Option AV
  | [] => none
  | (d, A) :: r => match Nat.beq t d with
    | true => some A
    | false => look t r
structure Sat (w0 : World) (s : AS) (a : Act) (w : World) : Prop where
  below : Below w0.heap.size w0 w
  size : a.tmps.size = s.nt
  defers : a.defers = []
  env : ∀ t A, look t s.env = some A → A.R w0 (a.tmps.getD t undef)
  heap : HOk w0 w s.heap

def AS.put (s : AS) (dst : Option Tmp) (A : AV) : AS := match dst with
  | some d => ⟨s.nt, (d, A) :: s.env, s.heap⟩
  | none => s
def AS.with (s : AS) (dst : Option Tmp) (A : AV) (H : List HE) : AS := match dst with
  | some d => ⟨s.nt, (d, A) :: s.env, H⟩
  | none => ⟨s.nt, s.env, H⟩
def dok (s : AS) : Option Tmp → Bool
  | some d => Nat.blt d s.nt
  | none => true

theorem look_put {w0 : World} {a : Act} {env : List (Nat × AV)} {d : Nat} {A : AV} {v : Value} (he : ∀ t A, look t env = some A → A.R w0 (a.tmps.getD t undef)) (hv : A.R w0 v) (hd : d < a.tmps.size) :
    ∀ t B, look t ((d, A) :: env) = some B → B.R w0 ((a.tmps.setIfInBounds d v).getD t undef) := by
  intro t B h
  unfold look at h
  split at h
  · rename_i hb
    obtain rfl : t = d := Nat.eq_of_beq_eq_true hb
    injection h with h
    subst h
    have : (a.tmps.setIfInBounds t v).getD t undef = v := by
      simp [Array.getD, hd]
    rw [this]
    exact hv
  · rename_i hb
    have hne : t ≠ d := Nat.ne_of_beq_eq_false hb
    have : (a.tmps.setIfInBounds d v).getD t undef = a.tmps.getD t undef := by
      simp only [Array.getD_eq_getD_getElem?, Array.getElem?_setIfInBounds, if_neg (Ne.symm hne)]
    rw [this]
    exact he t B h

theorem Sat.put {w0 : World} {s : AS} {a : Act} {w w' : World} {A : AV} {v : Value} {dst : Option Tmp} (h : Sat w0 s a w) (hb : Below w.heap.size w w') (hv : A.R w0 v) (hd : dok s dst = true) : Sat w0 (s.put dst A) (a.put dst v) w' := by
  have hb0 : Below w0.heap.size w0 w' := h.below.trans (hb.mono h.below.size)
  cases dst with
  | none => exact ⟨hb0, h.size, h.defers, h.env, h.heap.below hb⟩
  | some d =>
    have hd' : d < a.tmps.size := by rw [h.size]; exact Nat.blt_eq ▸ hd
    exact ⟨hb0, by simp [AS.put, Act.put, h.size], h.defers, look_put h.env hv hd', h.heap.below hb⟩
/-- A step that turns the memory of the call's own. -/
theorem Sat.step {w0 : World} {s : AS} {a : Act} {w w' : World} {A : AV} {v : Value} {dst : Option Tmp} {H : List HE} (h : Sat w0 s a w) (hb : Below w0.heap.size w w') (hv : A.R w0 v) (hd : dok s dst = true) (hH : HOk w0 w' H) : Sat w0 (s.with dst A H) (a.put dst v) w' := by
  have hb0 : Below w0.heap.size w0 w' := h.below.trans hb
  cases dst with
  | none => exact ⟨hb0, h.size, h.defers, h.env, hH⟩
  | some d =>
    have hd' : d < a.tmps.size := by rw [h.size]; exact Nat.blt_eq ▸ hd
    exact ⟨hb0, by simp [AS.with, Act.put, h.size], h.defers, look_put h.env hv hd', hH⟩

end Go.Proofs.Ythnlpbfheefldaa
