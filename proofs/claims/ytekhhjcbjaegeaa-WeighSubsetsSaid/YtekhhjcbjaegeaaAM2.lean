/- The relation between a heap of the abstract machine and a world of the model, and how it goes on. -/
import Derived.Test.YtekhhjcbjaegeaaAM1
set_option linter.all false
namespace Go.AM
open Go

def MR (ρ : Rho) (es ES : List MapEntry) : Prop :=
  es.length = ES.length ∧ ∀ (i : Nat) (e : MapEntry), es[i]? = some e → ∃ E, ES[i]? = some E ∧ VR ρ e.key E.key ∧ VR ρ e.val E.val ∧ e.born = E.born

def TR (ρ : Rho) (tr : Tr Value) (tmps : Array Value) : Prop := ∀ i, VR ρ ((tr.get i).getD undef) (tmps.getD i undef)

/-- In a frozen part. -/
def inFr (fr : Nat × Nat) (off : Nat) : Bool := decide (fr.1 ≤ off) && decide (off < fr.2)
theorem inFr_zero (off : Nat) : inFr (0, 0) off = false := by simp [inFr]
def BR (ρ : Rho) (N base : Nat) (o : Option Obj) : Blk → Prop
  | .cells cs => ∃ C t fr, o = some (.cells C t fr) ∧ N ≤ C.size ∧ (∀ j, base ≤ j → j < N → inFr fr j = false) ∧ base + cs.length ≤ N ∧ ∀ (i : Nat) (v : Value), cs[i]? = some v → ∃ v', C[base + i]? = some v' ∧ VR ρ v v'
  | .map es clock => base = 0 ∧ ∃ ES : Array MapEntry, o = some (.map ES clock) ∧ MR ρ es ES.toList
  | .loop st pend tr sz ps asg body mk => base = 0 ∧ ∃ r : Loop, o = some (.loop r) ∧ r.state = st ∧ r.pending = pend ∧ r.tmps.size = sz ∧ TR ρ tr r.tmps ∧ r.params = ps ∧ r.assign = asg ∧ r.body = body ∧ ρ mk = some (r.defers, 0)
  | .mark => base = 0 ∧ o = some (.deferred (some []))
  | .ro obj cs => o = some obj ∧ ∃ C t fr, obj = .cells C t fr ∧ base + cs.length ≤ C.size ∧ ∀ (i : Nat) (v : Value), cs[i]? = some v → ∃ v', C[base + i]? = some v' ∧ VR ρ v v'

structure HR (ρ : Rho) (h : Heap) (w : World) : Prop where
  blk : ∀ b B base x, h.get b = some x → ρ b = some (B, base) → BR ρ (ρ.n B) base w.heap[B]? x
  inj : ∀ b b' B base base', h.get b ≠ none → h.get b' ≠ none → ρ b = some (B, base) → ρ b' = some (B, base') → b = b'
  fresh : ∀ b, h.next ≤ b → ρ b = none
  lt : ∀ b B base, ρ b = some (B, base) → B < w.heap.size

structure Ext (ρ : Rho) (h : Heap) (w : World) (ρ' : Rho) (h' : Heap) (w' : World) : Prop where
  le : Le ρ ρ'
  km : ∀ b x, ρ b = some x → h'.get b ≠ none → h.get b ≠ none
  frame : ∀ B, B < w.heap.size → (∀ b base, h.get b ≠ none → ρ b ≠ some (B, base)) → w'.heap[B]? = w.heap[B]?
  size : w.heap.size ≤ w'.heap.size
  os : w'.os = w.os
  tape : w'.tape = w.tape
  output : w'.output = w.output
  new : ∀ b B base, ρ' b = some (B, base) → ρ b = none → w.heap.size ≤ B ∨ ∃ b0 base0, h.get b0 ≠ none ∧ ρ b0 = some (B, base0)
  next : h.next ≤ h'.next
  fresh : ∀ b B base, ρ' b = some (B, base) → ρ b = none → h.next ≤ b
  ghost : ∀ b, b < h.next → ρ b = none → h'.get b = h.get b
  fro : ∀ a : Addr, a.block < w.heap.size → w'.frozen? a = w.frozen? a

/-- What of an object is frozen. -/
def frz (o : Option Obj) (off : Nat) : Bool := match o with | some (.cells _ _ fr) => inFr fr off | _ => false
/-- Nothing of an object is frozen. -/
def Plain (o : Option Obj) : Prop := ∀ off : Nat, frz o off = false
theorem frozen_frz (w : World) (a : Addr) : w.frozen? a = frz w.heap[a.block]? a.off := by
  unfold World.frozen? frz
  cases w.heap[a.block]? with
  | none => rfl
  | some o => cases o <;> rfl
theorem fro_of {w w' : World} {B : Nat} (hw : ∀ k, k ≠ B → w'.heap[k]? = w.heap[k]?) (h1 : ∀ off, frz w'.heap[B]? off = frz w.heap[B]? off) (a : Addr) : w'.frozen? a = w.frozen? a := by
  rw [frozen_frz, frozen_frz]
  by_cases ha : a.block = B
  · rw [ha, h1]
  · rw [hw _ ha]

theorem Ext.refl (ρ : Rho) (h : Heap) (w : World) : Ext ρ h w ρ h w :=
  ⟨Le.refl _, fun _ _ _ e => e, fun _ _ _ => rfl, Nat.le_refl _, rfl, rfl, rfl, fun b B base e e' => (by rw [e] at e'; cases e'), Nat.le_refl _, fun b B base e e' => (by rw [e] at e'; cases e'), fun _ _ _ => rfl, fun _ _ => rfl⟩
theorem Ext.trans {ρ ρ1 ρ2 : Rho} {h h1 h2 : Heap} {w w1 w2 : World} (a : Ext ρ h w ρ1 h1 w1) (b : Ext ρ1 h1 w1 ρ2 h2 w2) : Ext ρ h w ρ2 h2 w2 where
  le := a.le.trans b.le
  km c x e e2 := a.km c x e (b.km c x (a.le.m c x e) e2)
  frame B hB hn := by
    rw [b.frame B (Nat.lt_of_lt_of_le hB a.size) ?_, a.frame B hB hn]
    intro c base hl he
    cases hc : ρ c with
    | some x =>
      have := a.le.m c x hc
      rw [this] at he
      injection he with he; subst he
      exact hn c base (a.km c _ hc hl) hc
    | none =>
      rcases a.new c B base he hc with h' | ⟨b0, base0, hl0, e0⟩
      · omega
      · exact hn b0 base0 hl0 e0
  size := Nat.le_trans a.size b.size
  os := b.os.trans a.os
  tape := b.tape.trans a.tape
  output := b.output.trans a.output
  new c B base e e' := by
    cases hc : ρ1 c with
    | some x =>
      have := b.le.m c x hc
      rw [this] at e
      injection e with e; subst e
      exact a.new c B base hc e'
    | none =>
      rcases b.new c B base e hc with h' | ⟨b0, base0, hl0, e0⟩
      · exact .inl (Nat.le_trans a.size h')
      · cases hb0 : ρ b0 with
        | some x =>
          have := a.le.m b0 x hb0
          rw [this] at e0
          injection e0 with e0; subst e0
          exact .inr ⟨b0, base0, a.km b0 _ hb0 hl0, hb0⟩
        | none => exact a.new b0 B base0 e0 hb0
  next := Nat.le_trans a.next b.next
  fresh c B base e e' := by
    cases hc : ρ1 c with
    | some x => exact a.fresh c _ _ hc e'
    | none => exact Nat.le_trans a.next (b.fresh c B base e hc)
  ghost c hc e := by
    have h1 : ρ1 c = none := by
      cases hc1 : ρ1 c with
      | none => rfl
      | some x => have := a.fresh c _ _ hc1 e; omega
    rw [b.ghost c (Nat.lt_of_lt_of_le hc a.next) h1, a.ghost c hc e]
  fro c hc := by rw [b.fro c (Nat.lt_of_lt_of_le hc a.size), a.fro c hc]

theorem MR.mono {ρ ρ' : Rho} (h : Le ρ ρ') {es ES : List MapEntry} (m : MR ρ es ES) : MR ρ' es ES :=
  ⟨m.1, fun i e he => let ⟨E, a, b, c, d⟩ := m.2 i e he; ⟨E, a, b.mono h, c.mono h, d⟩⟩
theorem TR.mono {ρ ρ' : Rho} (h : Le ρ ρ') {tr : Tr Value} {t : Array Value} (m : TR ρ tr t) : TR ρ' tr t := fun i => (m i).mono h
theorem BR.mono {ρ ρ' : Rho} (h : Le ρ ρ') {N base : Nat} {o : Option Obj} {x : Blk} (m : BR ρ N base o x) : BR ρ' N base o x := by
  cases x with
  | cells cs =>
    obtain ⟨C, t, fr, e, hN, hf, hs, hv⟩ := m
    exact ⟨C, t, fr, e, hN, hf, hs, fun i v hi => let ⟨v', a, b⟩ := hv i v hi; ⟨v', a, b.mono h⟩⟩
  | map es clock =>
    obtain ⟨e0, ES, e, hm⟩ := m
    exact ⟨e0, ES, e, hm.mono h⟩
  | loop st pend tr sz ps asg body mk =>
    obtain ⟨e0, r, e, a1, a2, a3, a4, a5, a6, a7, a8⟩ := m
    exact ⟨e0, r, e, a1, a2, a3, a4.mono h, a5, a6, a7, h.m _ _ a8⟩
  | mark => exact m
  | ro obj cs =>
    obtain ⟨e, C, t, fr, e2, hs, hv⟩ := m
    exact ⟨e, C, t, fr, e2, hs, fun i v hi => let ⟨v', a, b⟩ := hv i v hi; ⟨v', a, b.mono h⟩⟩

def updR (ρ : Rho) (b : Nat) (x : Nat × Nat) (f : Nat → Nat) : Rho := ⟨fun c => if c = b then some x else ρ c, f⟩
theorem updR_le {ρ : Rho} {b : Nat} {x : Nat × Nat} {f : Nat → Nat} (h : ρ b = none) (hf : ∀ c B base, ρ c = some (B, base) → f B = ρ.n B) : Le ρ (updR ρ b x f) := by
  refine ⟨fun c y e => ?_, hf⟩
  show (if c = b then some x else ρ c) = some y
  split
  · next hc => subst hc; rw [h] at e; cases e
  · exact e
theorem updR_same (ρ : Rho) (b : Nat) (x : Nat × Nat) (f : Nat → Nat) : updR ρ b x f b = some x := by show (if b = b then some x else ρ b) = some x; simp
theorem updR_ne {ρ : Rho} {b c : Nat} {x : Nat × Nat} {f : Nat → Nat} (h : c ≠ b) : updR ρ b x f c = ρ c := by show (if c = b then some x else ρ c) = ρ c; simp [h]
theorem updR_n (ρ : Rho) (b : Nat) (x : Nat × Nat) (f : Nat → Nat) (B : Nat) : (updR ρ b x f).n B = f B := rfl

/-- One live block is written. -/
theorem HR.upd {ρ : Rho} {h : Heap} {w w' : World} (H : HR ρ h w) {b B base : Nat} {x : Blk} (hl : h.get b ≠ none) (e : ρ b = some (B, base)) (hw : ∀ k, k ≠ B → w'.heap[k]? = w.heap[k]?)
    (hs : w'.heap.size = w.heap.size) (ho : w'.os = w.os) (ht : w'.tape = w.tape) (hp : w'.output = w.output) (hx : BR ρ (ρ.n B) base w'.heap[B]? x) (hfz : ∀ off, frz w'.heap[B]? off = frz w.heap[B]? off) : HR ρ (h.put b (some x)) w' ∧ Ext ρ h w ρ (h.put b (some x)) w' := by
  have hb : b < h.next := by
    cases hg : h.get b with
    | none => exact absurd hg hl
    | some y => exact Heap.get_lt hg
  have hlive : ∀ c, (h.put b (some x)).get c ≠ none → h.get c ≠ none := by
    intro c hc
    rw [Heap.get_put _ _ _ _ hb] at hc
    split at hc
    · next h1 => subst h1; exact hl
    · exact hc
  refine ⟨⟨?_, ?_, ?_, fun c C bs hc => by rw [hs]; exact H.lt c C bs hc⟩, ⟨Le.refl _, fun c _ _ => hlive c, ?_, by omega, ho, ht, hp, fun c C bs e1 e2 => (by rw [e1] at e2; cases e2), Nat.le_refl _, fun c C bs e1 e2 => (by rw [e1] at e2; cases e2), fun c hc hn => (by rw [Heap.get_put _ _ _ _ hb, if_neg (by intro h1; subst h1; rw [e] at hn; cases hn)]), fun a _ => fro_of hw hfz a⟩⟩
  · intro c C bs y hc he
    rw [Heap.get_put _ _ _ _ hb] at hc
    split at hc
    · next h1 =>
      subst h1
      injection hc with hc; subst hc
      rw [e] at he; injection he with he; injection he with h1 h2; subst h1; subst h2
      exact hx
    · next h1 =>
      have hne : C ≠ B := by
        intro h2; subst h2
        exact h1 (H.inj c b _ _ _ (by rw [hc]; simp) hl he e)
      rw [hw C hne]
      exact H.blk c C bs y hc he
  · intro c c' C bs bs' h1 h2 e1 e2
    exact H.inj c c' C bs bs' (hlive c h1) (hlive c' h2) e1 e2
  · exact H.fresh
  · intro C hC hn
    refine hw C ?_
    intro h1; subst h1
    exact hn b base hl e

/-- A new block. -/
theorem HR.new {ρ : Rho} {h : Heap} {w w' : World} (H : HR ρ h w) {x : Blk} (hw : ∀ k, k < w.heap.size → w'.heap[k]? = w.heap[k]?)
    (hs : w'.heap.size = w.heap.size + 1) (ho : w'.os = w.os) (ht : w'.tape = w.tape) (hp : w'.output = w.output) (N : Nat) (hx : BR ρ N 0 w'.heap[w.heap.size]? x) (hfz : Plain w'.heap[w.heap.size]?) :
    HR (updR ρ h.next (w.heap.size, 0) (fun k => if k = w.heap.size then N else ρ.n k)) (h.push x) w' ∧ Ext ρ h w (updR ρ h.next (w.heap.size, 0) (fun k => if k = w.heap.size then N else ρ.n k)) (h.push x) w' := by
  have hf := H.fresh h.next (Nat.le_refl _)
  have hle := updR_le (x := (w.heap.size, 0)) (f := fun k => if k = w.heap.size then N else ρ.n k) hf (fun c B base e => by have := H.lt c B base e; show (if B = w.heap.size then N else ρ.n B) = ρ.n B; rw [if_neg (by omega)])
  refine ⟨⟨?_, ?_, ?_, ?_⟩, ⟨hle, ?_, fun B hB _ => hw B hB, by omega, ho, ht, hp, ?_, by simp [Heap.push_next], fun c C bs e1 e2 => (by
    by_cases h1 : c = h.next
    · omega
    · rw [updR_ne h1, e2] at e1; cases e1), fun c hc hn => (by rw [Heap.get_push, if_neg (by omega)]), fun a _ => fro_of (B := w.heap.size) (fun k hk => (by
    by_cases hk2 : k < w.heap.size
    · exact hw k hk2
    · rw [Array.getElem?_eq_none (by omega), Array.getElem?_eq_none (by omega)])) (fun off => (by rw [hfz off, Array.getElem?_eq_none (Nat.le_refl _)]; rfl)) a⟩⟩
  · intro c C bs y hc he
    rw [Heap.get_push] at hc
    split at hc
    · next h1 =>
      subst h1
      injection hc with hc; subst hc
      rw [updR_same] at he; injection he with he; injection he with h1 h2; subst h1; subst h2
      rw [updR_n, if_pos rfl]; exact hx.mono hle
    · next h1 =>
      rw [updR_ne h1] at he
      have := H.lt _ _ _ he
      rw [hw C this, updR_n, if_neg (by omega)]
      exact (H.blk c C bs y hc he).mono hle
  · intro c c' C bs bs' h1 h2 e1 e2
    rw [Heap.get_push] at h1 h2
    by_cases hc : c = h.next <;> by_cases hc' : c' = h.next
    · rw [hc, hc']
    · subst hc
      rw [updR_same] at e1; rw [updR_ne hc'] at e2; rw [if_neg hc'] at h2
      injection e1 with e1; injection e1 with e1 _
      have := H.lt _ _ _ e2; omega
    · subst hc'
      rw [updR_same] at e2; rw [updR_ne hc] at e1; rw [if_neg hc] at h1
      injection e2 with e2; injection e2 with e2 _
      have := H.lt _ _ _ e1; omega
    · rw [updR_ne hc] at e1; rw [updR_ne hc'] at e2; rw [if_neg hc] at h1; rw [if_neg hc'] at h2
      exact H.inj c c' C bs bs' h1 h2 e1 e2
  · intro c hc
    rw [Heap.push_next] at hc
    rw [updR_ne (by omega)]
    exact H.fresh c (by omega)
  · intro c C bs e1
    rw [hs]
    by_cases h1 : c = h.next
    · subst h1; rw [updR_same] at e1; injection e1 with e1; injection e1 with e1 _; omega
    · rw [updR_ne h1] at e1; have := H.lt _ _ _ e1; omega
  · intro c y hc hg
    rw [Heap.get_push] at hg
    split at hg
    · next h1 => subst h1; rw [hf] at hc; cases hc
    · exact hg
  · intro c C bs e1 e2
    by_cases h1 : c = h.next
    · subst h1
      rw [updR_same] at e1; injection e1 with e1; injection e1 with e1 _
      exact .inl (by omega)
    · rw [updR_ne h1, e2] at e1; cases e1

/-- A block is given up. -/
theorem HR.kill {ρ : Rho} {h : Heap} {w : World} (H : HR ρ h w) {b : Nat} (hb : b < h.next) (hm : ρ b ≠ none) : HR ρ (h.put b none) w ∧ Ext ρ h w ρ (h.put b none) w := by
  have hlive : ∀ c, (h.put b none).get c ≠ none → h.get c ≠ none := by
    intro c hc
    rw [Heap.get_put _ _ _ _ hb] at hc
    split at hc
    · exact absurd rfl hc
    · exact hc
  refine ⟨⟨?_, ?_, H.fresh, H.lt⟩, ⟨Le.refl _, fun c _ _ => hlive c, fun _ _ _ => rfl, Nat.le_refl _, rfl, rfl, rfl, fun c C bs e1 e2 => (by rw [e1] at e2; cases e2), Nat.le_refl _, fun c C bs e1 e2 => (by rw [e1] at e2; cases e2), fun c hc hn => (by rw [Heap.get_put _ _ _ _ hb, if_neg (by intro h1; subst h1; exact hm hn)]), fun _ _ => rfl⟩⟩
  · intro c C bs y hc he
    rw [Heap.get_put _ _ _ _ hb] at hc
    split at hc
    · cases hc
    · exact H.blk c C bs y hc he
  · intro c c' C bs bs' h1 h2 e1 e2
    exact H.inj c c' C bs bs' (hlive c h1) (hlive c' h2) e1 e2

/-- A live block is given up, and its place in the model's block has a new number (a row that is appended to in place). -/
theorem HR.move {ρ : Rho} {h : Heap} {w w' : World} (H : HR ρ h w) {b B base base' : Nat} {x : Blk} (hl : h.get b ≠ none) (e : ρ b = some (B, base)) (hw : ∀ k, k ≠ B → w'.heap[k]? = w.heap[k]?)
    (hs : w'.heap.size = w.heap.size) (ho : w'.os = w.os) (ht : w'.tape = w.tape) (hp : w'.output = w.output) (hx : BR ρ (ρ.n B) base' w'.heap[B]? x) (hfz : ∀ off, frz w'.heap[B]? off = frz w.heap[B]? off) :
    HR (updR ρ h.next (B, base') ρ.n) ((h.put b none).push x) w' ∧ Ext ρ h w (updR ρ h.next (B, base') ρ.n) ((h.put b none).push x) w' := by
  have hb : b < h.next := by
    cases hg : h.get b with
    | none => exact absurd hg hl
    | some y => exact Heap.get_lt hg
  have hf := H.fresh h.next (Nat.le_refl _)
  have hle := updR_le (x := (B, base')) (f := ρ.n) hf (fun _ _ _ _ => rfl)
  have hBl := H.lt _ _ _ e
  have hget : ∀ c, ((h.put b none).push x).get c = if c = h.next then some x else if c = b then none else h.get c := by
    intro c
    rw [Heap.get_push, Heap.put_next, Heap.get_put _ _ _ _ hb]
  refine ⟨⟨?_, ?_, ?_, ?_⟩, ⟨hle, ?_, ?_, by omega, ho, ht, hp, ?_, by simp [Heap.push_next, Heap.put_next], fun c C bs e1 e2 => (by
    by_cases h1 : c = h.next
    · omega
    · rw [updR_ne h1, e2] at e1; cases e1), fun c hc hn => (by
    rw [hget, if_neg (by omega), if_neg (by intro h1; subst h1; rw [e] at hn; cases hn)]), fun a _ => fro_of hw hfz a⟩⟩
  · intro c C bs y hc he
    rw [hget] at hc
    split at hc
    · next h1 =>
      subst h1
      injection hc with hc; subst hc
      rw [updR_same] at he; injection he with he; injection he with h1 h2; subst h1; subst h2
      exact hx.mono hle
    · next h1 =>
      split at hc
      · cases hc
      · next h2 =>
        rw [updR_ne h1] at he
        have hne : C ≠ B := by
          intro h3; subst h3
          exact h2 (H.inj c b _ _ _ (by rw [hc]; simp) hl he e)
        rw [hw C hne]
        exact (H.blk c C bs y hc he).mono hle
  · intro c c' C bs bs' h1 h2 e1 e2
    rw [hget] at h1 h2
    by_cases hc : c = h.next <;> by_cases hc' : c' = h.next
    · rw [hc, hc']
    · subst hc
      rw [if_neg hc'] at h2
      split at h2
      · exact absurd rfl h2
      · next hcb =>
        rw [updR_same] at e1; rw [updR_ne hc'] at e2
        injection e1 with e1; injection e1 with e1 _; subst e1
        exact absurd (H.inj c' b _ _ _ h2 hl e2 e) hcb
    · subst hc'
      rw [if_neg hc] at h1
      split at h1
      · exact absurd rfl h1
      · next hcb =>
        rw [updR_same] at e2; rw [updR_ne hc] at e1
        injection e2 with e2; injection e2 with e2 _; subst e2
        exact absurd (H.inj c b _ _ _ h1 hl e1 e) hcb
    · rw [updR_ne hc] at e1; rw [updR_ne hc'] at e2; rw [if_neg hc] at h1; rw [if_neg hc'] at h2
      split at h1
      · exact absurd rfl h1
      · split at h2
        · exact absurd rfl h2
        · exact H.inj c c' C bs bs' h1 h2 e1 e2
  · intro c hc
    rw [Heap.push_next, Heap.put_next] at hc
    rw [updR_ne (by omega)]
    exact H.fresh c (by omega)
  · intro c C bs e1
    rw [hs]
    by_cases h1 : c = h.next
    · subst h1; rw [updR_same] at e1; injection e1 with e1; injection e1 with e1 _; omega
    · rw [updR_ne h1] at e1; have := H.lt _ _ _ e1; omega
  · intro c y hc hg
    rw [hget] at hg
    split at hg
    · next h1 => subst h1; rw [hf] at hc; cases hc
    · split at hg
      · exact absurd rfl hg
      · exact hg
  · intro C hC hn
    refine hw C ?_
    intro h1; subst h1
    exact hn b base hl e
  · intro c C bs e1 e2
    by_cases h1 : c = h.next
    · subst h1
      rw [updR_same] at e1; injection e1 with e1; injection e1 with e1 _; subst e1
      exact .inr ⟨b, base, hl, e⟩
    · rw [updR_ne h1, e2] at e1; cases e1

/-- The heap is as it was. -/
theorem HR.same {ρ : Rho} {h : Heap} {w w' : World} (H : HR ρ h w) (hw : w'.heap = w.heap) (ho : w'.os = w.os) (ht : w'.tape = w.tape) (hp : w'.output = w.output) : HR ρ h w' ∧ Ext ρ h w ρ h w' :=
  ⟨⟨fun b B base x hx e => by rw [hw]; exact H.blk b B base x hx e, H.inj, H.fresh, fun b B base e => by rw [hw]; exact H.lt b B base e⟩,
    ⟨Le.refl _, fun _ _ _ e => e, fun _ _ _ => by rw [hw], by rw [hw]; exact Nat.le_refl _, ho, ht, hp, fun b B base e e' => (by rw [e] at e'; cases e'), Nat.le_refl _, fun b B base e e' => (by rw [e] at e'; cases e'), fun _ _ _ => rfl, fun a _ => (by unfold World.frozen?; rw [hw])⟩⟩

/-! ### Activations -/
structure A where
  tr : Tr Value
  size : Nat
  marks : List Nat
def A.eval (a : A) : Operand → Option Value
  | .tmp t => some ((a.tr.get t).getD undef)
  | .const v => bif flat v then some v else none
  | .global _ => none
  | .func f => some (.func (.func f) #[] #[])
def A.put (a : A) (d : Option Tmp) (v : Value) : Option A :=
  match d with
  | none => some a
  | some d => match a with | ⟨tr, size, marks⟩ => bif Nat.blt d size then some ⟨tr.set d (some v), size, marks⟩ else none
theorem A.put_eq (a : A) (d : Option Tmp) (v : Value) : a.put d v = match d with
    | none => some a
    | some d => bif Nat.blt d a.size then some { a with tr := a.tr.set d (some v) } else none := by cases d <;> rfl

def marksR (ρ : Rho) : List Nat → List Deferred → Prop
  | [], ds => ds = []
  | m :: ms, ds => ∃ D rest, ds = { target := .collected D, args := #[] } :: rest ∧ ρ m = some (D, 0) ∧ marksR ρ ms rest
structure AR (ρ : Rho) (a : A) (c : Act) : Prop where
  size : c.tmps.size = a.size
  tmps : TR ρ a.tr c.tmps
  marks : marksR ρ a.marks c.defers
theorem marksR.mono {ρ ρ' : Rho} (h : Le ρ ρ') : ∀ {ms : List Nat} {ds : List Deferred}, marksR ρ ms ds → marksR ρ' ms ds
  | [], _, e => e
  | _ :: _, _, ⟨D, rest, e1, e2, e3⟩ => ⟨D, rest, e1, h.m _ _ e2, e3.mono h⟩
theorem AR.mono {ρ ρ' : Rho} (h : Le ρ ρ') {a : A} {c : Act} (r : AR ρ a c) : AR ρ' a c := ⟨r.size, r.tmps.mono h, r.marks.mono h⟩
theorem AR.eval {ρ : Rho} {a : A} {c : Act} (r : AR ρ a c) {x : Operand} {v : Value} (e : a.eval x = some v) : VR ρ v (c.eval x) := by
  cases x with
  | tmp t => simp only [A.eval] at e; injection e with e; subst e; exact r.tmps t
  | const u =>
    simp only [A.eval] at e
    cases hf : flat u with
    | true => rw [hf] at e; injection e with e; subst e; exact VR_refl_flat hf
    | false => rw [hf] at e; cases e
  | global g => cases e
  | func f => simp only [A.eval] at e; injection e with e; subst e; exact .fn' (VRs.nil ρ) (VRs.nil ρ)
theorem AR.put {ρ : Rho} {a a' : A} {c : Act} (r : AR ρ a c) {d : Option Tmp} {v v' : Value} (hv : VR ρ v v') (e : a.put d v = some a') : AR ρ a' (c.put d v') := by
  cases d with
  | none => simp only [A.put_eq] at e; injection e with e; subst e; exact r
  | some d =>
    simp only [A.put_eq] at e
    cases hd : Nat.blt d a.size with
    | false => rw [hd] at e; cases e
    | true =>
      rw [hd] at e; injection e with e; subst e
      rw [Nat.blt_eq] at hd
      refine ⟨by simp [Act.put, r.size], fun i => ?_, r.marks⟩
      simp only [Act.put, Tr.get_set]
      by_cases hi : i = d
      · subst hi
        have : (c.tmps.setIfInBounds i v').getD i undef = v' := by simp [Array.getD_eq_getD_getElem?, r.size, hd]
        rw [this, if_pos rfl]; exact hv
      · have : (c.tmps.setIfInBounds d v').getD i undef = c.tmps.getD i undef := by
          simp [Array.getD_eq_getD_getElem?, Array.getElem?_setIfInBounds_ne (Ne.symm hi)]
        rw [this, if_neg hi]; exact r.tmps i
end Go.AM
