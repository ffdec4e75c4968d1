/- The trace of a drawn region's run. -/
import Derived.Test.YtekhhjcbjaegeaaAM18
set_option linter.all false
namespace Go.AM
open Go
variable {P : Program} {prim : Prim} {rec : Rec} {ops : Array Oper}

structure Stp where
  j : Nat
  o : Oper
  a : A
  h : Heap
  k : Nat
  v : Value
  h' : Heap

def Filt (ops : Array Oper) (j : Nat) (l : List (Nat × Oper × A × Value)) : List (Nat × Oper × A × Value) := l.filter fun r => !Nat.testBit ((masks ops.toList).getD j 0) r.1
def Last (ops : Array Oper) (l : Option Nat) (j : Nat) : Prop := ∀ e, l = some e → Anc ops e j
structure StpOK (P : Program) (prim : Prim) (rec : Rec) (ops : Array Oper) (s : DS) (t : Stp) (s' : DS) : Prop where
  op : ops[t.j]? = some t.o
  a : t.a = s.a
  h : t.h = s.h
  put : s.a.put t.o.dst t.v = some s'.a
  h' : s'.h = t.h'
  next : s.h.next ≤ s'.h.next
  case : (t.k = 4 ∧ awanted ops s.a t.o = false ∧ t.v = undef ∧ t.h' = t.h ∧ s'.last = s.last ∧ s'.reads = s.reads) ∨
    (t.k = 0 ∧ awanted ops s.a t.o = true ∧ (∀ h2, aop P t.o s.a h2 = some (t.v, h2)) ∧ t.h' = t.h ∧ s'.last = s.last ∧ s'.reads = s.reads) ∨
    (t.k = 1 ∧ awanted ops s.a t.o = true ∧ Last ops s.last t.j ∧ kindOf t.o = 1 ∧ aop P t.o s.a s.h = some (t.v, s.h) ∧ t.h' = t.h ∧ s'.last = s.last ∧ s'.reads = (t.j, t.o, s.a, t.v) :: s.reads) ∨
    (t.k = 2 ∧ awanted ops s.a t.o = true ∧ Last ops s.last t.j ∧ (∃ l mk, allocOf P t.o s.a = some (l, mk) ∧ t.v = mk s.h.next ∧ t.h' = s.h.push (.cells l)) ∧ s'.last = s.last ∧ s'.reads = s.reads) ∨
    (t.k = 3 ∧ awanted ops s.a t.o = true ∧ Last ops s.last t.j ∧ ostep P prim rec t.o s.a s.h = some (t.v, t.h') ∧ s'.last = some t.j ∧ s'.reads = Filt ops t.j s.reads ∧ rereads P t.h' (Filt ops t.j s.reads) = true)

inductive Tra (P : Program) (prim : Prim) (rec : Rec) (ops : Array Oper) : DS → List Stp → DS → Prop
  | nil {s : DS} : Tra P prim rec ops s [] s
  | cons {s s' s'' : DS} {t : Stp} {T : List Stp} : StpOK P prim rec ops s t s' → Tra P prim rec ops s' T s'' → Tra P prim rec ops s (t :: T) s''

theorem okLast_last {l : Option Nat} {j : Nat} (h : okLast (masks ops.toList) l j = true) : Last ops l j := by
  intro e he
  subst he
  exact masks_anc h
theorem dstep_ok {j : Nat} {s s' : DS} (e : dstep P prim rec ops (masks ops.toList) j s = some s') : ∃ t, t.j = j ∧ StpOK P prim rec ops s t s' := by
  unfold dstep at e
  obtain ⟨o, ho, e⟩ := Option.bind_eq_some_iff.1 e
  cases hw : awanted ops s.a o with
  | false =>
    rw [hw] at e
    simp only [cond_false, Option.map_eq_some_iff] at e
    obtain ⟨a', hp, rfl⟩ := e
    exact ⟨⟨j, o, s.a, s.h, 4, undef, s.h⟩, rfl, ho, rfl, rfl, hp, rfl, Nat.le_refl _, .inl ⟨rfl, hw, rfl, rfl, rfl, rfl⟩⟩
  | true =>
    rw [hw] at e
    simp only [cond_true] at e
    cases h0 : Nat.beq (kindOf o) 0 with
    | true =>
      rw [h0] at e
      simp only [cond_true, Option.bind_eq_some_iff, Option.map_eq_some_iff] at e
      obtain ⟨⟨v, h'⟩, hop, a', hp, rfl⟩ := e
      obtain ⟨rfl, hall⟩ := op_pure (Nat.eq_of_beq_eq_true h0) hop
      exact ⟨⟨j, o, s.a, s.h, 0, v, s.h⟩, rfl, ho, rfl, rfl, hp, rfl, Nat.le_refl _, .inr (.inl ⟨rfl, hw, hall, rfl, rfl, rfl⟩)⟩
    | false =>
      rw [h0] at e
      simp only [cond_false] at e
      cases hl : okLast (masks ops.toList) s.last j with
      | false => rw [hl] at e; cases e
      | true =>
        rw [hl] at e
        simp only [cond_true] at e
        have hL := okLast_last hl
        cases h1 : Nat.beq (kindOf o) 1 with
        | true =>
          rw [h1] at e
          simp only [cond_true, Option.bind_eq_some_iff, Option.map_eq_some_iff] at e
          obtain ⟨⟨v, h'⟩, hop, a', hp, rfl⟩ := e
          obtain ⟨rfl, hall⟩ := op_read (Nat.eq_of_beq_eq_true h1) hop
          exact ⟨⟨j, o, s.a, s.h, 1, v, s.h⟩, rfl, ho, rfl, rfl, hp, rfl, Nat.le_refl _, .inr (.inr (.inl ⟨rfl, hw, hL, Nat.eq_of_beq_eq_true h1, hop, rfl, rfl, rfl⟩))⟩
        | false =>
          rw [h1] at e
          simp only [cond_false] at e
          cases h2 : Nat.beq (kindOf o) 2 with
          | true =>
            rw [h2] at e
            simp only [cond_true, Option.bind_eq_some_iff, Option.map_eq_some_iff] at e
            obtain ⟨⟨v, h'⟩, hop, a', hp, rfl⟩ := e
            obtain ⟨l, mk, ha, hv, hh⟩ := op_alloc (Nat.eq_of_beq_eq_true h2) hop
            subst hh
            exact ⟨⟨j, o, s.a, s.h, 2, v, s.h.push (.cells l)⟩, rfl, ho, rfl, rfl, hp, rfl, by simp [Heap.push_next], .inr (.inr (.inr (.inl ⟨rfl, hw, hL, ⟨l, mk, ha, hv, rfl⟩, rfl, rfl⟩)))⟩
          | false =>
            rw [h2] at e
            simp only [cond_false, Option.bind_eq_some_iff] at e
            obtain ⟨⟨v, h'⟩, hop, a', hp, e⟩ := e
            simp only at hp e
            cases hc : (Nat.ble s.h.next h'.next && rereads P h' (s.reads.filter fun r => !Nat.testBit ((masks ops.toList).getD j 0) r.1)) with
            | false => rw [hc] at e; cases e
            | true =>
              rw [hc] at e
              simp only [cond_true, Option.some.injEq] at e
              subst e
              rw [Bool.and_eq_true] at hc
              exact ⟨⟨j, o, s.a, s.h, 3, v, h'⟩, rfl, ho, rfl, rfl, hp, rfl, Nat.le_of_ble_eq_true hc.1, .inr (.inr (.inr (.inr ⟨rfl, hw, hL, hop, rfl, rfl, hc.2⟩)))⟩
theorem dloop_ok : ∀ {σ : List Nat} {s s' : DS}, dloop P prim rec ops (masks ops.toList) σ s = some s' → ∃ T : List Stp, T.map (·.j) = σ ∧ Tra P prim rec ops s T s'
  | [], s, s', e => by simp only [dloop, Option.some.injEq] at e; subst e; exact ⟨[], rfl, .nil⟩
  | j :: σ, s, s', e => by
    simp only [dloop, Option.bind_eq_some_iff] at e
    obtain ⟨s1, h1, e⟩ := e
    obtain ⟨t, ht, hs⟩ := dstep_ok h1
    obtain ⟨T, hT, hr⟩ := dloop_ok e
    exact ⟨t :: T, by simp [ht, hT], .cons hs hr⟩

/-! ### Of traces -/
theorem Tra.split : ∀ {T1 : List Stp} {s s' : DS} {T2 : List Stp}, Tra P prim rec ops s (T1 ++ T2) s' → ∃ s1, Tra P prim rec ops s T1 s1 ∧ Tra P prim rec ops s1 T2 s'
  | [], s, s', T2, h => ⟨s, .nil, h⟩
  | t :: T1, s, s', T2, h => by
    cases h with
    | cons hs hr =>
      obtain ⟨s1, h1, h2⟩ := Tra.split hr
      exact ⟨s1, .cons hs h1, h2⟩
theorem Tra.at {T1 : List Stp} {t : Stp} {s s' : DS} {T2 : List Stp} (h : Tra P prim rec ops s (T1 ++ t :: T2) s') : ∃ s1 s2, Tra P prim rec ops s T1 s1 ∧ StpOK P prim rec ops s1 t s2 ∧ Tra P prim rec ops s2 T2 s' := by
  obtain ⟨s1, h1, h2⟩ := h.split
  cases h2 with
  | cons hs hr => exact ⟨s1, _, h1, hs, hr⟩
theorem Tra.next {T : List Stp} {s s' : DS} (h : Tra P prim rec ops s T s') : s.h.next ≤ s'.h.next := by
  induction h with
  | nil => exact Nat.le_refl _
  | cons hs _ ih => exact Nat.le_trans hs.next ih
def upTo (ops : Array Oper) (e0 e : Nat) : Prop := e0 = e ∨ Anc ops e0 e
theorem upTo.trans {e0 e e1 : Nat} (h : upTo ops e0 e) (g : Anc ops e e1) : Anc ops e0 e1 := by
  rcases h with rfl | h
  · exact g
  · exact h.trans g
theorem StpOK.last {s s' : DS} {t : Stp} (h : StpOK P prim rec ops s t s') : s'.last = s.last ∨ (t.k = 3 ∧ s'.last = some t.j ∧ Last ops s.last t.j) := by
  rcases h.case with c | c | c | c | c
  · exact .inl c.2.2.2.2.1
  · exact .inl c.2.2.2.2.1
  · exact .inl c.2.2.2.2.2.2.1
  · exact .inl c.2.2.2.2.1
  · exact .inr ⟨c.1, c.2.2.2.2.1, c.2.2.1⟩
theorem Tra.last {T : List Stp} {s s' : DS} (h : Tra P prim rec ops s T s') : (∀ e0, s.last = some e0 → ∃ e, s'.last = some e ∧ upTo ops e0 e) ∧ ∀ t ∈ T, t.k = 3 → ∃ e, s'.last = some e ∧ upTo ops t.j e := by
  induction h with
  | nil => exact ⟨fun e0 he => ⟨e0, he, .inl rfl⟩, fun t ht => by cases ht⟩
  | @cons s s1 s2 t T hs _ ih =>
    obtain ⟨i1, i2⟩ := ih
    refine ⟨fun e0 he => ?_, fun t' ht' hk => ?_⟩
    · rcases hs.last with h | ⟨_, h, hl⟩
      · exact i1 e0 (by rw [h, he])
      · obtain ⟨e, h1, h2⟩ := i1 t.j h
        refine ⟨e, h1, .inr ?_⟩
        rcases h2 with rfl | h2
        · exact hl e0 he
        · exact (hl e0 he).trans h2
    · rcases List.mem_cons.1 ht' with rfl | ht'
      · rcases hs.case with c | c | c | c | c
        · omega
        · omega
        · omega
        · omega
        · exact i1 _ c.2.2.2.2.1
      · exact i2 t' ht' hk
theorem StpOK.order {s s' : DS} {t : Stp} (h : StpOK P prim rec ops s t s') (hk : t.k = 1 ∨ t.k = 2 ∨ t.k = 3) : Last ops s.last t.j := by
  rcases h.case with c | c | c | c | c
  · omega
  · omega
  · exact c.2.2.1
  · exact c.2.2.1
  · exact c.2.2.1
theorem Tra.before {T1 T2 : List Stp} {t : Stp} {s s' : DS} (h : Tra P prim rec ops s (T1 ++ t :: T2) s') (hk : t.k = 1 ∨ t.k = 2 ∨ t.k = 3) : ∀ t' ∈ T1, t'.k = 3 → Anc ops t'.j t.j := by
  obtain ⟨s1, s2, h1, h2, h3⟩ := h.at
  intro t' ht' hk'
  obtain ⟨e, he, hu⟩ := h1.last.2 t' ht' hk'
  exact hu.trans (h2.order hk e he)
theorem Tra.after {T1 T2 : List Stp} {t : Stp} {s s' : DS} (h : Tra P prim rec ops s (T1 ++ t :: T2) s') (hk : t.k = 3) : ∀ t' ∈ T2, t'.k = 3 → Anc ops t.j t'.j := by
  intro t' ht' hk'
  obtain ⟨U1, U2, rfl⟩ := List.append_of_mem ht'
  have h' : Tra P prim rec ops s ((T1 ++ t :: U1) ++ t' :: U2) s' := by simpa using h
  exact h'.before (.inr (.inr hk')) t (by simp) hk

/-! ### Where the heap is when some of the operations have been done -/
def hAt (S : Nat → Bool) (hend : Heap) : List Stp → Heap
  | [] => hend
  | t :: T => bif Nat.beq t.k 3 && !S t.j then t.h else hAt S hend T
theorem hAt_congr {S S' : Nat → Bool} {hend : Heap} : ∀ {T : List Stp}, (∀ t ∈ T, t.k = 3 → S t.j = S' t.j) → hAt S hend T = hAt S' hend T
  | [], _ => rfl
  | t :: T, h => by
    simp only [hAt]
    rw [hAt_congr (T := T) (fun t' ht' => h t' (by simp [ht']))]
    cases hk : Nat.beq t.k 3 with
    | false => rfl
    | true => rw [h t (by simp) (Nat.eq_of_beq_eq_true hk)]
theorem hAt_skip {S : Nat → Bool} {hend : Heap} {T2 : List Stp} : ∀ {T1 : List Stp}, (∀ t ∈ T1, t.k = 3 → S t.j = true) → hAt S hend (T1 ++ T2) = hAt S hend T2
  | [], _ => rfl
  | t :: T1, h => by
    simp only [List.cons_append, hAt]
    rw [hAt_skip (T1 := T1) (fun t' ht' => h t' (by simp [ht']))]
    cases hk : Nat.beq t.k 3 with
    | false => rfl
    | true => rw [h t (by simp) (Nat.eq_of_beq_eq_true hk)]; rfl

inductive Grown : Heap → Heap → Prop
  | refl {h : Heap} : Grown h h
  | push {h h' : Heap} {l : List Value} : Grown (h.push (.cells l)) h' → Grown h h'
theorem Grown.trans {a b c : Heap} (h : Grown a b) (g : Grown b c) : Grown a c := by
  induction h with
  | refl => exact g
  | push _ ih => exact .push (ih g)
theorem Grown.next {a b : Heap} (h : Grown a b) : a.next ≤ b.next := by
  induction h with
  | refl => exact Nat.le_refl _
  | push _ ih => exact Nat.le_trans (by simp [Heap.push_next]) ih
theorem Grown.get {a b : Heap} (h : Grown a b) : ∀ {c : Nat}, c < a.next → b.get c = a.get c := by
  induction h with
  | refl => exact fun _ => rfl
  | @push h h' l _ ih =>
    intro c hc
    rw [ih (by rw [Heap.push_next]; omega), Heap.get_push, if_neg (by omega)]
theorem Grown.sub {a b : Heap} (h : Grown a b) : Sub a b := fun c x e => by rw [h.get (Heap.get_lt e), e]
theorem HR.grown {ρ : Rho} {a b : Heap} {w : World} (g : Grown a b) : HR ρ a w → HR ρ b w := by
  induction g with
  | refl => exact id
  | @push h h' l _ ih =>
    intro H
    refine ih ⟨?_, ?_, fun c hc => H.fresh c (by rw [Heap.push_next] at hc; omega), H.lt⟩
    · intro c C base x hx e
      rw [Heap.get_push] at hx
      split at hx
      · next h1 => subst h1; rw [H.fresh _ (Nat.le_refl _)] at e; cases e
      · exact H.blk c C base x hx e
    · intro c c' C bs bs' h1 h2 e1 e2
      have hne : ∀ d x, ρ d = some x → d ≠ h.next := fun d x e h1 => by subst h1; rw [H.fresh _ (Nat.le_refl _)] at e; cases e
      rw [Heap.get_push, if_neg (hne _ _ e1)] at h1
      rw [Heap.get_push, if_neg (hne _ _ e2)] at h2
      exact H.inj c c' C bs bs' h1 h2 e1 e2
theorem Ext.grown {ρ0 ρ : Rho} {h0 h h' : Heap} {w0 w : World} (H0 : HR ρ0 h0 w0) (E : Ext ρ0 h0 w0 ρ h w) (g : Grown h h') : Ext ρ0 h0 w0 ρ h' w where
  le := E.le
  km c x e e2 := E.km c x e (by
    have hc : c < h0.next := by
      by_cases hc : c < h0.next
      · exact hc
      · rw [H0.fresh c (by omega)] at e; cases e
    rw [g.get (Nat.lt_of_lt_of_le hc E.next)] at e2
    exact e2)
  frame := E.frame
  size := E.size
  os := E.os
  tape := E.tape
  output := E.output
  new := E.new
  next := Nat.le_trans E.next g.next
  fresh := E.fresh
  ghost c hc e := by rw [g.get (Nat.lt_of_lt_of_le hc E.next), E.ghost c hc e]
  fro := E.fro
theorem StpOK.grown {s s' : DS} {t : Stp} (h : StpOK P prim rec ops s t s') (hk : t.k ≠ 3) : Grown s.h s'.h := by
  have e := h.h'
  have e1 := h.h
  rcases h.case with c | c | c | c | c
  · rw [e, c.2.2.2.1, e1]; exact .refl
  · rw [e, c.2.2.2.1, e1]; exact .refl
  · rw [e, c.2.2.2.2.2.1, e1]; exact .refl
  · obtain ⟨l, mk, _, _, h2⟩ := c.2.2.2.1
    rw [e, h2]; exact .push .refl
  · exact absurd c.1 hk
theorem Tra.seg {T : List Stp} {s s' : DS} {S : Nat → Bool} (h : Tra P prim rec ops s T s') : (∀ t ∈ T, t.k = 3 → S t.j = false) → Grown s.h (hAt S s'.h T) := by
  induction h with
  | nil => exact fun _ => .refl
  | @cons s s1 s2 t T hs _ ih =>
    intro hS
    simp only [hAt]
    by_cases hk : t.k = 3
    · have : (Nat.beq t.k 3 && !S t.j) = true := by rw [hS t (by simp) hk, hk]; rfl
      rw [this, cond_true, hs.h]
      exact .refl
    · have : Nat.beq t.k 3 = false := by
        cases hb : Nat.beq t.k 3 with
        | false => rfl
        | true => exact absurd (Nat.eq_of_beq_eq_true hb) hk
      rw [this, Bool.false_and, cond_false]
      exact (hs.grown hk).trans (ih (fun t' ht' => hS t' (by simp [ht'])))

/-- What has been read is there to be read again. -/
theorem Tra.read {T : List Stp} {s s' : DS} {S : Nat → Bool} {r : Nat × Oper × A × Value} (hk1 : kindOf r.2.1 = 1) (h : Tra P prim rec ops s T s') : r ∈ s.reads → (∀ t ∈ T, t.k = 3 → S t.j = true → ¬ Anc ops r.1 t.j) →
    aop P r.2.1 r.2.2.1 s.h = some (r.2.2.2, s.h) → aop P r.2.1 r.2.2.1 (hAt S s'.h T) = some (r.2.2.2, hAt S s'.h T) := by
  induction h with
  | nil => exact fun _ _ e => e
  | @cons s s1 s2 t T hs _ ih =>
    intro hr hS e
    simp only [hAt]
    by_cases hk : t.k = 3
    · cases hSt : S t.j with
      | false =>
        have : (Nat.beq t.k 3 && !false) = true := by rw [hk]; rfl
        rw [this, cond_true, hs.h]
        exact e
      | true =>
        have : (Nat.beq t.k 3 && !true) = false := by simp
        rw [this, cond_false]
        rcases hs.case with c | c | c | c | c
        · omega
        · omega
        · omega
        · omega
        · have hm : r ∈ Filt ops t.j s.reads := by
            refine List.mem_filter.2 ⟨hr, ?_⟩
            cases hb : Nat.testBit ((masks ops.toList).getD t.j 0) r.1 with
            | false => rfl
            | true => exact absurd (masks_anc hb) (hS t (by simp) hk hSt)
          refine ih (by rw [c.2.2.2.2.2.1]; exact hm) (fun t' ht' => hS t' (by simp [ht'])) ?_
          have hre := List.all_eq_true.1 c.2.2.2.2.2.2 r hm
          rw [hs.h']
          split at hre
          · next q hq =>
            obtain ⟨v, hh⟩ := q
            obtain ⟨rfl, _⟩ := op_read hk1 hq
            have hv : v = r.2.2.2 := veq_sound hre
            rw [hq, hv]
          · cases hre
    · have : Nat.beq t.k 3 = false := by
        cases hb : Nat.beq t.k 3 with
        | false => rfl
        | true => exact absurd (Nat.eq_of_beq_eq_true hb) hk
      rw [this, Bool.false_and, cond_false]
      refine ih ?_ (fun t' ht' => hS t' (by simp [ht'])) ((op_read hk1 e).2 _ (hs.grown hk).sub)
      rcases hs.case with c | c | c | c | c
      · rw [c.2.2.2.2.2]; exact hr
      · rw [c.2.2.2.2.2]; exact hr
      · rw [c.2.2.2.2.2.2.2]; exact List.mem_cons_of_mem _ hr
      · rw [c.2.2.2.2.2]; exact hr
      · exact absurd c.1 hk

/-! ### The temporaries when some of the operations have been done -/
def curG (S : Nat → Bool) (x : Nat) (d : Option Value) (T : List Stp) : Option Value := T.foldl (fun acc t => if S t.j = true ∧ t.o.dst = some x then some t.v else acc) d
def curT (S : Nat → Bool) (tr : Tr Value) (T : List Stp) : Tr Value := T.foldl (fun tr t => if S t.j = true then (match t.o.dst with | none => tr | some x => tr.set x (some t.v)) else tr) tr
theorem curT_get {S : Nat → Bool} {x : Nat} : ∀ (T : List Stp) (tr : Tr Value), (curT S tr T).get x = curG S x (tr.get x) T
  | [], tr => rfl
  | t :: T, tr => by
    unfold curT curG
    rw [List.foldl_cons, List.foldl_cons]
    have := curT_get (S := S) (x := x) T (if S t.j = true then (match t.o.dst with | none => tr | some x => tr.set x (some t.v)) else tr)
    unfold curT curG at this
    rw [this]
    congr 1
    by_cases hS : S t.j = true
    · rw [if_pos hS]
      cases hd : t.o.dst with
      | none => simp
      | some y =>
        simp only [Tr.get_set]
        by_cases hy : x = y
        · subst hy; simp [hS]
        · have : ¬ (some y = some x) := by simp; exact fun h => hy h.symm
          simp [hy, this]
    · simp [hS]
theorem curG_congr {S S' : Nat → Bool} {x : Nat} : ∀ {T : List Stp} {d : Option Value}, (∀ t ∈ T, t.o.dst = some x → S t.j = S' t.j) → curG S x d T = curG S' x d T
  | [], _, _ => rfl
  | t :: T, d, h => by
    unfold curG
    rw [List.foldl_cons, List.foldl_cons]
    have e : (if S t.j = true ∧ t.o.dst = some x then some t.v else d) = (if S' t.j = true ∧ t.o.dst = some x then some t.v else d) := by
      by_cases hd : t.o.dst = some x
      · rw [h t (by simp) hd]
      · simp [hd]
    rw [e]
    exact curG_congr (T := T) (fun t' ht' => h t' (by simp [ht']))
theorem curG_append {S : Nat → Bool} {x : Nat} {d : Option Value} {T1 T2 : List Stp} : curG S x d (T1 ++ T2) = curG S x (curG S x d T1) T2 := by simp [curG, List.foldl_append]
theorem curG_none {S : Nat → Bool} {x : Nat} : ∀ {T : List Stp} {d : Option Value}, (∀ t ∈ T, t.o.dst = some x → S t.j = false) → curG S x d T = d
  | [], _, _ => rfl
  | t :: T, d, h => by
    unfold curG
    rw [List.foldl_cons]
    have e : (if S t.j = true ∧ t.o.dst = some x then some t.v else d) = d := by
      by_cases hd : t.o.dst = some x
      · rw [h t (by simp) hd]; simp
      · simp [hd]
    rw [e]
    exact curG_none (T := T) (fun t' ht' => h t' (by simp [ht']))
theorem put_get {a a' : A} {d : Option Tmp} {v : Value} (h : a.put d v = some a') (x : Nat) : a'.size = a.size ∧ a'.marks = a.marks ∧ a'.tr.get x = if d = some x then some v else a.tr.get x := by
  cases d with
  | none => simp only [A.put_eq, Option.some.injEq] at h; subst h; simp
  | some y =>
    simp only [A.put_eq] at h
    cases hy : Nat.blt y a.size with
    | false => rw [hy] at h; cases h
    | true =>
      rw [hy] at h
      simp only [cond_true, Option.some.injEq] at h
      subst h
      refine ⟨rfl, rfl, ?_⟩
      simp only [Tr.get_set, Option.some.injEq]
      by_cases hxy : x = y
      · subst hxy; simp
      · rw [if_neg hxy, if_neg (fun h => hxy h.symm)]
theorem Tra.tmps {T : List Stp} {s s' : DS} (h : Tra P prim rec ops s T s') : s'.a.size = s.a.size ∧ s'.a.marks = s.a.marks ∧ ∀ x, s'.a.tr.get x = curG (fun _ => true) x (s.a.tr.get x) T := by
  induction h with
  | nil => exact ⟨rfl, rfl, fun _ => rfl⟩
  | @cons s s1 s2 t T hs _ ih =>
    obtain ⟨i1, i2, i3⟩ := ih
    refine ⟨by rw [i1, (put_get hs.put 0).1], by rw [i2, (put_get hs.put 0).2.1], fun x => ?_⟩
    rw [i3, (put_get hs.put x).2.2]
    unfold curG
    rw [List.foldl_cons]
    simp
end Go.AM
