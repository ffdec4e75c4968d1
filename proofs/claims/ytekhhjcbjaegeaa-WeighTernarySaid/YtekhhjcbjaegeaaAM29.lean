/- Walking with letters: environments as lists, what code comes to, one operation after the other. -/
import Derived.Test.YtekhhjcbjaegeaaAM28
set_option linter.all false
namespace Go.AM
open Go
variable {P : Program} {prim : Prim}

/-! ### Environments -/
theorem Tr.setF_id {α : Type} : ∀ (n : Nat) (t : Tr α) (k : Nat) (v : α), t.get k = some v → Tr.setF n t k (some v) = t := by
  intro n
  induction n with
  | zero => intro t k v h; rfl
  | succ n ih =>
    intro t k v h
    cases t with
    | nil => cases h
    | node w l r =>
      cases k with
      | zero => simp only [Tr.get] at h; subst h; rfl
      | succ k =>
        simp only [Tr.get] at h
        simp only [Tr.setF]
        cases hk : (k % 2 == 0) with
        | true => rw [hk] at h; simp only [cond_true] at h ⊢; rw [ih _ _ _ h]
        | false => rw [hk] at h; simp only [cond_false] at h ⊢; rw [ih _ _ _ h]
theorem Tr.set_id {α : Type} {t : Tr α} {k : Nat} {v : α} (h : t.get k = some v) : t.set k (some v) = t := Tr.setF_id _ _ _ _ h
abbrev Env := List (Nat × Value)
def over (base : Tr Value) : Env → Tr Value
  | [] => base
  | (k, v) :: l => (over base l).set k (some v)
def lkS : Env → Nat → Option Value
  | [], _ => none
  | (k, v) :: l, i => match Nat.beq k i with
    | true => some v
    | false => lkS l i
theorem lkS_get {base : Tr Value} : ∀ {l : Env} {i : Nat} {v : Value}, lkS l i = some v → (over base l).get i = some v
  | [], i, v, h => by cases h
  | (k, u) :: l, i, v, h => by
    simp only [lkS] at h
    simp only [over, Tr.get_set]
    cases hb : Nat.beq k i with
    | true => rw [hb] at h; simp only at h; rw [Nat.eq_of_beq_eq_true hb]; simpa using h
    | false =>
      rw [hb] at h
      have : i ≠ k := by intro e; subst e; rw [Nat.beq_refl] at hb; cases hb
      rw [if_neg this]; exact lkS_get h
def ev (l : Env) : Operand → Option Value
  | .tmp t => lkS l t
  | .const v => match flat v with | true => some v | false => none
  | .global _ => none
  | .func f => some (.func (.func f) #[] #[])
def St (base : Tr Value) (n : Nat) (ms : List Nat) (l : Env) : A := ⟨over base l, n, ms⟩
theorem ev_eval {base : Tr Value} {n : Nat} {ms : List Nat} {l : Env} {x : Operand} {v : Value} (h : ev l x = some v) : (St base n ms l).eval x = some v := by
  cases x with
  | tmp t => simp only [ev] at h; simp only [St, A.eval, lkS_get h, Option.getD_some]
  | const u => simp only [ev] at h; simp only [A.eval]; cases hf : flat u <;> rw [hf] at h <;> simp_all
  | global g => cases h
  | func f => exact h
def evs (l : Env) : List Operand → Option (List Value)
  | [] => some []
  | x :: r => match ev l x with
    | some v => match evs l r with | some vs => some (v :: vs) | none => none
    | none => none
theorem evs_eval {base : Tr Value} {n : Nat} {ms : List Nat} {l : Env} : ∀ {xs : List Operand} {vs : List Value}, evs l xs = some vs → aevs (St base n ms l) xs = some vs
  | [], vs, h => h
  | x :: r, vs, h => by
    simp only [evs] at h
    cases hx : ev l x with
    | none => rw [hx] at h; cases h
    | some v =>
      rw [hx] at h
      cases hr : evs l r with
      | none => rw [hr] at h; cases h
      | some us =>
        rw [hr] at h
        simp only [Option.some.injEq] at h; subst h
        simp only [aevs, ev_eval hx, Option.bind_some, evs_eval hr, Option.map_some]
theorem St_put {base : Tr Value} {n : Nat} {ms : List Nat} {l : Env} {d : Nat} {v : Value} (h : Nat.blt d n = true) : (St base n ms l).put (some d) v = some (St base n ms ((d, v) :: l)) := by
  simp only [A.put, St, h, cond_true, over]
theorem St_same {base : Tr Value} {n : Nat} {ms : List Nat} {l : Env} {t : Nat} {v : Value} (h : lkS l t = some v) : St base n ms ((t, v) :: l) = St base n ms l := by
  simp only [St, over]; rw [Tr.set_id (lkS_get h)]
def Lks (l : Env) : Env → Prop
  | [] => True
  | (i, v) :: k => lkS l i = some v ∧ Lks l k
/-- A state may be told by what lives in it alone. -/
theorem St_norm {base : Tr Value} {n : Nat} {ms : List Nat} {l : Env} : ∀ (k : Env), Lks l k → St base n ms l = St (over base l) n ms k := by
  intro k hk
  have : ∀ k, Lks l k → over (over base l) k = over base l := by
    intro k
    induction k with
    | nil => intro _; rfl
    | cons p k ih =>
      obtain ⟨i, v⟩ := p
      intro h
      simp only [over]
      rw [ih h.2, Tr.set_id (lkS_get h.1)]
  simp only [St, this k hk]
def Has (n : Nat) (ms : List Nat) (k : Env) (a : A) : Prop := ∃ base, a = St base n ms k
theorem St_has {base : Tr Value} {n : Nat} {ms : List Nat} {l : Env} (k : Env) (hk : Lks l k) : Has n ms k (St base n ms l) := ⟨_, St_norm k hk⟩

/-! ### What one operation comes to -/
def Op1 (P : Program) (prim : Prim) (o : Oper) (a : A) (h : Heap) (v : Value) (h1 : Heap) : Prop := ∃ n, ∀ m, n ≤ m → ostep P prim (AM.run P prim m) o a h = some (v, h1)
theorem Op1.of {o : Oper} {a : A} {h h1 : Heap} {v : Value} (e : aop P o a h = some (v, h1)) : Op1 P prim o a h v h1 := ⟨0, fun m _ => by unfold ostep; rw [e]⟩
theorem runL_mono {r r' : Rec} (k : RLe r r') {ops : Array Oper} : ∀ {l : List Oper} {a : A} {h : Heap} {x : A × Heap}, runL P prim r ops l a h = some x → runL P prim r' ops l a h = some x
  | [], a, h, x, e => e
  | o :: l, a, h, x, e => by
    simp only [runL, Option.bind_eq_some_iff] at e ⊢
    obtain ⟨q, h1, e⟩ := e
    refine ⟨q, ?_, runL_mono k e⟩
    cases hw : awanted ops a o with
    | true =>
      rw [hw] at h1
      simp only [cond_true, Option.bind_eq_some_iff] at h1 ⊢
      obtain ⟨q1, h2, h3⟩ := h1
      exact ⟨q1, ostep_mono k h2, h3⟩
    | false => rw [hw] at h1; exact h1
def RG (P : Program) (prim : Prim) (ops : Array Oper) (l : List Oper) (a : A) (h : Heap) (R : A → Heap → Prop) : Prop :=
  ∃ n q, runL P prim (AM.run P prim n) ops l a h = some q ∧ R q.1 q.2
section rg
variable {ops : Array Oper} {rest : List Oper} {base : Tr Value} {n : Nat} {ms : List Nat} {l : Env} {h h1 : Heap} {R : A → Heap → Prop} {v : Value} {d j t : Nat} {op : Op} {ty : TypeId} {pos : String} {after : Array Edge} {want : Bool} {a : A}
theorem RG.done (k : R a h) : RG P prim ops [] a h R := ⟨0, _, rfl, k⟩
theorem RG.go {o : Oper} {a a1 : A} (hw : awanted ops a o = true) (hs : Op1 P prim o a h v h1) (hp : a.put o.dst v = some a1) (k : RG P prim ops rest a1 h1 R) : RG P prim ops (o :: rest) a h R := by
  obtain ⟨n, hs⟩ := hs
  obtain ⟨m, q, hr, hR⟩ := k
  refine ⟨max n m, q, ?_, hR⟩
  simp only [runL, hw, cond_true, hs _ (Nat.le_max_left n m), Option.bind_some, hp, Option.map_some]
  exact runL_mono (run_mono (Nat.le_max_right n m)) hr
theorem RG.stay {o : Oper} {a a1 : A} (hw : awanted ops a o = false) (hp : a.put o.dst undef = some a1) (k : RG P prim ops rest a1 h R) : RG P prim ops (o :: rest) a h R := by
  obtain ⟨m, q, hr, hR⟩ := k
  refine ⟨m, q, ?_, hR⟩
  simp only [runL, hw, cond_false, hp, Option.map_some, Option.bind_some]
  exact hr
theorem RG.step (hs : Op1 P prim ⟨some d, op, ty, pos, after, none⟩ (St base n ms l) h v h1) (hd : Nat.blt d n = true) (k : RG P prim ops rest (St base n ms ((d, v) :: l)) h1 R) :
    RG P prim ops (⟨some d, op, ty, pos, after, none⟩ :: rest) (St base n ms l) h R := RG.go rfl hs (St_put hd) k
theorem RG.step0 (hs : Op1 P prim ⟨none, op, ty, pos, after, none⟩ (St base n ms l) h v h1) (k : RG P prim ops rest (St base n ms l) h1 R) :
    RG P prim ops (⟨none, op, ty, pos, after, none⟩ :: rest) (St base n ms l) h R := RG.go rfl hs rfl k
theorem wanted_guard {o : Option Nat} {b : Bool} (ht : (ops[j]?).bind (·.dst) = some t) (hy : lkS l t = some (.bool b)) : awanted ops (St base n ms l) ⟨o, op, ty, pos, after, some (j, want)⟩ = (b == want) := by
  unfold awanted ayielded
  simp only [ht, Option.bind_some, St, lkS_get hy, Option.getD_some, boolOf]
theorem RG.gd (ht : (ops[j]?).bind (·.dst) = some t) (hy : lkS l t = some (.bool want)) (hs : Op1 P prim ⟨some d, op, ty, pos, after, some (j, want)⟩ (St base n ms l) h v h1) (hd : Nat.blt d n = true) (k : RG P prim ops rest (St base n ms ((d, v) :: l)) h1 R) :
    RG P prim ops (⟨some d, op, ty, pos, after, some (j, want)⟩ :: rest) (St base n ms l) h R := RG.go (by rw [wanted_guard ht hy]; simp) hs (St_put hd) k
theorem RG.gd0 (ht : (ops[j]?).bind (·.dst) = some t) (hy : lkS l t = some (.bool want)) (hs : Op1 P prim ⟨none, op, ty, pos, after, some (j, want)⟩ (St base n ms l) h v h1) (k : RG P prim ops rest (St base n ms l) h1 R) :
    RG P prim ops (⟨none, op, ty, pos, after, some (j, want)⟩ :: rest) (St base n ms l) h R := RG.go (by rw [wanted_guard ht hy]; simp) hs rfl k
def gval (v : Value) (want : Bool) : Bool := match boolOf v with | some x => x == want | none => false
theorem wanted_gval {o : Option Nat} {v : Value} (ht : (ops[j]?).bind (·.dst) = some t) (hy : lkS l t = some v) : awanted ops (St base n ms l) ⟨o, op, ty, pos, after, some (j, want)⟩ = gval v want := by
  unfold awanted ayielded gval
  simp only [ht, Option.bind_some, St, lkS_get hy, Option.getD_some]
  cases boolOf v <;> rfl
theorem RG.not (ht : (ops[j]?).bind (·.dst) = some t) (hy : lkS l t = some v) (hv : gval v want = false) (hd : Nat.blt d n = true) (k : RG P prim ops rest (St base n ms ((d, undef) :: l)) h R) :
    RG P prim ops (⟨some d, op, ty, pos, after, some (j, want)⟩ :: rest) (St base n ms l) h R := RG.stay (by rw [wanted_gval ht hy, hv]) (St_put hd) k
theorem RG.not0 (ht : (ops[j]?).bind (·.dst) = some t) (hy : lkS l t = some v) (hv : gval v want = false) (k : RG P prim ops rest (St base n ms l) h R) :
    RG P prim ops (⟨none, op, ty, pos, after, some (j, want)⟩ :: rest) (St base n ms l) h R := RG.stay (by rw [wanted_gval ht hy, hv]) rfl k
/-- The cases of a test. -/
theorem RG.cases {p : Prop} [Decidable p] (t : Nat) (hx : lkS l t = some (.bool (decide p))) (kt : p → RG P prim ops rest (St base n ms ((t, .bool true) :: l)) h R) (kf : ¬ p → RG P prim ops rest (St base n ms ((t, .bool false) :: l)) h R) : RG P prim ops rest (St base n ms l) h R := by
  by_cases hp : p
  · rw [decide_eq_true hp] at hx
    rw [← St_same hx]; exact kt hp
  · rw [decide_eq_false hp] at hx
    rw [← St_same hx]; exact kf hp
theorem RG.casesB {b : Bool} (t : Nat) (hx : lkS l t = some (.bool b)) (kt : b = true → RG P prim ops rest (St base n ms ((t, .bool true) :: l)) h R) (kf : b = false → RG P prim ops rest (St base n ms ((t, .bool false) :: l)) h R) : RG P prim ops rest (St base n ms l) h R := by
  cases b with
  | true => rw [← St_same hx]; exact kt rfl
  | false => rw [← St_same hx]; exact kf rfl
theorem RG.yes {b : Bool} (t : Nat) (hx : lkS l t = some (.bool b)) (hb : b = true) (kt : RG P prim ops rest (St base n ms ((t, .bool true) :: l)) h R) : RG P prim ops rest (St base n ms l) h R := by
  subst hb; rw [← St_same hx]; exact kt
theorem RG.no {b : Bool} (t : Nat) (hx : lkS l t = some (.bool b)) (hb : b = false) (kt : RG P prim ops rest (St base n ms ((t, .bool false) :: l)) h R) : RG P prim ops rest (St base n ms l) h R := by
  subst hb; rw [← St_same hx]; exact kt
/-- A value told in other words. -/
theorem RG.tell {u : Value} (t : Nat) (hx : lkS l t = some u) (hu : u = v) (k : RG P prim ops rest (St base n ms ((t, v) :: l)) h R) : RG P prim ops rest (St base n ms l) h R := by
  subst hu; rw [← St_same hx]; exact k
end rg

/-! ### What code comes to -/
def W (P : Program) (prim : Prim) (ro : Option Nat) (c : Code) (a : A) (h : Heap) (Q : AX → A → Heap → Prop) : Prop := ∃ e a' h', Runs P prim ro c a h e a' h' ∧ Q e a' h'
def seqQ (P : Program) (prim : Prim) (ro : Option Nat) (y : Code) (Q : AX → A → Heap → Prop) (e : AX) (a : A) (h : Heap) : Prop :=
  match e with
  | .normal => W P prim ro y a h Q
  | e => Q e a h
def blkQ (i : Nat) (Q : AX → A → Heap → Prop) (e : AX) (a : A) (h : Heap) : Prop :=
  match e with
  | .exit j => match Nat.beq j i with
    | true => Q .normal a h
    | false => Q (.exit j) a h
  | e => Q e a h
section w
variable {ro : Option Nat} {a : A} {h : Heap} {Q : AX → A → Heap → Prop} {x y : Code} {base : Tr Value} {n : Nat} {ms : List Nat} {l : Env}
theorem W.skip (k : Q .normal a h) : W P prim ro .skip a h Q := ⟨_, _, _, Runs.skip, k⟩
theorem W.ret (k : Q .ret a h) : W P prim ro .ret a h Q := ⟨_, _, _, Runs.ret, k⟩
theorem W.exit {i : Nat} (k : Q (.exit i) a h) : W P prim ro (.exit i) a h Q := ⟨_, _, _, Runs.exit, k⟩
theorem W.mono {Q' : AX → A → Heap → Prop} (w : W P prim ro x a h Q) (k : ∀ e a h, Q e a h → Q' e a h) : W P prim ro x a h Q' := by
  obtain ⟨e, a', h', r, q⟩ := w
  exact ⟨e, a', h', r, k _ _ _ q⟩
theorem W.seq (k : W P prim ro x a h (seqQ P prim ro y Q)) : W P prim ro (.seq x y) a h Q := by
  obtain ⟨e, a', h', r, q⟩ := k
  cases e with
  | normal =>
    obtain ⟨e2, a2, h2, r2, q2⟩ := q
    exact ⟨e2, a2, h2, Runs.seq r r2, q2⟩
  | exit i => exact ⟨_, _, _, Runs.seq_out r (by simp), q⟩
  | goto i => exact ⟨_, _, _, Runs.seq_out r (by simp), q⟩
  | ret => exact ⟨_, _, _, Runs.seq_out r (by simp), q⟩
theorem W.block {i : Nat} (k : W P prim ro x a h (blkQ i Q)) : W P prim ro (.block i x) a h Q := by
  obtain ⟨e, a', h', r, q⟩ := k
  refine ⟨_, _, _, Runs.block r, ?_⟩
  cases e with
  | exit j =>
    simp only [blkQ] at q
    simp only [inBlk]
    cases hb : Nat.beq j i <;> rw [hb] at q <;> simpa using q
  | normal => exact q
  | goto i => exact q
  | ret => exact q
theorem W.condT {c : Operand} (hc : ev l c = some (.bool true)) (k : W P prim ro x (St base n ms l) h Q) : W P prim ro (.cond c x y) (St base n ms l) h Q := by
  obtain ⟨e, a', h', r, q⟩ := k
  exact ⟨e, a', h', Runs.cond_true (ev_eval hc) r, q⟩
theorem W.condF {c : Operand} (hc : ev l c = some (.bool false)) (k : W P prim ro y (St base n ms l) h Q) : W P prim ro (.cond c x y) (St base n ms l) h Q := by
  obtain ⟨e, a', h', r, q⟩ := k
  exact ⟨e, a', h', Runs.cond_false (ev_eval hc) r, q⟩
theorem W.cases {p : Prop} [Decidable p] (t : Nat) (hx : lkS l t = some (.bool (decide p))) (kt : p → W P prim ro x (St base n ms ((t, .bool true) :: l)) h Q) (kf : ¬ p → W P prim ro x (St base n ms ((t, .bool false) :: l)) h Q) : W P prim ro x (St base n ms l) h Q := by
  by_cases hp : p
  · rw [decide_eq_true hp] at hx
    rw [← St_same hx]; exact kt hp
  · rw [decide_eq_false hp] at hx
    rw [← St_same hx]; exact kf hp
theorem W.casesB {b : Bool} (t : Nat) (hx : lkS l t = some (.bool b)) (kt : b = true → W P prim ro x (St base n ms ((t, .bool true) :: l)) h Q) (kf : b = false → W P prim ro x (St base n ms ((t, .bool false) :: l)) h Q) : W P prim ro x (St base n ms l) h Q := by
  cases b with
  | true => rw [← St_same hx]; exact kt rfl
  | false => rw [← St_same hx]; exact kf rfl
theorem W.yes {b : Bool} (t : Nat) (hx : lkS l t = some (.bool b)) (hb : b = true) (kt : W P prim ro x (St base n ms ((t, .bool true) :: l)) h Q) : W P prim ro x (St base n ms l) h Q := by
  subst hb; rw [← St_same hx]; exact kt
theorem W.no {b : Bool} (t : Nat) (hx : lkS l t = some (.bool b)) (hb : b = false) (kt : W P prim ro x (St base n ms ((t, .bool false) :: l)) h Q) : W P prim ro x (St base n ms l) h Q := by
  subst hb; rw [← St_same hx]; exact kt
theorem W.tell {u v : Value} (t : Nat) (hx : lkS l t = some u) (hu : u = v) (k : W P prim ro x (St base n ms ((t, v) :: l)) h Q) : W P prim ro x (St base n ms l) h Q := by
  subst hu; rw [← St_same hx]; exact k
/-- What does not live any more is forgotten. -/
theorem W.norm (k : Env) (hk : Lks l k) (w : ∀ base, W P prim ro x (St base n ms k) h Q) : W P prim ro x (St base n ms l) h Q := by
  rw [St_norm k hk]; exact w _
theorem W.region {i : Nat} {ol : List Oper} (k : RG P prim ol.toArray ol a h (Q .normal)) : W P prim ro (.region i ol.toArray false) a h Q := by
  obtain ⟨m, q, hr, hR⟩ := k
  exact ⟨.normal, q.1, q.2, Runs.region m (by rw [← runL_eq]; exact hr), hR⟩
/-- A region, and what follows it. -/
theorem W.rs {i : Nat} {ol : List Oper} (k : RG P prim ol.toArray ol a h (fun a h => W P prim ro y a h Q)) : W P prim ro (.seq (.region i ol.toArray false) y) a h Q := W.seq (W.region k)
def loopQ {σ : Type} (M : σ → A → Heap → Prop) (m : σ → Nat) (s : σ) (Q : AX → A → Heap → Prop) (e : AX) (a : A) (h : Heap) : Prop :=
  match e with
  | .normal => ∃ s', m s' < m s ∧ M s' a h
  | e => Q e a h
/-- A loop, with what holds at its head. -/
theorem W.loop {σ : Type} (M : σ → A → Heap → Prop) (m : σ → Nat) (step : ∀ s a h, M s a h → W P prim ro x a h (loopQ M m s Q)) (s : σ) (hs : M s a h) : W P prim ro (.loop x) a h Q := by
  have key : ∀ (k : Nat) (s : σ) (a : A) (h : Heap), m s ≤ k → M s a h → W P prim ro (.loop x) a h Q := by
    intro k
    induction k with
    | zero =>
      intro s a h hk hM
      obtain ⟨e, a', h', r, q⟩ := step s a h hM
      cases e with
      | normal => obtain ⟨s', hlt, _⟩ := q; omega
      | exit i => exact ⟨_, _, _, Runs.loop_out r (by simp), q⟩
      | goto i => exact ⟨_, _, _, Runs.loop_out r (by simp), q⟩
      | ret => exact ⟨_, _, _, Runs.loop_out r (by simp), q⟩
    | succ k ih =>
      intro s a h hk hM
      obtain ⟨e, a', h', r, q⟩ := step s a h hM
      cases e with
      | normal =>
        obtain ⟨s', hlt, hM'⟩ := q
        obtain ⟨e2, a2, h2, r2, q2⟩ := ih s' a' h' (by omega) hM'
        exact ⟨e2, a2, h2, Runs.loop r r2, q2⟩
      | exit i => exact ⟨_, _, _, Runs.loop_out r (by simp), q⟩
      | goto i => exact ⟨_, _, _, Runs.loop_out r (by simp), q⟩
      | ret => exact ⟨_, _, _, Runs.loop_out r (by simp), q⟩
  exact key _ s a h (Nat.le_refl _) hs
end w

/-! ### What a call comes to -/
def CW (P : Program) (prim : Prim) (f : Nat) (args : List Value) (h : Heap) (R : Value → Heap → Prop) : Prop := ∃ v h', Comes P prim f args h v h' ∧ R v h'
def fnQ (P : Program) (fn : Func) (R : Value → Heap → Prop) (e : AX) (a : A) (h : Heap) : Prop :=
  match e with
  | .normal | .ret => ∃ h2 v, takeMarks a.marks h = some h2 ∧ ares P fn a h2 = some v ∧ R v h2
  | _ => False
theorem CW.intro {f : Nat} {fn : Func} {c : Code} {args : List Value} {h : Heap} {R : Value → Heap → Prop} {n : Nat} {l : Env} (hp : prim f = none) (hf : P.funcs[f]? = some fn) (hb : fn.body = some c) (hi : initA fn args = St .nil n [] l)
    (k : W P prim none c (St .nil n [] l) h (fnQ P fn R)) : CW P prim f args h R := by
  rw [← hi] at k
  obtain ⟨e, a', h', r, q⟩ := k
  cases e with
  | normal =>
    obtain ⟨h2, v, hm, hr, hR⟩ := q
    exact ⟨v, h2, Comes.of_body hp hf hb r (.inl rfl) hm hr, hR⟩
  | ret =>
    obtain ⟨h2, v, hm, hr, hR⟩ := q
    exact ⟨v, h2, Comes.of_body hp hf hb r (.inr rfl) hm hr, hR⟩
  | exit i => exact absurd q (by simp [fnQ])
  | goto i => exact absurd q (by simp [fnQ])
theorem CW.mono {f : Nat} {args : List Value} {h : Heap} {R R' : Value → Heap → Prop} (c : CW P prim f args h R) (k : ∀ v h, R v h → R' v h) : CW P prim f args h R' := by
  obtain ⟨v, h', c, r⟩ := c
  exact ⟨v, h', c, k _ _ r⟩
section leaves
variable {fn : Func} {R : Value → Heap → Prop} {base : Tr Value} {n : Nat} {l : Env} {h : Heap} {t t2 t3 : Nat} {v v2 v3 : Value}
theorem fnQ_of {e : AX} {a : A} {h2 : Heap} (he : e = .normal ∨ e = .ret) (hm : takeMarks a.marks h = some h2) (hr : ares P fn a h2 = some v) (k : R v h2) : fnQ P fn R e a h := by
  rcases he with rfl | rfl <;> exact ⟨h2, v, hm, hr, k⟩
theorem St_get {ms : List Nat} (h1 : lkS l t = some v) : ((St base n ms l).tr.get t).getD undef = v := by simp only [St, lkS_get h1, Option.getD_some]
theorem leaf0 (hr : fn.results = #[]) (k : R (.tuple #[]) h) : fnQ P fn R .ret (St base n [] l) h := by
  refine fnQ_of (.inr rfl) rfl ?_ k
  unfold ares; rw [hr]; rfl
theorem leaf0n (hr : fn.results = #[]) (k : R (.tuple #[]) h) : fnQ P fn R .normal (St base n [] l) h := by
  refine fnQ_of (.inl rfl) rfl ?_ k
  unfold ares; rw [hr]; rfl
theorem leaf1 (hr : fn.results = #[.tmp t]) (h1 : lkS l t = some v) (k : R v h) : fnQ P fn R .ret (St base n [] l) h := by
  refine fnQ_of (.inr rfl) rfl ?_ k
  unfold ares; rw [hr]
  simp only [resL, St_get h1, Option.map_some, oneOf]
theorem leaf2 (hr : fn.results = #[.tmp t, .tmp t2]) (h1 : lkS l t = some v) (h2 : lkS l t2 = some v2) (k : R (.tuple #[v, v2]) h) : fnQ P fn R .ret (St base n [] l) h := by
  refine fnQ_of (.inr rfl) rfl ?_ k
  unfold ares; rw [hr]
  simp only [resL, St_get h1, St_get h2, Option.map_some, oneOf]
theorem leaf3 (hr : fn.results = #[.tmp t, .tmp t2, .tmp t3]) (h1 : lkS l t = some v) (h2 : lkS l t2 = some v2) (h3 : lkS l t3 = some v3) (k : R (.tuple #[v, v2, v3]) h) : fnQ P fn R .ret (St base n [] l) h := by
  refine fnQ_of (.inr rfl) rfl ?_ k
  unfold ares; rw [hr]
  simp only [resL, St_get h1, St_get h2, St_get h3, Option.map_some, oneOf]
end leaves
end Go.AM
namespace Go.AM
open Go
theorem loopQ_next {σ : Type} {M : σ → A → Heap → Prop} {m : σ → Nat} {s : σ} {Q : AX → A → Heap → Prop} {a : A} {h : Heap} (s' : σ) (h1 : m s' < m s) (h2 : M s' a h) : loopQ M m s Q .normal a h := ⟨s', h1, h2⟩
end Go.AM
