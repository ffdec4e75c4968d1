/- Regions whose order is drawn and that only look: they run as in the plan's order. -/
import Derived.Test.YtekhhjcbjaegeaaAM26
set_option linter.all false
namespace Go.AM
open Go
variable {P : Program} {prim : Prim}

/-- Nothing but looking. -/
def lookers (ops : Array Oper) : Bool := ops.toList.all fun o => Nat.ble (kindOf o) 1
theorem lookers_kind {ops : Array Oper} (h : lookers ops = true) {j : Nat} {o : Oper} (ho : ops[j]? = some o) : kindOf o = 0 ∨ kindOf o = 1 := by
  have hm : o ∈ ops.toList := by rw [Array.mem_toList_iff]; exact Array.mem_of_getElem? ho
  have := Nat.le_of_ble_eq_true (List.all_eq_true.1 h o hm)
  omega
theorem ocall_looker {rec : Rec} {o : Oper} {a : A} {h : Heap} (k : kindOf o = 0 ∨ kindOf o = 1) : ocall P prim rec o a h = none := by
  obtain ⟨dst, op, ty, pos, after, guard⟩ := o
  unfold ocall
  cases op <;> try rfl
  case call c =>
    obtain ⟨callee, args, ats⟩ := c
    cases callee <;> first | rfl | (simp [kindOf] at k)
theorem dloop_lookers {ops : Array Oper} {ms : List Nat} {rec : Rec} (hl : lookers ops = true) : ∀ (σ : List Nat) (a : A) (h : Heap) (rd : List (Nat × Oper × A × Value)) (q : A × Heap), (∀ j ∈ σ, ∃ o, ops[j]? = some o) → runOps P prim rec ops σ a h = some q →
    ∃ rd', dloop P prim rec ops ms σ ⟨a, h, none, rd⟩ = some ⟨q.1, q.2, none, rd'⟩
  | [], a, h, rd, q, _, e => by
    simp only [runOps, Option.some.injEq] at e
    subst e
    exact ⟨rd, rfl⟩
  | j :: σ, a, h, rd, q, hj, e => by
    obtain ⟨o, ho⟩ := hj j (by simp)
    have hk := lookers_kind hl ho
    have hc : ∀ a h, ostep P prim rec o a h = aop P o a h := fun a h => ostep_op P prim rec o a h (ocall_looker hk)
    simp only [runOps, ho] at e
    have ih := fun a h rd => dloop_lookers (ms := ms) (rec := rec) hl σ a h rd q (fun i hi => hj i (by simp [hi]))
    simp only [dloop, dstep, ho, Option.bind_some]
    cases hw : awanted ops a o with
    | false =>
      rw [hw] at e
      simp only [cond_false, Option.bind_eq_some_iff] at e
      obtain ⟨a', hp, e⟩ := e
      obtain ⟨rd', hr⟩ := ih a' h rd e
      exact ⟨rd', by simp only [cond_false, hp, Option.map_some, Option.bind_some, hr]⟩
    | true =>
      rw [hw] at e
      simp only [cond_true, Option.bind_eq_some_iff] at e
      obtain ⟨⟨v, h'⟩, hs, a', hp, e⟩ := e
      rw [hc] at hs
      simp only at hp e
      rcases hk with hk | hk
      · obtain ⟨rfl, _⟩ := op_pure hk hs
        obtain ⟨rd', hr⟩ := ih a' h' rd e
        have h0 : Nat.beq (kindOf o) 0 = true := by rw [hk]; rfl
        exact ⟨rd', by simp only [h0, cond_true, hs, hp, Option.map_some, Option.bind_some, hr]⟩
      · obtain ⟨rfl, _⟩ := op_read hk hs
        obtain ⟨rd', hr⟩ := ih a' h' ((j, o, a, v) :: rd) e
        have h0 : Nat.beq (kindOf o) 0 = false := by rw [hk]; rfl
        have h1 : Nat.beq (kindOf o) 1 = true := by rw [hk]; rfl
        exact ⟨rd', by simp only [h0, h1, cond_true, cond_false, okLast, hs, hp, Option.map_some, Option.bind_some, hr]⟩
/-- The operations in the plan's order. -/
def inOrder (ops : Array Oper) : List Oper := (orderOf ops).filterMap fun j => ops[j]?
theorem runOps_inOrder {ops : Array Oper} {rec : Rec} : ∀ (σ : List Nat) (a : A) (h : Heap), runL P prim rec ops (σ.filterMap fun j => ops[j]?) a h = runOps P prim rec ops σ a h
  | [], a, h => rfl
  | j :: σ, a, h => by
    simp only [List.filterMap_cons, runOps]
    cases ho : ops[j]? with
    | none => exact runOps_inOrder σ a h
    | some o =>
      simp only [runL]
      cases awanted ops a o with
      | true =>
        simp only [cond_true]
        cases ostep P prim rec o a h with
        | none => rfl
        | some q =>
          simp only [Option.bind_some]
          cases a.put o.dst q.1 with
          | none => rfl
          | some a' => exact runOps_inOrder σ _ _
      | false =>
        simp only [cond_false]
        cases a.put o.dst undef with
        | none => rfl
        | some a' => exact runOps_inOrder σ _ _
theorem drawnF_lookers {ops : Array Oper} {rec : Rec} {a : A} {h : Heap} {q : A × Heap} (hp : planOK ops = true) (hl : lookers ops = true) (e : runL P prim rec ops (inOrder ops) a h = some q) : drawnF P prim ops rec a h = some q := by
  unfold inOrder at e
  rw [runOps_inOrder] at e
  unfold drawnF
  rw [hp]
  simp only [cond_true]
  have hσ : OrdOK ops (orderOf ops) := by rw [planOK, Bool.and_eq_true] at hp; exact ordGo_ok hp.1
  have hj : ∀ j ∈ orderOf ops, ∃ o, ops[j]? = some o := by
    intro j hj
    obtain ⟨σ1, σ2, hs⟩ := List.append_of_mem hj
    obtain ⟨o, ho, _⟩ := hσ.pred σ1 j σ2 hs
    exact ⟨o, ho⟩
  obtain ⟨rd', hr⟩ := dloop_lookers (ms := masks ops.toList) hl (orderOf ops) a h [] q hj e
  rw [hr]; rfl
section rules
variable {ro : Option Nat} {a a' : A} {h h' : Heap} {e : AX} {y : Code}
theorem Runs.drawn_seq {i : Nat} {ops : Array Oper} (hp : planOK ops = true) (hl : lookers ops = true) (hx : ∃ q, runL P prim (AM.run P prim 0) ops (inOrder ops) a h = some q ∧ Runs P prim ro y q.1 q.2 e a' h') : Runs P prim ro (.seq (.region i ops true) y) a h e a' h' := by
  obtain ⟨⟨a1, h1⟩, hq, hy⟩ := hx
  exact Runs.seq (Runs.drawn 0 (drawnF_lookers hp hl hq)) hy
theorem Runs.drawn_one {i : Nat} {ops : Array Oper} (hp : planOK ops = true) (hl : lookers ops = true) (hx : ∃ q, runL P prim (AM.run P prim 0) ops (inOrder ops) a h = some q ∧ e = .normal ∧ a' = q.1 ∧ h' = q.2) : Runs P prim ro (.region i ops true) a h e a' h' := by
  obtain ⟨⟨a1, h1⟩, hq, rfl, rfl, rfl⟩ := hx
  exact Runs.drawn 0 (drawnF_lookers hp hl hq)
end rules
end Go.AM
