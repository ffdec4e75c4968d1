/- Walking with letters: regions whose order is drawn. -/
import Derived.Test.YtekhhjcbjaegeaaAM31
set_option linter.all false
namespace Go.AM
open Go
variable {P : Program} {prim : Prim}

theorem ocall_none {rec : Rec} {o : Oper} {a : A} {h : Heap} (k : kindOf o ≠ 3) : ocall P prim rec o a h = none := by
  obtain ⟨dst, op, ty, pos, after, guard⟩ := o
  unfold ocall
  cases op <;> try rfl
  case call c =>
    obtain ⟨callee, args, ats⟩ := c
    cases callee <;> first | rfl | (simp [kindOf] at k)
theorem Op1.toAop {o : Oper} {a : A} {h h1 : Heap} {v : Value} (k : kindOf o ≠ 3) (s : Op1 P prim o a h v h1) : AM.aop P o a h = some (v, h1) := by
  obtain ⟨n, hn⟩ := s
  have := hn n (Nat.le_refl _)
  rwa [ostep_op _ _ _ _ _ _ (ocall_none k)] at this
/-- Values that are the same as themselves. -/
def simple (v : Value) : Bool := veq v v
/-- What has been read, and when it would be read so again. -/
abbrev Pend := List (Nat × (Heap → Prop))
def PAll : Pend → Heap → Prop
  | [], _ => True
  | (_, C) :: l, h => C h ∧ PAll l h
def pfil (m : Nat) : Pend → Pend
  | [] => []
  | (i, C) :: l => match Nat.beq (Nat.mod (Nat.div m (Nat.pow 2 i)) 2) 1 with
    | true => pfil m l
    | false => (i, C) :: pfil m l
theorem bit_div (m i : Nat) : Nat.testBit m i = Nat.beq (Nat.mod (Nat.div m (Nat.pow 2 i)) 2) 1 := by
  rw [Nat.testBit_eq_decide_div_mod_eq]
  show decide (m / 2 ^ i % 2 = 1) = Nat.beq (m / 2 ^ i % 2) 1
  cases h : Nat.beq (m / 2 ^ i % 2) 1 with
  | true => rw [Nat.eq_of_beq_eq_true h]; rfl
  | false =>
    have : ¬ (m / 2 ^ i % 2 = 1) := by intro e; rw [e] at h; cases h
    simp [this]
def Cov (P : Program) (reads : List (Nat × Oper × A × Value)) (pend : Pend) : Prop := ∀ r ∈ reads, ∃ q ∈ pend, q.1 = r.1 ∧ ∀ h, q.2 h → ∃ x, aop P r.2.1 r.2.2.1 h = some x ∧ veq x.1 r.2.2.2 = true
theorem pfil_mem {m : Nat} : ∀ {pend : Pend} {q : Nat × (Heap → Prop)}, q ∈ pend → Nat.testBit m q.1 = false → q ∈ pfil m pend
  | (i, C) :: l, q, hq, hm => by
    simp only [pfil, ← bit_div]
    rcases List.mem_cons.1 hq with rfl | hq
    · simp only at hm; rw [hm]; simp
    · cases Nat.testBit m i with
      | true => exact pfil_mem hq hm
      | false => exact List.mem_cons_of_mem _ (pfil_mem hq hm)
theorem PAll_mem : ∀ {pend : Pend} {h : Heap}, PAll pend h → ∀ q ∈ pend, q.2 h
  | (_, _) :: l, h, ha, q, hq => by
    rcases List.mem_cons.1 hq with rfl | hq
    · exact ha.1
    · exact PAll_mem ha.2 q hq
def RD (P : Program) (prim : Prim) (ops : Array Oper) (σ : List Nat) (a : A) (h : Heap) (last : Option Nat) (pend : Pend) (R : A → Heap → Prop) : Prop :=
  ∀ reads, Cov P reads pend → ∃ n s, dloop P prim (AM.run P prim n) ops (masks ops.toList) σ ⟨a, h, last, reads⟩ = some s ∧ R s.a s.h
section rd
variable {ops : Array Oper} {σ : List Nat} {base : Tr Value} {n : Nat} {ms : List Nat} {l : Env} {h h1 : Heap} {R : A → Heap → Prop} {v : Value} {d i j t m : Nat} {op : Op} {ty : TypeId} {pos : String} {after : Array Edge} {want : Bool} {a : A} {last : Option Nat} {pend : Pend} {o : Oper} {g : Option (Nat × Bool)}
theorem RD.done (k : R a h) : RD P prim ops [] a h last pend R := fun _ _ => ⟨0, _, rfl, k⟩
/-- What is asked of a guard. -/
def GOK (ops : Array Oper) (l : Env) (b : Bool) : Option (Nat × Bool) → Prop
  | none => b = true
  | some (j, want) => ∃ t v, (ops[j]?).bind (·.dst) = some t ∧ lkS l t = some v ∧ gval v want = b
theorem GOK.wanted {b : Bool} {o : Oper} (k : GOK ops l b o.guard) : awanted ops (St base n ms l) o = b := by
  obtain ⟨dst, op, ty, pos, after, guard⟩ := o
  cases guard with
  | none => simp only [GOK] at k; subst k; rfl
  | some q =>
    obtain ⟨j, want⟩ := q
    obtain ⟨t, v, ht, hy, hb⟩ := k
    rw [wanted_gval ht hy, hb]
def nxt (n : Nat) (l : Env) (v : Value) : Option Tmp → Option Env
  | none => some l
  | some d => match Nat.blt d n with
    | true => some ((d, v) :: l)
    | false => none
theorem put_of {o : Oper} {l' : Env} (hd : nxt n l v o.dst = some l') : (St base n ms l).put o.dst v = some (St base n ms l') := by
  cases hx : o.dst with
  | none => rw [hx] at hd; simp only [nxt, Option.some.injEq] at hd; subst hd; rfl
  | some d =>
    rw [hx] at hd
    simp only [nxt] at hd
    cases hb : Nat.blt d n with
    | true => rw [hb] at hd; simp only [Option.some.injEq] at hd; subst hd; exact St_put hb
    | false => rw [hb] at hd; cases hd
/-- A step that is not wanted. -/
theorem RD0.not (ho : ops[j]? = some o) (hg : GOK ops l false o.guard) {l' : Env} (hd : nxt n l undef o.dst = some l') (k : RD P prim ops σ (St base n ms l') h last pend R) :
    RD P prim ops (j :: σ) (St base n ms l) h last pend R := by
  intro reads hc
  obtain ⟨n0, s, e, hR⟩ := k reads hc
  refine ⟨n0, s, ?_, hR⟩
  simp only [dloop, dstep, ho, Option.bind_some, hg.wanted, cond_false, put_of hd, Option.map_some]
  exact e
theorem RD0.pure (ho : ops[j]? = some o) (hk : kindOf o = 0) (hg : GOK ops l true o.guard) (hs : Op1 P prim o (St base n ms l) h v h1) {l' : Env} (hd : nxt n l v o.dst = some l') (k : RD P prim ops σ (St base n ms l') h last pend R) :
    RD P prim ops (j :: σ) (St base n ms l) h last pend R := by
  intro reads hc
  obtain ⟨n0, s, e, hR⟩ := k reads hc
  refine ⟨n0, s, ?_, hR⟩
  have h0 : Nat.beq (kindOf o) 0 = true := by rw [hk]; rfl
  simp only [dloop, dstep, ho, Option.bind_some, hg.wanted, cond_true, h0, hs.toAop (by rw [hk]; decide), put_of hd, Option.map_some]
  exact e
theorem RD0.read {C : Heap → Prop} (ho : ops[j]? = some o) (hk : kindOf o = 1) (hl : okLast (masks ops.toList) last j = true) (hg : GOK ops l true o.guard) (hs : ∀ h, C h → Op1 P prim o (St base n ms l) h v h) (hC : C h) (hv : simple v = true)
    {l' : Env} (hd : nxt n l v o.dst = some l') (k : RD P prim ops σ (St base n ms l') h last ((j, C) :: pend) R) :
    RD P prim ops (j :: σ) (St base n ms l) h last pend R := by
  intro reads hc
  obtain ⟨n0, s, e, hR⟩ := k ((j, o, St base n ms l, v) :: reads) (by
    intro r hr
    rcases List.mem_cons.1 hr with rfl | hr
    · exact ⟨(j, C), by simp, rfl, fun h hC => ⟨(v, h), (hs h hC).toAop (by rw [hk]; decide), hv⟩⟩
    · obtain ⟨q, hq, h2⟩ := hc r hr
      exact ⟨q, List.mem_cons_of_mem _ hq, h2⟩)
  refine ⟨n0, s, ?_, hR⟩
  have h0 : Nat.beq (kindOf o) 0 = false := by rw [hk]; rfl
  have h1 : Nat.beq (kindOf o) 1 = true := by rw [hk]; rfl
  simp only [dloop, dstep, ho, Option.bind_some, hg.wanted, cond_true, cond_false, h0, h1, hl, (hs h hC).toAop (by rw [hk]; decide), put_of hd, Option.map_some]
  exact e
theorem RD0.make (ho : ops[j]? = some o) (hk : kindOf o = 2) (hl : okLast (masks ops.toList) last j = true) (hg : GOK ops l true o.guard) (hs : Op1 P prim o (St base n ms l) h v h1)
    {l' : Env} (hd : nxt n l v o.dst = some l') (k : RD P prim ops σ (St base n ms l') h1 last pend R) :
    RD P prim ops (j :: σ) (St base n ms l) h last pend R := by
  intro reads hc
  obtain ⟨n0, s, e, hR⟩ := k reads hc
  refine ⟨n0, s, ?_, hR⟩
  have h0 : Nat.beq (kindOf o) 0 = false := by rw [hk]; rfl
  have h1 : Nat.beq (kindOf o) 1 = false := by rw [hk]; rfl
  have h2 : Nat.beq (kindOf o) 2 = true := by rw [hk]; rfl
  simp only [dloop, dstep, ho, Option.bind_some, hg.wanted, cond_true, cond_false, h0, h1, h2, hl, hs.toAop (by rw [hk]; decide), put_of hd, Option.map_some]
  exact e
theorem RD0.eff (ho : ops[j]? = some o) (hk : kindOf o = 3) (hl : okLast (masks ops.toList) last j = true) (hg : GOK ops l true o.guard) (hs : Op1 P prim o (St base n ms l) h v h1) (hn : h.next ≤ h1.next) (hm : (masks ops.toList).getD j 0 = m) (hp : PAll (pfil m pend) h1)
    {l' : Env} (hd : nxt n l v o.dst = some l') (k : RD P prim ops σ (St base n ms l') h1 (some j) (pfil m pend) R) :
    RD P prim ops (j :: σ) (St base n ms l) h last pend R := by
  intro reads hc
  have hc' : Cov P (reads.filter fun r => !Nat.testBit ((masks ops.toList).getD j 0) r.1) (pfil m pend) := by
    intro r hr
    obtain ⟨hr1, hr2⟩ := List.mem_filter.1 hr
    obtain ⟨q, hq, e1, h2⟩ := hc r hr1
    refine ⟨q, pfil_mem hq ?_, e1, h2⟩
    rw [e1, ← hm]; simpa using hr2
  have hrr : rereads P h1 (reads.filter fun r => !Nat.testBit ((masks ops.toList).getD j 0) r.1) = true := by
    unfold rereads
    rw [List.all_eq_true]
    intro r hr
    obtain ⟨q, hq, e1, h2⟩ := hc' r hr
    obtain ⟨x, hx, hv⟩ := h2 _ (PAll_mem hp q hq)
    simp only [hx]; exact hv
  obtain ⟨n0, s, e, hR⟩ := k _ hc'
  obtain ⟨n1, hs⟩ := hs
  refine ⟨max n1 n0, s, ?_, hR⟩
  have h0 : Nat.beq (kindOf o) 0 = false := by rw [hk]; rfl
  have h1' : Nat.beq (kindOf o) 1 = false := by rw [hk]; rfl
  have h2 : Nat.beq (kindOf o) 2 = false := by rw [hk]; rfl
  have h3 : Nat.ble h.next h1.next = true := by rw [Nat.ble_eq]; exact hn
  simp only [dloop, dstep, ho, Option.bind_some, hg.wanted, cond_true, cond_false, h0, h1', h2, hl, hs _ (Nat.le_max_left n1 n0), put_of hd, h3, hrr, Bool.and_self]
  exact dloop_mono (run_mono (Nat.le_max_right n1 n0)) e
theorem RD.cases {p : Prop} [Decidable p] (t : Nat) (hx : lkS l t = some (.bool (decide p))) (kt : p → RD P prim ops σ (St base n ms ((t, .bool true) :: l)) h last pend R) (kf : ¬ p → RD P prim ops σ (St base n ms ((t, .bool false) :: l)) h last pend R) : RD P prim ops σ (St base n ms l) h last pend R := by
  by_cases hp : p
  · rw [decide_eq_true hp] at hx
    rw [← St_same hx]; exact kt hp
  · rw [decide_eq_false hp] at hx
    rw [← St_same hx]; exact kf hp
theorem RD.casesB {b : Bool} (t : Nat) (hx : lkS l t = some (.bool b)) (kt : b = true → RD P prim ops σ (St base n ms ((t, .bool true) :: l)) h last pend R) (kf : b = false → RD P prim ops σ (St base n ms ((t, .bool false) :: l)) h last pend R) : RD P prim ops σ (St base n ms l) h last pend R := by
  cases b with
  | true => rw [← St_same hx]; exact kt rfl
  | false => rw [← St_same hx]; exact kf rfl
theorem RD.yes {b : Bool} (t : Nat) (hx : lkS l t = some (.bool b)) (hb : b = true) (kt : RD P prim ops σ (St base n ms ((t, .bool true) :: l)) h last pend R) : RD P prim ops σ (St base n ms l) h last pend R := by
  subst hb; rw [← St_same hx]; exact kt
theorem RD.no {b : Bool} (t : Nat) (hx : lkS l t = some (.bool b)) (hb : b = false) (kt : RD P prim ops σ (St base n ms ((t, .bool false) :: l)) h last pend R) : RD P prim ops σ (St base n ms l) h last pend R := by
  subst hb; rw [← St_same hx]; exact kt
theorem RD.abs {x : Blk} (k : ∀ h1, h1.next = h.next + 1 → h1.get h.next = some x → Grow h h1 → RD P prim ops σ a h1 last pend R) : RD P prim ops σ a (h.push x) last pend R :=
  k _ (Heap.push_next h x) (by rw [Heap.get_push, if_pos rfl]) (Grow.push h x)
theorem RD.absPut {x y : Blk} {b0 : Nat} (g : h.get b0 = some y) (k : ∀ h1, h1.next = h.next → h1.get b0 = some x → (∀ b, b ≠ b0 → h1.get b = h.get b) → RD P prim ops σ a h1 last pend R) : RD P prim ops σ a (h.put b0 (some x)) last pend R :=
  k _ (Heap.put_next h b0 _) (by rw [Heap.get_put _ _ _ _ (Heap.get_lt g), if_pos rfl]) (fun b hb => by rw [Heap.get_put _ _ _ _ (Heap.get_lt g), if_neg hb])
end rd
section rdw
variable {ops : Array Oper} {σ : List Nat} {base : Tr Value} {n : Nat} {ms : List Nat} {l l' : Env} {h h1 : Heap} {R : A → Heap → Prop} {v : Value} {i j t m : Nat} {op : Op} {ty : TypeId} {pos : String} {after : Array Edge} {a : A} {last : Option Nat} {pend : Pend} {dst : Option Tmp} {g : Option (Nat × Bool)}
theorem RD.not (ho : ops[j]? = some ⟨dst, op, ty, pos, after, g⟩) (hg : GOK ops l false g) (hd : nxt n l undef dst = some l') (k : RD P prim ops σ (St base n ms l') h last pend R) : RD P prim ops (j :: σ) (St base n ms l) h last pend R := RD0.not ho hg hd k
theorem RD.pure (ho : ops[j]? = some ⟨dst, op, ty, pos, after, g⟩) (hk : kindOf ⟨dst, op, ty, pos, after, g⟩ = 0) (hg : GOK ops l true g) (hs : Op1 P prim ⟨dst, op, ty, pos, after, g⟩ (St base n ms l) h v h1) (hd : nxt n l v dst = some l') (k : RD P prim ops σ (St base n ms l') h last pend R) :
    RD P prim ops (j :: σ) (St base n ms l) h last pend R := RD0.pure ho hk hg hs hd k
theorem RD.read {C : Heap → Prop} (ho : ops[j]? = some ⟨dst, op, ty, pos, after, g⟩) (hk : kindOf ⟨dst, op, ty, pos, after, g⟩ = 1) (hl : okLast (masks ops.toList) last j = true) (hg : GOK ops l true g) (hs : ∀ h, C h → Op1 P prim ⟨dst, op, ty, pos, after, g⟩ (St base n ms l) h v h) (hC : C h) (hv : simple v = true)
    (hd : nxt n l v dst = some l') (k : RD P prim ops σ (St base n ms l') h last ((j, C) :: pend) R) : RD P prim ops (j :: σ) (St base n ms l) h last pend R := RD0.read ho hk hl hg hs hC hv hd k
theorem RD.make (ho : ops[j]? = some ⟨dst, op, ty, pos, after, g⟩) (hk : kindOf ⟨dst, op, ty, pos, after, g⟩ = 2) (hl : okLast (masks ops.toList) last j = true) (hg : GOK ops l true g) (hs : Op1 P prim ⟨dst, op, ty, pos, after, g⟩ (St base n ms l) h v h1)
    (hd : nxt n l v dst = some l') (k : RD P prim ops σ (St base n ms l') h1 last pend R) : RD P prim ops (j :: σ) (St base n ms l) h last pend R := RD0.make ho hk hl hg hs hd k
theorem RD.eff (ho : ops[j]? = some ⟨dst, op, ty, pos, after, g⟩) (hk : kindOf ⟨dst, op, ty, pos, after, g⟩ = 3) (hl : okLast (masks ops.toList) last j = true) (hg : GOK ops l true g) (hs : Op1 P prim ⟨dst, op, ty, pos, after, g⟩ (St base n ms l) h v h1) (hn : h.next ≤ h1.next) (hm : (masks ops.toList).getD j 0 = m) {pend2 : Pend} (hf : pfil m pend = pend2) (hp : PAll pend2 h1)
    (hd : nxt n l v dst = some l') (k : RD P prim ops σ (St base n ms l') h1 (some j) pend2 R) : RD P prim ops (j :: σ) (St base n ms l) h last pend R := by subst hf; exact RD0.eff ho hk hl hg hs hn hm hp hd k
end rdw
section w
variable {ro : Option Nat} {a : A} {h : Heap} {Q : AX → A → Heap → Prop} {y : Code} {i : Nat} {ol : List Oper} {σ : List Nat}
theorem W.drawn (hp : planOK ol.toArray = true) (hσ : orderOf ol.toArray = σ) (k : RD P prim ol.toArray σ a h none [] (Q .normal)) : W P prim ro (.region i ol.toArray true) a h Q := by
  obtain ⟨m, s, e, hR⟩ := k [] (fun r hr => by cases hr)
  refine ⟨.normal, s.a, s.h, Runs.drawn m ?_, hR⟩
  unfold drawnF
  rw [hp, hσ]
  simp only [cond_true, e, Option.map_some]
theorem W.ds (hp : planOK ol.toArray = true) (hσ : orderOf ol.toArray = σ) (k : RD P prim ol.toArray σ a h none [] (fun a h => W P prim ro y a h Q)) : W P prim ro (.seq (.region i ol.toArray true) y) a h Q := W.seq (W.drawn hp hσ k)
end w
end Go.AM
namespace Go.AM
open Go
theorem GOK.no {ops : Array Oper} {l : Env} : GOK ops l true none := rfl
theorem GOK.is {ops : Array Oper} {l : Env} {b : Bool} {j t : Nat} {want : Bool} {v : Value} (ht : (ops[j]?).bind (·.dst) = some t) (hy : lkS l t = some v) (hb : gval v want = b) : GOK ops l b (some (j, want)) := ⟨t, v, ht, hy, hb⟩
def smp : Value → Bool
  | .bool _ | .int _ _ | .string _ | .pointer none | .pointer (some ⟨_, _, none⟩) | .slice _ _ _ | .map _ | .nilFunc | .nilIface => true
  | _ => false
theorem simple_of {v : Value} (h : smp v = true) : simple v = true := by
  cases v with
  | pointer a =>
    cases a with
    | none => rfl
    | some a =>
      obtain ⟨b, o, f⟩ := a
      cases f with
      | none => unfold simple veq; simp [veq1]
      | some f => cases h
  | slice a m c =>
    cases a with
    | none => unfold simple veq; simp [veq1]
    | some a => obtain ⟨b, o, f⟩ := a; unfold simple veq; simp [veq1]
  | map r => cases r <;> (unfold simple veq; simp [veq1])
  | bool b => unfold simple veq; simp [veq1]
  | int k x => unfold simple veq; simp [veq1]
  | string s => unfold simple veq; simp [veq1]
  | nilFunc => rfl
  | nilIface => rfl
  | _ => cases h
end Go.AM
