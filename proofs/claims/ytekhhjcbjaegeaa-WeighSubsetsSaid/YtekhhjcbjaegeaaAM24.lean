/- More fuel changes nothing; and the rules of the abstract machine's runs without fuel. -/
import Derived.Test.YtekhhjcbjaegeaaAM23
set_option linter.all false
namespace Go.AM
open Go
variable {P : Program} {prim : Prim}

def RLe (r r' : Rec) : Prop := ∀ ro c a h x, r ro c a h = some x → r' ro c a h = some x
theorem callF_mono {r r' : Rec} (k : RLe r r') {f : Nat} {args : List Value} {h : Heap} {x : Value × Heap} (e : callF P prim r f args h = some x) : callF P prim r' f args h = some x := by
  unfold callF at e ⊢
  cases hp : prim f with
  | some g => rw [hp] at e; exact e
  | none =>
    rw [hp] at e
    simp only [Option.bind_eq_some_iff] at e ⊢
    obtain ⟨fn, h1, c, h2, q, h3, e⟩ := e
    exact ⟨fn, h1, c, h2, q, k _ _ _ _ _ h3, e⟩
theorem yieldF_mono {r r' : Rec} (k : RLe r r') {l : Nat} {args : List Value} {h : Heap} {x : Value × Heap} (e : yieldF r l args h = some x) : yieldF r' l args h = some x := by
  unfold yieldF at e ⊢
  split at e
  · next p tr sz ps asg body mk hg =>
    cases hb : Nat.beq args.length ps.size with
    | false => rw [hb] at e; cases e
    | true =>
      rw [hb] at e
      simp only [cond_true, Option.bind_eq_some_iff] at e ⊢
      obtain ⟨tr', h1, q, h2, e⟩ := e
      refine ⟨tr', h1, q, k _ _ _ _ _ h2, ?_⟩
      obtain ⟨x1, a1, h1'⟩ := q
      cases x1 with
      | normal =>
        simp only at e ⊢
        split at e
        · simp only [Option.bind_eq_some_iff] at e ⊢
          obtain ⟨q2, h3, e⟩ := e
          exact ⟨q2, k _ _ _ _ _ h3, e⟩
        all_goals cases e
      | _ => cases e
  all_goals cases e
theorem ocall_mono {r r' : Rec} (k : RLe r r') {o : Oper} {a : A} {h : Heap} {x : Value × Heap} (e : ocall P prim r o a h = some x) : ocall P prim r' o a h = some x := by
  obtain ⟨dst, op, ty, pos, after, guard⟩ := o
  unfold ocall at e ⊢
  cases op <;> simp only at e ⊢ <;> first | (cases e; done) | skip
  case call c =>
    obtain ⟨callee, args, ats⟩ := c
    cases callee <;> simp only at e ⊢ <;> first | (cases e; done) | skip
    rename_i g
    simp only [Option.bind_eq_some_iff] at e ⊢
    obtain ⟨v, hv, l, hl, e⟩ := e
    refine ⟨v, hv, l, hl, ?_⟩
    split at e
    · exact callF_mono k e
    · next l' x' y' =>
      cases hb : (x'.isEmpty && y'.isEmpty) with
      | false => rw [hb] at e; cases e
      | true => rw [hb] at e; exact yieldF_mono k e
    · cases e
theorem ostep_mono {r r' : Rec} (k : RLe r r') {o : Oper} {a : A} {h : Heap} {x : Value × Heap} (e : ostep P prim r o a h = some x) : ostep P prim r' o a h = some x := by
  unfold ostep at e ⊢
  cases ha : aop P o a h with
  | some q => rw [ha] at e; exact e
  | none => rw [ha] at e; exact ocall_mono k e
theorem runOps_mono {r r' : Rec} (k : RLe r r') {ops : Array Oper} : ∀ {l : List Nat} {a : A} {h : Heap} {x : A × Heap}, runOps P prim r ops l a h = some x → runOps P prim r' ops l a h = some x
  | [], a, h, x, e => e
  | i :: l, a, h, x, e => by
    simp only [runOps] at e ⊢
    cases ho : ops[i]? with
    | none => rw [ho] at e; exact runOps_mono k e
    | some o =>
      rw [ho] at e
      simp only at e ⊢
      cases hw : awanted ops a o with
      | true =>
        rw [hw] at e
        simp only [cond_true, Option.bind_eq_some_iff] at e ⊢
        obtain ⟨q, h1, a', h2, e⟩ := e
        exact ⟨q, ostep_mono k h1, a', h2, runOps_mono k e⟩
      | false =>
        rw [hw] at e
        simp only [cond_false, Option.bind_eq_some_iff] at e ⊢
        obtain ⟨a', h2, e⟩ := e
        exact ⟨a', h2, runOps_mono k e⟩
theorem dstep_mono {r r' : Rec} (k : RLe r r') {ops : Array Oper} {ms : List Nat} {j : Nat} {s x : DS} (e : dstep P prim r ops ms j s = some x) : dstep P prim r' ops ms j s = some x := by
  unfold dstep at e ⊢
  simp only [Option.bind_eq_some_iff] at e ⊢
  obtain ⟨o, ho, e⟩ := e
  refine ⟨o, ho, ?_⟩
  cases hw : awanted ops s.a o with
  | false => rw [hw] at e; exact e
  | true =>
    rw [hw] at e
    simp only [cond_true] at e ⊢
    cases h0 : Nat.beq (kindOf o) 0 with
    | true => rw [h0] at e; exact e
    | false =>
      rw [h0] at e
      simp only [cond_false] at e ⊢
      cases hl : okLast ms s.last j with
      | false => rw [hl] at e; cases e
      | true =>
        rw [hl] at e
        simp only [cond_true] at e ⊢
        cases h1 : Nat.beq (kindOf o) 1 with
        | true => rw [h1] at e; exact e
        | false =>
          rw [h1] at e
          simp only [cond_false] at e ⊢
          cases h2 : Nat.beq (kindOf o) 2 with
          | true => rw [h2] at e; exact e
          | false =>
            rw [h2] at e
            simp only [cond_false, Option.bind_eq_some_iff] at e ⊢
            obtain ⟨q, h3, e⟩ := e
            exact ⟨q, ostep_mono k h3, e⟩
theorem dloop_mono {r r' : Rec} (k : RLe r r') {ops : Array Oper} {ms : List Nat} : ∀ {l : List Nat} {s x : DS}, dloop P prim r ops ms l s = some x → dloop P prim r' ops ms l s = some x
  | [], s, x, e => e
  | j :: l, s, x, e => by
    simp only [dloop, Option.bind_eq_some_iff] at e ⊢
    obtain ⟨s', h1, e⟩ := e
    exact ⟨s', dstep_mono k h1, dloop_mono k e⟩
theorem drawnF_mono {r r' : Rec} (k : RLe r r') {ops : Array Oper} {a : A} {h : Heap} {x : A × Heap} (e : drawnF P prim ops r a h = some x) : drawnF P prim ops r' a h = some x := by
  unfold drawnF at e ⊢
  cases hp : planOK ops with
  | false => rw [hp] at e; cases e
  | true =>
    rw [hp] at e
    simp only [cond_true, Option.map_eq_some_iff] at e ⊢
    obtain ⟨s, h1, e⟩ := e
    exact ⟨s, dloop_mono k h1, e⟩
theorem rangeF_mono {r r' : Rec} (k : RLe r r') {ro : Option Nat} {g : Operand} {ps : Array Tmp} {asg body : Code} {a : A} {h : Heap} {x : AX × A × Heap} (e : rangeF P prim r ro g ps asg body a h = some x) : rangeF P prim r' ro g ps asg body a h = some x := by
  unfold rangeF at e ⊢
  simp only [Option.bind_eq_some_iff] at e ⊢
  obtain ⟨v, hv, e⟩ := e
  refine ⟨v, hv, ?_⟩
  split at e
  · simp only [Option.bind_eq_some_iff] at e ⊢
    obtain ⟨q, h1, rr, h2, e⟩ := e
    refine ⟨q, h1, rr, callF_mono k h2, ?_⟩
    split at e
    · simp only [Option.bind_eq_some_iff] at e ⊢
      obtain ⟨u, h3, e⟩ := e
      refine ⟨u, h3, ?_⟩
      split at e
      · exact e
      · exact k _ _ _ _ _ e
    · cases e
  · cases e
theorem execF_mono {r r' : Rec} (k : RLe r r') : RLe (execF P prim r (drawnF P prim)) (execF P prim r' (drawnF P prim)) := by
  intro ro c a h x e
  cases c <;> simp only [execF] at e ⊢ <;> first | exact e | skip
  case seq y z =>
    simp only [Option.bind_eq_some_iff] at e ⊢
    obtain ⟨q, h1, e⟩ := e
    refine ⟨q, k _ _ _ _ _ h1, ?_⟩
    obtain ⟨x1, a1, h1'⟩ := q
    cases x1 with
    | normal => exact k _ _ _ _ _ e
    | _ => exact e
  case cond c y z =>
    simp only [Option.bind_eq_some_iff] at e ⊢
    obtain ⟨v, hv, e⟩ := e
    refine ⟨v, hv, ?_⟩
    split at e
    · next b => cases b <;> exact k _ _ _ _ _ e
    · cases e
  case block i y =>
    simp only [Option.map_eq_some_iff] at e ⊢
    obtain ⟨q, h1, e⟩ := e
    exact ⟨q, k _ _ _ _ _ h1, e⟩
  case loop y =>
    simp only [Option.bind_eq_some_iff] at e ⊢
    obtain ⟨q, h1, e⟩ := e
    refine ⟨q, k _ _ _ _ _ h1, ?_⟩
    obtain ⟨x1, a1, h1'⟩ := q
    cases x1 with
    | normal => exact k _ _ _ _ _ e
    | _ => exact e
  case region i ops d =>
    simp only [Option.map_eq_some_iff] at e ⊢
    obtain ⟨q, h1, e⟩ := e
    refine ⟨q, ?_, e⟩
    cases d with
    | true => exact drawnF_mono k h1
    | false => exact runOps_mono k h1
  case rangeFunc g ps asg body => exact rangeF_mono k e
theorem run_succ (n : Nat) : AM.run P prim (n + 1) = execF P prim (AM.run P prim n) (drawnF P prim) := rfl
theorem run_mono1 : ∀ n, RLe (AM.run P prim n) (AM.run P prim (n + 1))
  | 0 => fun ro c a h x e => by simp [AM.run, exec] at e
  | n + 1 => by rw [run_succ, run_succ]; exact execF_mono (run_mono1 n)
theorem run_mono {n m : Nat} (h : n ≤ m) : RLe (AM.run P prim n) (AM.run P prim m) := by
  induction h with
  | refl => exact fun _ _ _ _ _ e => e
  | step _ ih => exact fun ro c a h x e => run_mono1 _ _ _ _ _ _ (ih _ _ _ _ _ e)

/-! ### Runs without fuel -/
def Runs (P : Program) (prim : Prim) (ro : Option Nat) (c : Code) (a : A) (h : Heap) (e : AX) (a' : A) (h' : Heap) : Prop := ∃ n, AM.run P prim n ro c a h = some (e, a', h')
def Comes (P : Program) (prim : Prim) (f : Nat) (args : List Value) (h : Heap) (v : Value) (h' : Heap) : Prop := ∃ n, callF P prim (AM.run P prim n) f args h = some (v, h')
section rules
variable {ro : Option Nat} {a a' a1 : A} {h h' h1 : Heap} {e : AX} {x y : Code}
theorem Runs.skip : Runs P prim ro .skip a h .normal a h := ⟨1, rfl⟩
theorem Runs.label {l : Nat} : Runs P prim ro (.label l) a h .normal a h := ⟨1, rfl⟩
theorem Runs.ret : Runs P prim ro .ret a h .ret a h := ⟨1, rfl⟩
theorem Runs.exit {i : Nat} : Runs P prim ro (.exit i) a h (.exit i) a h := ⟨1, rfl⟩
theorem Runs.goto {i : Nat} : Runs P prim ro (.goto i) a h (.goto i) a h := ⟨1, rfl⟩
theorem Runs.seq (hx : Runs P prim ro x a h .normal a1 h1) (hy : Runs P prim ro y a1 h1 e a' h') : Runs P prim ro (.seq x y) a h e a' h' := by
  obtain ⟨n, hx⟩ := hx
  obtain ⟨m, hy⟩ := hy
  refine ⟨max n m + 1, ?_⟩
  rw [run_succ]
  simp only [execF]
  rw [run_mono (Nat.le_max_left n m) _ _ _ _ _ hx]
  exact run_mono (Nat.le_max_right n m) _ _ _ _ _ hy
theorem Runs.seq_out (hx : Runs P prim ro x a h e a' h') (he : e ≠ .normal) : Runs P prim ro (.seq x y) a h e a' h' := by
  obtain ⟨n, hx⟩ := hx
  refine ⟨n + 1, ?_⟩
  rw [run_succ]
  simp only [execF]
  rw [hx]
  cases e <;> first | rfl | exact absurd rfl he
theorem Runs.cond_true {c : Operand} (hc : a.eval c = some (.bool true)) (hx : Runs P prim ro x a h e a' h') : Runs P prim ro (.cond c x y) a h e a' h' := by
  obtain ⟨n, hx⟩ := hx
  refine ⟨n + 1, ?_⟩
  rw [run_succ]
  simp only [execF]
  rw [hc]; exact hx
theorem Runs.cond_false {c : Operand} (hc : a.eval c = some (.bool false)) (hy : Runs P prim ro y a h e a' h') : Runs P prim ro (.cond c x y) a h e a' h' := by
  obtain ⟨n, hy⟩ := hy
  refine ⟨n + 1, ?_⟩
  rw [run_succ]
  simp only [execF]
  rw [hc]; exact hy
def inBlk (i : Nat) (e : AX) : AX := match e with | .exit j => bif Nat.beq j i then .normal else .exit j | e => e
theorem Runs.block {i : Nat} (hx : Runs P prim ro x a h e a' h') : Runs P prim ro (.block i x) a h (inBlk i e) a' h' := by
  obtain ⟨n, hx⟩ := hx
  refine ⟨n + 1, ?_⟩
  rw [run_succ]
  simp only [execF]
  rw [hx]
  cases e <;> rfl
theorem Runs.loop (hx : Runs P prim ro x a h .normal a1 h1) (hy : Runs P prim ro (.loop x) a1 h1 e a' h') : Runs P prim ro (.loop x) a h e a' h' := by
  obtain ⟨n, hx⟩ := hx
  obtain ⟨m, hy⟩ := hy
  refine ⟨max n m + 1, ?_⟩
  rw [run_succ]
  simp only [execF]
  rw [run_mono (Nat.le_max_left n m) _ _ _ _ _ hx]
  exact run_mono (Nat.le_max_right n m) _ _ _ _ _ hy
theorem Runs.loop_out (hx : Runs P prim ro x a h e a' h') (he : e ≠ .normal) : Runs P prim ro (.loop x) a h e a' h' := by
  obtain ⟨n, hx⟩ := hx
  refine ⟨n + 1, ?_⟩
  rw [run_succ]
  simp only [execF]
  rw [hx]
  cases e <;> first | rfl | exact absurd rfl he
theorem Runs.region {i : Nat} {ops : Array Oper} (n : Nat) (hx : runOps P prim (AM.run P prim n) ops (List.range ops.size) a h = some (a', h')) : Runs P prim ro (.region i ops false) a h .normal a' h' := by
  refine ⟨n + 1, ?_⟩
  rw [run_succ]
  simp only [execF, cond_false]
  rw [hx]; rfl
theorem Runs.drawn {i : Nat} {ops : Array Oper} (n : Nat) (hx : drawnF P prim ops (AM.run P prim n) a h = some (a', h')) : Runs P prim ro (.region i ops true) a h .normal a' h' := by
  refine ⟨n + 1, ?_⟩
  rw [run_succ]
  simp only [execF, Bool.cond_true]
  rw [hx]; rfl
theorem Comes.of_body {f : Nat} {fn : Func} {c : Code} {args : List Value} {v : Value} {h2 : Heap} (hp : prim f = none) (hf : P.funcs[f]? = some fn) (hb : fn.body = some c) (hx : Runs P prim none c (initA fn args) h e a' h') (he : e = .normal ∨ e = .ret)
    (hm : takeMarks a'.marks h' = some h2) (hr : ares P fn a' h2 = some v) : Comes P prim f args h v h2 := by
  obtain ⟨n, hx⟩ := hx
  refine ⟨n, ?_⟩
  unfold callF
  rw [hp, hf]
  simp only [Option.bind_some, hb]
  rw [hx]
  rcases he with rfl | rfl <;> simp only [Option.bind_some, hm, hr, Option.map_some]
theorem Comes.sound (hF : Fit P prim) {f : Nat} {args : List Value} {v : Value} (hc : Comes P prim f args h v h') : CallOK P f args h v h' := by
  obtain ⟨n, hc⟩ := hc
  exact call_sound (n := n) hF hc
end rules
end Go.AM
