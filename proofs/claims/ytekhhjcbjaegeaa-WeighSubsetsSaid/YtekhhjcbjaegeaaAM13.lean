/- What the abstract machine runs, the model's program runs. -/
import Derived.Test.YtekhhjcbjaegeaaAM12
import Derived.RangeFuncIn
set_option linter.all false
namespace Go.AM
open Go
variable {P : Program}

def FF (R : Option Nat) : Fence := { Fence.wide with round := R }
theorem FF_fn (R : Option Nat) (f : FuncId) : (FF R).fn f := trivial
theorem FF_depth (R : Option Nat) {n : Nat} : ((FF R).depth.isSome = true → 1 ≤ n) := fun h => by cases h
def roR (ρ : Rho) : Option Nat → Option Nat → Prop
  | none, none => True
  | some l, some L => ρ l = some (L, 0)
  | _, _ => False
theorem roR.mono {ρ ρ' : Rho} (h : Le ρ ρ') {a b : Option Nat} (r : roR ρ a b) : roR ρ' a b := by
  cases a <;> cases b <;> first | exact r | exact h.m _ _ r

/-- What a call of a function comes to. -/
def CallOK (P : Program) (f : Nat) (args : List Value) (h : Heap) (v : Value) (h' : Heap) : Prop :=
  ∀ (ρ : Rho) (w : World) (args' : List Value), HR ρ h w → VRl ρ args args' →
    CallsIn (FF none) 0 P f args'.toArray w fun e w' => ∃ ρ' v', e = .returned v' ∧ VR ρ' v v' ∧ HR ρ' h' w' ∧ Ext ρ h w ρ' h' w'
/-- What a round comes to. -/
def YieldOK (P : Program) (l : Nat) (args : List Value) (h : Heap) (v : Value) (h' : Heap) : Prop :=
  ∀ (ρ : Rho) (w : World) (args' : List Value) (L : Nat), HR ρ h w → VRl ρ args args' → ρ l = some (L, 0) →
    ∃ fn tmps asg body, (Instr.yield L args'.toArray).run P w = .ok (.round L fn tmps asg body) w ∧
      RoundIn (FF none) 0 P L fn tmps asg body w fun e w' => ∃ ρ' v', e = .returned v' ∧ VR ρ' v v' ∧ HR ρ' h' w' ∧ Ext ρ h w ρ' h' w'
/-- What code comes to. -/
def CodeOK (P : Program) (ro : Option Nat) (c : Code) (a : A) (h : Heap) (e : AX) (a' : A) (h' : Heap) : Prop :=
  ∀ (R : Option Nat) (ρ : Rho) (w : World) (b : Act) (Q : Exit → Act → World → Prop), HR ρ h w → AR ρ a b → roR ρ ro R →
    (∀ ρ' b' w', HR ρ' h' w' → AR ρ' a' b' → Ext ρ h w ρ' h' w' → Q (cx e) b' w') → c.wpIn (FF R) 0 P Q b w
def OpsOK (P : Program) (ops : Array Oper) (l : List Nat) (a : A) (h : Heap) (a' : A) (h' : Heap) : Prop :=
  ∀ (R : Option Nat) (ρ : Rho) (w : World) (b : Act) (Q : Exit → Act → World → Prop), HR ρ h w → AR ρ a b →
    (∀ ρ' b' w', HR ρ' h' w' → AR ρ' a' b' → Ext ρ h w ρ' h' w' → Q .normal b' w') → wpOpsIn (FF R) 0 P ops Q l b w
/-- What one operation comes to. -/
def StepOK (P : Program) (o : Oper) (a : A) (h : Heap) (v : Value) (h' : Heap) : Prop :=
  ∀ (R : Option Nat) (ρ : Rho) (w : World) (b : Act) (K : Act → World → Prop) (Q : Exit → Act → World → Prop), HR ρ h w → AR ρ a b →
    (∀ ρ' v' w', VR ρ' v v' → HR ρ' h' w' → Ext ρ h w ρ' h' w' → K (b.put o.dst v') w') → o.wpIn (FF R) 0 P b w K Q
/-- The functions that are taken as they are. -/
def PrimOK (P : Program) (prim : Prim) : Prop := ∀ f g, prim f = some g → ∀ args h v h', g args h = some (v, h') → CallOK P f args h v h'
def NamesOK (P : Program) : Prop := ∀ (f : Nat) (fn : Func) (c : Code), P.funcs[f]? = some fn → fn.body = some c → (fn.name == "runtime.NumGoroutine") = false

theorem step_of_op {o : Oper} {a : A} {h h' : Heap} {v : Value} (e : aop P o a h = some (v, h')) : StepOK P o a h v h' := by
  intro R ρ w b K Q H r k
  obtain ⟨ρ', n, v', w', hr, hn, hv, hH, hE⟩ := aop_sound H r e
  have hd : ∀ c, o.op ≠ .defer c := by
    intro c hc
    obtain ⟨dst, op, ty, pos, after, guard⟩ := o
    simp only at hc; subst hc
    simp [aop] at e
  refine ⟨fun _ _ => trivial, ?_⟩
  rw [Oper.semAt_eq _ _ _ hd, hr]
  rcases hn with rfl | ⟨rfl, rfl⟩
  · exact k ρ' v' w' hv hH hE
  · exact k ρ' undef w' hv hH hE
theorem run_callFunc {f : Nat} {fn : Func} {c : Code} {args : Array Value} {w : World} (hN : NamesOK P) (hf : P.funcs[f]? = some fn) (hb : fn.body = some c) : (callFunc f args).run P w = .ok (.enter f args) w := by
  have h1 : ¬ fn.name = "runtime.NumGoroutine" := by simpa using hN f fn c hf hb
  simp [callFunc, program, Sem.run, hf, h1, hb]
theorem VR.func_inv {ρ : Rho} {f : FuncId} {x y : Array Value} {v' : Value} (h : VR ρ (.func (.func f) x y) v') : ∃ x' y', v' = .func (.func f) x' y' ∧ VRs ρ x x' ∧ VRs ρ y y' := by
  cases h with
  | fn a b c d => exact ⟨_, _, rfl, ⟨a, b⟩, ⟨c, d⟩⟩
  | fl e => simp [flat1] at e
theorem VR.yield_inv {ρ : Rho} {l : Nat} {x y : Array Value} {v' : Value} (h : VR ρ (.func (.yield l) x y) v') : ∃ L, v' = .func (.yield L) #[] #[] ∧ ρ l = some (L, 0) := by
  cases h with
  | yield e => exact ⟨_, rfl, e⟩
  | fl e => simp [flat1] at e
theorem toArray_append3 (x : Array Value) (l : List Value) (y : Array Value) : (x.toList ++ l ++ y.toList).toArray = x ++ l.toArray ++ y := by
  apply Array.ext'
  simp
theorem step_of_call {prim : Prim} {rec : Rec} {o : Oper} {a : A} {h h' : Heap} {v : Value} (hN : NamesOK P) (hP : PrimOK P prim) (hbody : ∀ f, prim f ≠ none → ∃ (fn : Func) (c : Code), P.funcs[f]? = some fn ∧ fn.body = some c)
    (hcall : ∀ f args h v h', callF P prim rec f args h = some (v, h') → CallOK P f args h v h') (hyield : ∀ l args h v h', yieldF rec l args h = some (v, h') → YieldOK P l args h v h')
    (e : ocall P prim rec o a h = some (v, h')) : StepOK P o a h v h' := by
  intro R ρ w b K Q H r k
  obtain ⟨dst, op, ty, pos, after, guard⟩ := o
  unfold ocall at e
  simp only at e
  split at e
  next c =>
    obtain ⟨callee, args, ats⟩ := c
    simp only at e
    split at e
    next g =>
      simp only [Option.bind_eq_some_iff] at e
      obtain ⟨u, hu, l, hl, e⟩ := e
      have hvu := r.eval hu
      have hvl := r.evs hl
      split at e
      · next f x y =>
        obtain ⟨x', y', hu', hx, hy⟩ := hvu.func_inv
        have hc := hcall _ _ _ _ _ e ρ w _ H ((hx.toList.append hvl).append hy.toList)
        have hfb : ∃ (fn : Func) (c : Code), P.funcs[f]? = some fn ∧ fn.body = some c := by
          unfold callF at e
          split at e
          · next g' hg => exact hbody f (by rw [hg]; simp)
          · simp only [Option.bind_eq_some_iff] at e
            obtain ⟨fn, h1, c, h2, _⟩ := e
            exact ⟨fn, c, h1, h2⟩
        obtain ⟨fn, c, h1, h2⟩ := hfb
        refine ⟨fun _ _ => trivial, ?_⟩
        rw [Oper.semAt_eq _ _ _ (fun c => by simp)]
        have hrun : (execOp b.eval ⟨dst, .call ⟨.value g, args, ats⟩, ty, pos, after, guard⟩).run P w = .ok (.enter f ((x'.toList ++ args.toList.map b.eval ++ y'.toList).toArray)) w := by
          unfold execOp
          simp only [resolve, hu', Deferred.ofValue, Sem.run_bind, Sem.run_pure, Result.andThen_ok, invoke]
          rw [toArray_append3, map_toArray]
          exact run_callFunc hN h1 h2
        rw [hrun]
        refine ⟨FF_depth R, ?_⟩
        have hc' : CallsIn (FF R) (0 - 1) P f ((x'.toList ++ args.toList.map b.eval ++ y'.toList).toArray) w _ := hc
        refine hc'.mono ?_
        rintro e' w' ⟨ρ', v', rfl, hv, hH, hE⟩
        exact k ρ' v' w' hv hH hE
      · next l' x y =>
        obtain ⟨L, hu', hL⟩ := hvu.yield_inv
        cases hb : (x.isEmpty && y.isEmpty) with
        | false => rw [hb] at e; cases e
        | true =>
          rw [hb] at e
          obtain ⟨fn, tmps, asg, body, hrun, hround⟩ := hyield _ _ _ _ _ e ρ w _ L H hvl hL
          refine ⟨fun _ _ => trivial, ?_⟩
          rw [Oper.semAt_eq _ _ _ (fun c => by simp)]
          have hrun' : (execOp b.eval ⟨dst, .call ⟨.value g, args, ats⟩, ty, pos, after, guard⟩).run P w = .ok (.round L fn tmps asg body) w := by
            unfold execOp
            simp only [resolve, hu', Deferred.ofValue, Sem.run_bind, Sem.run_pure, Result.andThen_ok, invoke]
            rw [← hrun, map_toArray]
            simp
          rw [hrun']
          refine ⟨FF_depth R, ?_⟩
          have hr' : RoundIn (FF R) (0 - 1) P L fn tmps asg body w _ := hround
          refine hr'.mono ?_
          rintro e' w' ⟨ρ', v', rfl, hv, hH, hE⟩
          exact k ρ' v' w' hv hH hE
      · cases e
    all_goals cases e
  all_goals cases e
theorem ops_ok {prim : Prim} {rec : Rec} {ops : Array Oper} (hstep : ∀ o a h v h', ostep P prim rec o a h = some (v, h') → StepOK P o a h v h') : ∀ (l : List Nat) (a : A) (h : Heap) (a' : A) (h' : Heap), runOps P prim rec ops l a h = some (a', h') → OpsOK P ops l a h a' h' := by
  intro l
  induction l with
  | nil =>
    intro a h a' h' e R ρ w b Q H r k
    simp only [runOps, Option.some.injEq, Prod.mk.injEq] at e
    obtain ⟨rfl, rfl⟩ := e
    exact k ρ b w H r (Ext.refl _ _ _)
  | cons i l ih =>
    intro a h a' h' e R ρ w b Q H r k
    rw [wpOpsIn_cons]
    unfold wpOpIn
    simp only [runOps] at e
    cases ho : ops[i]? with
    | none =>
      rw [ho] at e
      exact ih a h a' h' e R ρ w b Q H r k
    | some o =>
      rw [ho] at e
      simp only at e ⊢
      rw [awanted_eq r]
      cases hw : awanted ops a o with
      | true =>
        rw [hw] at e
        simp only [cond_true, Option.bind_eq_some_iff] at e
        obtain ⟨⟨v, h1⟩, hs, a1, hp, e⟩ := e
        simp only [if_true]
        refine hstep o a h v h1 hs R ρ w b _ Q H r ?_
        intro ρ' v' w' hv hH hE
        exact ih a1 h1 a' h' e R ρ' w' _ Q hH ((r.mono hE.le).put hv hp) (fun ρ2 b2 w2 x y z => k ρ2 b2 w2 x y (hE.trans z))
      | false =>
        rw [hw] at e
        simp only [cond_false, Option.bind_eq_some_iff] at e
        obtain ⟨a1, hp, e⟩ := e
        simp only [Bool.false_eq_true, if_false]
        exact ⟨fun _ _ => trivial, ih a1 h a' h' e R ρ w _ Q H (r.put (VR_undef ρ) hp) k⟩
end Go.AM
