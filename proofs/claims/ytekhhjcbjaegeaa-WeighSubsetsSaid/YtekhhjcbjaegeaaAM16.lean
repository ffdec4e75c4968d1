/- Ranges over functions, and code as a whole. -/
import Derived.Test.YtekhhjcbjaegeaaAM15
set_option linter.all false
namespace Go.AM
open Go
variable {P : Program}

theorem alloc_old (w : World) (o : Obj) {k : Nat} (hk : k < w.heap.size) : (w.alloc o).heap[k]? = w.heap[k]? := by
  show (w.heap.push o)[k]? = _
  rw [Array.getElem?_push, if_neg (by omega)]
theorem range_ok {prim : Prim} {rec : Rec} (hN : NamesOK P) (hP : PrimOK P prim) (hbody : ∀ f, prim f ≠ none → ∃ (fn : Func) (c : Code), P.funcs[f]? = some fn ∧ fn.body = some c) (hR : RecOK P rec) {ro : Option Nat} {g : Operand} {ps : Array Tmp} {asg body : Code} {a : A} {h : Heap} {x : AX} {a' : A} {h' : Heap}
    (e : rangeF P prim rec ro g ps asg body a h = some (x, a', h')) : CodeOK P ro (.rangeFunc g ps asg body) a h x a' h' := by
  intro R ρ w b Q H r hro k
  unfold rangeF at e
  simp only [Option.bind_eq_some_iff] at e
  obtain ⟨v, hv, e⟩ := e
  have hvv := r.eval hv
  split at e
  next f xs ys =>
    obtain ⟨xs', ys', hu', hx, hy⟩ := hvv.func_inv
    simp only [Option.bind_eq_some_iff] at e
    obtain ⟨⟨mk, hh, ms⟩, henter, e⟩ := e
    simp only at e
    obtain ⟨⟨rv, h2⟩, hcall, e⟩ := e
    simp only at e
    have hfb : ∃ (fn : Func) (c : Code), P.funcs[f]? = some fn ∧ fn.body = some c := by
      unfold callF at hcall
      split at hcall
      · next g' hg => exact hbody f (by rw [hg]; simp)
      · simp only [Option.bind_eq_some_iff] at hcall
        obtain ⟨fn, h1, c, h2, _⟩ := hcall
        exact ⟨fn, c, h1, h2⟩
    obtain ⟨fn0, c0, hf0, hb0⟩ := hfb
    -- the record
    have hent : ∀ fn : FuncId, ∃ (ρ1 : Rho) (w1 : World) (L : Nat) (mark : List Deferred), (Instr.enterLoop fn b.tmps ps asg body R).run P w = .ok (L, mark) w1 ∧
        HR ρ1 (hh.push (.loop .ready none a.tr a.size ps asg body mk)) w1 ∧ Ext ρ h w ρ1 (hh.push (.loop .ready none a.tr a.size ps asg body mk)) w1 ∧ ρ1 hh.next = some (L, 0) ∧ marksR ρ1 ms (mark ++ b.defers) := by
      intro fn
      cases ro with
      | none =>
        cases R with
        | some L => exact absurd hro (by simp [roR])
        | none =>
          simp only [Option.some.injEq, Prod.mk.injEq] at henter
          obtain ⟨rfl, rfl, rfl⟩ := henter
          obtain ⟨H1, E1⟩ := H.new (w' := w.alloc (.deferred (some []))) (x := .mark) (fun k hk => alloc_old _ _ hk) (by simp) rfl rfl rfl 0 ⟨rfl, World.alloc_heap_new w _⟩ (fun off => by rw [World.alloc_heap_new]; rfl)
          have hm1 := updR_same ρ h.next (w.heap.size, 0) (fun k => if k = w.heap.size then 0 else ρ.n k)
          generalize updR ρ h.next (w.heap.size, 0) (fun k => if k = w.heap.size then 0 else ρ.n k) = ρ1 at H1 E1 hm1
          have r1 := r.mono E1.le
          obtain ⟨H2, E2⟩ := H1.new (w' := (w.alloc (.deferred (some []))).alloc (.loop { state := .ready, pending := none, fn, tmps := b.tmps, params := ps, assign := asg, body, defers := w.heap.size })) (x := .loop .ready none a.tr a.size ps asg body h.next)
            (fun k hk => alloc_old _ _ hk) (by simp) rfl rfl rfl 0 ⟨rfl, _, World.alloc_heap_new _ _, rfl, rfl, r1.size, r1.tmps, rfl, rfl, rfl, hm1⟩ (fun off => by rw [World.alloc_heap_new]; rfl)
          have hm2 := updR_same ρ1 (h.push .mark).next ((w.alloc (.deferred (some []))).heap.size, 0) (fun k => if k = (w.alloc (.deferred (some []))).heap.size then 0 else ρ1.n k)
          refine ⟨_, _, _, _, run_enterLoop_outer fn b.tmps ps asg body, H2, E1.trans E2, ?_, ?_⟩
          · rw [hm2]; simp
          · exact ⟨w.heap.size, b.defers, rfl, E2.le.m _ _ hm1, (r1.marks).mono E2.le⟩
      | some l =>
        cases R with
        | none => exact absurd hro (by simp [roR])
        | some L =>
          simp only at henter
          split at henter
          next st p tr sz ps0 asg0 body0 mk0 hg =>
            simp only [Option.some.injEq, Prod.mk.injEq] at henter
            obtain ⟨rfl, rfl, rfl⟩ := henter
            obtain ⟨q, hq, q1, q2, q3, q4, q5, q6, q7, q8, _⟩ := loop_at H hg hro
            obtain ⟨H1, E1⟩ := H.new (w' := w.alloc (.loop { state := .ready, pending := none, fn, tmps := b.tmps, params := ps, assign := asg, body, defers := q.defers })) (x := .loop .ready none a.tr a.size ps asg body mk0)
              (fun k hk => alloc_old _ _ hk) (by simp) rfl rfl rfl 0 ⟨rfl, _, World.alloc_heap_new _ _, rfl, rfl, r.size, r.tmps, rfl, rfl, rfl, q8⟩ (fun off => by rw [World.alloc_heap_new]; rfl)
            refine ⟨_, _, _, _, run_enterLoop_inner hq fn b.tmps ps asg body, H1, E1, updR_same _ _ _ _, ?_⟩
            exact r.marks.mono E1.le
          all_goals cases henter
    refine wpIn_rangeFunc (fun fn _ => ?_)
    obtain ⟨ρ1, w1, L, mark, hrun, H1, E1, hL, hmk⟩ := hent fn
    have hargs : VRl ρ1 (xs.toList ++ [Value.func (.yield hh.next) #[] #[]] ++ ys.toList) (xs'.toList ++ [Value.func (.yield L) #[] #[]] ++ ys'.toList) :=
      ((hx.toList.mono E1.le).append (.cons (.yield hL) (.nil _))).append (hy.toList.mono E1.le)
    have hc := call_ok hP hR _ _ _ _ _ hcall ρ1 w1 _ H1 hargs
    refine ⟨L, mark, w1, { target := .fn (.func f) ys', args := xs' ++ #[.func (.yield L) #[] #[]] }, w1, f, (xs'.toList ++ [Value.func (.yield L) #[] #[]] ++ ys'.toList).toArray, w1, hrun, ?_, fun _ _ => trivial, ?_, FF_depth R, ?_⟩
    · simp only [resolve, rangeCall, hu', Deferred.ofValue, Sem.run_bind, Sem.run_pure, Result.andThen_ok]
      simp [Act.eval]
    · simp only [invoke]
      rw [show xs' ++ #[Value.func (.yield L) #[] #[]] ++ ys' = (xs'.toList ++ [Value.func (.yield L) #[] #[]] ++ ys'.toList).toArray from by rw [toArray_append3]]
      exact run_callFunc hN hf0 hb0
    · have hc' : CallsIn (FF R) (0 - 1) P f ((xs'.toList ++ [Value.func (.yield L) #[] #[]] ++ ys'.toList).toArray) w1 _ := hc
      refine hc'.mono ?_
      rintro e' w2 ⟨ρ2, v2, rfl, hv2, H2, E2⟩
      split at e
      next st p tr2 sz2 ps2 asg2 body2 mk2 hg2 =>
        simp only [Option.bind_eq_some_iff] at e
        obtain ⟨_, hst, e⟩ := e
        have hL2 := E2.le.m _ _ hL
        obtain ⟨q, hq, q1, q2, q3, q4, q5, q6, q7, q8, hup⟩ := loop_at H2 hg2 hL2
        have hnb : q.state ≠ .busy := by
          rw [q1]
          intro h; subst h
          simp at hst
        have hend := run_endLoop (P := P) hq hnb
        have hm2 := (hmk.mono E2.le)
        have r2 : AR ρ2 { a with marks := ms } { b with defers := mark ++ b.defers } := ⟨r.size, r.tmps.mono (E1.le.trans E2.le), hm2⟩
        obtain ⟨H3, E3⟩ := hup .exhausted q.pending
        rw [q2] at H3 E3
        refine ⟨_, _, hend, ?_⟩
        rw [q2]
        cases p with
        | none =>
          simp only [Option.some.injEq, Prod.mk.injEq] at e
          obtain ⟨rfl, rfl, rfl⟩ := e
          exact k ρ2 _ _ H3 r2 (E1.trans (E2.trans E3))
        | some c =>
          simp only at e ⊢
          refine hR _ _ _ _ _ _ _ e R ρ2 _ _ _ H3 r2 (hro.mono (E1.le.trans E2.le)) ?_
          intro ρ3 b3 w3 x y z
          exact k ρ3 b3 w3 x y (E1.trans (E2.trans (E3.trans z)))
      all_goals cases e
  all_goals cases e

/-- Regions whose order is drawn. -/
def DrawnOK (P : Program) (drawn : Draw) : Prop := ∀ rec, RecOK P rec → ∀ ops a h a' h', drawn ops rec a h = some (a', h') → ∀ ro id, CodeOK P ro (.region id ops true) a h .normal a' h'
def LoopOK (P : Program) (rec : Rec) (n : Nat) : Prop := ∀ ro x a h e a' h', rec ro (.loop x) a h = some (e, a', h') → ∀ (R : Option Nat) (ρ : Rho) (w : World) (b : Act) (Q : Exit → Act → World → Prop), HR ρ h w → AR ρ a b → roR ρ ro R →
    (∀ ρ' b' w', HR ρ' h' w' → AR ρ' a' b' → Ext ρ h w ρ' h' w' → Q (cx e) b' w') → Code.roundsIn (FF R) 0 P x Q n b w

theorem step_ok {prim : Prim} {rec : Rec} (hN : NamesOK P) (hP : PrimOK P prim) (hbody : ∀ f, prim f ≠ none → ∃ (fn : Func) (c : Code), P.funcs[f]? = some fn ∧ fn.body = some c) (hR : RecOK P rec) {o : Oper} {a : A} {h : Heap} {v : Value} {h' : Heap}
    (e : ostep P prim rec o a h = some (v, h')) : StepOK P o a h v h' := by
  unfold ostep at e
  split at e
  · next r hr => injection e with e; subst e; exact step_of_op hr
  · exact step_of_call hN hP hbody (call_ok hP hR) (yield_ok hR) e

theorem execF_ok {prim : Prim} {rec : Rec} {drawn : Draw} {n : Nat} (hN : NamesOK P) (hP : PrimOK P prim) (hbody : ∀ f, prim f ≠ none → ∃ (fn : Func) (c : Code), P.funcs[f]? = some fn ∧ fn.body = some c) (hD : DrawnOK P drawn) (hR : RecOK P rec) (hL : LoopOK P rec n) :
    RecOK P (execF P prim rec drawn) ∧ LoopOK P (execF P prim rec drawn) (n + 1) := by
  have hloop : LoopOK P (execF P prim rec drawn) (n + 1) := by
    intro ro x a h e a' h' he R ρ w b Q H r hro k
    simp only [execF, Option.bind_eq_some_iff] at he
    obtain ⟨⟨x1, a1, h1⟩, hx, he⟩ := he
    rw [roundsIn_succ]
    refine hR _ _ _ _ _ _ _ hx R ρ w b _ H r hro ?_
    intro ρ1 b1 w1 H1 r1 E1
    cases x1 with
    | normal =>
      exact hL _ _ _ _ _ _ _ he R ρ1 w1 b1 Q H1 r1 (hro.mono E1.le) (fun ρ' b' w' x y z => k ρ' b' w' x y (E1.trans z))
    | exit i => simp only [Option.some.injEq, Prod.mk.injEq] at he; obtain ⟨rfl, rfl, rfl⟩ := he; exact k _ _ _ H1 r1 E1
    | goto l => simp only [Option.some.injEq, Prod.mk.injEq] at he; obtain ⟨rfl, rfl, rfl⟩ := he; exact k _ _ _ H1 r1 E1
    | ret => simp only [Option.some.injEq, Prod.mk.injEq] at he; obtain ⟨rfl, rfl, rfl⟩ := he; exact k _ _ _ H1 r1 E1
  refine ⟨?_, hloop⟩
  intro ro c a h e a' h' he
  cases c with
  | loop x => intro R ρ w b Q H r hro k; exact wpIn_loop_rounds (n + 1) (hloop ro x a h e a' h' he R ρ w b Q H r hro k)
  | skip => simp only [execF, Option.some.injEq, Prod.mk.injEq] at he; obtain ⟨rfl, rfl, rfl⟩ := he; intro R ρ w b Q H r hro k; exact wpIn_skip (k _ _ _ H r (Ext.refl _ _ _))
  | label l => simp only [execF, Option.some.injEq, Prod.mk.injEq] at he; obtain ⟨rfl, rfl, rfl⟩ := he; intro R ρ w b Q H r hro k; exact wpIn_label (k _ _ _ H r (Ext.refl _ _ _))
  | ret => simp only [execF, Option.some.injEq, Prod.mk.injEq] at he; obtain ⟨rfl, rfl, rfl⟩ := he; intro R ρ w b Q H r hro k; exact wpIn_ret (k _ _ _ H r (Ext.refl _ _ _))
  | exit i => simp only [execF, Option.some.injEq, Prod.mk.injEq] at he; obtain ⟨rfl, rfl, rfl⟩ := he; intro R ρ w b Q H r hro k; exact wpIn_exit (k _ _ _ H r (Ext.refl _ _ _))
  | goto l => simp only [execF, Option.some.injEq, Prod.mk.injEq] at he; obtain ⟨rfl, rfl, rfl⟩ := he; intro R ρ w b Q H r hro k; exact wpIn_goto (k _ _ _ H r (Ext.refl _ _ _))
  | seq x y =>
    simp only [execF, Option.bind_eq_some_iff] at he
    obtain ⟨⟨x1, a1, h1⟩, hx, he⟩ := he
    intro R ρ w b Q H r hro k
    refine wpIn_seq (hR _ _ _ _ _ _ _ hx R ρ w b _ H r hro ?_)
    intro ρ1 b1 w1 H1 r1 E1
    cases x1 with
    | normal => exact hR _ _ _ _ _ _ _ he R ρ1 w1 b1 Q H1 r1 (hro.mono E1.le) (fun ρ' b' w' x y z => k ρ' b' w' x y (E1.trans z))
    | exit i => simp only [Option.some.injEq, Prod.mk.injEq] at he; obtain ⟨rfl, rfl, rfl⟩ := he; exact k _ _ _ H1 r1 E1
    | goto l => simp only [Option.some.injEq, Prod.mk.injEq] at he; obtain ⟨rfl, rfl, rfl⟩ := he; exact k _ _ _ H1 r1 E1
    | ret => simp only [Option.some.injEq, Prod.mk.injEq] at he; obtain ⟨rfl, rfl, rfl⟩ := he; exact k _ _ _ H1 r1 E1
  | cond c x y =>
    simp only [execF, Option.bind_eq_some_iff] at he
    obtain ⟨v, hv, he⟩ := he
    intro R ρ w b Q H r hro k
    have hvv := r.eval hv
    split at he
    next t =>
      have hb := (hvv.eq_of_flat1 rfl)
      refine wpIn_cond (t := t) hb ?_
      cases t with
      | true => exact hR _ _ _ _ _ _ _ he R ρ w b Q H r hro k
      | false => exact hR _ _ _ _ _ _ _ he R ρ w b Q H r hro k
    all_goals cases he
  | block i x =>
    simp only [execF, Option.map_eq_some_iff] at he
    obtain ⟨⟨x1, a1, h1⟩, hx, he⟩ := he
    intro R ρ w b Q H r hro k
    refine wpIn_block (hR _ _ _ _ _ _ _ hx R ρ w b _ H r hro ?_)
    intro ρ1 b1 w1 H1 r1 E1
    cases x1 with
    | exit j =>
      simp only [Prod.mk.injEq] at he
      obtain ⟨rfl, rfl, rfl⟩ := he
      show if j = i then Q .normal b1 w1 else Q (.exit j) b1 w1
      cases hj : Nat.beq j i with
      | true =>
        rw [hj] at k
        rw [if_pos (Nat.eq_of_beq_eq_true hj)]
        exact k _ _ _ H1 r1 E1
      | false =>
        rw [hj] at k
        rw [if_neg (Nat.ne_of_beq_eq_false hj)]
        exact k _ _ _ H1 r1 E1
    | normal => simp only [Prod.mk.injEq] at he; obtain ⟨rfl, rfl, rfl⟩ := he; exact k _ _ _ H1 r1 E1
    | goto l => simp only [Prod.mk.injEq] at he; obtain ⟨rfl, rfl, rfl⟩ := he; exact k _ _ _ H1 r1 E1
    | ret => simp only [Prod.mk.injEq] at he; obtain ⟨rfl, rfl, rfl⟩ := he; exact k _ _ _ H1 r1 E1
  | region id ops d =>
    simp only [execF, Option.map_eq_some_iff] at he
    obtain ⟨⟨a1, h1⟩, hx, he⟩ := he
    simp only [Prod.mk.injEq] at he
    obtain ⟨rfl, rfl, rfl⟩ := he
    cases d with
    | true => exact hD rec hR _ _ _ _ _ hx ro id
    | false =>
      intro R ρ w b Q H r hro k
      exact wpIn_region (ops_ok (fun o a h v h' e => step_ok hN hP hbody hR e) _ _ _ _ _ hx R ρ w b Q H r k)
  | rangeFunc g ps asg body => exact range_ok hN hP hbody hR he
  | _ => simp [execF] at he

theorem exec_ok {prim : Prim} {drawn : Draw} (hN : NamesOK P) (hP : PrimOK P prim) (hbody : ∀ f, prim f ≠ none → ∃ (fn : Func) (c : Code), P.funcs[f]? = some fn ∧ fn.body = some c) (hD : DrawnOK P drawn) : ∀ n, RecOK P (exec P prim drawn n) ∧ LoopOK P (exec P prim drawn n) n := by
  intro n
  induction n with
  | zero => exact ⟨fun _ _ _ _ _ _ _ e => by simp [exec] at e, fun _ _ _ _ _ _ _ e => by simp [exec] at e⟩
  | succ n ih => rw [exec_succ]; exact execF_ok hN hP hbody hD ih.1 ih.2
end Go.AM
