/- The abstract machine: AM21, AM22, AM23, AM24, AM25, AM26, AM27, AM28, joined. -/
import Derived.Test.YtekhhjcbjaegeaaAM20
import Derived.KernelRfl
import Derived.RowKit3
/- Regions whose order is drawn, and calls as a whole. -/
set_option linter.all false
namespace Go.AM
open Go
variable {P : Program} {prim : Prim} {rec : Rec} {ops : Array Oper}

theorem drawn_any {T : List Stp} {s0 sN : DS} {ρ0 : Rho} {w0 : World} (hstep : ∀ o a h v h', ostep P prim rec o a h = some (v, h') → StepOK P o a h v h') (hrel : Rel ops) (hlast : s0.last = none) (hreads : s0.reads = [])
    (hT : Tra P prim rec ops s0 T sN) (hσ : OrdOK ops (T.map (·.j))) (H0 : HR ρ0 s0.h w0) (R : Option Nat) (Q : Exit → Act → World → Prop)
    (k : ∀ ρ' b' w', HR ρ' sN.h w' → AR ρ' sN.a b' → Ext ρ0 s0.h w0 ρ' sN.h w' → Q .normal b' w') :
    ∀ (fuel : Nat) (listed : Array Bool) (ρ : Rho) (w : World) (b : Act), listed.size = ops.size → T.countP (fun t => !lst listed t.j) ≤ fuel →
      Inv P ops T sN.h s0.a ρ0 s0.h w0 (lst listed) ρ w b → wpAnyIn (FF R) 0 P .any ops Q fuel listed b w := by
  have done : ∀ (listed : Array Bool) (ρ : Rho) (w : World) (b : Act), (∀ t ∈ T, lst listed t.j = true) → Inv P ops T sN.h s0.a ρ0 s0.h w0 (lst listed) ρ w b → Q .normal b w := by
    intro listed ρ w b hall I
    have hH : hAt (lst listed) sN.h T = sN.h := by
      have := hAt_skip (S := lst listed) (hend := sN.h) (T1 := T) (T2 := []) (fun t ht _ => hall t ht)
      rw [List.append_nil] at this
      rw [this]; rfl
    have h1 := I.hr
    have h2 := I.ext
    rw [hH] at h1 h2
    refine k ρ b w h1 (I.ar.of_get hT.tmps.1 hT.tmps.2.1 (fun x => ?_)) h2
    rw [hT.tmps.2.2, curT_get]
    exact curG_congr (fun t ht _ => (hall t ht).symm)
  -- an operation that is not listed: one of them is due
  have due : ∀ (listed : Array Bool), listed.size = ops.size → Region.ready .any ops listed = [] → ∀ t ∈ T, lst listed t.j = true := by
    intro listed hsz hr
    have key : ∀ (T2 T1 : List Stp), T = T1 ++ T2 → (∀ t ∈ T1, lst listed t.j = true) → ∀ t ∈ T2, lst listed t.j = true := by
      intro T2
      induction T2 with
      | nil => intro _ _ _ t ht; cases ht
      | cons t T2 ih =>
        intro T1 e' hprev
        have ht : lst listed t.j = true := by
          cases hl : lst listed t.j with
          | true => rfl
          | false =>
            exfalso
            obtain ⟨o, ho, hp⟩ := hσ.pred (T1.map (·.j)) t.j (T2.map (·.j)) (by rw [e']; simp)
            have hlt : t.j < listed.size := by rw [hsz]; exact (Array.getElem?_eq_some_iff.1 ho).1
            have : t.j ∈ Region.ready .any ops listed := by
              rw [mem_ready]
              refine ⟨?_, o, ho, fun e he hb => ?_⟩
              · unfold lst at hl
                simp only [Array.getD_eq_getD_getElem?, Array.getElem?_eq_getElem hlt, Option.getD_some] at hl ⊢
                exact hl
              · obtain ⟨t', ht', ej⟩ := List.mem_map.1 (hp e he hb)
                rw [← ej]; exact hprev t' ht'
            rw [hr] at this; cases this
        intro u hu
        rcases List.mem_cons.1 hu with rfl | hu
        · exact ht
        · refine ih (T1 ++ [t]) (by rw [e']; simp) (fun v hv => ?_) u hu
          rcases List.mem_append.1 hv with h | h
          · exact hprev v h
          · simp only [List.mem_singleton] at h; rw [h]; exact ht
    exact fun t ht => key T [] (by simp) (fun _ h => by cases h) t ht
  intro fuel
  induction fuel with
  | zero =>
    intro listed ρ w b hsz hc I
    have hall : ∀ t ∈ T, lst listed t.j = true := by
      have := List.countP_eq_zero.1 (Nat.le_zero.1 hc)
      intro t ht
      simpa using this t ht
    refine ⟨?_, done listed ρ w b hall I⟩
    apply List.eq_nil_iff_forall_not_mem.2
    intro j hj
    obtain ⟨h1, o, ho, _⟩ := mem_ready.1 hj
    have hlt : j < ops.size := (Array.getElem?_eq_some_iff.1 ho).1
    obtain ⟨t, ht, rfl⟩ := List.mem_map.1 (hσ.all j hlt)
    have := hall t ht
    unfold lst at this
    simp only [Array.getD_eq_getD_getElem?, Array.getElem?_eq_getElem (hsz ▸ hlt), Option.getD_some] at this h1
    rw [this] at h1; cases h1
  | succ fuel ih =>
    intro listed ρ w b hsz hc I
    refine ⟨fun hr => done listed ρ w b (due listed hsz hr) I, fun j hj => ?_⟩
    obtain ⟨h1, o, ho, hp⟩ := mem_ready.1 hj
    have hlt : j < ops.size := (Array.getElem?_eq_some_iff.1 ho).1
    have hS : lst listed j = false := by
      unfold lst
      simp only [Array.getD_eq_getD_getElem?, Array.getElem?_eq_getElem (hsz ▸ hlt), Option.getD_some] at h1 ⊢
      exact h1
    obtain ⟨t, ht, rfl⟩ := List.mem_map.1 (hσ.all j hlt)
    obtain ⟨T1, T2, e⟩ := List.append_of_mem ht
    have hto := hT.op t ht
    rw [ho] at hto; injection hto with hto; subst hto
    have hset : ∀ i, lst (listed.setIfInBounds t.j true) i = if i = t.j then true else lst listed i := fun i => lst_set (hsz ▸ hlt)
    refine inv_step hstep hrel hlast hreads hT hσ H0 e I hS hp hset R Q _ ?_
    intro ρ' w' b' I'
    refine ih _ ρ' w' b' (by simp [hsz]) ?_ I'
    have hle : ∀ U : List Stp, U.countP (fun t' => !lst (listed.setIfInBounds t.j true) t'.j) ≤ U.countP (fun t' => !lst listed t'.j) := by
      intro U
      refine List.countP_mono_left (fun x _ hx => ?_)
      rw [hset] at hx
      split at hx
      · cases hx
      · exact hx
    have h1 := hle T1
    have h2 := hle T2
    rw [e, List.countP_append, List.countP_cons] at hc ⊢
    have e1 : (!lst (listed.setIfInBounds t.j true) t.j) = false := by rw [hset, if_pos rfl]; rfl
    have e2 : (!lst listed t.j) = true := by rw [hS]; rfl
    rw [e1]; rw [e2] at hc
    simp only [if_true, Bool.false_eq_true, if_false] at hc ⊢
    omega

theorem drawnF_ok {prim : Prim} (hm : P.follows .mixedOrders = true) (hN : NamesOK P) (hP : PrimOK P prim) (hbody : ∀ f, prim f ≠ none → ∃ (fn : Func) (c : Code), P.funcs[f]? = some fn ∧ fn.body = some c) : DrawnOK P (drawnF P prim) := by
  intro rec hR ops a h a' h' e ro id R ρ w b Q H r hro k
  unfold drawnF at e
  cases hpl : planOK ops with
  | false => rw [hpl] at e; cases e
  | true =>
    rw [hpl] at e
    simp only [cond_true, Option.map_eq_some_iff, Prod.mk.injEq] at e
    obtain ⟨sN, hloop, rfl, rfl⟩ := e
    obtain ⟨T, hTσ, hT⟩ := dloop_ok hloop
    rw [planOK, Bool.and_eq_true] at hpl
    have hσ : OrdOK ops (T.map (·.j)) := by rw [hTσ]; exact ordGo_ok hpl.1
    have hrel := pairs_ok hpl.2
    obtain ⟨H1, E1⟩ := H.same (w' := { w with drawn := w.drawn + 1 }) rfl rfl rfl rfl
    have hS0 : ∀ i, lst (Array.replicate ops.size false) i = false := by
      intro i
      unfold lst
      simp only [Array.getD_eq_getD_getElem?, Array.getElem?_replicate]
      split <;> rfl
    refine wpIn_region_any hm ?_
    refine drawn_any (s0 := ⟨a, h, none, []⟩) (ρ0 := ρ) (w0 := { w with drawn := w.drawn + 1 }) (fun o a h v h' e => step_ok hN hP hbody hR e) hrel rfl rfl hT hσ H1 R Q ?_ ops.size _ ρ _ b (by simp) ?_ ?_
    · intro ρ' b' w' x y z
      exact k ρ' b' w' x y (E1.trans z)
    · have hlen : T.length = (T.map (·.j)).length := by simp
      refine Nat.le_trans List.countP_le_length ?_
      rw [hlen]
      have hsub : ∀ i ∈ T.map (·.j), i < ops.size := by
        intro i hi
        obtain ⟨t, ht, rfl⟩ := List.mem_map.1 hi
        exact (Array.getElem?_eq_some_iff.1 (hT.op t ht)).1
      have := (hσ.nodup).length_le_of_subset (l₂ := List.range ops.size) (fun i hi => List.mem_range.2 (hsub i hi))
      simpa using this
    · have hseg := hT.seg (S := lst (Array.replicate ops.size false)) (fun t _ _ => hS0 _)
      refine ⟨fun j o hj => (by rw [hS0] at hj; cases hj), H1.grown hseg, r.of_get rfl rfl (fun x => ?_), (Ext.refl _ _ _).grown H1 hseg, ?_⟩
      · rw [curT_get]
        exact curG_none (fun t _ _ => hS0 _)
      · intro u hu hku _
        refine ⟨H1.fresh _ (hT.mem_next u hu).1, fun hn => ?_⟩
        exact hT.fresh_block (fun t _ _ => hS0 _) hu hku hn

/-! ### Calls as a whole -/
/-- What is asked of a program and of the functions that are taken as they are. -/
structure Fit (P : Program) (pm : Prim) : Prop where
  mixed : P.follows .mixedOrders = true
  names : NamesOK P
  pr : PrimOK P pm
  body : ∀ f, pm f ≠ none → ∃ (fn : Func) (c : Code), P.funcs[f]? = some fn ∧ fn.body = some c
def run (P : Program) (prim : Prim) (n : Nat) : Rec := exec P prim (drawnF P prim) n
def call (P : Program) (prim : Prim) (n : Nat) (f : Nat) (args : List Value) (h : Heap) : Option (Value × Heap) := callF P prim (run P prim n) f args h
theorem call_sound {prim : Prim} (hF : Fit P prim) {n f : Nat} {args : List Value} {h h' : Heap} {v : Value} (e : call P prim n f args h = some (v, h')) : CallOK P f args h v h' :=
  call_ok hF.pr (exec_ok hF.names hF.pr hF.body (drawnF_ok hF.mixed hF.names hF.pr hF.body) n).1 f args h v h' e
def noPrim : Prim := fun _ => none
theorem noPrim_fit (hm : P.follows .mixedOrders = true) (hN : NamesOK P) : Fit P noPrim := ⟨hm, hN, fun f g h => (by simp [noPrim] at h), fun f h => absurd rfl h⟩
def Heap.empty : Heap := ⟨0, .nil⟩
def Rho.empty : Rho := ⟨fun _ => none, fun _ => 0⟩
theorem HR.empty (w : World) : HR Rho.empty Heap.empty w :=
  ⟨fun b B base x hx e => (by cases e), fun b b' B base base' h1 h2 e1 e2 => (by cases e1), fun b hb => rfl, fun b B base e => (by cases e)⟩

/-- What lies in the first blocks of a world lies there in the other. -/
def Kept (w w' : World) : Prop := w.heap.size ≤ w'.heap.size ∧ (∀ B, B < w.heap.size → w'.heap[B]? = w.heap[B]?) ∧ w'.os = w.os ∧ w'.tape = w.tape ∧ w'.output = w.output ∧ ∀ a : Addr, a.block < w.heap.size → w'.frozen? a = w.frozen? a
theorem Ext.kept {w w' : World} {ρ' : Rho} {h' : Heap} (E : Ext Rho.empty Heap.empty w ρ' h' w') : Kept w w' := ⟨E.size, fun B hB => E.frame B hB (fun b base _ e => (by cases e)), E.os, E.tape, E.output, E.fro⟩

/-- A call on plain values, out of nothing: what it hands back, and what lay ahead lies there still. -/
theorem call_flat {prim : Prim} (hF : Fit P prim) {n f : Nat} {args : List Value} {v : Value} {h' : Heap} (e : call P prim n f args Heap.empty = some (v, h')) (ha : args.all flat1 = true) (hv : flat v = true) (w : World) :
    CallsIn Fence.wide 0 P f args.toArray w fun e w' => e = .returned v ∧ Kept w w' := by
  have h := call_sound hF e Rho.empty w args (HR.empty w) (VRl_refl_flat ha)
  have h' : CallsIn Fence.wide 0 P f args.toArray w _ := h
  refine h'.mono ?_
  rintro e' w' ⟨ρ', v', rfl, hvv, _, hE⟩
  exact ⟨by rw [hvv.eq_of_flat hv], hE.kept⟩
/-- Such a call may be taken as it is. -/
theorem prim_flat {f : Nat} {args : List Value} {v : Value} (hv : flat v = true) (ha : args.all flat1 = true) (hc : ∀ w, CallsIn Fence.wide 0 P f args.toArray w fun e w' => e = .returned v ∧ Kept w w') (h : Heap) : CallOK P f args h v h := by
  intro ρ w args' H hargs
  rw [hargs.eq_of_flat ha]
  have h' : CallsIn (FF none) 0 P f args.toArray w _ := hc w
  refine h'.mono ?_
  rintro e' w' ⟨rfl, k1, k2, k3, k4, k5, k6⟩
  refine ⟨ρ, v, rfl, VR_refl_flat hv, ⟨?_, H.inj, H.fresh, fun b B base e => Nat.lt_of_lt_of_le (H.lt b B base e) k1⟩, ?_⟩
  · intro b B base x hx e
    rw [k2 B (H.lt b B base e)]
    exact H.blk b B base x hx e
  · exact ⟨Le.refl _, fun _ _ _ e => e, fun B hB _ => k2 B hB, k1, k3, k4, k5, fun b B base e e' => (by rw [e] at e'; cases e'), Nat.le_refl _, fun b B base e e' => (by rw [e] at e'; cases e'), fun _ _ _ => rfl, k6⟩
end Go.AM
/- The abstract machine's run, laid out for the kernel: code becomes closures, once. -/
set_option linter.all false
namespace Go.AM
noncomputable section
open Go

/-! ### Temporaries -/
structure GetC where
  run : Tr Value → Option Value
def getC : Nat → Nat → GetC
  | 0, _ => ⟨fun _ => none⟩
  | _ + 1, 0 => ⟨fun t => Tr.rec (motive := fun _ => Option Value) none (fun v _ _ _ _ => v) t⟩
  | n + 1, k + 1 => match getC n (k / 2) with
    | ⟨f⟩ => bif k % 2 == 0 then ⟨fun t => Tr.rec (motive := fun _ => Option Value) none (fun _ l _ _ _ => f l) t⟩ else ⟨fun t => Tr.rec (motive := fun _ => Option Value) none (fun _ _ r _ _ => f r) t⟩
theorem getC_eq : ∀ (n k : Nat) (t : Tr Value), k < n → (getC n k).run t = t.get k := by
  intro n
  induction n with
  | zero => intro k t h; omega
  | succ n ih =>
    intro k t h
    cases k with
    | zero => cases t <;> rfl
    | succ k =>
      have := fun t => ih (k / 2) t (by omega)
      simp only [getC]
      generalize getC n (k / 2) = g at this
      obtain ⟨f⟩ := g
      cases hk : (k % 2 == 0) <;> cases t <;> simp only [Tr.get, hk, cond_true, cond_false] <;> exact this _
structure SetC where
  run : Tr Value → Option Value → Tr Value
def setC : Nat → Nat → SetC
  | 0, _ => ⟨fun t _ => t⟩
  | _ + 1, 0 => ⟨fun t x => Tr.rec (motive := fun _ => Tr Value) (.node x .nil .nil) (fun _ l r _ _ => .node x l r) t⟩
  | n + 1, k + 1 => match setC n (k / 2) with
    | ⟨f⟩ => bif k % 2 == 0 then ⟨fun t x => Tr.rec (motive := fun _ => Tr Value) (.node none (f .nil x) .nil) (fun v l r _ _ => .node v (f l x) r) t⟩
      else ⟨fun t x => Tr.rec (motive := fun _ => Tr Value) (.node none .nil (f .nil x)) (fun v l r _ _ => .node v l (f r x)) t⟩
theorem setC_eq : ∀ (n k : Nat) (t : Tr Value) (x : Option Value), (setC n k).run t x = Tr.setF n t k x := by
  intro n
  induction n with
  | zero => intro k t x; rfl
  | succ n ih =>
    intro k t x
    cases k with
    | zero => cases t <;> rfl
    | succ k =>
      have := fun t x => ih (k / 2) t x
      simp only [setC]
      generalize setC n (k / 2) = g at this
      obtain ⟨f⟩ := g
      cases hk : (k % 2 == 0) <;> cases t <;> simp only [Tr.setF, hk, cond_true, cond_false] <;> rw [← this]
structure EvC where
  run : A → Option Value
def evC : Operand → EvC
  | .tmp t => match getC (t + 1) t with | ⟨f⟩ => ⟨fun a => A.rec (motive := fun _ => Option Value) (fun tr _ _ => Option.rec (motive := fun _ => Option Value) (some undef) (fun v => some v) (f tr)) a⟩
  | .const v => bif flat v then ⟨fun _ => some v⟩ else ⟨fun _ => none⟩
  | .global _ => ⟨fun _ => none⟩
  | .func f => ⟨fun _ => some (.func (.func f) #[] #[])⟩
theorem evC_eq (x : Operand) (a : A) : (evC x).run a = a.eval x := by
  obtain ⟨tr, sz, ms⟩ := a
  cases x with
  | tmp t =>
    have := getC_eq (t + 1) t tr (by omega)
    simp only [evC, A.eval]
    generalize getC (t + 1) t = g at this
    obtain ⟨f⟩ := g
    simp only at this ⊢
    rw [this]
    cases tr.get t <;> rfl
  | const v => simp only [evC, A.eval]; cases flat v <;> rfl
  | global g => rfl
  | func f => rfl
structure PutC where
  run : A → Value → Option A
def putC : Option Tmp → PutC
  | none => ⟨fun a _ => some a⟩
  | some d => match setC (d + 1) d with | ⟨f⟩ => ⟨fun a v => A.rec (motive := fun _ => Option A) (fun tr size marks => Bool.rec (motive := fun _ => Option A) none (some ⟨f tr (some v), size, marks⟩) (Nat.blt d size)) a⟩
theorem putC_eq (d : Option Tmp) (a : A) (v : Value) : (putC d).run a v = a.put d v := by
  obtain ⟨tr, sz, ms⟩ := a
  cases d with
  | none => rfl
  | some d =>
    have := setC_eq (d + 1) d tr (some v)
    simp only [putC, A.put_eq]
    generalize setC (d + 1) d = g at this
    obtain ⟨f⟩ := g
    simp only at this ⊢
    rw [this]
    cases Nat.blt d sz <;> rfl
structure EvsC where
  run : A → Option (List Value)
def evsC : List Operand → EvsC
  | [] => ⟨fun _ => some []⟩
  | x :: l => match evC x, evsC l with | ⟨f⟩, ⟨g⟩ => ⟨fun a => match f a with | none => none | some v => match g a with | none => none | some r => some (v :: r)⟩
theorem evsC_eq (a : A) : ∀ l, (evsC l).run a = aevs a l
  | [] => rfl
  | x :: l => by
    have h1 := evC_eq x a
    have h2 := evsC_eq a l
    simp only [evsC, aevs]
    generalize evC x = e at h1
    generalize evsC l = e2 at h2
    obtain ⟨f⟩ := e
    obtain ⟨g⟩ := e2
    simp only at h1 h2 ⊢
    rw [h1, h2]
    cases a.eval x <;> cases aevs a l <;> rfl

/-! ### Whole numbers -/
def wrapF (k : IntKind) (n : Int) : Int :=
  match k with
  | .i64 => match n with
    | .ofNat m => bif Nat.blt m 9223372036854775808 then .ofNat m else k.wrap n
    | .negSucc m => bif Nat.blt m 9223372036854775808 then .negSucc m else k.wrap n
  | _ => k.wrap n
theorem wrapF_eq (k : IntKind) (n : Int) : wrapF k n = k.wrap n := by
  unfold wrapF
  cases k <;> try rfl
  have hs : ∀ n : Int, -9223372036854775808 ≤ n → n < 9223372036854775808 → IntKind.wrap .i64 n = n := by
    intro n h1 h2
    have hb : IntKind.bits .i64 = 64 := rfl
    have hg : IntKind.signed .i64 = true := rfl
    unfold IntKind.wrap
    simp only [hb, hg, Bool.true_and]
    have e1 : (2 ^ 64 : Int) = 18446744073709551616 := by decide
    have e2 : (2 ^ (64 - 1) : Int) = 9223372036854775808 := by decide
    rw [e1, e2]
    split
    · next h => simp only [decide_eq_true_eq] at h; omega
    · next h => simp only [decide_eq_true_eq] at h; omega
  cases n with
  | ofNat m =>
    simp only
    generalize hb : Nat.blt m 9223372036854775808 = b
    cases b with
    | false => rw [cond_false]
    | true =>
      rw [Nat.blt_eq] at hb
      rw [cond_true]
      exact (hs (Int.ofNat m) (by simp only [Int.ofNat_eq_natCast]; omega) (by simp only [Int.ofNat_eq_natCast]; omega)).symm
  | negSucc m =>
    simp only
    generalize hb : Nat.blt m 9223372036854775808 = b
    cases b with
    | false => rw [cond_false]
    | true =>
      rw [Nat.blt_eq] at hb
      rw [cond_true]
      exact (hs (Int.negSucc m) (by rw [Int.negSucc_eq]; omega) (by rw [Int.negSucc_eq]; omega)).symm
def intLt : Int → Int → Bool
  | .ofNat a, .ofNat b => Nat.blt a b
  | .negSucc _, .ofNat _ => true
  | .ofNat _, .negSucc _ => false
  | .negSucc a, .negSucc b => Nat.blt b a
theorem intLt_eq (x y : Int) : intLt x y = decide (x < y) := by
  have key : ∀ a b : Nat, Nat.blt a b = decide (a < b) := by
    intro a b
    cases h : Nat.blt a b with
    | true => rw [Nat.blt_eq] at h; simp [h]
    | false =>
      have : ¬ a < b := fun h2 => by rw [← Nat.blt_eq, h] at h2; cases h2
      simp [this]
  cases x <;> cases y <;> simp only [intLt, key, Int.ofNat_eq_natCast, Int.negSucc_eq]
  · apply decide_eq_decide.2; omega
  · exact (decide_eq_false (by omega)).symm
  · exact (decide_eq_true (by omega)).symm
  · apply decide_eq_decide.2; omega
def intEq : Int → Int → Bool
  | .ofNat a, .ofNat b => Nat.beq a b
  | .negSucc a, .negSucc b => Nat.beq a b
  | _, _ => false
theorem intEq_eq (x y : Int) : intEq x y = (x == y) := by
  have key : ∀ a b : Nat, Nat.beq a b = decide (a = b) := by
    intro a b
    cases h : Nat.beq a b with
    | true => simp [Nat.eq_of_beq_eq_true h]
    | false => simp [Nat.ne_of_beq_eq_false h]
  have e : (x == y) = decide (x = y) := by cases h : decide (x = y) <;> simp_all
  rw [e]
  cases x <;> cases y <;> simp only [intEq, key, Int.ofNat_eq_natCast, Int.negSucc_eq]
  · apply decide_eq_decide.2; omega
  · exact (decide_eq_false (by omega)).symm
  · exact (decide_eq_false (by omega)).symm
  · apply decide_eq_decide.2; omega
variable (P : Program)
structure BinC where
  run : Value → Value → Option Value
def ints (f : IntKind → Int → Int → Value) (g : Value → Value → Option Value) (v u : Value) : Option Value :=
  match v with
  | .int k a => match u with
    | .int k' b => bif decide (k = k') then some (f k a b) else g v u
    | _ => g v u
  | _ => g v u
def binC (op : BinOp) (t : TypeId) (x y : Operand) : BinC :=
  match op with
  | .add => ⟨ints (fun k a b => .int k (wrapF k (a + b))) (abin P .add t x y)⟩
  | .sub => ⟨ints (fun k a b => .int k (wrapF k (a - b))) (abin P .sub t x y)⟩
  | .mul => ⟨ints (fun k a b => .int k (wrapF k (a * b))) (abin P .mul t x y)⟩
  | .eql => ⟨ints (fun _ a b => .bool (intEq a b)) (abin P .eql t x y)⟩
  | .neq => ⟨ints (fun _ a b => .bool (!intEq a b)) (abin P .neq t x y)⟩
  | .lss => ⟨ints (fun _ a b => .bool (intLt a b)) (abin P .lss t x y)⟩
  | .leq => ⟨ints (fun _ a b => .bool (!intLt b a)) (abin P .leq t x y)⟩
  | .gtr => ⟨ints (fun _ a b => .bool (intLt b a)) (abin P .gtr t x y)⟩
  | .geq => ⟨ints (fun _ a b => .bool (!intLt a b)) (abin P .geq t x y)⟩
  | op => ⟨abin P op t x y⟩
theorem ints_eq {f : IntKind → Int → Int → Value} {g : Value → Value → Option Value} (h : ∀ k a b, g (.int k a) (.int k b) = some (f k a b)) (v u : Value) : ints f g v u = g v u := by
  unfold ints
  cases v with
  | int k a =>
    cases u with
    | int k' b =>
      by_cases hk : k = k'
      · subst hk; simp [h]
      · simp [hk]
    | _ => rfl
  | _ => rfl
theorem binC_eq (op : BinOp) (t : TypeId) (x y : Operand) (v u : Value) : (binC P op t x y).run v u = abin P op t x y v u := by
  have hnlt : ∀ a b : Int, (!decide (b < a)) = decide (a ≤ b) := by
    intro a b
    by_cases h : b < a
    · have : ¬ a ≤ b := by omega
      simp [h, this]
    · have : a ≤ b := by omega
      simp [h, this]
  cases op <;> simp only [binC] <;> first | rfl | skip
  case add => exact ints_eq (fun k a b => by rw [wrapF_eq]; cases k <;> rfl) v u
  case sub => exact ints_eq (fun k a b => by rw [wrapF_eq]; cases k <;> rfl) v u
  case mul => exact ints_eq (fun k a b => by rw [wrapF_eq]; cases k <;> rfl) v u
  case eql => exact ints_eq (fun k a b => by rw [intEq_eq]; cases k <;> rfl) v u
  case neq => exact ints_eq (fun k a b => by rw [intEq_eq]; cases k <;> rfl) v u
  case lss => exact ints_eq (fun k a b => by rw [intLt_eq]; cases k <;> rfl) v u
  case leq => exact ints_eq (fun k a b => by rw [intLt_eq, hnlt]; cases k <;> rfl) v u
  case gtr => exact ints_eq (fun k a b => by rw [intLt_eq]; cases k <;> rfl) v u
  case geq => exact ints_eq (fun k a b => by rw [intLt_eq, hnlt]; cases k <;> rfl) v u

/-! ### Operations -/
structure OpC where
  run : A → Heap → Option (Value × Heap)
def withH (r : Option Value) (h : Heap) : Option (Value × Heap) := Option.rec (motive := fun _ => Option (Value × Heap)) none (fun v => some (v, h)) r
theorem withH_eq (r : Option Value) (h : Heap) : withH r h = r.map (·, h) := by cases r <;> rfl
def opC (o : Oper) : OpC :=
  match o.op with
  | .move x => match evC x with | ⟨f⟩ => ⟨fun a h => withH (f a) h⟩
  | .assign x => match evC x with | ⟨f⟩ => ⟨fun a h => withH (f a) h⟩
  | .load t x => match evC x with | ⟨f⟩ => ⟨fun a h => match f a with | none => none | some v => withH (aload P t v h) h⟩
  | .store t x y => match evC x, evC y with | ⟨f⟩, ⟨g⟩ => ⟨fun a h => match f a with | none => none | some v => match g a with | none => none | some u => match astore P t v u h with | none => none | some h' => some (undef, h')⟩
  | .binOp op t x y _ => match evC x, evC y, binC P op t x y with | ⟨f⟩, ⟨g⟩, ⟨b⟩ => ⟨fun a h => match f a with | none => none | some v => match g a with | none => none | some u => withH (b v u) h⟩
  | .indexAddr t x i => match evC x, evC i with | ⟨f⟩, ⟨g⟩ => ⟨fun a h => match f a with | none => none | some v => match g a with | none => none | some u => withH (aindexAddr P t v u) h⟩
  | .fieldAddr s x i => match evC x with | ⟨f⟩ => ⟨fun a h => match f a with | none => none | some v => withH (afieldAddr P s v i) h⟩
  | .convert s d x => match evC x with | ⟨f⟩ => ⟨fun a h => match f a with | none => none | some v => withH (aconv P s d v h) h⟩
  | .nilCheck x => match evC x with | ⟨f⟩ => ⟨fun a h => match f a with | none => none | some v => withH (anilCheck v) h⟩
  | .extract x i => match evC x with | ⟨f⟩ => ⟨fun a h => match f a with | none => none | some v => withH (aextract v i) h⟩
  | .call c => match c.callee with
    | .builtin b => match evsC c.args.toList with | ⟨f⟩ => ⟨fun a h => match f a with | none => none | some l => abuiltin P b c.argTypes o.type l h⟩
    | _ => ⟨fun _ _ => none⟩
  | _ => ⟨fun a h => aop P o a h⟩
theorem opC_eq (o : Oper) (a : A) (h : Heap) : (opC P o).run a h = aop P o a h := by
  obtain ⟨dst, op, ty, pos, after, guard⟩ := o
  cases op <;> simp only [opC] <;> first | rfl | skip
  case move x =>
    have h1 := evC_eq x a
    generalize evC x = e at h1
    obtain ⟨f⟩ := e
    simp only at h1 ⊢
    rw [h1, withH_eq]; rfl
  case assign x =>
    have h1 := evC_eq x a
    generalize evC x = e at h1
    obtain ⟨f⟩ := e
    simp only at h1 ⊢
    rw [h1, withH_eq]; rfl
  case load t x =>
    have h1 := evC_eq x a
    generalize evC x = e at h1
    obtain ⟨f⟩ := e
    simp only [aop] at h1 ⊢
    rw [h1]
    cases a.eval x with
    | none => rfl
    | some v => simp only [withH_eq]; rfl
  case store t x y =>
    have h1 := evC_eq x a
    have h2 := evC_eq y a
    generalize evC x = e at h1
    generalize evC y = e2 at h2
    obtain ⟨f⟩ := e
    obtain ⟨g⟩ := e2
    simp only [aop] at h1 h2 ⊢
    rw [h1, h2]
    cases a.eval x with
    | none => rfl
    | some v =>
      cases a.eval y with
      | none => rfl
      | some u => simp only [Option.bind_some]; cases astore P t v u h <;> rfl
  case binOp op t x y z =>
    have h1 := evC_eq x a
    have h2 := evC_eq y a
    have h3 := binC_eq P op t x y
    generalize evC x = e at h1
    generalize evC y = e2 at h2
    generalize binC P op t x y = e3 at h3
    obtain ⟨f⟩ := e
    obtain ⟨g⟩ := e2
    obtain ⟨b⟩ := e3
    simp only [aop] at h1 h2 h3 ⊢
    rw [h1, h2]
    cases a.eval x with
    | none => rfl
    | some v =>
      cases a.eval y with
      | none => rfl
      | some u => simp only [withH_eq, h3]; rfl
  case indexAddr t x i =>
    have h1 := evC_eq x a
    have h2 := evC_eq i a
    generalize evC x = e at h1
    generalize evC i = e2 at h2
    obtain ⟨f⟩ := e
    obtain ⟨g⟩ := e2
    simp only [aop] at h1 h2 ⊢
    rw [h1, h2]
    cases a.eval x with
    | none => rfl
    | some v =>
      cases a.eval i with
      | none => rfl
      | some u => simp only [withH_eq]; rfl
  case fieldAddr s x i =>
    have h1 := evC_eq x a
    generalize evC x = e at h1
    obtain ⟨f⟩ := e
    simp only [aop] at h1 ⊢
    rw [h1]
    cases a.eval x with
    | none => rfl
    | some v => simp only [withH_eq]; rfl
  case convert s d x =>
    have h1 := evC_eq x a
    generalize evC x = e at h1
    obtain ⟨f⟩ := e
    simp only [aop] at h1 ⊢
    rw [h1]
    cases a.eval x with
    | none => rfl
    | some v => simp only [withH_eq]; rfl
  case nilCheck x =>
    have h1 := evC_eq x a
    generalize evC x = e at h1
    obtain ⟨f⟩ := e
    simp only [aop] at h1 ⊢
    rw [h1]
    cases a.eval x with
    | none => rfl
    | some v => simp only [withH_eq]; rfl
  case extract x i =>
    have h1 := evC_eq x a
    generalize evC x = e at h1
    obtain ⟨f⟩ := e
    simp only [aop] at h1 ⊢
    rw [h1]
    cases a.eval x with
    | none => rfl
    | some v => simp only [withH_eq]; rfl
  case call c =>
    obtain ⟨callee, args, ats⟩ := c
    cases callee <;> simp only [aop] <;> first | rfl | skip
    rename_i b
    have h1 := evsC_eq a args.toList
    generalize evsC args.toList = e at h1
    obtain ⟨f⟩ := e
    simp only at h1 ⊢
    rw [h1]
    cases aevs a args.toList <;> rfl
variable (prim : Prim)
structure StC where
  run : Rec → A → Heap → Option (Value × Heap)
def stC (o : Oper) : StC :=
  match o.op with
  | .call c => match c.callee with
    | .value g => match evC g, evsC c.args.toList with
      | ⟨f⟩, ⟨k⟩ => ⟨fun rec a h => match f a with
        | none => none
        | some v => match k a with
          | none => none
          | some l => match v with
            | .func (.func f) x y => callF P prim rec f (x.toList ++ l ++ y.toList) h
            | .func (.yield k) x y => bif x.isEmpty && y.isEmpty then yieldF rec k l h else none
            | _ => none⟩
    | _ => match opC P o with | ⟨f⟩ => ⟨fun _ a h => f a h⟩
  | _ => match opC P o with | ⟨f⟩ => ⟨fun _ a h => f a h⟩
theorem ostep_op (rec : Rec) (o : Oper) (a : A) (h : Heap) (e : ocall P prim rec o a h = none) : ostep P prim rec o a h = aop P o a h := by
  unfold ostep
  cases aop P o a h with
  | none => exact e
  | some r => rfl
theorem stC_eq (rec : Rec) (o : Oper) (a : A) (h : Heap) : (stC P prim o).run rec a h = ostep P prim rec o a h := by
  have h0 := opC_eq P o a h
  have hop : ocall P prim rec o a h = none → (match opC P o with | ⟨f⟩ => (⟨fun _ a h => f a h⟩ : StC)).run rec a h = ostep P prim rec o a h := by
    intro e
    rw [ostep_op P prim rec o a h e, ← h0]
  obtain ⟨dst, op, ty, pos, after, guard⟩ := o
  cases op <;> simp only [stC] <;> first | (exact hop rfl) | skip
  case call c =>
    obtain ⟨callee, args, ats⟩ := c
    cases callee <;> simp only <;> first | (exact hop rfl) | skip
    rename_i g
    have h1 := evC_eq g a
    have h2 := evsC_eq a args.toList
    generalize evC g = e at h1
    generalize evsC args.toList = e2 at h2
    obtain ⟨f⟩ := e
    obtain ⟨k⟩ := e2
    simp only at h1 h2 ⊢
    rw [h1, h2]
    have ha : aop P ⟨dst, .call ⟨.value g, args, ats⟩, ty, pos, after, guard⟩ a h = none := rfl
    unfold ostep
    rw [ha]
    simp only [ocall]
    cases a.eval g with
    | none => rfl
    | some v =>
      cases aevs a args.toList with
      | none => rfl
      | some l => rfl
/-- A whole operation: its guard, it, where its value goes. -/
structure RnC where
  run : Rec → A → Heap → Option (A × Heap)
def rnC (ops : Array Oper) (o : Oper) : RnC :=
  match stC P prim o, putC o.dst with
  | ⟨f⟩, ⟨p⟩ => match o.guard with
    | none => ⟨fun rec a h => Option.rec (motive := fun _ => Option (A × Heap)) none (fun q => Prod.rec (motive := fun _ => Option (A × Heap)) (fun v h' => Option.rec (motive := fun _ => Option (A × Heap)) none (fun a' => some (a', h')) (p a v)) q) (f rec a h)⟩
    | some _ => ⟨fun rec a h => bif awanted ops a o then (match f rec a h with | none => none | some (v, h') => match p a v with | none => none | some a' => some (a', h'))
        else match p a undef with | none => none | some a' => some (a', h)⟩
theorem rnC_eq (ops : Array Oper) (rec : Rec) (o : Oper) (a : A) (h : Heap) : (rnC P prim ops o).run rec a h =
    bif awanted ops a o then (ostep P prim rec o a h).bind fun q => (a.put o.dst q.1).bind fun a' => some (a', q.2) else (a.put o.dst undef).bind fun a' => some (a', h) := by
  have h1 := fun rec a h => stC_eq P prim rec o a h
  have h2 := fun a v => putC_eq o.dst a v
  unfold rnC
  generalize stC P prim o = e at h1
  generalize putC o.dst = e2 at h2
  obtain ⟨f⟩ := e
  obtain ⟨p⟩ := e2
  simp only at h1 h2 ⊢
  cases hg : o.guard with
  | none =>
    have : awanted ops a o = true := by unfold awanted; rw [hg]
    rw [this]
    simp only [cond_true]
    rw [h1]
    cases ostep P prim rec o a h with
    | none => rfl
    | some q =>
      obtain ⟨v, h'⟩ := q
      simp only [Option.bind_some, h2]
      cases a.put o.dst v <;> rfl
  | some q =>
    simp only
    cases awanted ops a o with
    | true =>
      simp only [cond_true]
      rw [h1]
      cases ostep P prim rec o a h with
      | none => rfl
      | some q =>
        obtain ⟨v, h'⟩ := q
        simp only [Option.bind_some, h2]
        cases a.put o.dst v <;> rfl
    | false =>
      simp only [cond_false, h2]
      cases a.put o.dst undef <;> rfl
def regC (ops : Array Oper) : List Oper → RnC
  | [] => ⟨fun _ a h => some (a, h)⟩
  | o :: l => match rnC P prim ops o, regC ops l with | ⟨f⟩, ⟨g⟩ => ⟨fun rec a h => Option.rec (motive := fun _ => Option (A × Heap)) none (fun q => Prod.rec (motive := fun _ => Option (A × Heap)) (fun a' h' => g rec a' h') q) (f rec a h)⟩
theorem regC_eq (ops : Array Oper) (rec : Rec) : ∀ (l : List Oper) (idx : List Nat) (a : A) (h : Heap), idx.map (fun i => ops[i]?) = l.map some → (regC P prim ops l).run rec a h = runOps P prim rec ops idx a h
  | [], idx, a, h, e => by
    cases idx with
    | nil => rfl
    | cons i idx => simp at e
  | o :: l, idx, a, h, e => by
    cases idx with
    | nil => simp at e
    | cons i idx =>
      simp only [List.map_cons, List.cons.injEq] at e
      have h1 := fun a h => rnC_eq P prim ops rec o a h
      have h2 := fun a h => regC_eq ops rec l idx a h e.2
      simp only [regC, runOps, e.1]
      generalize rnC P prim ops o = c1 at h1
      generalize regC P prim ops l = c2 at h2
      obtain ⟨f⟩ := c1
      obtain ⟨g⟩ := c2
      simp only at h1 h2 ⊢
      rw [h1]
      cases awanted ops a o with
      | true =>
        simp only [cond_true]
        cases ostep P prim rec o a h with
        | none => rfl
        | some q =>
          obtain ⟨v, h'⟩ := q
          simp only [Option.bind_some]
          cases a.put o.dst v with
          | none => rfl
          | some a' => simp only [Option.bind_some]; exact h2 _ _
      | false =>
        simp only [cond_false]
        cases a.put o.dst undef with
        | none => rfl
        | some a' => simp only [Option.bind_some]; exact h2 _ _
theorem regC_all (ops : Array Oper) (rec : Rec) (a : A) (h : Heap) : (regC P prim ops ops.toList).run rec a h = runOps P prim rec ops (List.range ops.size) a h := by
  refine regC_eq P prim ops rec _ _ a h ?_
  apply List.ext_getElem?
  intro i
  simp only [List.getElem?_map, List.getElem?_range', Array.getElem?_toList]
  by_cases hi : i < ops.size
  · simp [List.getElem?_range, hi]
  · simp [List.getElem?_range, hi]

/-! ### Drawn regions -/
structure DstC where
  run : Rec → DS → Option DS
def dstC (ops : Array Oper) (ms : List Nat) (j : Nat) : DstC :=
  match ops[j]? with
  | none => ⟨fun _ _ => none⟩
  | some o => match opC P o, stC P prim o, putC o.dst with
    | ⟨f⟩, ⟨g⟩, ⟨p⟩ => match kindOf o with
      | 0 => ⟨fun _ s => match s with
        | ⟨a, h, last, reads⟩ => bif awanted ops a o then (match f a h with | none => none | some (v, _) => match p a v with | none => none | some a' => some ⟨a', h, last, reads⟩)
            else match p a undef with | none => none | some a' => some ⟨a', h, last, reads⟩⟩
      | k + 1 => ⟨fun rec s => match s with
        | ⟨a, h, last, reads⟩ => bif awanted ops a o then
            bif okLast ms last j then
              match k with
              | 0 => match f a h with | none => none | some (v, _) => match p a v with | none => none | some a' => some ⟨a', h, last, (j, o, a, v) :: reads⟩
              | 1 => match f a h with | none => none | some (v, h') => match p a v with | none => none | some a' => some ⟨a', h', last, reads⟩
              | _ => match g rec a h with
                | none => none
                | some (v, h') => match p a v with
                  | none => none
                  | some a' => bif Nat.ble h.next h'.next && rereads P h' (reads.filter fun r => !Nat.testBit (ms.getD j 0) r.1) then
                      some ⟨a', h', some j, reads.filter fun r => !Nat.testBit (ms.getD j 0) r.1⟩ else none
            else none
            else match p a undef with | none => none | some a' => some ⟨a', h, last, reads⟩⟩
theorem dstC_eq (ops : Array Oper) (ms : List Nat) (j : Nat) (rec : Rec) (s : DS) : (dstC P prim ops ms j).run rec s = dstep P prim rec ops ms j s := by
  obtain ⟨a, h, last, reads⟩ := s
  unfold dstC dstep
  cases ops[j]? with
  | none => rfl
  | some o =>
    have h1 := fun a h => opC_eq P o a h
    have h2 := fun a h => stC_eq P prim rec o a h
    have h3 := fun a v => putC_eq o.dst a v
    simp only [Option.bind_some]
    generalize opC P o = c1 at h1
    generalize stC P prim o = c2 at h2
    generalize putC o.dst = c3 at h3
    obtain ⟨f⟩ := c1
    obtain ⟨g⟩ := c2
    obtain ⟨p⟩ := c3
    simp only at h1 h2 h3 ⊢
    generalize hk : kindOf o = k
    match k with
    | 0 =>
      simp only [h1, h3]
      cases awanted ops a o with
      | true =>
        simp only [cond_true, show Nat.beq 0 0 = true from rfl]
        cases aop P o a h with
        | none => rfl
        | some q => obtain ⟨v, h'⟩ := q; simp only [Option.bind_some]; cases a.put o.dst v <;> rfl
      | false => simp only [cond_false]; cases a.put o.dst undef <;> rfl
    | 1 =>
      have e1 : Nat.beq 1 0 = false := rfl
      have e2 : Nat.beq 1 1 = true := rfl
      simp only [h1, h3, e1, e2]
      cases awanted ops a o with
      | true =>
        simp only [cond_true, cond_false]
        cases okLast ms last j with
        | false => rfl
        | true =>
          simp only [cond_true]
          cases aop P o a h with
          | none => rfl
          | some q => obtain ⟨v, h'⟩ := q; simp only [Option.bind_some]; cases a.put o.dst v <;> rfl
      | false => simp only [cond_false]; cases a.put o.dst undef <;> rfl
    | 2 =>
      have e1 : Nat.beq 2 0 = false := rfl
      have e2 : Nat.beq 2 1 = false := rfl
      have e3 : Nat.beq 2 2 = true := rfl
      simp only [h1, h3, e1, e2, e3]
      cases awanted ops a o with
      | true =>
        simp only [cond_true, cond_false]
        cases okLast ms last j with
        | false => rfl
        | true =>
          simp only [cond_true]
          cases aop P o a h with
          | none => rfl
          | some q => obtain ⟨v, h'⟩ := q; simp only [Option.bind_some]; cases a.put o.dst v <;> rfl
      | false => simp only [cond_false]; cases a.put o.dst undef <;> rfl
    | k + 3 =>
      have e1 : Nat.beq (k + 3) 0 = false := rfl
      have e2 : Nat.beq (k + 3) 1 = false := rfl
      have e3 : Nat.beq (k + 3) 2 = false := rfl
      simp only [h2, h3, e1, e2, e3]
      cases awanted ops a o with
      | true =>
        simp only [cond_true, cond_false]
        cases okLast ms last j with
        | false => rfl
        | true =>
          simp only [cond_true]
          cases ostep P prim rec o a h with
          | none => rfl
          | some q => obtain ⟨v, h'⟩ := q; simp only [Option.bind_some]; cases a.put o.dst v <;> rfl
      | false => simp only [cond_false]; cases a.put o.dst undef <;> rfl
def dlC (ops : Array Oper) (ms : List Nat) : List Nat → DstC
  | [] => ⟨fun _ s => some s⟩
  | j :: l => match dstC P prim ops ms j, dlC ops ms l with | ⟨f⟩, ⟨g⟩ => ⟨fun rec s => match f rec s with | none => none | some s' => g rec s'⟩
theorem dlC_eq (ops : Array Oper) (ms : List Nat) (rec : Rec) : ∀ (l : List Nat) (s : DS), (dlC P prim ops ms l).run rec s = dloop P prim rec ops ms l s
  | [], s => rfl
  | j :: l, s => by
    have h1 := fun s => dstC_eq P prim ops ms j rec s
    have h2 := fun s => dlC_eq ops ms rec l s
    simp only [dlC, dloop]
    generalize dstC P prim ops ms j = c1 at h1
    generalize dlC P prim ops ms l = c2 at h2
    obtain ⟨f⟩ := c1
    obtain ⟨g⟩ := c2
    simp only at h1 h2 ⊢
    rw [h1]
    cases dstep P prim rec ops ms j s with
    | none => rfl
    | some s' => exact h2 s'

/-! ### Code -/
structure CdC where
  run : Rec → Option Nat → A → Heap → Res
def cdC (c : Code) : CdC :=
  match c with
  | .seq x y => ⟨fun rec ro a h => match rec ro x a h with
      | none => none
      | some (.normal, a', h') => rec ro y a' h'
      | some (e, a', h') => some (e, a', h')⟩
  | .cond c x y => match evC c with | ⟨f⟩ => ⟨fun rec ro a h => match f a with
      | some (.bool b) => bif b then rec ro x a h else rec ro y a h
      | _ => none⟩
  | .region _ ops d => bif d then
        bif planOK ops then (match dlC P prim ops (masks ops.toList) (orderOf ops) with
          | ⟨f⟩ => ⟨fun rec _ a h => match f rec ⟨a, h, none, []⟩ with | none => none | some ⟨a', h', _, _⟩ => some (.normal, a', h')⟩)
        else ⟨fun _ _ _ _ => none⟩
      else match regC P prim ops ops.toList with | ⟨f⟩ => ⟨fun rec _ a h => match f rec a h with | none => none | some (a', h') => some (.normal, a', h')⟩
  | c => ⟨fun rec ro a h => execF P prim rec (drawnF P prim) ro c a h⟩
theorem cdC_eq (c : Code) (rec : Rec) (ro : Option Nat) (a : A) (h : Heap) : (cdC P prim c).run rec ro a h = execF P prim rec (drawnF P prim) ro c a h := by
  cases c <;> simp only [cdC]
  case seq x y =>
    simp only [execF]
    cases rec ro x a h with
    | none => rfl
    | some q => obtain ⟨e, a', h'⟩ := q; cases e <;> rfl
  case cond c x y =>
    have h1 := evC_eq c a
    simp only [execF]
    generalize evC c = e at h1
    obtain ⟨f⟩ := e
    simp only at h1 ⊢
    rw [h1]
    cases a.eval c with
    | none => rfl
    | some v => cases v <;> rfl
  case region id ops d =>
    cases d with
    | true =>
      simp only [cond_true, execF, drawnF]
      cases planOK ops with
      | false => rfl
      | true =>
        simp only [cond_true]
        have h1 := fun s => dlC_eq P prim ops (masks ops.toList) rec (orderOf ops) s
        generalize dlC P prim ops (masks ops.toList) (orderOf ops) = c at h1
        obtain ⟨f⟩ := c
        simp only at h1 ⊢
        rw [h1]
        cases dloop P prim rec ops (masks ops.toList) (orderOf ops) ⟨a, h, none, []⟩ <;> rfl
    | false =>
      simp only [cond_false, execF]
      have h1 := regC_all P prim ops rec a h
      generalize regC P prim ops ops.toList = c at h1
      obtain ⟨f⟩ := c
      simp only at h1 ⊢
      rw [h1]
      cases runOps P prim rec ops (List.range ops.size) a h <;> rfl
def runC (n : Nat) : Rec := Nat.rec (motive := fun _ => Rec) (fun _ _ _ _ => none) (fun _ ih ro c a h => match cdC P prim c with | ⟨f⟩ => f ih ro a h) n
theorem runC_eq (n : Nat) : runC P prim n = AM.run P prim n := by
  induction n with
  | zero => rfl
  | succ n ih =>
    funext ro c a h
    show (match cdC P prim c with | ⟨f⟩ => f (runC P prim n) ro a h) = execF P prim (AM.run P prim n) (drawnF P prim) ro c a h
    rw [ih]
    exact cdC_eq P prim c (AM.run P prim n) ro a h
def callC (n : Nat) (f : Nat) (args : List Value) (h : Heap) : Option (Value × Heap) := callF P prim (runC P prim n) f args h
theorem callC_eq (n : Nat) (f : Nat) (args : List Value) (h : Heap) : callC P prim n f args h = call P prim n f args h := by unfold callC call; rw [runC_eq]
end
end Go.AM
/- From the abstract machine's calls to the kit's. -/
set_option linter.all false
namespace Go.AM
open Go
variable {P : Program}

/-- Of what was there nothing turns. -/
def Grown0 (W w' : World) : Prop := W.keptBut w' (fun _ => False) ∧ (∀ a : Addr, a.block < W.heap.size → w'.frozen? a = W.frozen? a) ∧ W.heap.size ≤ w'.heap.size
theorem Kept.grown {w w' : World} (k : Kept w w') : Grown0 w w' := by
  obtain ⟨k1, k2, k3, k4, k5, k6⟩ := k
  refine ⟨⟨k3, k5, fun i hi => ?_⟩, k6, k1⟩
  rw [k2 i hi]
  cases w.heap[i]? with
  | none => rfl
  | some o =>
    cases o with
    | cells c t fr => exact ⟨rfl, rfl, rfl, fun _ _ => rfl⟩
    | map es clock => exact .inr ⟨rfl, rfl⟩
    | _ => rfl
theorem names_ok (h : (P.funcs.toList.all fun fn => !(fn.name == "runtime.NumGoroutine")) = true) : NamesOK P := by
  intro f fn c hf _
  have := List.all_eq_true.1 h fn (by rw [Array.mem_toList_iff]; exact Array.mem_of_getElem? hf)
  simpa using this
/-- A closed call, reckoned. -/
theorem reckoned {prim : Prim} (hF : Fit P prim) {n f : Nat} {args : List Value} {v : Value} (e : (callC P prim n f args Heap.empty).map (·.1) = some v) (ha : args.all flat1 = true) (hv : flat v = true) (w : World) :
    CallsIn Fence.wide 0 P f args.toArray w fun e w' => e = .returned v ∧ Kept w w' := by
  obtain ⟨⟨v', h'⟩, h, rfl⟩ := Option.map_eq_some_iff.1 e
  rw [callC_eq] at h
  exact call_flat hF h ha hv w
theorem reckoned_calls {prim : Prim} (hF : Fit P prim) {n f : Nat} {args : List Value} {v : Value} (e : (callC P prim n f args Heap.empty).map (·.1) = some v) (ha : args.all flat1 = true) (hv : flat v = true) (w : World) :
    Calls P f args.toArray w fun e w' => e = .returned v ∧ Grown0 w w' := by
  refine Calls.mono (callsIn_wide.1 (reckoned hF e ha hv w)) ?_
  rintro e w' ⟨h1, h2⟩
  exact ⟨h1, h2.grown⟩
end Go.AM
/- More fuel changes nothing; and the rules of the abstract machine's runs without fuel. -/
set_option linter.all false
namespace Go.AM
open Go
variable {P : Program} {prim : Prim}

def RLe (r r' : Rec) : Prop := ∀ ro c a h x, r ro c a h = some x → r' ro c a h = some x
theorem callF_mono {r r' : Rec} (k : RLe r r') {f : Nat} {args : List Value} {h : Heap} {x : Value × Heap} (e : callF P prim r f args h = some x) : callF P prim r' f args h = some x := by
  unfold callF at e ⊢
  cases hp : prim f with
  | some g => rw [hp] at e; exact e
  | none =>
    rw [hp] at e
    simp only [Option.bind_eq_some_iff] at e ⊢
    obtain ⟨fn, h1, c, h2, q, h3, e⟩ := e
    exact ⟨fn, h1, c, h2, q, k _ _ _ _ _ h3, e⟩
theorem yieldF_mono {r r' : Rec} (k : RLe r r') {l : Nat} {args : List Value} {h : Heap} {x : Value × Heap} (e : yieldF r l args h = some x) : yieldF r' l args h = some x := by
  unfold yieldF at e ⊢
  split at e
  · next p tr sz ps asg body mk hg =>
    cases hb : Nat.beq args.length ps.size with
    | false => rw [hb] at e; cases e
    | true =>
      rw [hb] at e
      simp only [cond_true, Option.bind_eq_some_iff] at e ⊢
      obtain ⟨tr', h1, q, h2, e⟩ := e
      refine ⟨tr', h1, q, k _ _ _ _ _ h2, ?_⟩
      obtain ⟨x1, a1, h1'⟩ := q
      cases x1 with
      | normal =>
        simp only at e ⊢
        split at e
        · simp only [Option.bind_eq_some_iff] at e ⊢
          obtain ⟨q2, h3, e⟩ := e
          exact ⟨q2, k _ _ _ _ _ h3, e⟩
        all_goals cases e
      | _ => cases e
  all_goals cases e
theorem ocall_mono {r r' : Rec} (k : RLe r r') {o : Oper} {a : A} {h : Heap} {x : Value × Heap} (e : ocall P prim r o a h = some x) : ocall P prim r' o a h = some x := by
  obtain ⟨dst, op, ty, pos, after, guard⟩ := o
  unfold ocall at e ⊢
  cases op <;> simp only at e ⊢ <;> first | (cases e; done) | skip
  case call c =>
    obtain ⟨callee, args, ats⟩ := c
    cases callee <;> simp only at e ⊢ <;> first | (cases e; done) | skip
    rename_i g
    simp only [Option.bind_eq_some_iff] at e ⊢
    obtain ⟨v, hv, l, hl, e⟩ := e
    refine ⟨v, hv, l, hl, ?_⟩
    split at e
    · exact callF_mono k e
    · next l' x' y' =>
      cases hb : (x'.isEmpty && y'.isEmpty) with
      | false => rw [hb] at e; cases e
      | true => rw [hb] at e; exact yieldF_mono k e
    · cases e
theorem ostep_mono {r r' : Rec} (k : RLe r r') {o : Oper} {a : A} {h : Heap} {x : Value × Heap} (e : ostep P prim r o a h = some x) : ostep P prim r' o a h = some x := by
  unfold ostep at e ⊢
  cases ha : aop P o a h with
  | some q => rw [ha] at e; exact e
  | none => rw [ha] at e; exact ocall_mono k e
theorem runOps_mono {r r' : Rec} (k : RLe r r') {ops : Array Oper} : ∀ {l : List Nat} {a : A} {h : Heap} {x : A × Heap}, runOps P prim r ops l a h = some x → runOps P prim r' ops l a h = some x
  | [], a, h, x, e => e
  | i :: l, a, h, x, e => by
    simp only [runOps] at e ⊢
    cases ho : ops[i]? with
    | none => rw [ho] at e; exact runOps_mono k e
    | some o =>
      rw [ho] at e
      simp only at e ⊢
      cases hw : awanted ops a o with
      | true =>
        rw [hw] at e
        simp only [cond_true, Option.bind_eq_some_iff] at e ⊢
        obtain ⟨q, h1, a', h2, e⟩ := e
        exact ⟨q, ostep_mono k h1, a', h2, runOps_mono k e⟩
      | false =>
        rw [hw] at e
        simp only [cond_false, Option.bind_eq_some_iff] at e ⊢
        obtain ⟨a', h2, e⟩ := e
        exact ⟨a', h2, runOps_mono k e⟩
theorem dstep_mono {r r' : Rec} (k : RLe r r') {ops : Array Oper} {ms : List Nat} {j : Nat} {s x : DS} (e : dstep P prim r ops ms j s = some x) : dstep P prim r' ops ms j s = some x := by
  unfold dstep at e ⊢
  simp only [Option.bind_eq_some_iff] at e ⊢
  obtain ⟨o, ho, e⟩ := e
  refine ⟨o, ho, ?_⟩
  cases hw : awanted ops s.a o with
  | false => rw [hw] at e; exact e
  | true =>
    rw [hw] at e
    simp only [cond_true] at e ⊢
    cases h0 : Nat.beq (kindOf o) 0 with
    | true => rw [h0] at e; exact e
    | false =>
      rw [h0] at e
      simp only [cond_false] at e ⊢
      cases hl : okLast ms s.last j with
      | false => rw [hl] at e; cases e
      | true =>
        rw [hl] at e
        simp only [cond_true] at e ⊢
        cases h1 : Nat.beq (kindOf o) 1 with
        | true => rw [h1] at e; exact e
        | false =>
          rw [h1] at e
          simp only [cond_false] at e ⊢
          cases h2 : Nat.beq (kindOf o) 2 with
          | true => rw [h2] at e; exact e
          | false =>
            rw [h2] at e
            simp only [cond_false, Option.bind_eq_some_iff] at e ⊢
            obtain ⟨q, h3, e⟩ := e
            exact ⟨q, ostep_mono k h3, e⟩
theorem dloop_mono {r r' : Rec} (k : RLe r r') {ops : Array Oper} {ms : List Nat} : ∀ {l : List Nat} {s x : DS}, dloop P prim r ops ms l s = some x → dloop P prim r' ops ms l s = some x
  | [], s, x, e => e
  | j :: l, s, x, e => by
    simp only [dloop, Option.bind_eq_some_iff] at e ⊢
    obtain ⟨s', h1, e⟩ := e
    exact ⟨s', dstep_mono k h1, dloop_mono k e⟩
theorem drawnF_mono {r r' : Rec} (k : RLe r r') {ops : Array Oper} {a : A} {h : Heap} {x : A × Heap} (e : drawnF P prim ops r a h = some x) : drawnF P prim ops r' a h = some x := by
  unfold drawnF at e ⊢
  cases hp : planOK ops with
  | false => rw [hp] at e; cases e
  | true =>
    rw [hp] at e
    simp only [cond_true, Option.map_eq_some_iff] at e ⊢
    obtain ⟨s, h1, e⟩ := e
    exact ⟨s, dloop_mono k h1, e⟩
theorem rangeF_mono {r r' : Rec} (k : RLe r r') {ro : Option Nat} {g : Operand} {ps : Array Tmp} {asg body : Code} {a : A} {h : Heap} {x : AX × A × Heap} (e : rangeF P prim r ro g ps asg body a h = some x) : rangeF P prim r' ro g ps asg body a h = some x := by
  unfold rangeF at e ⊢
  simp only [Option.bind_eq_some_iff] at e ⊢
  obtain ⟨v, hv, e⟩ := e
  refine ⟨v, hv, ?_⟩
  split at e
  · simp only [Option.bind_eq_some_iff] at e ⊢
    obtain ⟨q, h1, rr, h2, e⟩ := e
    refine ⟨q, h1, rr, callF_mono k h2, ?_⟩
    split at e
    · simp only [Option.bind_eq_some_iff] at e ⊢
      obtain ⟨u, h3, e⟩ := e
      refine ⟨u, h3, ?_⟩
      split at e
      · exact e
      · exact k _ _ _ _ _ e
    · cases e
  · cases e
theorem execF_mono {r r' : Rec} (k : RLe r r') : RLe (execF P prim r (drawnF P prim)) (execF P prim r' (drawnF P prim)) := by
  intro ro c a h x e
  cases c <;> simp only [execF] at e ⊢ <;> first | exact e | skip
  case seq y z =>
    simp only [Option.bind_eq_some_iff] at e ⊢
    obtain ⟨q, h1, e⟩ := e
    refine ⟨q, k _ _ _ _ _ h1, ?_⟩
    obtain ⟨x1, a1, h1'⟩ := q
    cases x1 with
    | normal => exact k _ _ _ _ _ e
    | _ => exact e
  case cond c y z =>
    simp only [Option.bind_eq_some_iff] at e ⊢
    obtain ⟨v, hv, e⟩ := e
    refine ⟨v, hv, ?_⟩
    split at e
    · next b => cases b <;> exact k _ _ _ _ _ e
    · cases e
  case block i y =>
    simp only [Option.map_eq_some_iff] at e ⊢
    obtain ⟨q, h1, e⟩ := e
    exact ⟨q, k _ _ _ _ _ h1, e⟩
  case loop y =>
    simp only [Option.bind_eq_some_iff] at e ⊢
    obtain ⟨q, h1, e⟩ := e
    refine ⟨q, k _ _ _ _ _ h1, ?_⟩
    obtain ⟨x1, a1, h1'⟩ := q
    cases x1 with
    | normal => exact k _ _ _ _ _ e
    | _ => exact e
  case region i ops d =>
    simp only [Option.map_eq_some_iff] at e ⊢
    obtain ⟨q, h1, e⟩ := e
    refine ⟨q, ?_, e⟩
    cases d with
    | true => exact drawnF_mono k h1
    | false => exact runOps_mono k h1
  case rangeFunc g ps asg body => exact rangeF_mono k e
theorem run_succ (n : Nat) : AM.run P prim (n + 1) = execF P prim (AM.run P prim n) (drawnF P prim) := rfl
theorem run_mono1 : ∀ n, RLe (AM.run P prim n) (AM.run P prim (n + 1))
  | 0 => fun ro c a h x e => by simp [AM.run, exec] at e
  | n + 1 => by rw [run_succ, run_succ]; exact execF_mono (run_mono1 n)
theorem run_mono {n m : Nat} (h : n ≤ m) : RLe (AM.run P prim n) (AM.run P prim m) := by
  induction h with
  | refl => exact fun _ _ _ _ _ e => e
  | step _ ih => exact fun ro c a h x e => run_mono1 _ _ _ _ _ _ (ih _ _ _ _ _ e)

/-! ### Runs without fuel -/
def Runs (P : Program) (prim : Prim) (ro : Option Nat) (c : Code) (a : A) (h : Heap) (e : AX) (a' : A) (h' : Heap) : Prop := ∃ n, AM.run P prim n ro c a h = some (e, a', h')
def Comes (P : Program) (prim : Prim) (f : Nat) (args : List Value) (h : Heap) (v : Value) (h' : Heap) : Prop := ∃ n, callF P prim (AM.run P prim n) f args h = some (v, h')
section rules
variable {ro : Option Nat} {a a' a1 : A} {h h' h1 : Heap} {e : AX} {x y : Code}
theorem Runs.skip : Runs P prim ro .skip a h .normal a h := ⟨1, rfl⟩
theorem Runs.label {l : Nat} : Runs P prim ro (.label l) a h .normal a h := ⟨1, rfl⟩
theorem Runs.ret : Runs P prim ro .ret a h .ret a h := ⟨1, rfl⟩
theorem Runs.exit {i : Nat} : Runs P prim ro (.exit i) a h (.exit i) a h := ⟨1, rfl⟩
theorem Runs.goto {i : Nat} : Runs P prim ro (.goto i) a h (.goto i) a h := ⟨1, rfl⟩
theorem Runs.seq (hx : Runs P prim ro x a h .normal a1 h1) (hy : Runs P prim ro y a1 h1 e a' h') : Runs P prim ro (.seq x y) a h e a' h' := by
  obtain ⟨n, hx⟩ := hx
  obtain ⟨m, hy⟩ := hy
  refine ⟨max n m + 1, ?_⟩
  rw [run_succ]
  simp only [execF]
  rw [run_mono (Nat.le_max_left n m) _ _ _ _ _ hx]
  exact run_mono (Nat.le_max_right n m) _ _ _ _ _ hy
theorem Runs.seq_out (hx : Runs P prim ro x a h e a' h') (he : e ≠ .normal) : Runs P prim ro (.seq x y) a h e a' h' := by
  obtain ⟨n, hx⟩ := hx
  refine ⟨n + 1, ?_⟩
  rw [run_succ]
  simp only [execF]
  rw [hx]
  cases e <;> first | rfl | exact absurd rfl he
theorem Runs.cond_true {c : Operand} (hc : a.eval c = some (.bool true)) (hx : Runs P prim ro x a h e a' h') : Runs P prim ro (.cond c x y) a h e a' h' := by
  obtain ⟨n, hx⟩ := hx
  refine ⟨n + 1, ?_⟩
  rw [run_succ]
  simp only [execF]
  rw [hc]; exact hx
theorem Runs.cond_false {c : Operand} (hc : a.eval c = some (.bool false)) (hy : Runs P prim ro y a h e a' h') : Runs P prim ro (.cond c x y) a h e a' h' := by
  obtain ⟨n, hy⟩ := hy
  refine ⟨n + 1, ?_⟩
  rw [run_succ]
  simp only [execF]
  rw [hc]; exact hy
def inBlk (i : Nat) (e : AX) : AX := match e with | .exit j => bif Nat.beq j i then .normal else .exit j | e => e
theorem Runs.block {i : Nat} (hx : Runs P prim ro x a h e a' h') : Runs P prim ro (.block i x) a h (inBlk i e) a' h' := by
  obtain ⟨n, hx⟩ := hx
  refine ⟨n + 1, ?_⟩
  rw [run_succ]
  simp only [execF]
  rw [hx]
  cases e <;> rfl
theorem Runs.loop (hx : Runs P prim ro x a h .normal a1 h1) (hy : Runs P prim ro (.loop x) a1 h1 e a' h') : Runs P prim ro (.loop x) a h e a' h' := by
  obtain ⟨n, hx⟩ := hx
  obtain ⟨m, hy⟩ := hy
  refine ⟨max n m + 1, ?_⟩
  rw [run_succ]
  simp only [execF]
  rw [run_mono (Nat.le_max_left n m) _ _ _ _ _ hx]
  exact run_mono (Nat.le_max_right n m) _ _ _ _ _ hy
theorem Runs.loop_out (hx : Runs P prim ro x a h e a' h') (he : e ≠ .normal) : Runs P prim ro (.loop x) a h e a' h' := by
  obtain ⟨n, hx⟩ := hx
  refine ⟨n + 1, ?_⟩
  rw [run_succ]
  simp only [execF]
  rw [hx]
  cases e <;> first | rfl | exact absurd rfl he
theorem Runs.region {i : Nat} {ops : Array Oper} (n : Nat) (hx : runOps P prim (AM.run P prim n) ops (List.range ops.size) a h = some (a', h')) : Runs P prim ro (.region i ops false) a h .normal a' h' := by
  refine ⟨n + 1, ?_⟩
  rw [run_succ]
  simp only [execF, cond_false]
  rw [hx]; rfl
theorem Runs.drawn {i : Nat} {ops : Array Oper} (n : Nat) (hx : drawnF P prim ops (AM.run P prim n) a h = some (a', h')) : Runs P prim ro (.region i ops true) a h .normal a' h' := by
  refine ⟨n + 1, ?_⟩
  rw [run_succ]
  simp only [execF, Bool.cond_true]
  rw [hx]; rfl
theorem Comes.of_body {f : Nat} {fn : Func} {c : Code} {args : List Value} {v : Value} {h2 : Heap} (hp : prim f = none) (hf : P.funcs[f]? = some fn) (hb : fn.body = some c) (hx : Runs P prim none c (initA fn args) h e a' h') (he : e = .normal ∨ e = .ret)
    (hm : takeMarks a'.marks h' = some h2) (hr : ares P fn a' h2 = some v) : Comes P prim f args h v h2 := by
  obtain ⟨n, hx⟩ := hx
  refine ⟨n, ?_⟩
  unfold callF
  rw [hp, hf]
  simp only [Option.bind_some, hb]
  rw [hx]
  rcases he with rfl | rfl <;> simp only [Option.bind_some, hm, hr, Option.map_some]
theorem Comes.sound (hF : Fit P prim) {f : Nat} {args : List Value} {v : Value} (hc : Comes P prim f args h v h') : CallOK P f args h v h' := by
  obtain ⟨n, hc⟩ := hc
  exact call_sound (n := n) hF hc
end rules
end Go.AM
/- What a call has left that nobody can reach may be forgotten. -/
set_option linter.all false
namespace Go.AM
open Go
variable {P : Program}

/-- What a value leads to under the less relation, it leads to there. -/
theorem VR.back {ρ ρ' : Rho} (hle : Le ρ ρ') {v v' : Value} (h : VR ρ' v v') : ∀ {u : Value}, VR ρ v u → VR ρ v v' := by
  have get : ∀ {b : Nat} {x y : Nat × Nat}, ρ b = some x → ρ' b = some y → x = y := by
    intro b x y h1 h2
    have := hle.m _ _ h1
    rw [h2] at this; injection this with this; exact this.symm
  induction h with
  | fl e => exact fun _ => .fl e
  | ptr e =>
    intro u hu
    cases hu with
    | ptr e' => have := get e' e; rw [this] at e'; exact .ptr e'
    | fl e' => simp [flat1] at e'
  | sl e =>
    intro u hu
    cases hu with
    | sl e' => have := get e' e; rw [this] at e'; exact .sl e'
    | fl e' => simp [flat1] at e'
  | @slu b o l c c' z B base e h1 h2 =>
    intro u hu
    cases hu with
    | slu e' _ _ => have := get e' e; rw [this] at e'; exact .slu e' h1 (by rw [← hle.n _ _ _ e']; exact h2)
    | fl e' => simp [flat1] at e'
  | map e =>
    intro u hu
    cases hu with
    | map e' => have := get e' e; rw [this] at e'; exact .map e'
    | fl e' => simp [flat1] at e'
  | fn h1 _ h3 _ ih1 ih2 =>
    intro u hu
    cases hu with
    | fn g1 g2 g3 g4 => exact .fn h1 (fun i a b => ih1 i a b (g2 i a (by omega))) h3 (fun i a b => ih2 i a b (g4 i a (by omega)))
    | fl e' => simp [flat1] at e'
  | yield e =>
    intro u hu
    cases hu with
    | yield e' => have := get e' e; rw [this] at e'; exact .yield e'
    | fl e' => simp [flat1] at e'
  | iface _ ih =>
    intro u hu
    cases hu with
    | iface g => exact .iface (ih g)
    | fl e' => simp [flat1] at e'
  | agg h1 _ ih =>
    intro u hu
    cases hu with
    | agg g1 g2 => exact .agg h1 (fun i a b => ih i a b (g2 i a (by omega)))
    | fl e' => simp [flat1] at e'
  | tuple h1 _ ih =>
    intro u hu
    cases hu with
    | tuple g1 g2 => exact .tuple h1 (fun i a b => ih i a b (g2 i a (by omega)))
    | fl e' => simp [flat1] at e'
theorem BR.back {ρ ρ' : Rho} (hle : Le ρ ρ') {N N0 base base0 : Nat} {o o0 : Option Obj} {x : Blk} (h : BR ρ' N base o x) (h0 : BR ρ N0 base0 o0 x) : BR ρ N base o x := by
  cases x with
  | cells cs =>
    obtain ⟨C, t, fr, e, hN, hf, hs, hv⟩ := h
    obtain ⟨C0, t0, fr0, e0, hN0, hf0, hs0, hv0⟩ := h0
    exact ⟨C, t, fr, e, hN, hf, hs, fun i v hi => let ⟨v', a, b⟩ := hv i v hi; let ⟨v0, _, b0⟩ := hv0 i v hi; ⟨v', a, b.back hle b0⟩⟩
  | map es clock =>
    obtain ⟨e0, ES, e, hl, hm⟩ := h
    obtain ⟨_, ES0, _, _, hm0⟩ := h0
    refine ⟨e0, ES, e, hl, fun i en hi => ?_⟩
    obtain ⟨E, a, b, c, d⟩ := hm i en hi
    obtain ⟨E0, _, b0, c0, _⟩ := hm0 i en hi
    exact ⟨E, a, b.back hle b0, c.back hle c0, d⟩
  | loop st pend tr sz ps asg body mk =>
    obtain ⟨e0, r, e, a1, a2, a3, a4, a5, a6, a7, a8⟩ := h
    obtain ⟨_, r0, _, _, _, _, b4, _, _, _, b8⟩ := h0
    refine ⟨e0, r, e, a1, a2, a3, fun i => (a4 i).back hle (b4 i), a5, a6, a7, ?_⟩
    have := hle.m _ _ b8
    rw [a8] at this; injection this with this; rw [this]; exact b8
  | mark => exact h
  | ro obj cs =>
    obtain ⟨e, C, t, fr, e2, hs, hv⟩ := h
    obtain ⟨_, C0, t0, fr0, _, _, hv0⟩ := h0
    exact ⟨e, C, t, fr, e2, hs, fun i v hi => let ⟨v', a, b⟩ := hv i v hi; let ⟨v0, _, b0⟩ := hv0 i v hi; ⟨v', a, b.back hle b0⟩⟩

/-! ### New blocks in the place of others -/
def pushes (h : Heap) (ls : List (List Value)) : Heap := ls.foldl (fun h l => h.push (.cells l)) h
theorem pushes_next : ∀ (ls : List (List Value)) (h : Heap), (pushes h ls).next = h.next + ls.length
  | [], h => rfl
  | l :: ls, h => by
    show (pushes (h.push (.cells l)) ls).next = _
    rw [pushes_next ls, Heap.push_next, List.length_cons]; omega
theorem pushes_old : ∀ (ls : List (List Value)) (h : Heap) (b : Nat), b < h.next → (pushes h ls).get b = h.get b
  | [], h, b, _ => rfl
  | l :: ls, h, b, hb => by
    show (pushes (h.push (.cells l)) ls).get b = _
    rw [pushes_old ls _ b (by rw [Heap.push_next]; omega), Heap.get_push, if_neg (by omega)]
theorem pushes_new : ∀ (ls : List (List Value)) (h : Heap) (i : Nat) (l : List Value), ls[i]? = some l → (pushes h ls).get (h.next + i) = some (.cells l)
  | [], h, i, l, e => by simp at e
  | l0 :: ls, h, 0, l, e => by
    simp at e; subst e
    show (pushes (h.push (.cells l0)) ls).get (h.next + 0) = _
    rw [pushes_old ls _ _ (by rw [Heap.push_next]; omega), Heap.get_push, if_pos (by omega)]
  | l0 :: ls, h, i + 1, l, e => by
    show (pushes (h.push (.cells l0)) ls).get (h.next + (i + 1)) = _
    have := pushes_new ls (h.push (.cells l0)) i l (by simpa using e)
    rw [Heap.push_next] at this
    rw [show h.next + (i + 1) = h.next + 1 + i from by omega]; exact this
/-- The value, with the blocks by their new numbers. -/
def ren1 (g : Nat → Option Nat) : Value → Option Value
  | .slice (some ⟨b, o, s⟩) l c => (g b).map fun d => .slice (some ⟨d, o, s⟩) l c
  | .pointer (some ⟨b, o, none⟩) => (g b).map fun d => .pointer (some ⟨d, o, none⟩)
  | v => bif flat1 v then some v else none
def renL (g : Nat → Option Nat) : List Value → Option (List Value)
  | [] => some []
  | v :: l => (ren1 g v).bind fun u => (renL g l).map (u :: ·)
def renV (g : Nat → Option Nat) : Value → Option Value
  | .tuple vs => (renL g vs.toList).map fun l => .tuple l.toArray
  | v => ren1 g v
theorem ren1_VR {ρ ρ2 : Rho} {g : Nat → Option Nat} (hg : ∀ b d x, g b = some d → ρ b = some x → ρ2 d = some x) (hn : ρ2.n = ρ.n) {v u v' : Value} (e : ren1 g v = some u) (h : VR ρ v v') : VR ρ2 u v' := by
  cases h with
  | fl hf =>
    have : ren1 g v = some v := by
      cases v with
      | pointer a => cases a with | none => rfl | some a => simp [flat1] at hf
      | slice a l c => cases a with | none => rfl | some a => simp [flat1] at hf
      | map a => cases a with | none => rfl | some a => simp [flat1] at hf
      | chan a => cases a with | none => rfl | some a => simp [flat1] at hf
      | func a b c => simp [flat1] at hf
      | iface a b => simp [flat1] at hf
      | agg a => simp [flat1] at hf
      | tuple a => simp [flat1] at hf
      | _ => rfl
    rw [this] at e; injection e with e; subst e; exact .fl hf
  | @ptr b o B base hρ =>
    simp only [ren1, Option.map_eq_some_iff] at e
    obtain ⟨d, hd, rfl⟩ := e
    exact .ptr (hg _ _ _ hd hρ)
  | @sl b o l c B base hρ =>
    simp only [ren1, Option.map_eq_some_iff] at e
    obtain ⟨d, hd, rfl⟩ := e
    exact .sl (hg _ _ _ hd hρ)
  | @slu b o l c c' z B base hρ h1 h2 =>
    simp only [ren1, Option.map_eq_some_iff] at e
    obtain ⟨d, hd, rfl⟩ := e
    exact .slu (hg _ _ _ hd hρ) h1 (by rw [hn]; exact h2)
  | map _ => simp [ren1, flat1] at e
  | fn _ _ _ _ => simp [ren1, flat1] at e
  | yield _ => simp [ren1, flat1] at e
  | iface _ => simp [ren1, flat1] at e
  | agg _ _ => simp [ren1, flat1] at e
  | tuple _ _ => simp [ren1, flat1] at e
theorem renL_VR {ρ ρ2 : Rho} {g : Nat → Option Nat} (hg : ∀ b d x, g b = some d → ρ b = some x → ρ2 d = some x) (hn : ρ2.n = ρ.n) : ∀ {l u l' : List Value}, renL g l = some u → VRl ρ l l' → VRl ρ2 u l'
  | [], u, l', e, h => by
    simp only [renL, Option.some.injEq] at e
    subst e
    exact ⟨h.1, fun i v hv => by simp at hv⟩
  | v :: l, u, l', e, h => by
    simp only [renL, Option.bind_eq_some_iff, Option.map_eq_some_iff] at e
    obtain ⟨w, hw, r, hr, rfl⟩ := e
    cases l' with
    | nil => have := h.1; simp at this
    | cons v' l' =>
      obtain ⟨x, hx, hv⟩ := h.2 0 v rfl
      simp at hx; subst hx
      refine .cons (ren1_VR hg hn hw hv) (renL_VR hg hn hr ⟨by simpa using h.1, fun i y hy => ?_⟩)
      simpa using h.2 (i + 1) y (by simpa using hy)
theorem renV_VR {ρ ρ2 : Rho} {g : Nat → Option Nat} (hg : ∀ b d x, g b = some d → ρ b = some x → ρ2 d = some x) (hn : ρ2.n = ρ.n) {v u v' : Value} (e : renV g v = some u) (h : VR ρ v v') : VR ρ2 u v' := by
  cases v with
  | tuple vs =>
    simp only [renV, Option.map_eq_some_iff] at e
    obtain ⟨l, hl, rfl⟩ := e
    obtain ⟨vs', rfl, hh⟩ := h.tuple_inv
    have := renL_VR hg hn hl hh.toList
    have := VR.tuple' (VRl.toArray this)
    simpa using this
  | _ => simp only [renV] at e; exact ren1_VR hg hn e h
/-- Where an old block stands among the new ones. -/
def place (next : Nat) (ids : List Nat) (b : Nat) : Option Nat := match ids.findIdx? (Nat.beq b) with | some i => some (next + i) | none => bif Nat.blt b next then some b else none
theorem place_some {next : Nat} {ids : List Nat} {b d : Nat} (e : place next ids b = some d) : (∃ i, ids[i]? = some b ∧ d = next + i) ∨ (d = b ∧ b < next) := by
  unfold place at e
  split at e
  · next i hi =>
    injection e with e
    obtain ⟨h1, h2, _⟩ := List.findIdx?_eq_some_iff_getElem.1 hi
    have h3 : b = ids[i] := Nat.eq_of_beq_eq_true h2
    exact .inl ⟨i, by rw [List.getElem?_eq_getElem h1, ← h3], e.symm⟩
  · cases hb : Nat.blt b next with
    | false => rw [hb] at e; cases e
    | true => rw [hb] at e; injection e with e; rw [Nat.blt_eq] at hb; exact .inr ⟨e.symm, hb⟩

/-- A call's heap may be told anew: the old blocks as they were, and some plain new ones, in whatever order. -/
theorem CallOK.tidy {f : Nat} {args : List Value} {h h2 : Heap} {v u : Value} (hc : CallOK P f args h v h2) (ids : List Nat) (ls : List (List Value)) (hlen : ids.length = ls.length) (hnd : ids.Nodup)
    (hkeep : ∀ b, b < h.next → h2.get b = h.get b) (hnew : ∀ (i : Nat) (c : Nat) (l : List Value), ids[i]? = some c → ls[i]? = some l → h.next ≤ c ∧ h2.get c = some (.cells l) ∧ l.all flat1 = true) (hv : renV (place h.next ids) v = some u) :
    CallOK P f args h u (pushes h ls) := by
  intro ρ w args' H hargs
  refine (hc ρ w args' H hargs).mono ?_
  rintro e w' ⟨ρ', v', rfl, hvv, H', E⟩
  -- the relation of the new heap
  let ρ2 : Rho := ⟨fun b => if b < h.next then ρ b else (ids[b - h.next]?).bind fun c => ρ' c, ρ'.n⟩
  have old : ∀ b, b < h.next → ρ2 b = ρ b := fun b hb => if_pos hb
  have new : ∀ b, ¬ b < h.next → ρ2 b = (ids[b - h.next]?).bind fun c => ρ' c := fun b hb => if_neg hb
  have hin : ∀ b x, ρ b = some x → b < h.next := by
    intro b x e
    by_cases hb : b < h.next
    · exact hb
    · rw [H.fresh b (by omega)] at e; cases e
  have hle : Le ρ ρ2 := ⟨fun b x e => by rw [old b (hin b x e)]; exact e, fun b B base e => E.le.n b B base e⟩
  have hnone : ∀ b, b < h.next → ρ b = none → ρ' b = none := by
    intro b hb e
    cases hx : ρ' b with
    | none => rfl
    | some x => have := E.fresh _ _ _ hx e; omega
  have hsame : ∀ b, b < h.next → ρ' b = ρ b := by
    intro b hb
    cases e : ρ b with
    | none => exact hnone b hb e
    | some x => exact E.le.m _ _ e
  have hget : ∀ b x, (pushes h ls).get b = some x → ¬ b < h.next → ∃ c l, ids[b - h.next]? = some c ∧ ls[b - h.next]? = some l ∧ x = .cells l := by
    intro b x hx hb
    have hlt := Heap.get_lt hx
    rw [pushes_next] at hlt
    have h1 : b - h.next < ls.length := by omega
    have := pushes_new ls h (b - h.next) _ (List.getElem?_eq_getElem h1)
    rw [show h.next + (b - h.next) = b from by omega, hx] at this
    injection this with this
    exact ⟨_, _, List.getElem?_eq_getElem (by omega), List.getElem?_eq_getElem h1, this⟩
  refine ⟨ρ2, v', rfl, ?_, ⟨?_, ?_, ?_, ?_⟩, ?_⟩
  · refine renV_VR (ρ := ρ') (ρ2 := ρ2) ?_ rfl hv hvv
    intro b d x hp hx
    rcases place_some hp with ⟨i, hi, rfl⟩ | ⟨rfl, hb⟩
    · rw [new _ (by omega), show h.next + i - h.next = i from by omega, hi]; exact hx
    · rw [old _ hb, ← hsame _ hb]; exact hx
  · intro b B base x hx e
    by_cases hb : b < h.next
    · rw [old b hb] at e
      rw [pushes_old ls h b hb] at hx
      have h1 := H'.blk b B base x (by rw [hkeep b hb]; exact hx) (E.le.m _ _ e)
      exact (BR.back E.le h1 (H.blk b B base x hx e)).mono hle
    · obtain ⟨c, l, hi, hl, rfl⟩ := hget b x hx hb
      rw [new b hb, hi] at e
      obtain ⟨hc1, hc2, hc3⟩ := hnew _ c l hi hl
      obtain ⟨C, t, fr, a1, a2, a3, a3', a4⟩ := H'.blk c B base _ hc2 e
      refine ⟨C, t, fr, a1, a2, a3, a3', fun i v hiv => ?_⟩
      obtain ⟨v0, b1, b2⟩ := a4 i v hiv
      have hf : flat1 v = true := List.all_eq_true.1 hc3 v (List.mem_of_getElem? hiv)
      exact ⟨v0, b1, by rw [b2.eq_of_flat1 hf]; exact .fl hf⟩
  · intro b b' B base base' g1 g2 e1 e2
    have live : ∀ b, (pushes h ls).get b ≠ none → ∀ x, ρ2 b = some x → ∃ c, h2.get c ≠ none ∧ ρ' c = some x ∧ ((b < h.next ∧ c = b) ∨ (¬ b < h.next ∧ ids[b - h.next]? = some c ∧ h.next ≤ c)) := by
      intro b hg x hx
      by_cases hb : b < h.next
      · rw [pushes_old ls h b hb] at hg
        rw [old b hb] at hx
        exact ⟨b, by rw [hkeep b hb]; exact hg, E.le.m _ _ hx, .inl ⟨hb, rfl⟩⟩
      · cases hgx : (pushes h ls).get b with
        | none => exact absurd hgx hg
        | some y =>
          obtain ⟨c, l, hi, hl, rfl⟩ := hget b y hgx hb
          rw [new b hb, hi] at hx
          obtain ⟨hc1, hc2, _⟩ := hnew _ c l hi hl
          exact ⟨c, by rw [hc2]; simp, hx, .inr ⟨hb, hi, hc1⟩⟩
    obtain ⟨c, k1, k2, k3⟩ := live b g1 _ e1
    obtain ⟨c', k1', k2', k3'⟩ := live b' g2 _ e2
    have hcc := H'.inj c c' B base base' k1 k1' k2 k2'
    subst hcc
    rcases k3 with ⟨p1, p2⟩ | ⟨p1, p2, p3⟩ <;> rcases k3' with ⟨q1, q2⟩ | ⟨q1, q2, q3⟩
    · omega
    · omega
    · omega
    · have h1 := (List.getElem?_eq_some_iff.1 p2)
      have h2 := (List.getElem?_eq_some_iff.1 q2)
      obtain ⟨l1, m1⟩ := h1
      obtain ⟨l2, m2⟩ := h2
      have hp := List.pairwise_iff_getElem.1 hnd
      rcases Nat.lt_trichotomy (b - h.next) (b' - h.next) with hlt | heq | hgt
      · exact absurd (m1.trans m2.symm) (hp _ _ l1 l2 hlt)
      · omega
      · exact absurd (m2.trans m1.symm) (hp _ _ l2 l1 hgt)
  · intro b hb
    rw [pushes_next] at hb
    rw [new b (by omega), List.getElem?_eq_none (by omega)]; rfl
  · intro b B base e
    by_cases hb : b < h.next
    · rw [old b hb] at e; exact Nat.lt_of_lt_of_le (H.lt b B base e) E.size
    · rw [new b hb] at e
      obtain ⟨c, _, hc⟩ := Option.bind_eq_some_iff.1 e
      exact H'.lt c B base hc
  · exact {
      le := hle
      km := fun b x e g => by have hb := hin b x e; rw [pushes_old ls h b hb] at g; exact g
      frame := E.frame
      size := E.size
      os := E.os
      tape := E.tape
      output := E.output
      new := fun b B base e1 e2 => by
        by_cases hb : b < h.next
        · rw [old b hb, e2] at e1; cases e1
        · rw [new b hb] at e1
          obtain ⟨c, hi, hc⟩ := Option.bind_eq_some_iff.1 e1
          have hlt : b - h.next < ls.length := by have := (List.getElem?_eq_some_iff.1 hi).1; omega
          obtain ⟨hc1, _, _⟩ := hnew _ c _ hi (List.getElem?_eq_getElem hlt)
          exact E.new c B base hc (H.fresh c hc1)
      next := by rw [pushes_next]; omega
      fresh := fun b B base e1 e2 => by
        by_cases hb : b < h.next
        · rw [old b hb, e2] at e1; cases e1
        · omega
      ghost := fun b hb _ => pushes_old ls h b hb
      fro := E.fro }
theorem CallOK.forget {f : Nat} {args : List Value} {h h2 : Heap} {v : Value} (hc : CallOK P f args h v h2) (hkeep : ∀ b, b < h.next → h2.get b = h.get b) (hv : renV (place h.next []) v = some v) : CallOK P f args h v h :=
  CallOK.tidy hc [] [] rfl List.nodup_nil hkeep (fun i c l e => by simp at e) hv
end Go.AM
/- Rules for reckoning with letters: regions one operation after the other. -/
set_option linter.all false
namespace Go.AM
open Go
variable {P : Program} {prim : Prim}

def runL (P : Program) (prim : Prim) (rec : Rec) (ops : Array Oper) : List Oper → A → Heap → Option (A × Heap)
  | [], a, h => some (a, h)
  | o :: l, a, h => (bif awanted ops a o then (ostep P prim rec o a h).bind fun q => (a.put o.dst q.1).map fun a' => (a', q.2) else (a.put o.dst undef).map fun a' => (a', h)).bind fun q => runL P prim rec ops l q.1 q.2
theorem runL_eq (ops : Array Oper) (rec : Rec) (a : A) (h : Heap) : runL P prim rec ops ops.toList a h = runOps P prim rec ops (List.range ops.size) a h := by
  rw [← regC_all]
  have key : ∀ (l : List Oper) (a : A) (h : Heap), runL P prim rec ops l a h = (regC P prim ops l).run rec a h := by
    intro l
    induction l with
    | nil => intro a h; rfl
    | cons o l ih =>
      intro a h
      have h1 := rnC_eq P prim ops rec o a h
      simp only [runL, regC]
      have ih' := ih
      generalize rnC P prim ops o = c1 at h1
      generalize regC P prim ops l = c2 at ih'
      obtain ⟨f⟩ := c1
      obtain ⟨g⟩ := c2
      simp only at h1 ih' ⊢
      rw [h1]
      cases awanted ops a o with
      | true =>
        simp only [cond_true]
        cases ostep P prim rec o a h with
        | none => rfl
        | some q =>
          simp only [Option.bind_some]
          cases a.put o.dst q.1 with
          | none => rfl
          | some a' => exact ih' _ _
      | false =>
        simp only [cond_false]
        cases a.put o.dst undef with
        | none => rfl
        | some a' => exact ih' _ _
  exact key _ _ _
section rules
variable {ro : Option Nat} {a a' : A} {h h' : Heap} {e : AX} {x y : Code}
theorem Runs.region_seq {i : Nat} {ops : Array Oper} (hx : ∃ q, runL P prim (AM.run P prim 0) ops ops.toList a h = some q ∧ Runs P prim ro y q.1 q.2 e a' h') : Runs P prim ro (.seq (.region i ops false) y) a h e a' h' := by
  obtain ⟨⟨a1, h1⟩, hq, hy⟩ := hx
  rw [runL_eq] at hq
  exact Runs.seq (Runs.region 0 hq) hy
theorem Runs.region_one {i : Nat} {ops : Array Oper} (hx : ∃ q, runL P prim (AM.run P prim 0) ops ops.toList a h = some q ∧ e = .normal ∧ a' = q.1 ∧ h' = q.2) : Runs P prim ro (.region i ops false) a h e a' h' := by
  obtain ⟨⟨a1, h1⟩, hq, rfl, rfl, rfl⟩ := hx
  rw [runL_eq] at hq
  exact Runs.region 0 hq
end rules

/-! ### What one operation does, for simp -/
section one
variable {ops : Array Oper} {rec : Rec} {a : A} {h : Heap} {dst : Option Tmp} {ty : TypeId} {pos : String} {after : Array Edge} {l : List Oper}
theorem runL_nil : runL P prim rec ops [] a h = some (a, h) := rfl
theorem runL_cons {op : Op} : runL P prim rec ops (⟨dst, op, ty, pos, after, none⟩ :: l) a h = (ostep P prim rec ⟨dst, op, ty, pos, after, none⟩ a h).bind fun q => (a.put dst q.1).bind fun a' => runL P prim rec ops l a' q.2 := by
  simp only [runL, awanted, cond_true]
  cases ostep P prim rec ⟨dst, op, ty, pos, after, none⟩ a h with
  | none => rfl
  | some q =>
    simp only [Option.bind_some]
    cases a.put dst q.1 <;> rfl
theorem runL_guard {op : Op} {j : Nat} {want : Bool} : runL P prim rec ops (⟨dst, op, ty, pos, after, some (j, want)⟩ :: l) a h =
    match ayielded ops a j with
    | some b => bif b == want then (ostep P prim rec ⟨dst, op, ty, pos, after, some (j, want)⟩ a h).bind fun q => (a.put dst q.1).bind fun a' => runL P prim rec ops l a' q.2 else (a.put dst undef).bind fun a' => runL P prim rec ops l a' h
    | none => (a.put dst undef).bind fun a' => runL P prim rec ops l a' h := by
  simp only [runL, awanted]
  cases ayielded ops a j with
  | none => simp only [cond_false]; cases a.put dst undef <;> rfl
  | some b =>
    simp only
    cases (b == want) with
    | true =>
      simp only [cond_true]
      cases ostep P prim rec ⟨dst, op, ty, pos, after, some (j, want)⟩ a h with
      | none => rfl
      | some q => simp only [Option.bind_some]; cases a.put dst q.1 <;> rfl
    | false => simp only [cond_false]; cases a.put dst undef <;> rfl
variable {g : Option (Nat × Bool)}
theorem ostep_move {x : Operand} : ostep P prim rec ⟨dst, .move x, ty, pos, after, g⟩ a h = (a.eval x).map (·, h) := by
  rw [ostep_op _ _ _ _ _ _ rfl]; rfl
theorem ostep_assign {x : Operand} : ostep P prim rec ⟨dst, .assign x, ty, pos, after, g⟩ a h = (a.eval x).map (·, h) := by
  rw [ostep_op _ _ _ _ _ _ rfl]; rfl
theorem ostep_pick {c x y : Operand} : ostep P prim rec ⟨dst, .pick c x y, ty, pos, after, g⟩ a h = (a.eval c).bind fun c => match c with | .bool b => (bif b then a.eval x else a.eval y).map (·, h) | _ => none := by
  rw [ostep_op _ _ _ _ _ _ rfl]; rfl
theorem ostep_load {t : TypeId} {x : Operand} : ostep P prim rec ⟨dst, .load t x, ty, pos, after, g⟩ a h = (a.eval x).bind fun v => (aload P t v h).map (·, h) := by
  rw [ostep_op _ _ _ _ _ _ rfl]; rfl
theorem ostep_store {t : TypeId} {x y : Operand} : ostep P prim rec ⟨dst, .store t x y, ty, pos, after, g⟩ a h = (a.eval x).bind fun v => (a.eval y).bind fun u => (astore P t v u h).map (undef, ·) := by
  rw [ostep_op _ _ _ _ _ _ rfl]; rfl
theorem ostep_binOp {op : BinOp} {t z : TypeId} {x y : Operand} : ostep P prim rec ⟨dst, .binOp op t x y z, ty, pos, after, g⟩ a h = (a.eval x).bind fun v => (a.eval y).bind fun u => ((binC P op t x y).run v u).map (·, h) := by
  rw [ostep_op _ _ _ _ _ _ rfl]
  simp only [binC_eq]; rfl
theorem ostep_indexAddr {t : TypeId} {x y : Operand} : ostep P prim rec ⟨dst, .indexAddr t x y, ty, pos, after, g⟩ a h = (a.eval x).bind fun v => (a.eval y).bind fun u => (aindexAddr P t v u).map (·, h) := by
  rw [ostep_op _ _ _ _ _ _ rfl]; rfl
theorem ostep_builtin {b : Builtin} {args : Array Operand} {ats : Array TypeId} : ostep P prim rec ⟨dst, .call ⟨.builtin b, args, ats⟩, ty, pos, after, g⟩ a h = (aevs a args.toList).bind fun l => abuiltin P b ats ty l h := by
  rw [ostep_op _ _ _ _ _ _ rfl]; rfl
end one
theorem eval_tmp {tr : Tr Value} {sz : Nat} {ms : List Nat} {t : Nat} : (A.mk tr sz ms).eval (.tmp t) = some ((tr.get t).getD undef) := rfl
theorem eval_int {a : A} {k : IntKind} {n : Int} : a.eval (.const (.int k n)) = some (.int k n) := rfl
theorem eval_bool {a : A} {b : Bool} : a.eval (.const (.bool b)) = some (.bool b) := rfl
theorem put_some {tr : Tr Value} {sz : Nat} {ms : List Nat} {d : Nat} {v : Value} : (A.mk tr sz ms).put (some d) v = bif Nat.blt d sz then some ⟨tr.set d (some v), sz, ms⟩ else none := rfl
theorem put_lt {tr : Tr Value} {sz : Nat} {ms : List Nat} {d : Nat} {v : Value} (h : d < sz) : (A.mk tr sz ms).put (some d) v = some ⟨tr.set d (some v), sz, ms⟩ := by
  rw [put_some, show Nat.blt d sz = true from by rw [Nat.blt_eq]; exact h]; rfl
theorem init_eq {fn : Func} {args : List Value} {n : Nat} (h : fn.ntmps = n) (h2 : args.length ≤ n) : initA fn args = ⟨ofList args, n, []⟩ := by
  unfold initA
  rw [h, show args.length + (n - args.length) = n from by omega]
theorem ints_int {f : IntKind → Int → Int → Value} {g : Value → Value → Option Value} {k : IntKind} {a b : Int} : ints f g (.int k a) (.int k b) = some (f k a b) := by
  simp [ints]
theorem put_none {a : A} {v : Value} : a.put none v = some a := rfl
end Go.AM
/- Regions whose order is drawn and that only look: they run as in the plan's order. -/
set_option linter.all false
namespace Go.AM
open Go
variable {P : Program} {prim : Prim}

/-- Nothing but looking. -/
def lookers (ops : Array Oper) : Bool := ops.toList.all fun o => Nat.ble (kindOf o) 1
theorem lookers_kind {ops : Array Oper} (h : lookers ops = true) {j : Nat} {o : Oper} (ho : ops[j]? = some o) : kindOf o = 0 ∨ kindOf o = 1 := by
  have hm : o ∈ ops.toList := by rw [Array.mem_toList_iff]; exact Array.mem_of_getElem? ho
  have := Nat.le_of_ble_eq_true (List.all_eq_true.1 h o hm)
  omega
theorem ocall_looker {rec : Rec} {o : Oper} {a : A} {h : Heap} (k : kindOf o = 0 ∨ kindOf o = 1) : ocall P prim rec o a h = none := by
  obtain ⟨dst, op, ty, pos, after, guard⟩ := o
  unfold ocall
  cases op <;> try rfl
  case call c =>
    obtain ⟨callee, args, ats⟩ := c
    cases callee <;> first | rfl | (simp [kindOf] at k)
theorem dloop_lookers {ops : Array Oper} {ms : List Nat} {rec : Rec} (hl : lookers ops = true) : ∀ (σ : List Nat) (a : A) (h : Heap) (rd : List (Nat × Oper × A × Value)) (q : A × Heap), (∀ j ∈ σ, ∃ o, ops[j]? = some o) → runOps P prim rec ops σ a h = some q →
    ∃ rd', dloop P prim rec ops ms σ ⟨a, h, none, rd⟩ = some ⟨q.1, q.2, none, rd'⟩
  | [], a, h, rd, q, _, e => by
    simp only [runOps, Option.some.injEq] at e
    subst e
    exact ⟨rd, rfl⟩
  | j :: σ, a, h, rd, q, hj, e => by
    obtain ⟨o, ho⟩ := hj j (by simp)
    have hk := lookers_kind hl ho
    have hc : ∀ a h, ostep P prim rec o a h = aop P o a h := fun a h => ostep_op P prim rec o a h (ocall_looker hk)
    simp only [runOps, ho] at e
    have ih := fun a h rd => dloop_lookers (ms := ms) (rec := rec) hl σ a h rd q (fun i hi => hj i (by simp [hi]))
    simp only [dloop, dstep, ho, Option.bind_some]
    cases hw : awanted ops a o with
    | false =>
      rw [hw] at e
      simp only [cond_false, Option.bind_eq_some_iff] at e
      obtain ⟨a', hp, e⟩ := e
      obtain ⟨rd', hr⟩ := ih a' h rd e
      exact ⟨rd', by simp only [cond_false, hp, Option.map_some, Option.bind_some, hr]⟩
    | true =>
      rw [hw] at e
      simp only [cond_true, Option.bind_eq_some_iff] at e
      obtain ⟨⟨v, h'⟩, hs, a', hp, e⟩ := e
      rw [hc] at hs
      simp only at hp e
      rcases hk with hk | hk
      · obtain ⟨rfl, _⟩ := op_pure hk hs
        obtain ⟨rd', hr⟩ := ih a' h' rd e
        have h0 : Nat.beq (kindOf o) 0 = true := by rw [hk]; rfl
        exact ⟨rd', by simp only [h0, cond_true, hs, hp, Option.map_some, Option.bind_some, hr]⟩
      · obtain ⟨rfl, _⟩ := op_read hk hs
        obtain ⟨rd', hr⟩ := ih a' h' ((j, o, a, v) :: rd) e
        have h0 : Nat.beq (kindOf o) 0 = false := by rw [hk]; rfl
        have h1 : Nat.beq (kindOf o) 1 = true := by rw [hk]; rfl
        exact ⟨rd', by simp only [h0, h1, cond_true, cond_false, okLast, hs, hp, Option.map_some, Option.bind_some, hr]⟩
/-- The operations in the plan's order. -/
def inOrder (ops : Array Oper) : List Oper := (orderOf ops).filterMap fun j => ops[j]?
theorem runOps_inOrder {ops : Array Oper} {rec : Rec} : ∀ (σ : List Nat) (a : A) (h : Heap), runL P prim rec ops (σ.filterMap fun j => ops[j]?) a h = runOps P prim rec ops σ a h
  | [], a, h => rfl
  | j :: σ, a, h => by
    simp only [List.filterMap_cons, runOps]
    cases ho : ops[j]? with
    | none => exact runOps_inOrder σ a h
    | some o =>
      simp only [runL]
      cases awanted ops a o with
      | true =>
        simp only [cond_true]
        cases ostep P prim rec o a h with
        | none => rfl
        | some q =>
          simp only [Option.bind_some]
          cases a.put o.dst q.1 with
          | none => rfl
          | some a' => exact runOps_inOrder σ _ _
      | false =>
        simp only [cond_false]
        cases a.put o.dst undef with
        | none => rfl
        | some a' => exact runOps_inOrder σ _ _
theorem drawnF_lookers {ops : Array Oper} {rec : Rec} {a : A} {h : Heap} {q : A × Heap} (hp : planOK ops = true) (hl : lookers ops = true) (e : runL P prim rec ops (inOrder ops) a h = some q) : drawnF P prim ops rec a h = some q := by
  unfold inOrder at e
  rw [runOps_inOrder] at e
  unfold drawnF
  rw [hp]
  simp only [cond_true]
  have hσ : OrdOK ops (orderOf ops) := by rw [planOK, Bool.and_eq_true] at hp; exact ordGo_ok hp.1
  have hj : ∀ j ∈ orderOf ops, ∃ o, ops[j]? = some o := by
    intro j hj
    obtain ⟨σ1, σ2, hs⟩ := List.append_of_mem hj
    obtain ⟨o, ho, _⟩ := hσ.pred σ1 j σ2 hs
    exact ⟨o, ho⟩
  obtain ⟨rd', hr⟩ := dloop_lookers (ms := masks ops.toList) hl (orderOf ops) a h [] q hj e
  rw [hr]; rfl
section rules
variable {ro : Option Nat} {a a' : A} {h h' : Heap} {e : AX} {y : Code}
theorem Runs.drawn_seq {i : Nat} {ops : Array Oper} (hp : planOK ops = true) (hl : lookers ops = true) (hx : ∃ q, runL P prim (AM.run P prim 0) ops (inOrder ops) a h = some q ∧ Runs P prim ro y q.1 q.2 e a' h') : Runs P prim ro (.seq (.region i ops true) y) a h e a' h' := by
  obtain ⟨⟨a1, h1⟩, hq, hy⟩ := hx
  exact Runs.seq (Runs.drawn 0 (drawnF_lookers hp hl hq)) hy
theorem Runs.drawn_one {i : Nat} {ops : Array Oper} (hp : planOK ops = true) (hl : lookers ops = true) (hx : ∃ q, runL P prim (AM.run P prim 0) ops (inOrder ops) a h = some q ∧ e = .normal ∧ a' = q.1 ∧ h' = q.2) : Runs P prim ro (.region i ops true) a h e a' h' := by
  obtain ⟨⟨a1, h1⟩, hq, rfl, rfl, rfl⟩ := hx
  exact Runs.drawn 0 (drawnF_lookers hp hl hq)
end rules
end Go.AM
/- One operation after the other, by hand. -/
set_option linter.all false
namespace Go.AM
open Go
variable {P : Program} {prim : Prim} {rec : Rec} {ops : Array Oper} {a a1 : A} {h h1 : Heap} {dst : Option Tmp} {op : Op} {ty : TypeId} {pos : String} {after : Array Edge} {l : List Oper} {R : A × Heap → Prop} {v : Value} {j : Nat} {want : Bool}
theorem st_end (k : R (a, h)) : ∃ q, runL P prim rec ops [] a h = some q ∧ R q := ⟨_, rfl, k⟩
theorem st (e : ostep P prim rec ⟨dst, op, ty, pos, after, none⟩ a h = some (v, h1)) (e2 : a.put dst v = some a1) (k : ∃ q, runL P prim rec ops l a1 h1 = some q ∧ R q) : ∃ q, runL P prim rec ops (⟨dst, op, ty, pos, after, none⟩ :: l) a h = some q ∧ R q := by
  rw [runL_cons, e]
  simp only [Option.bind_some, e2]
  exact k
theorem st_yes (y : ayielded ops a j = some want) (e : ostep P prim rec ⟨dst, op, ty, pos, after, some (j, want)⟩ a h = some (v, h1)) (e2 : a.put dst v = some a1) (k : ∃ q, runL P prim rec ops l a1 h1 = some q ∧ R q) : ∃ q, runL P prim rec ops (⟨dst, op, ty, pos, after, some (j, want)⟩ :: l) a h = some q ∧ R q := by
  rw [runL_guard, y]
  simp only [beq_self_eq_true, cond_true, e, Option.bind_some, e2]
  exact k
theorem st_no (y : ayielded ops a j = some (!want)) (e2 : a.put dst undef = some a1) (k : ∃ q, runL P prim rec ops l a1 h = some q ∧ R q) : ∃ q, runL P prim rec ops (⟨dst, op, ty, pos, after, some (j, want)⟩ :: l) a h = some q ∧ R q := by
  rw [runL_guard, y]
  have : ((!want) == want) = false := by cases want <;> rfl
  simp only [this, cond_false, Option.bind_some, e2]
  exact k
theorem yld {t : Nat} {b : Bool} {o : Oper} (h1 : ops[j]? = some o) (h2 : o.dst = some t) (h3 : (a.tr.get t).getD undef = .bool b) : ayielded ops a j = some b := by
  unfold ayielded
  rw [h1]
  simp only [Option.bind_some, h2, h3, boolOf]
/-- The way into code. -/
def cl : Code → Code | .seq x _ => x | c => c
def cr : Code → Code | .seq _ y => y | c => c
def ci : Code → Code | .block _ x => x | .loop x => x | c => c
def ct : Code → Code | .cond _ x _ => x | c => c
def ce : Code → Code | .cond _ _ y => y | c => c
def bodyOf (f : Func) : Code := f.body.getD .skip
theorem Runs.block_exit {ro : Option Nat} {x : Code} {i : Nat} {a a' : A} {h h' : Heap} (hx : Runs P prim ro x a h (.exit i) a' h') : Runs P prim ro (.block i x) a h .normal a' h' := by
  have := Runs.block (i := i) hx
  have e : inBlk i (.exit i) = .normal := by simp [inBlk]
  rw [e] at this; exact this
theorem Runs.block_ret {ro : Option Nat} {x : Code} {i : Nat} {a a' : A} {h h' : Heap} (hx : Runs P prim ro x a h .ret a' h') : Runs P prim ro (.block i x) a h .ret a' h' := Runs.block (i := i) hx
theorem Runs.block_normal {ro : Option Nat} {x : Code} {i : Nat} {a a' : A} {h h' : Heap} (hx : Runs P prim ro x a h .normal a' h') : Runs P prim ro (.block i x) a h .normal a' h' := Runs.block (i := i) hx
end Go.AM
