/- Regions whose order is drawn, and calls as a whole. -/
import Derived.Test.YtekhhjcbjaegeaaAM20
set_option linter.all false
namespace Go.AM
open Go
variable {P : Program} {prim : Prim} {rec : Rec} {ops : Array Oper}

theorem drawn_any {T : List Stp} {s0 sN : DS} {ρ0 : Rho} {w0 : World} (hstep : ∀ o a h v h', ostep P prim rec o a h = some (v, h') → StepOK P o a h v h') (hrel : Rel ops) (hlast : s0.last = none) (hreads : s0.reads = [])
    (hT : Tra P prim rec ops s0 T sN) (hσ : OrdOK ops (T.map (·.j))) (H0 : HR ρ0 s0.h w0) (R : Option Nat) (Q : Exit → Act → World → Prop)
    (k : ∀ ρ' b' w', HR ρ' sN.h w' → AR ρ' sN.a b' → Ext ρ0 s0.h w0 ρ' sN.h w' → Q .normal b' w') :
    ∀ (fuel : Nat) (listed : Array Bool) (ρ : Rho) (w : World) (b : Act), listed.size = ops.size → T.countP (fun t => !lst listed t.j) ≤ fuel →
      Inv P ops T sN.h s0.a ρ0 s0.h w0 (lst listed) ρ w b → wpAnyIn (FF R) 0 P .any ops Q fuel listed b w := by
  have done : ∀ (listed : Array Bool) (ρ : Rho) (w : World) (b : Act), (∀ t ∈ T, lst listed t.j = true) → Inv P ops T sN.h s0.a ρ0 s0.h w0 (lst listed) ρ w b → Q .normal b w := by
    intro listed ρ w b hall I
    have hH : hAt (lst listed) sN.h T = sN.h := by
      have := hAt_skip (S := lst listed) (hend := sN.h) (T1 := T) (T2 := []) (fun t ht _ => hall t ht)
      rw [List.append_nil] at this
      rw [this]; rfl
    have h1 := I.hr
    have h2 := I.ext
    rw [hH] at h1 h2
    refine k ρ b w h1 (I.ar.of_get hT.tmps.1 hT.tmps.2.1 (fun x => ?_)) h2
    rw [hT.tmps.2.2, curT_get]
    exact curG_congr (fun t ht _ => (hall t ht).symm)
  -- an operation that is not listed: one of them is due
  have due : ∀ (listed : Array Bool), listed.size = ops.size → Region.ready .any ops listed = [] → ∀ t ∈ T, lst listed t.j = true := by
    intro listed hsz hr
    have key : ∀ (T2 T1 : List Stp), T = T1 ++ T2 → (∀ t ∈ T1, lst listed t.j = true) → ∀ t ∈ T2, lst listed t.j = true := by
      intro T2
      induction T2 with
      | nil => intro _ _ _ t ht; cases ht
      | cons t T2 ih =>
        intro T1 e' hprev
        have ht : lst listed t.j = true := by
          cases hl : lst listed t.j with
          | true => rfl
          | false =>
            exfalso
            obtain ⟨o, ho, hp⟩ := hσ.pred (T1.map (·.j)) t.j (T2.map (·.j)) (by rw [e']; simp)
            have hlt : t.j < listed.size := by rw [hsz]; exact (Array.getElem?_eq_some_iff.1 ho).1
            have : t.j ∈ Region.ready .any ops listed := by
              rw [mem_ready]
              refine ⟨?_, o, ho, fun e he hb => ?_⟩
              · unfold lst at hl
                simp only [Array.getD_eq_getD_getElem?, Array.getElem?_eq_getElem hlt, Option.getD_some] at hl ⊢
                exact hl
              · obtain ⟨t', ht', ej⟩ := List.mem_map.1 (hp e he hb)
                rw [← ej]; exact hprev t' ht'
            rw [hr] at this; cases this
        intro u hu
        rcases List.mem_cons.1 hu with rfl | hu
        · exact ht
        · refine ih (T1 ++ [t]) (by rw [e']; simp) (fun v hv => ?_) u hu
          rcases List.mem_append.1 hv with h | h
          · exact hprev v h
          · simp only [List.mem_singleton] at h; rw [h]; exact ht
    exact fun t ht => key T [] (by simp) (fun _ h => by cases h) t ht
  intro fuel
  induction fuel with
  | zero =>
    intro listed ρ w b hsz hc I
    have hall : ∀ t ∈ T, lst listed t.j = true := by
      have := List.countP_eq_zero.1 (Nat.le_zero.1 hc)
      intro t ht
      simpa using this t ht
    refine ⟨?_, done listed ρ w b hall I⟩
    apply List.eq_nil_iff_forall_not_mem.2
    intro j hj
    obtain ⟨h1, o, ho, _⟩ := mem_ready.1 hj
    have hlt : j < ops.size := (Array.getElem?_eq_some_iff.1 ho).1
    obtain ⟨t, ht, rfl⟩ := List.mem_map.1 (hσ.all j hlt)
    have := hall t ht
    unfold lst at this
    simp only [Array.getD_eq_getD_getElem?, Array.getElem?_eq_getElem (hsz ▸ hlt), Option.getD_some] at this h1
    rw [this] at h1; cases h1
  | succ fuel ih =>
    intro listed ρ w b hsz hc I
    refine ⟨fun hr => done listed ρ w b (due listed hsz hr) I, fun j hj => ?_⟩
    obtain ⟨h1, o, ho, hp⟩ := mem_ready.1 hj
    have hlt : j < ops.size := (Array.getElem?_eq_some_iff.1 ho).1
    have hS : lst listed j = false := by
      unfold lst
      simp only [Array.getD_eq_getD_getElem?, Array.getElem?_eq_getElem (hsz ▸ hlt), Option.getD_some] at h1 ⊢
      exact h1
    obtain ⟨t, ht, rfl⟩ := List.mem_map.1 (hσ.all j hlt)
    obtain ⟨T1, T2, e⟩ := List.append_of_mem ht
    have hto := hT.op t ht
    rw [ho] at hto; injection hto with hto; subst hto
    have hset : ∀ i, lst (listed.setIfInBounds t.j true) i = if i = t.j then true else lst listed i := fun i => lst_set (hsz ▸ hlt)
    refine inv_step hstep hrel hlast hreads hT hσ H0 e I hS hp hset R Q _ ?_
    intro ρ' w' b' I'
    refine ih _ ρ' w' b' (by simp [hsz]) ?_ I'
    have hle : ∀ U : List Stp, U.countP (fun t' => !lst (listed.setIfInBounds t.j true) t'.j) ≤ U.countP (fun t' => !lst listed t'.j) := by
      intro U
      refine List.countP_mono_left (fun x _ hx => ?_)
      rw [hset] at hx
      split at hx
      · cases hx
      · exact hx
    have h1 := hle T1
    have h2 := hle T2
    rw [e, List.countP_append, List.countP_cons] at hc ⊢
    have e1 : (!lst (listed.setIfInBounds t.j true) t.j) = false := by rw [hset, if_pos rfl]; rfl
    have e2 : (!lst listed t.j) = true := by rw [hS]; rfl
    rw [e1]; rw [e2] at hc
    simp only [if_true, Bool.false_eq_true, if_false] at hc ⊢
    omega

theorem drawnF_ok {prim : Prim} (hm : P.follows .mixedOrders = true) (hN : NamesOK P) (hP : PrimOK P prim) (hbody : ∀ f, prim f ≠ none → ∃ (fn : Func) (c : Code), P.funcs[f]? = some fn ∧ fn.body = some c) : DrawnOK P (drawnF P prim) := by
  intro rec hR ops a h a' h' e ro id R ρ w b Q H r hro k
  unfold drawnF at e
  cases hpl : planOK ops with
  | false => rw [hpl] at e; cases e
  | true =>
    rw [hpl] at e
    simp only [cond_true, Option.map_eq_some_iff, Prod.mk.injEq] at e
    obtain ⟨sN, hloop, rfl, rfl⟩ := e
    obtain ⟨T, hTσ, hT⟩ := dloop_ok hloop
    rw [planOK, Bool.and_eq_true] at hpl
    have hσ : OrdOK ops (T.map (·.j)) := by rw [hTσ]; exact ordGo_ok hpl.1
    have hrel := pairs_ok hpl.2
    obtain ⟨H1, E1⟩ := H.same (w' := { w with drawn := w.drawn + 1 }) rfl rfl rfl rfl
    have hS0 : ∀ i, lst (Array.replicate ops.size false) i = false := by
      intro i
      unfold lst
      simp only [Array.getD_eq_getD_getElem?, Array.getElem?_replicate]
      split <;> rfl
    refine wpIn_region_any hm ?_
    refine drawn_any (s0 := ⟨a, h, none, []⟩) (ρ0 := ρ) (w0 := { w with drawn := w.drawn + 1 }) (fun o a h v h' e => step_ok hN hP hbody hR e) hrel rfl rfl hT hσ H1 R Q ?_ ops.size _ ρ _ b (by simp) ?_ ?_
    · intro ρ' b' w' x y z
      exact k ρ' b' w' x y (E1.trans z)
    · have hlen : T.length = (T.map (·.j)).length := by simp
      refine Nat.le_trans List.countP_le_length ?_
      rw [hlen]
      have hsub : ∀ i ∈ T.map (·.j), i < ops.size := by
        intro i hi
        obtain ⟨t, ht, rfl⟩ := List.mem_map.1 hi
        exact (Array.getElem?_eq_some_iff.1 (hT.op t ht)).1
      have := (hσ.nodup).length_le_of_subset (l₂ := List.range ops.size) (fun i hi => List.mem_range.2 (hsub i hi))
      simpa using this
    · have hseg := hT.seg (S := lst (Array.replicate ops.size false)) (fun t _ _ => hS0 _)
      refine ⟨fun j o hj => (by rw [hS0] at hj; cases hj), H1.grown hseg, r.of_get rfl rfl (fun x => ?_), (Ext.refl _ _ _).grown H1 hseg, ?_⟩
      · rw [curT_get]
        exact curG_none (fun t _ _ => hS0 _)
      · intro u hu hku _
        refine ⟨H1.fresh _ (hT.mem_next u hu).1, fun hn => ?_⟩
        exact hT.fresh_block (fun t _ _ => hS0 _) hu hku hn

/-! ### Calls as a whole -/
/-- What is asked of a program and of the functions that are taken as they are. -/
structure Fit (P : Program) (pm : Prim) : Prop where
  mixed : P.follows .mixedOrders = true
  names : NamesOK P
  pr : PrimOK P pm
  body : ∀ f, pm f ≠ none → ∃ (fn : Func) (c : Code), P.funcs[f]? = some fn ∧ fn.body = some c
def run (P : Program) (prim : Prim) (n : Nat) : Rec := exec P prim (drawnF P prim) n
def call (P : Program) (prim : Prim) (n : Nat) (f : Nat) (args : List Value) (h : Heap) : Option (Value × Heap) := callF P prim (run P prim n) f args h
theorem call_sound {prim : Prim} (hF : Fit P prim) {n f : Nat} {args : List Value} {h h' : Heap} {v : Value} (e : call P prim n f args h = some (v, h')) : CallOK P f args h v h' :=
  call_ok hF.pr (exec_ok hF.names hF.pr hF.body (drawnF_ok hF.mixed hF.names hF.pr hF.body) n).1 f args h v h' e
def noPrim : Prim := fun _ => none
theorem noPrim_fit (hm : P.follows .mixedOrders = true) (hN : NamesOK P) : Fit P noPrim := ⟨hm, hN, fun f g h => (by simp [noPrim] at h), fun f h => absurd rfl h⟩
def Heap.empty : Heap := ⟨0, .nil⟩
def Rho.empty : Rho := ⟨fun _ => none, fun _ => 0⟩
theorem HR.empty (w : World) : HR Rho.empty Heap.empty w :=
  ⟨fun b B base x hx e => (by cases e), fun b b' B base base' h1 h2 e1 e2 => (by cases e1), fun b hb => rfl, fun b B base e => (by cases e)⟩

/-- What lies in the first blocks of a world lies there in the other. -/
def Kept (w w' : World) : Prop := w.heap.size ≤ w'.heap.size ∧ (∀ B, B < w.heap.size → w'.heap[B]? = w.heap[B]?) ∧ w'.os = w.os ∧ w'.tape = w.tape ∧ w'.output = w.output ∧ ∀ a : Addr, a.block < w.heap.size → w'.frozen? a = w.frozen? a
theorem Ext.kept {w w' : World} {ρ' : Rho} {h' : Heap} (E : Ext Rho.empty Heap.empty w ρ' h' w') : Kept w w' := ⟨E.size, fun B hB => E.frame B hB (fun b base _ e => (by cases e)), E.os, E.tape, E.output, E.fro⟩

/-- A call on plain values, out of nothing: what it hands back, and what lay ahead lies there still. -/
theorem call_flat {prim : Prim} (hF : Fit P prim) {n f : Nat} {args : List Value} {v : Value} {h' : Heap} (e : call P prim n f args Heap.empty = some (v, h')) (ha : args.all flat1 = true) (hv : flat v = true) (w : World) :
    CallsIn Fence.wide 0 P f args.toArray w fun e w' => e = .returned v ∧ Kept w w' := by
  have h := call_sound hF e Rho.empty w args (HR.empty w) (VRl_refl_flat ha)
  have h' : CallsIn Fence.wide 0 P f args.toArray w _ := h
  refine h'.mono ?_
  rintro e' w' ⟨ρ', v', rfl, hvv, _, hE⟩
  exact ⟨by rw [hvv.eq_of_flat hv], hE.kept⟩
/-- Such a call may be taken as it is. -/
theorem prim_flat {f : Nat} {args : List Value} {v : Value} (hv : flat v = true) (ha : args.all flat1 = true) (hc : ∀ w, CallsIn Fence.wide 0 P f args.toArray w fun e w' => e = .returned v ∧ Kept w w') (h : Heap) : CallOK P f args h v h := by
  intro ρ w args' H hargs
  rw [hargs.eq_of_flat ha]
  have h' : CallsIn (FF none) 0 P f args.toArray w _ := hc w
  refine h'.mono ?_
  rintro e' w' ⟨rfl, k1, k2, k3, k4, k5, k6⟩
  refine ⟨ρ, v, rfl, VR_refl_flat hv, ⟨?_, H.inj, H.fresh, fun b B base e => Nat.lt_of_lt_of_le (H.lt b B base e) k1⟩, ?_⟩
  · intro b B base x hx e
    rw [k2 B (H.lt b B base e)]
    exact H.blk b B base x hx e
  · exact ⟨Le.refl _, fun _ _ _ e => e, fun B hB _ => k2 B hB, k1, k3, k4, k5, fun b B base e e' => (by rw [e] at e'; cases e'), Nat.le_refl _, fun b B base e e' => (by rw [e] at e'; cases e'), fun _ _ _ => rfl, k6⟩
end Go.AM
