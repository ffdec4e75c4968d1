/- Regions whose order is drawn: whatever the order, the run is that of the plan. -/
import Derived.Test.YtekhhjcbjaegeaaAM19
set_option linter.all false
namespace Go.AM
open Go
variable {P : Program} {prim : Prim} {rec : Rec} {ops : Array Oper}

theorem AR.of_get {ρ : Rho} {a a' : A} {b : Act} (r : AR ρ a b) (h1 : a'.size = a.size) (h2 : a'.marks = a.marks) (h3 : ∀ x, a'.tr.get x = a.tr.get x) : AR ρ a' b :=
  ⟨by rw [r.size, h1], fun x => by rw [h3]; exact r.tmps x, by rw [h2]; exact r.marks⟩
theorem Tra.hAt_next {T : List Stp} {s s' : DS} {S : Nat → Bool} (h : Tra P prim rec ops s T s') : s.h.next ≤ (hAt S s'.h T).next := by
  induction h with
  | nil => exact Nat.le_refl _
  | @cons s s1 s2 t T hs _ ih =>
    simp only [hAt]
    cases (Nat.beq t.k 3 && !S t.j) with
    | true => rw [cond_true, hs.h]; exact Nat.le_refl _
    | false => rw [cond_false]; exact Nat.le_trans hs.next ih
theorem Tra.mem_next {T : List Stp} {s s' : DS} (h : Tra P prim rec ops s T s') : ∀ t ∈ T, s.h.next ≤ t.h.next ∧ t.h.next ≤ s'.h.next := by
  induction h with
  | nil => exact fun t ht => by cases ht
  | @cons s s1 s2 t T hs hr ih =>
    intro t' ht'
    rcases List.mem_cons.1 ht' with rfl | ht'
    · rw [hs.h]; exact ⟨Nat.le_refl _, Nat.le_trans hs.next hr.next⟩
    · exact ⟨Nat.le_trans hs.next (ih t' ht').1, (ih t' ht').2⟩
theorem StpOK.alloc {s s' : DS} {t : Stp} (h : StpOK P prim rec ops s t s') (hk : t.k = 2) : ∃ l mk, allocOf P t.o t.a = some (l, mk) ∧ t.v = mk t.h.next ∧ t.h' = t.h.push (.cells l) := by
  have e := h.h
  have e1 := h.a
  rcases h.case with c | c | c | c | c
  · omega
  · omega
  · omega
  · obtain ⟨l, mk, a1, a2, a3⟩ := c.2.2.2.1
    exact ⟨l, mk, by rw [e1]; exact a1, by rw [e]; exact a2, by rw [e]; exact a3⟩
  · omega
theorem Tra.alloc_next {T : List Stp} {s s' : DS} (h : Tra P prim rec ops s T s') : ∀ t ∈ T, t.k = 2 → t.h.next < s'.h.next := by
  intro t ht hk
  obtain ⟨T1, T2, rfl⟩ := List.append_of_mem ht
  obtain ⟨s1, s2, h1, h2, h3⟩ := h.at
  obtain ⟨l, mk, _, _, e⟩ := h2.alloc hk
  have := h3.next
  rw [h2.h', e, Heap.push_next] at this
  omega
theorem Tra.hAt_le {s' : DS} {S : Nat → Bool} {t : Stp} {T2 : List Stp} (hk : t.k = 3) (hS : S t.j = false) : ∀ {T1 : List Stp} {s : DS}, Tra P prim rec ops s (T1 ++ t :: T2) s' → (hAt S s'.h (T1 ++ t :: T2)).next ≤ t.h.next
  | [], s, h => by
    have : (Nat.beq t.k 3 && !S t.j) = true := by rw [hS, hk]; rfl
    simp only [List.nil_append, hAt, this, cond_true]
    exact Nat.le_refl _
  | y :: T1, s, h => by
    cases h with
    | cons hs hr =>
      simp only [List.cons_append, hAt]
      cases (Nat.beq y.k 3 && !S y.j) with
      | true =>
        rw [cond_true, hs.h]
        exact Nat.le_trans hs.next (hr.mem_next t (by simp)).1
      | false => rw [cond_false]; exact Tra.hAt_le hk hS hr
theorem Tra.fresh_block {T : List Stp} {s s' : DS} {S : Nat → Bool} (h : Tra P prim rec ops s T s') (hS : ∀ t ∈ T, t.k = 3 → S t.j = false) {u : Stp} (hu : u ∈ T) (hk : u.k = 2) (hn : u.h.next < (hAt S s'.h T).next) :
    ∃ l mk, allocOf P u.o u.a = some (l, mk) ∧ u.v = mk u.h.next ∧ (hAt S s'.h T).get u.h.next = some (.cells l) := by
  obtain ⟨V1, V2, rfl⟩ := List.append_of_mem hu
  obtain ⟨sa, sb, h1, h2, h3⟩ := h.at
  have hno : ∀ t ∈ V1, t.k = 3 → False := by
    intro t ht hkt
    obtain ⟨X1, X2, rfl⟩ := List.append_of_mem ht
    have h' : Tra P prim rec ops s (X1 ++ t :: (X2 ++ u :: V2)) s' := by simpa using h
    have hle := Tra.hAt_le (S := S) hkt (hS t (by simp) hkt) h'
    have hx : X1 ++ t :: (X2 ++ u :: V2) = X1 ++ t :: X2 ++ u :: V2 := by simp
    rw [hx] at hle
    obtain ⟨_, _, _, _, h5⟩ := h'.at
    have hg : t.h.next ≤ u.h.next := by
      obtain ⟨y1, y2, g1, g2, g3⟩ := h'.at
      have a := g2.next
      have b := (g3.mem_next u (by simp)).1
      rw [g2.h]
      omega
    omega
  obtain ⟨l, mk, a1, a2, a3⟩ := h2.alloc hk
  refine ⟨l, mk, a1, a2, ?_⟩
  rw [hAt_skip (T1 := V1) (fun t ht hkt => (hno t ht hkt).elim)]
  have hk3 : Nat.beq u.k 3 = false := by rw [hk]; rfl
  simp only [hAt, hk3, Bool.false_and, cond_false]
  have hg := h3.seg (S := S) (fun t ht hkt => hS t (by simp [ht]) hkt)
  rw [hg.get (by rw [h2.h', a3, Heap.push_next]; omega), h2.h', a3, Heap.get_push, if_pos rfl]

/-! ### The order of the plan -/
section order
variable {T : List Stp} (hσ : OrdOK ops (T.map (·.j)))
theorem ord_anc (hσ : OrdOK ops (T.map (·.j))) {i j : Nat} (h : Anc ops i j) : ∀ T1 t T2, T = T1 ++ t :: T2 → t.j = j → ∃ t' ∈ T1, t'.j = i := by
  induction h with
  | @base j o e ho he hb =>
    intro T1 t T2 hT hj
    obtain ⟨o', ho', hp⟩ := hσ.pred (T1.map (·.j)) t.j (T2.map (·.j)) (by rw [hT]; simp)
    rw [hj, ho] at ho'; injection ho' with ho'; subst ho'
    obtain ⟨t', ht', e'⟩ := List.mem_map.1 (hp e he hb)
    exact ⟨t', ht', e'⟩
  | @step i j o e h ho he hb ih =>
    intro T1 t T2 hT hj
    obtain ⟨o', ho', hp⟩ := hσ.pred (T1.map (·.j)) t.j (T2.map (·.j)) (by rw [hT]; simp)
    rw [hj, ho] at ho'; injection ho' with ho'; subst ho'
    obtain ⟨t1, ht1, e1⟩ := List.mem_map.1 (hp e he hb)
    obtain ⟨V1, V2, rfl⟩ := List.append_of_mem ht1
    obtain ⟨t', ht', e'⟩ := ih V1 t1 (V2 ++ t :: T2) (by rw [hT]; simp) e1
    exact ⟨t', by simp [ht'], e'⟩
theorem ord_ne (hσ : OrdOK ops (T.map (·.j))) {T1 T2 : List Stp} {t : Stp} (hT : T = T1 ++ t :: T2) : (∀ t' ∈ T1, t'.j ≠ t.j) ∧ (∀ t' ∈ T2, t'.j ≠ t.j) ∧ ∀ t' ∈ T1, ∀ u ∈ T2, t'.j ≠ u.j := by
  have hn := hσ.nodup
  rw [hT, List.map_append, List.map_cons, List.nodup_append] at hn
  obtain ⟨n1, n2, n3⟩ := hn
  rw [List.nodup_cons] at n2
  refine ⟨fun t' ht' => n3 _ (List.mem_map.2 ⟨t', ht', rfl⟩) _ (by simp), fun t' ht' e => n2.1 (List.mem_map.2 ⟨t', ht', e⟩), fun t' ht' u hu => n3 _ (List.mem_map.2 ⟨t', ht', rfl⟩) _ (List.mem_cons_of_mem _ (List.mem_map.2 ⟨u, hu, rfl⟩))⟩
theorem ord_after (hσ : OrdOK ops (T.map (·.j))) {T1 T2 : List Stp} {t t' : Stp} (hT : T = T1 ++ t :: T2) (ht' : t' ∈ T2) : ¬ Anc ops t'.j t.j := by
  intro h
  obtain ⟨u, hu, e⟩ := ord_anc hσ h T1 t T2 hT rfl
  exact (ord_ne hσ hT).2.2 u hu t' ht' e
theorem ord_before (hσ : OrdOK ops (T.map (·.j))) {T1 T2 : List Stp} {t t' : Stp} (hT : T = T1 ++ t :: T2) (ht' : t' ∈ T1) : ¬ Anc ops t.j t'.j := by
  intro h
  obtain ⟨V1, V2, rfl⟩ := List.append_of_mem ht'
  obtain ⟨u, hu, e⟩ := ord_anc hσ h V1 t' (V2 ++ t :: T2) (by rw [hT]; simp) rfl
  exact (ord_ne hσ hT).1 u (by simp [hu]) e
end order
theorem Tra.op {T : List Stp} {s s' : DS} (h : Tra P prim rec ops s T s') : ∀ t ∈ T, ops[t.j]? = some t.o := by
  induction h with
  | nil => exact fun t ht => by cases ht
  | cons hs _ ih =>
    intro t' ht'
    rcases List.mem_cons.1 ht' with rfl | ht'
    · exact hs.op
    · exact ih t' ht'
/-- An operation that writes what the other looks at, or writes: an edge leads from the one to the other. -/
theorem rel_looks (hrel : Rel ops) {t t' : Stp} (h : ops[t.j]? = some t.o) (h' : ops[t'.j]? = some t'.o) (hne : t'.j ≠ t.j) {x : Nat} (hd : t'.o.dst = some x) (hx : x ∈ t.o.looksAt ops ∨ t.o.dst = some x) : Anc ops t'.j t.j ∨ Anc ops t.j t'.j := by
  rcases hrel _ _ _ _ hne h' h with a | a | ⟨a, _⟩
  · exact .inl a
  · exact .inr a
  · obtain ⟨b1, b2, _⟩ := Oper.apart_spec a
    rcases hx with hx | hx
    · exact absurd hx (b1 x hd)
    · exact absurd hx (b2 x hd)

/-! ### The invariant -/
def lst (listed : Array Bool) (j : Nat) : Bool := listed.getD j false
theorem lst_set {listed : Array Bool} {j i : Nat} (h : j < listed.size) : lst (listed.setIfInBounds j true) i = if i = j then true else lst listed i := by
  unfold lst
  by_cases hi : i = j
  · subst hi; simp [Array.getD_eq_getD_getElem?, h]
  · simp [Array.getD_eq_getD_getElem?, Array.getElem?_setIfInBounds_ne (Ne.symm hi), hi]
structure Inv (P : Program) (ops : Array Oper) (T : List Stp) (hend : Heap) (a0 : A) (ρ0 : Rho) (h0 : Heap) (w0 : World) (S : Nat → Bool) (ρ : Rho) (w : World) (b : Act) : Prop where
  cl : Cl ops S
  hr : HR ρ (hAt S hend T) w
  ar : AR ρ ⟨curT S a0.tr T, a0.size, a0.marks⟩ b
  ext : Ext ρ0 h0 w0 ρ (hAt S hend T) w
  gi : ∀ t ∈ T, t.k = 2 → S t.j = false → ρ t.h.next = none ∧ (t.h.next < (hAt S hend T).next → ∃ l mk, allocOf P t.o t.a = some (l, mk) ∧ t.v = mk t.h.next ∧ (hAt S hend T).get t.h.next = some (.cells l))

section step
variable {T T1 T2 : List Stp} {t : Stp} {s0 sN : DS} {S S' : Nat → Bool} {ρ0 ρ : Rho} {w0 w : World} {b : Act}

/-- What an operation that is due looks at is as it was in the plan's run. -/
theorem agree (hrel : Rel ops) (hT : Tra P prim rec ops s0 T sN) (hσ : OrdOK ops (T.map (·.j))) (e : T = T1 ++ t :: T2) (cl : Cl ops S) (hS : S t.j = false) (hp : ∀ e ∈ t.o.after, Region.binds .any e = true → S e.on = true) {x : Nat} (hx : x ∈ t.o.looksAt ops) :
    (curT S s0.a.tr T).get x = t.a.tr.get x := by
  subst e
  obtain ⟨s1, s2, h1, h2, h3⟩ := hT.at
  obtain ⟨n1, n2, n3⟩ := ord_ne hσ rfl
  rw [h2.a, (h1.tmps).2.2, curT_get, curG_append]
  have hin : ∀ t' ∈ T1, t'.o.dst = some x → S t'.j = true := by
    intro t' ht' hd
    rcases rel_looks hrel h2.op (h1.op t' ht') (n1 t' ht') hd (.inl hx) with a | a
    · exact cl.rdy h2.op hp a
    · exact absurd a (ord_before hσ rfl ht')
  have hout : ∀ t' ∈ t :: T2, t'.o.dst = some x → S t'.j = false := by
    intro t' ht' hd
    rcases List.mem_cons.1 ht' with rfl | ht'
    · exact hS
    · rcases rel_looks hrel h2.op (h3.op t' ht') (n2 t' ht') hd (.inl hx) with a | a
      · exact absurd a (ord_after hσ rfl ht')
      · cases hs : S t'.j with
        | false => rfl
        | true => rw [cl.anc a hs] at hS; cases hS
  rw [curG_none hout]
  exact curG_congr (fun t' ht' hd => hin t' ht' hd)
theorem agree_eval {a a' : A} {o : Oper} (h : ∀ x ∈ o.looksAt ops, a.tr.get x = a'.tr.get x) : (∀ y ∈ o.op.operands, a.eval y = a'.eval y) ∧ awanted ops a o = awanted ops a' o := by
  refine ⟨fun y hy => ?_, ?_⟩
  · cases y with
    | tmp x =>
      have : x ∈ o.looksAt ops := List.mem_append_left _ (List.mem_filterMap.2 ⟨.tmp x, by simpa using hy, rfl⟩)
      simp only [A.eval, h x this]
    | _ => rfl
  · unfold awanted
    cases hg : o.guard with
    | none => rfl
    | some q =>
      obtain ⟨j, want⟩ := q
      simp only
      have : ayielded ops a j = ayielded ops a' j := by
        unfold ayielded
        cases hd : (ops[j]?).bind (·.dst) with
        | none => rfl
        | some x =>
          have : x ∈ o.looksAt ops := List.mem_append_right _ (by rw [hg]; simp [hd])
          simp only [Option.bind_some, h x this]
      rw [this]
/-- The temporaries behind an operation. -/
theorem cur_put (hrel : Rel ops) (hT : Tra P prim rec ops s0 T sN) (hσ : OrdOK ops (T.map (·.j))) (e : T = T1 ++ t :: T2) (cl : Cl ops S) (hS : S t.j = false) (hp : ∀ e ∈ t.o.after, Region.binds .any e = true → S e.on = true)
    (hS' : ∀ i, S' i = if i = t.j then true else S i) (tr : Tr Value) (x : Nat) : (curT S' tr T).get x = if t.o.dst = some x then some t.v else (curT S tr T).get x := by
  subst e
  obtain ⟨s1, s2, h1, h2, h3⟩ := hT.at
  obtain ⟨n1, n2, n3⟩ := ord_ne hσ rfl
  rw [curT_get, curT_get]
  by_cases hd : t.o.dst = some x
  · rw [if_pos hd, curG_append]
    unfold curG
    rw [List.foldl_cons]
    have : S' t.j = true ∧ t.o.dst = some x := ⟨by rw [hS', if_pos rfl], hd⟩
    rw [if_pos this]
    refine curG_none (fun t' ht' hd' => ?_)
    rw [hS', if_neg (n2 t' ht')]
    rcases rel_looks hrel h2.op (h3.op t' ht') (n2 t' ht') hd' (.inr hd) with a | a
    · exact absurd a (ord_after hσ rfl ht')
    · cases hs : S t'.j with
      | false => rfl
      | true => rw [cl.anc a hs] at hS; cases hS
  · rw [if_neg hd]
    refine curG_congr (fun t' ht' hd' => ?_)
    rw [hS']
    by_cases hj : t'.j = t.j
    · exfalso
      have a := hT.op t' ht'
      rw [hj, h2.op] at a; injection a with a
      rw [a] at hd; exact hd hd'
    · rw [if_neg hj]
theorem HR.unghost {h : Heap} {w : World} {ρ : Rho} (H : HR ρ h w) {B : Nat} {l l' : List Value} {ty : TypeId} (hg : h.get B = some (.cells l)) (hn : ρ B = none) (hv : VRl ρ l l') :
    Le ρ (updR ρ B (w.heap.size, 0) (fun k => if k = w.heap.size then l.length else ρ.n k)) ∧ HR (updR ρ B (w.heap.size, 0) (fun k => if k = w.heap.size then l.length else ρ.n k)) h (w.alloc (.cells l'.toArray ty)) := by
  have hle := updR_le (x := (w.heap.size, 0)) (f := fun k => if k = w.heap.size then l.length else ρ.n k) hn (fun c B base e => by have := H.lt c B base e; show (if B = w.heap.size then l.length else ρ.n B) = ρ.n B; rw [if_neg (by omega)])
  refine ⟨hle, ⟨?_, ?_, ?_, ?_⟩⟩
  · intro c C base x hx e
    by_cases hc : c = B
    · subst hc
      rw [hg] at hx; injection hx with hx; subst hx
      rw [updR_same] at e; injection e with e; injection e with e1 e2; subst e1; subst e2
      rw [updR_n, if_pos rfl, World.alloc_heap_new]
      refine (BR.of_cell (by simp [hv.1]) (fun j _ _ => inFr_zero j) (by simp) ?_).mono (Le.refl _)
      have : l'.take l.length = l' := List.take_of_length_le (by rw [hv.1]; exact Nat.le_refl _)
      simpa [this] using hv.mono hle
    · rw [updR_ne hc] at e
      have := H.lt _ _ _ e
      rw [alloc_old _ _ this, updR_n, if_neg (by omega)]
      exact (H.blk c C base x hx e).mono hle
  · intro c c' C bs bs' h1 h2 e1 e2
    by_cases hc : c = B <;> by_cases hc' : c' = B
    · rw [hc, hc']
    · subst hc
      rw [updR_same] at e1; rw [updR_ne hc'] at e2
      injection e1 with e1; injection e1 with e1 _
      have := H.lt _ _ _ e2; omega
    · subst hc'
      rw [updR_same] at e2; rw [updR_ne hc] at e1
      injection e2 with e2; injection e2 with e2 _
      have := H.lt _ _ _ e1; omega
    · rw [updR_ne hc] at e1; rw [updR_ne hc'] at e2
      exact H.inj c c' C bs bs' h1 h2 e1 e2
  · intro c hc
    have := Heap.get_lt hg
    rw [updR_ne (by omega)]
    exact H.fresh c hc
  · intro c C bs e1
    by_cases h1 : c = B
    · subst h1; rw [updR_same] at e1; injection e1 with e1; injection e1 with e1 _; simp; omega
    · rw [updR_ne h1] at e1; have := H.lt _ _ _ e1; simp; omega

theorem cl_set (cl : Cl ops S) (ho : ops[t.j]? = some t.o) (hp : ∀ e ∈ t.o.after, Region.binds .any e = true → S e.on = true) (hS' : ∀ i, S' i = if i = t.j then true else S i) : Cl ops S' := by
  have up : ∀ i, S i = true → S' i = true := fun i hi => by
    rw [hS']
    split
    · rfl
    · exact hi
  intro j o hj hjo e he hb
  rw [hS'] at hj
  split at hj
  · next h => subst h; rw [ho] at hjo; injection hjo with hjo; subst hjo; exact up _ (hp e he hb)
  · exact up _ (cl j o hj hjo e he hb)

/-- An operation that is due goes through, and the invariant holds behind it. -/
theorem inv_step (hstep : ∀ o a h v h', ostep P prim rec o a h = some (v, h') → StepOK P o a h v h') (hrel : Rel ops) (hlast : s0.last = none) (hreads : s0.reads = []) (hT : Tra P prim rec ops s0 T sN) (hσ : OrdOK ops (T.map (·.j))) (H0 : HR ρ0 s0.h w0) (e : T = T1 ++ t :: T2)
    (I : Inv P ops T sN.h s0.a ρ0 s0.h w0 S ρ w b) (hS : S t.j = false) (hp : ∀ e ∈ t.o.after, Region.binds .any e = true → S e.on = true) (hS' : ∀ i, S' i = if i = t.j then true else S i)
    (R : Option Nat) (Q : Exit → Act → World → Prop) (K : Act → World → Prop) (k : ∀ ρ' w' b', Inv P ops T sN.h s0.a ρ0 s0.h w0 S' ρ' w' b' → K b' w') : wpOpIn (FF R) 0 P ops Q t.j K b w := by
  obtain ⟨s1, s2, h1, h2, h3⟩ : ∃ s1 s2, Tra P prim rec ops s0 T1 s1 ∧ StpOK P prim rec ops s1 t s2 ∧ Tra P prim rec ops s2 T2 sN := by subst e; exact hT.at
  obtain ⟨n1, n2, n3⟩ := ord_ne hσ e
  have htT : t ∈ T := by rw [e]; simp
  have hag := agree_eval (a := ⟨curT S s0.a.tr T, s0.a.size, s0.a.marks⟩) (a' := t.a) (fun x hx => agree hrel hT hσ e I.cl hS hp hx)
  have hcl := cl_set I.cl h2.op hp hS'
  have hput := cur_put hrel hT hσ e I.cl hS hp hS' s0.a.tr
  have hsz : s1.a.size = s0.a.size := h1.tmps.1
  -- the temporaries
  have har : ∀ ρ' v', VR ρ' t.v v' → Le ρ ρ' → AR ρ' ⟨curT S' s0.a.tr T, s0.a.size, s0.a.marks⟩ (b.put t.o.dst v') := by
    intro ρ' v' hv hle
    have hex : ∃ a2, A.put ⟨curT S s0.a.tr T, s0.a.size, s0.a.marks⟩ t.o.dst t.v = some a2 := by
      have := h2.put
      cases hd : t.o.dst with
      | none => exact ⟨_, rfl⟩
      | some y =>
        rw [hd] at this
        simp only [A.put_eq] at this ⊢
        rw [hsz] at this
        cases hy : Nat.blt y s0.a.size with
        | false => rw [hy] at this; cases this
        | true => exact ⟨_, rfl⟩
    obtain ⟨a2, ha2⟩ := hex
    refine ((I.ar.mono hle).put hv ha2).of_get (put_get ha2 0).1.symm (put_get ha2 0).2.1.symm (fun x => ?_)
    rw [(put_get ha2 x).2.2]
    exact hput x
  have hhat : t.k ≠ 3 → hAt S' sN.h T = hAt S sN.h T := fun hk => hAt_congr (fun t' ht' hk' => by
    rw [hS']
    by_cases hj : t'.j = t.j
    · exfalso
      rw [e] at ht'
      rcases List.mem_append.1 ht' with h | h
      · exact n1 t' h hj
      · rcases List.mem_cons.1 h with rfl | h
        · exact hk hk'
        · exact n2 t' h hj
    · rw [if_neg hj])
  have hback : ∀ i, S' i = false → S i = false := fun i hi => by
    rw [hS'] at hi
    split at hi
    · cases hi
    · exact hi
  -- an operation that leaves the heap as it is
  have quiet : t.k ≠ 3 → ∀ ρ' w' v', VR ρ' t.v v' → HR ρ' (hAt S sN.h T) w' → Ext ρ (hAt S sN.h T) w ρ' (hAt S sN.h T) w' → Inv P ops T sN.h s0.a ρ0 s0.h w0 S' ρ' w' (b.put t.o.dst v') := by
    intro hk ρ' w' v' hv hH hE
    refine ⟨hcl, ?_, har ρ' v' hv hE.le, ?_, ?_⟩
    · rw [hhat hk]; exact hH
    · rw [hhat hk]; exact I.ext.trans hE
    · intro u hu hku hSu
      obtain ⟨g1, g2⟩ := I.gi u hu hku (hback _ hSu)
      refine ⟨?_, by rw [hhat hk]; exact g2⟩
      cases hx : ρ' u.h.next with
      | none => rfl
      | some x =>
        have := hE.fresh _ _ _ hx g1
        rw [hH.fresh _ this] at hx; cases hx
  unfold wpOpIn
  rw [h2.op]
  simp only
  rw [awanted_eq I.ar, hag.2, h2.a]
  rcases h2.case with c | c | c | c | c
  · obtain ⟨ck, cw, cv, ch, _, _⟩ := c
    rw [cw]
    simp only [Bool.false_eq_true, if_false]
    refine ⟨fun _ _ => trivial, ?_⟩
    have := quiet (by omega) ρ w undef (by rw [cv]; exact VR_undef ρ) I.hr (Ext.refl _ _ _)
    exact k _ _ _ this
  · obtain ⟨ck, cw, cop, ch, _, _⟩ := c
    rw [cw]
    simp only [if_true]
    have hop : aop P t.o ⟨curT S s0.a.tr T, s0.a.size, s0.a.marks⟩ (hAt S sN.h T) = some (t.v, hAt S sN.h T) := by
      rw [aop_congr _ hag.1, h2.a]; exact cop _
    refine step_of_op hop R ρ w b K Q I.hr I.ar ?_
    intro ρ' v' w' hv hH hE
    exact k _ _ _ (quiet (by omega) ρ' w' v' hv hH hE)
  · obtain ⟨ck, cw, cl, ckind, cop, ch, _, crd⟩ := c
    rw [cw]
    simp only [if_true]
    have hbef : ∀ t' ∈ T1, t'.k = 3 → S t'.j = true := fun t' ht' hk' => I.cl.rdy h2.op hp ((e ▸ hT).before (.inl ck) t' ht' hk')
    have hop : aop P t.o ⟨curT S s0.a.tr T, s0.a.size, s0.a.marks⟩ (hAt S sN.h T) = some (t.v, hAt S sN.h T) := by
      rw [aop_congr _ hag.1, h2.a]
      have hH : hAt S sN.h T = hAt S sN.h T2 := by
        rw [e, hAt_skip hbef]
        have : Nat.beq t.k 3 = false := by rw [ck]; rfl
        simp only [hAt, this, Bool.false_and, cond_false]
      rw [hH]
      have hs2 : s2.h = s1.h := by rw [h2.h', ch, h2.h]
      refine Tra.read (r := (t.j, t.o, s1.a, t.v)) ckind h3 (by rw [crd]; simp) ?_ (by simp only; rw [hs2]; exact cop)
      intro t' ht' hk' hSt' hanc
      rw [I.cl.anc hanc hSt'] at hS; cases hS
    refine step_of_op hop R ρ w b K Q I.hr I.ar ?_
    intro ρ' v' w' hv hH hE
    exact k _ _ _ (quiet (by omega) ρ' w' v' hv hH hE)
  · obtain ⟨ck, cw, cl, _, _, _⟩ := c
    rw [cw]
    simp only [if_true]
    obtain ⟨gρ, gi⟩ := I.gi t htT ck hS
    have hbef : ∀ t' ∈ T1, t'.k = 3 → S t'.j = true := fun t' ht' hk' => I.cl.rdy h2.op hp ((e ▸ hT).before (.inr (.inl ck)) t' ht' hk')
    have hlt : t.h.next < (hAt S sN.h T).next := by
      rw [e, hAt_skip hbef]
      have : Nat.beq t.k 3 = false := by rw [ck]; rfl
      simp only [hAt, this, Bool.false_and, cond_false]
      have a := h3.hAt_next (S := S)
      obtain ⟨l, mk, _, _, e3⟩ := h2.alloc ck
      rw [h2.h', e3, Heap.push_next] at a
      omega
    obtain ⟨l, mk, ga, gv, gg⟩ := gi hlt
    rw [← allocOf_congr hag.1] at ga
    obtain ⟨hnd, l', ty, mk', hrun, hvl, hval⟩ := alloc_run (P := P) (w := w) I.ar ga
    obtain ⟨hle, hHR⟩ := I.hr.unghost (ty := ty) gg gρ hvl
    have hsame := updR_same ρ t.h.next (w.heap.size, 0) (fun k => if k = w.heap.size then l.length else ρ.n k)
    have hother : ∀ c, c ≠ t.h.next → updR ρ t.h.next (w.heap.size, 0) (fun k => if k = w.heap.size then l.length else ρ.n k) c = ρ c := fun c hc => updR_ne hc
    generalize updR ρ t.h.next (w.heap.size, 0) (fun k => if k = w.heap.size then l.length else ρ.n k) = ρ' at hle hHR hsame hother
    refine ⟨fun _ _ => trivial, ?_⟩
    rw [Oper.semAt_eq _ _ _ hnd, hrun]
    refine k ρ' _ _ ⟨hcl, ?_, har ρ' _ (by rw [gv]; exact hval ρ' _ _ hsame) hle, ?_, ?_⟩
    · rw [hhat (by omega)]; exact hHR
    · rw [hhat (by omega)]
      exact {
        le := I.ext.le.trans hle
        km := I.ext.km
        frame := fun B hB hn => by rw [alloc_old _ _ (Nat.lt_of_lt_of_le hB I.ext.size)]; exact I.ext.frame B hB hn
        size := by have := I.ext.size; simp; omega
        os := I.ext.os
        tape := I.ext.tape
        output := I.ext.output
        new := fun c C base e1 e2 => by
          by_cases hc : c = t.h.next
          · subst hc; rw [hsame] at e1; injection e1 with e1; injection e1 with e1 _
            exact .inl (by have := I.ext.size; omega)
          · rw [hother c hc] at e1; exact I.ext.new c C base e1 e2
        next := I.ext.next
        fresh := fun c C base e1 e2 => by
          by_cases hc : c = t.h.next
          · subst hc; exact (hT.mem_next t htT).1
          · rw [hother c hc] at e1; exact I.ext.fresh c C base e1 e2
        ghost := I.ext.ghost
        fro := fun c hc0 => by
          rw [← I.ext.fro c hc0]
          refine fro_of (B := w.heap.size) (fun k hk => ?_) (fun off => by rw [Array.getElem?_eq_none (Nat.le_refl _), World.alloc_heap_new]; exact inFr_zero off) c
          by_cases hk2 : k < w.heap.size
          · exact alloc_old _ _ hk2
          · rw [Array.getElem?_eq_none (by simp; omega), Array.getElem?_eq_none (by omega)] }
    · intro u hu hku hSu
      obtain ⟨g1, g2⟩ := I.gi u hu hku (hback _ hSu)
      refine ⟨?_, by rw [hhat (by omega)]; exact g2⟩
      have hne : u.h.next ≠ t.h.next := by
        rw [e] at hu
        rcases List.mem_append.1 hu with h | h
        · have := h1.alloc_next u h hku
          rw [h2.h]; omega
        · rcases List.mem_cons.1 h with rfl | h
          · rw [hS', if_pos rfl] at hSu; cases hSu
          · have a := (h3.mem_next u h).1
            obtain ⟨l2, mk2, _, _, e3⟩ := h2.alloc ck
            rw [h2.h', e3, Heap.push_next] at a
            omega
      rw [hother _ hne]; exact g1
  · obtain ⟨ck, cw, cl, cop, _, _, _⟩ := c
    rw [cw]
    simp only [if_true]
    have hbef : ∀ t' ∈ T1, t'.k = 3 → S t'.j = true := fun t' ht' hk' => I.cl.rdy h2.op hp ((e ▸ hT).before (.inr (.inr ck)) t' ht' hk')
    have haft : ∀ t' ∈ T2, t'.k = 3 → S' t'.j = false := by
      intro t' ht' hk'
      rw [hS', if_neg (n2 t' ht')]
      cases hs : S t'.j with
      | false => rfl
      | true => rw [I.cl.anc ((e ▸ hT).after ck t' ht' hk') hs] at hS; cases hS
    have hH : hAt S sN.h T = t.h := by
      rw [e, hAt_skip hbef]
      have : (Nat.beq t.k 3 && !S t.j) = true := by rw [ck, hS]; rfl
      simp only [hAt, this, cond_true]
    have hH' : hAt S' sN.h T = hAt S' sN.h T2 := by
      rw [e, hAt_skip (fun t' ht' hk' => by rw [hS', if_neg (n1 t' ht')]; exact hbef t' ht' hk')]
      have : (Nat.beq t.k 3 && !S' t.j) = false := by rw [hS', if_pos rfl]; simp
      simp only [hAt, this, cond_false]
    have hop : ostep P prim rec t.o ⟨curT S s0.a.tr T, s0.a.size, s0.a.marks⟩ (hAt S sN.h T) = some (t.v, t.h') := by
      rw [ostep_congr _ hag.1, h2.a, hH, h2.h]; exact cop
    have hs2 : s2.h = t.h' := h2.h'
    have hseg := h3.seg (S := S') haft
    rw [hs2] at hseg
    refine hstep _ _ _ _ _ hop R ρ w b K Q I.hr I.ar ?_
    intro ρ' v' w' hv hHR hE
    refine k ρ' _ _ ⟨hcl, ?_, har ρ' v' hv hE.le, ?_, ?_⟩
    · rw [hH']; exact hHR.grown hseg
    · rw [hH']; exact (I.ext.trans hE).grown H0 hseg
    · intro u hu hku hSu
      obtain ⟨g1, g2⟩ := I.gi u hu hku (hback _ hSu)
      have hpos : u ∈ T1 ∨ u ∈ T2 := by
        rw [e] at hu
        rcases List.mem_append.1 hu with h | h
        · exact .inl h
        · rcases List.mem_cons.1 h with rfl | h
          · omega
          · exact .inr h
      refine ⟨?_, ?_⟩
      · cases hx : ρ' u.h.next with
        | none => rfl
        | some x =>
          have a := hE.fresh _ _ _ hx g1
          rw [hH] at a
          rcases hpos with h | h
          · have := h1.alloc_next u h hku
            rw [← h2.h] at this; omega
          · have := (h3.mem_next u h).1
            rw [hs2] at this
            rw [hHR.fresh _ this] at hx; cases hx
      · intro hn
        rcases hpos with h | h
        · have a := h1.alloc_next u h hku
          rw [← h2.h, ← hH] at a
          obtain ⟨l, mk, b1, b2, b3⟩ := g2 a
          refine ⟨l, mk, b1, b2, ?_⟩
          rw [hH', hseg.get (Nat.lt_of_lt_of_le a hE.next), hE.ghost _ a g1, b3]
        · rw [hH'] at hn ⊢
          exact h3.fresh_block haft h hku hn
end step
end Go.AM
