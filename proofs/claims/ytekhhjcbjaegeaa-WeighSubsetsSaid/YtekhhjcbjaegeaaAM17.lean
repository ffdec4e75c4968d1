/- What an operation of the abstract machine looks at. -/
import Derived.Test.YtekhhjcbjaegeaaAM16
set_option linter.all false
namespace Go.AM
open Go
variable {P : Program}

theorem aevs_congr {a a' : A} : ∀ {l : List Operand}, (∀ x ∈ l, a.eval x = a'.eval x) → aevs a l = aevs a' l
  | [], _ => rfl
  | x :: l, h => by
    simp only [aevs, h x (by simp), aevs_congr (l := l) (fun y hy => h y (by simp [hy]))]
theorem aparts_congr {a a' : A} : ∀ {l : List (Nat × Operand)}, (∀ p ∈ l, a.eval p.2 = a'.eval p.2) → aparts a l = aparts a' l
  | [], _ => rfl
  | (i, x) :: l, h => by
    simp only [aparts, h (i, x) (by simp), aparts_congr (l := l) (fun y hy => h y (by simp [hy]))]
theorem aevO_congr {a a' : A} {x : Option Operand} (h : ∀ y ∈ x, a.eval y = a'.eval y) : aevO a x = aevO a' x := by
  cases x with
  | none => rfl
  | some x => simp only [aevO, h x (by simp)]
theorem aop_congr {o : Oper} {a a' : A} (h : Heap) (he : ∀ x ∈ o.op.operands, a.eval x = a'.eval x) : aop P o a h = aop P o a' h := by
  obtain ⟨dst, op, ty, pos, after, guard⟩ := o
  simp only at he
  unfold aop
  cases op <;> simp only [Op.operands] at he ⊢
  case move x => rw [he x (by simp)]
  case assign x => rw [he x (by simp)]
  case pick c x y => rw [he c (by simp), he x (by simp), he y (by simp)]
  case box t x => rw [he x (by simp)]
  case build t ps => rw [aparts_congr (fun p hp => he p.2 (by simp; exact ⟨p.1, by simpa using hp⟩))]
  case buildSlice t len ps => rw [aparts_congr (fun p hp => he p.2 (by simp; exact ⟨p.1, by simpa using hp⟩))]
  case load t x => rw [he x (by simp)]
  case store t x y => rw [he x (by simp), he y (by simp)]
  case nilCheck x => rw [he x (by simp)]
  case binOp op t x y z => rw [he x (by simp), he y (by simp)]
  case unOp op t x => rw [he x (by simp)]
  case convert s d x => rw [he x (by simp)]
  case makeInterface t x => rw [he x (by simp)]
  case makeFunc f x y =>
    cases f with
    | func f => simp only; rw [aevs_congr (l := x.toList) (fun z hz => he z (by simp at hz ⊢; exact .inl hz)), aevs_congr (l := y.toList) (fun z hz => he z (by simp at hz ⊢; exact .inr hz))]
    | _ => rfl
  case makeMap t x => cases x <;> rfl
  case makeSlice t x y => rw [he x (by simp), he y (by simp)]
  case slice t x lo hi mx =>
    rw [he x (by simp), aevO_congr (x := lo) (fun y hy => he y (by simp at hy; simp [hy])), aevO_congr (x := hi) (fun y hy => he y (by simp at hy; simp [hy])), aevO_congr (x := mx) (fun y hy => he y (by simp at hy; simp [hy]))]
  case fieldAddr s x f => rw [he x (by simp)]
  case field s x f => rw [he x (by simp)]
  case indexAddr t x i => rw [he x (by simp), he i (by simp)]
  case index t x i => rw [he x (by simp), he i (by simp)]
  case lookup t x i ok => rw [he x (by simp), he i (by simp)]
  case mapUpdate t m k x => rw [he m (by simp), he k (by simp), he x (by simp)]
  case extract x i => rw [he x (by simp)]
  case call c =>
    obtain ⟨callee, args, ats⟩ := c
    simp only [Call.operands] at he ⊢
    cases callee <;> simp only at he ⊢
    rw [aevs_congr (fun z hz => he z (by simp at hz ⊢; exact hz))]
theorem ocall_congr {prim : Prim} {rec : Rec} {o : Oper} {a a' : A} (h : Heap) (he : ∀ x ∈ o.op.operands, a.eval x = a'.eval x) : ocall P prim rec o a h = ocall P prim rec o a' h := by
  obtain ⟨dst, op, ty, pos, after, guard⟩ := o
  simp only at he
  unfold ocall
  cases op <;> simp only [Op.operands] at he ⊢
  case call c =>
    obtain ⟨callee, args, ats⟩ := c
    simp only [Call.operands] at he ⊢
    cases callee <;> simp only at he ⊢
    case value g =>
      rw [he g (by simp), aevs_congr (a := a) (a' := a') (fun z hz => he z (by simp at hz ⊢; exact .inr hz))]
theorem ostep_congr {prim : Prim} {rec : Rec} {o : Oper} {a a' : A} (h : Heap) (he : ∀ x ∈ o.op.operands, a.eval x = a'.eval x) : ostep P prim rec o a h = ostep P prim rec o a' h := by
  unfold ostep
  rw [aop_congr h he, ocall_congr h he]

/-! ### Kinds -/
/-- 0: looks at its operands alone; 1: looks at the heap; 2: makes a block of cells; 3: anything else. -/
def kindOf (o : Oper) : Nat :=
  match o.op with
  | .move _ | .assign _ | .pick .. | .build .. | .nilCheck _ | .binOp .. | .unOp .. | .makeInterface .. | .slice .. | .fieldAddr .. | .field .. | .indexAddr .. | .index .. | .extract .. => 0
  | .convert .. | .load .. | .lookup .. => 1
  | .alloc _ | .box .. | .buildSlice .. => 2
  | .call c => match c.callee with | .builtin .len => 1 | _ => 3
  | _ => 3
theorem map_pair {α : Type} {x : Option α} {h h' : Heap} {v : α} (e : x.map (fun y => (y, h)) = some (v, h')) : h' = h ∧ x = some v := by
  cases x with
  | none => cases e
  | some y => simp at e; exact ⟨e.2.symm, by rw [e.1]⟩
theorem op_pure {o : Oper} {a : A} {h h' : Heap} {v : Value} (k : kindOf o = 0) (e : aop P o a h = some (v, h')) : h' = h ∧ ∀ h2, aop P o a h2 = some (v, h2) := by
  have key : ∃ x : Option Value, ∀ h, aop P o a h = x.map (fun y => (y, h)) := by
    obtain ⟨dst, op, ty, pos, after, guard⟩ := o
    unfold aop
    cases op <;> simp only [kindOf] at k ⊢ <;> first | (cases k; done) | skip
    case move x => exact ⟨_, fun h => rfl⟩
    case assign x => exact ⟨_, fun h => rfl⟩
    case pick c x y =>
      cases a.eval c with
      | none => exact ⟨none, fun h => rfl⟩
      | some u =>
        cases u with
        | bool b => exact ⟨bif b then a.eval x else a.eval y, fun h => rfl⟩
        | _ => exact ⟨none, fun h => rfl⟩
    case build t ps => exact ⟨(aparts a ps.toList).bind fun l => abuild P t l, fun h => by cases aparts a ps.toList <;> rfl⟩
    case nilCheck x => exact ⟨(a.eval x).bind anilCheck, fun h => by cases a.eval x <;> rfl⟩
    case binOp op t x y z => exact ⟨(a.eval x).bind fun v => (a.eval y).bind fun u => abin P op t x y v u, fun h => by cases a.eval x <;> cases a.eval y <;> rfl⟩
    case unOp op t x =>
      refine ⟨(a.eval x).bind fun v => bif flat v then flatRun P (Op.unary op v) else none, fun h => ?_⟩
      cases a.eval x with
      | none => rfl
      | some v => simp only [Option.bind_some]; cases flat v <;> rfl
    case makeInterface t x =>
      refine ⟨(a.eval x).bind fun v => bif isIface P t then none else some (.iface t v), fun h => ?_⟩
      cases a.eval x with
      | none => rfl
      | some v => simp only [Option.bind_some]; cases isIface P t <;> rfl
    case slice t x lo hi mx =>
      refine ⟨(a.eval x).bind fun v => (aevO a lo).bind fun l => (aevO a hi).bind fun k => (aevO a mx).bind fun m => aslice P t v l k m, fun h => ?_⟩
      cases a.eval x <;> cases aevO a lo <;> cases aevO a hi <;> cases aevO a mx <;> rfl
    case fieldAddr s x f => exact ⟨(a.eval x).bind fun v => afieldAddr P s v f, fun h => by cases a.eval x <;> rfl⟩
    case field s x f => exact ⟨(a.eval x).bind fun v => afield P s v f, fun h => by cases a.eval x <;> rfl⟩
    case indexAddr t x i => exact ⟨(a.eval x).bind fun v => (a.eval i).bind fun u => aindexAddr P t v u, fun h => by cases a.eval x <;> cases a.eval i <;> rfl⟩
    case index t x i => exact ⟨(a.eval x).bind fun v => (a.eval i).bind fun u => aindex P t v u, fun h => by cases a.eval x <;> cases a.eval i <;> rfl⟩
    case extract x i => exact ⟨(a.eval x).bind fun v => aextract v i, fun h => by cases a.eval x <;> rfl⟩
    case call c =>
      obtain ⟨callee, args, ats⟩ := c
      exfalso
      revert k
      cases callee <;> simp
      rename_i b
      cases b <;> simp
  obtain ⟨x, hx⟩ := key
  rw [hx] at e
  obtain ⟨e1, e2⟩ := map_pair e
  subst e1
  exact ⟨rfl, fun h2 => by rw [hx, e2]; rfl⟩

/-- What is in the one heap is in the other. -/
def Sub (h h2 : Heap) : Prop := ∀ b x, h.get b = some x → h2.get b = some x
theorem Sub.cs {h h2 : Heap} (s : Sub h h2) {b : Nat} {cs : List Value} (e : h.cs b = some cs) : h2.cs b = some cs := by
  have := s _ _ (Heap.cs_some e)
  unfold Heap.cs
  rw [this]
theorem Sub.rd {h h2 : Heap} (s : Sub h h2) {b : Nat} {cs : List Value} (e : h.rd b = some cs) : h2.rd b = some cs := by
  obtain ⟨x, hg, hx⟩ := Heap.rd_some e
  exact Heap.rd_of (s _ _ hg) hx
theorem op_read {o : Oper} {a : A} {h h' : Heap} {v : Value} (k : kindOf o = 1) (e : aop P o a h = some (v, h')) : h' = h ∧ ∀ h2, Sub h h2 → aop P o a h2 = some (v, h2) := by
  obtain ⟨dst, op, ty, pos, after, guard⟩ := o
  unfold aop at e ⊢
  cases op <;> simp only [kindOf] at k e ⊢ <;> first | (cases k; done) | skip
  case convert s d x =>
    simp only [Option.bind_eq_some_iff] at e
    obtain ⟨u, hu, e⟩ := e
    obtain ⟨rfl, e⟩ := map_pair e
    refine ⟨rfl, fun h2 hs => ?_⟩
    have : aconv P s d u h2 = some v := by
      unfold aconv at e ⊢
      cases hb : bytesType P s d with
      | false => rw [hb] at e; exact e
      | true =>
        rw [hb] at e
        simp only [cond_true] at e ⊢
        split at e
        · exact e
        · simp only [Option.bind_eq_some_iff] at e
          obtain ⟨cs, hc, e⟩ := e
          rw [hs.rd hc]
          simpa [Option.bind_eq_some_iff] using e
        · cases e
    rw [hu]
    simp [this]
  case load t x =>
    simp only [Option.bind_eq_some_iff] at e
    obtain ⟨u, hu, e⟩ := e
    obtain ⟨rfl, e⟩ := map_pair e
    refine ⟨rfl, fun h2 hs => ?_⟩
    have : aload P t u h2 = some v := by
      unfold aload at e ⊢
      simp only [Option.bind_eq_some_iff] at e ⊢
      obtain ⟨p, hp, cs, hc, e⟩ := e
      exact ⟨p, hp, cs, hs.rd hc, e⟩
    rw [hu]
    simp [this]
  case lookup t x i ok =>
    simp only [Option.bind_eq_some_iff] at e
    obtain ⟨u, hu, y, hy, e⟩ := e
    obtain ⟨rfl, e⟩ := map_pair e
    refine ⟨rfl, fun h2 hs => ?_⟩
    have : alookup P t u y ok h2 = some v := by
      unfold alookup at e ⊢
      simp only [Option.bind_eq_some_iff] at e ⊢
      obtain ⟨m, hm, d, hd, e⟩ := e
      refine ⟨m, hm, d, hd, ?_⟩
      cases hf : flat1 y with
      | false => rw [hf] at e; cases e
      | true =>
        rw [hf] at e
        simp only [cond_true, Option.bind_eq_some_iff] at e ⊢
        obtain ⟨es, he, e⟩ := e
        refine ⟨es, ?_, e⟩
        unfold entriesOf at he ⊢
        split at he
        · exact he
        · split at he
          · next hg => rw [hs _ _ hg]; exact he
          · cases he
        · cases he
    rw [hu, hy]
    simp [this]
  case call c =>
    obtain ⟨callee, args, ats⟩ := c
    have hc : callee = .builtin .len := by
      cases callee with
      | builtin b => cases b <;> simp at k ⊢
      | _ => simp at k
    subst hc
    simp only [Option.bind_eq_some_iff, abuiltin] at e ⊢
    obtain ⟨l, hl, e⟩ := e
    split at e
    next x =>
      obtain ⟨rfl, e⟩ := map_pair e
      refine ⟨rfl, fun h2 hs => ⟨_, hl, ?_⟩⟩
      simp only
      have : alen P ats x h2 = some v := by
        unfold alen at e ⊢
        simp only [Option.bind_eq_some_iff] at e ⊢
        obtain ⟨t, ht, e⟩ := e
        refine ⟨t, ht, ?_⟩
        split at e <;> first | exact e | skip
        split at e
        · next hg => rw [hs _ _ hg]; exact e
        · cases e
      rw [this]; rfl
    all_goals cases e

/-- The cells that an operation lays, and the value that leads to them. -/
def allocOf (P : Program) (o : Oper) (a : A) : Option (List Value × (Nat → Value)) :=
  match o.op with
  | .alloc t => (zeroOf P t).bind fun z => bif flat z then some (z.cells.toList, fun b => .pointer (some ⟨b, 0, none⟩)) else none
  | .box t x => (a.eval x).map fun v => (v.cells.toList, fun b => .pointer (some ⟨b, 0, none⟩))
  | .buildSlice t len ps => (aparts a ps.toList).bind fun parts => (elemOfSlice P t).bind fun e => (szOf P e).bind fun sz => (zerosOf P e len).bind fun zs =>
    bif Nat.ble (len * sz) 16777216 then (fillL (fun i => some (i * sz, sz)) zs parts).map fun l => (l, fun b => .slice (some ⟨b, 0, none⟩) len len) else none
  | _ => none
theorem op_alloc {o : Oper} {a : A} {h h' : Heap} {v : Value} (k : kindOf o = 2) (e : aop P o a h = some (v, h')) : ∃ l mk, allocOf P o a = some (l, mk) ∧ v = mk h.next ∧ h' = h.push (.cells l) := by
  obtain ⟨dst, op, ty, pos, after, guard⟩ := o
  unfold aop at e
  unfold allocOf
  cases op <;> simp only [kindOf] at k e ⊢ <;> first | (cases k; done) | skip
  case alloc t =>
    simp only [aalloc, Option.bind_eq_some_iff] at e
    obtain ⟨z, hz, e⟩ := e
    cases hf : flat z with
    | false => rw [hf] at e; cases e
    | true =>
      rw [hf] at e
      simp only [cond_true, anew, Option.some.injEq, Prod.mk.injEq] at e
      obtain ⟨rfl, rfl⟩ := e
      exact ⟨z.cells.toList, fun b => .pointer (some ⟨b, 0, none⟩), by rw [hz]; simp only [Option.bind_some, hf, cond_true], rfl, rfl⟩
  case box t x =>
    simp only [Option.map_eq_some_iff] at e
    obtain ⟨u, hu, e⟩ := e
    simp only [abox, anew, Prod.mk.injEq] at e
    obtain ⟨rfl, rfl⟩ := e
    exact ⟨u.cells.toList, fun b => .pointer (some ⟨b, 0, none⟩), by rw [hu]; rfl, rfl, rfl⟩
  case buildSlice t len ps =>
    simp only [abuildSlice, Option.bind_eq_some_iff] at e
    obtain ⟨parts, hp, el, hu, sz, hsz, zs, hzs, e⟩ := e
    cases hb : Nat.ble (len * sz) 16777216 with
    | false => rw [hb] at e; cases e
    | true =>
      rw [hb] at e
      simp only [cond_true, Option.map_eq_some_iff, Prod.mk.injEq] at e
      obtain ⟨l, hl, rfl, rfl⟩ := e
      exact ⟨l, fun b => .slice (some ⟨b, 0, none⟩) len len, by rw [hp]; simp only [Option.bind_some, hu, hsz, hzs, hb, hl, cond_true, Option.map_some], rfl, rfl⟩
  case call c =>
    obtain ⟨callee, args, ats⟩ := c
    exfalso
    revert k
    cases callee <;> simp
    rename_i b
    cases b <;> simp
theorem allocOf_congr {o : Oper} {a a' : A} (he : ∀ x ∈ o.op.operands, a.eval x = a'.eval x) : allocOf P o a = allocOf P o a' := by
  obtain ⟨dst, op, ty, pos, after, guard⟩ := o
  simp only at he
  unfold allocOf
  cases op <;> simp only [Op.operands] at he ⊢
  case box t x => rw [he x (by simp)]
  case buildSlice t len ps => rw [aparts_congr (fun p hp => he p.2 (by simp; exact ⟨p.1, by simpa using hp⟩))]
theorem alloc_run {ρ : Rho} {w : World} {o : Oper} {a : A} {b : Act} {l : List Value} {mk : Nat → Value} (r : AR ρ a b) (e : allocOf P o a = some (l, mk)) :
    (∀ c, o.op ≠ .defer c) ∧ ∃ (l' : List Value) (t : TypeId) (mk' : Nat → Value), (execOp b.eval o).run P w = .ok (.value (mk' w.heap.size)) (w.alloc (.cells l'.toArray t)) ∧ VRl ρ l l' ∧ ∀ (ρ' : Rho) (B W : Nat), ρ' B = some (W, 0) → VR ρ' (mk B) (mk' W) := by
  obtain ⟨dst, op, ty, pos, after, guard⟩ := o
  unfold allocOf at e
  unfold execOp
  cases op <;> simp only at e ⊢ <;> first | (cases e; done) | skip
  case alloc t =>
    simp only [Option.bind_eq_some_iff] at e
    obtain ⟨z, hz, e⟩ := e
    cases hf : flat z with
    | false => rw [hf] at e; cases e
    | true =>
      rw [hf] at e
      simp only [cond_true, Option.some.injEq, Prod.mk.injEq] at e
      obtain ⟨rfl, rfl⟩ := e
      refine ⟨by simp, _, t, fun W => .pointer (some ⟨W, 0 + 0, none⟩), ?_, (VR_refl_flat (ρ := ρ) hf).cells, fun ρ' B W h => .ptr h⟩
      simp [Instr.alloc, run_zeroValue' hz, newVar, newRow]
  case box t x =>
    simp only [Option.map_eq_some_iff, Prod.mk.injEq] at e
    obtain ⟨u, hu, rfl, rfl⟩ := e
    refine ⟨by simp, _, t, fun W => .pointer (some ⟨W, 0 + 0, none⟩), ?_, (r.eval hu).cells, fun ρ' B W h => .ptr h⟩
    simp [Instr.box, newVar, newRow]
  case buildSlice t len ps =>
    simp only [Option.bind_eq_some_iff] at e
    obtain ⟨parts, hp, el, hu, sz, hsz, zs, hzs, e⟩ := e
    have hu := elemOfSlice_some hu
    obtain ⟨sz', z, hsz', hz, hzc, rfl, hfl, hlen⟩ := zerosOf_some hzs
    rw [hsz] at hsz'; injection hsz' with hsz'; subst hsz'
    cases hb : Nat.ble (len * sz) 16777216 with
    | false => rw [hb] at e; cases e
    | true =>
      rw [hb] at e
      have hle := Nat.le_of_ble_eq_true hb
      simp only [cond_true, Option.map_eq_some_iff, Prod.mk.injEq] at e
      obtain ⟨l, hl, rfl, rfl⟩ := e
      have hp' := r.parts hp
      have hp2 : PRs ρ parts (ps.map fun p => (p.1, b.eval p.2)).toList := by simpa using hp'
      obtain ⟨out', e', rr⟩ := fillL_sound (cells' := (List.replicate len z.cells.toList).flatten.toArray) hp2 (by simpa using VRl_refl_flat (ρ := ρ) hfl) hl
      refine ⟨by simp, _, el, fun W => .slice (some ⟨W, 0 + 0, none⟩) len len, ?_, rr, fun ρ' B W h => .sl h⟩
      have hgt : ¬ (len * sz > 2 ^ 24) := by simp; omega
      simp only [Instr.buildSlice, Sem.run_bind, run_underlying hu, Result.andThen_ok, run_sizeOf' hsz, if_neg hgt]
      by_cases h0 : len * sz = 0
      · rw [if_pos h0]
        simp only [Sem.run_bind, Sem.run_pure, Result.andThen_ok, zeros0 hzc h0, e']
        simp [newRow]
      · rw [if_neg h0]
        simp only [Sem.run_bind, Sem.run_pure, Result.andThen_ok, run_zeroValue' hz, zeros1 hzc, e']
        simp [newRow]
end Go.AM
