/- Regions whose order is drawn: the plan, the run, and what the run's trace says. -/
import Derived.Test.YtekhhjcbjaegeaaAM17
set_option linter.all false
namespace Go.AM
open Go
variable {P : Program}

/-! ### Edges -/
inductive Anc (ops : Array Oper) : Nat → Nat → Prop
  | base {j : Nat} {o : Oper} {e : Edge} : ops[j]? = some o → e ∈ o.after → Region.binds .any e = true → Anc ops e.on j
  | step {i j : Nat} {o : Oper} {e : Edge} : Anc ops i e.on → ops[j]? = some o → e ∈ o.after → Region.binds .any e = true → Anc ops i j
def Cl (ops : Array Oper) (S : Nat → Bool) : Prop := ∀ j o, S j = true → ops[j]? = some o → ∀ e ∈ o.after, Region.binds .any e = true → S e.on = true
theorem Cl.anc {ops : Array Oper} {S : Nat → Bool} (c : Cl ops S) {i j : Nat} (h : Anc ops i j) : S j = true → S i = true := by
  induction h with
  | base ho he hb => exact fun hj => c _ _ hj ho _ he hb
  | step _ ho he hb ih => exact fun hj => ih (c _ _ hj ho _ he hb)
theorem Cl.rdy {ops : Array Oper} {S : Nat → Bool} (c : Cl ops S) {i j : Nat} {o : Oper} (ho : ops[j]? = some o) (hp : ∀ e ∈ o.after, Region.binds .any e = true → S e.on = true) (h : Anc ops i j) : S i = true := by
  cases h with
  | base ho' he hb => rw [ho] at ho'; injection ho' with ho'; subst ho'; exact hp _ he hb
  | step h ho' he hb => rw [ho] at ho'; injection ho' with ho'; subst ho'; exact c.anc h (hp _ he hb)
theorem Anc.trans {ops : Array Oper} {i j k : Nat} (h : Anc ops i j) (g : Anc ops j k) : Anc ops i k := by
  induction g with
  | base ho he hb => exact .step h ho he hb
  | step _ ho he hb ih => exact .step (ih h) ho he hb

def predsOf (o : Oper) : List Nat := (o.after.toList.filter (Region.binds .any)).map (·.on)
theorem mem_predsOf {o : Oper} {i : Nat} : i ∈ predsOf o ↔ ∃ e ∈ o.after, Region.binds .any e = true ∧ e.on = i := by
  unfold predsOf
  simp only [List.mem_map, List.mem_filter, Array.mem_toList_iff]
  exact ⟨fun ⟨e, ⟨a, b⟩, c⟩ => ⟨e, a, b, c⟩, fun ⟨e, a, b, c⟩ => ⟨e, ⟨a, b⟩, c⟩⟩

def maskOf (ms : List Nat) (l : List Nat) : Nat := l.foldl (fun m i => m ||| (1 <<< i ||| ms.getD i 0)) 0
theorem testBit_one_shift (i k : Nat) : Nat.testBit (1 <<< i) k = decide (i = k) := by
  rw [Nat.testBit_shiftLeft]
  by_cases h : i = k
  · subst h; simp
  · by_cases h2 : i < k
    · have : (1 : Nat).testBit (k - i) = false := by
        cases hb : (1 : Nat).testBit (k - i) with
        | false => rfl
        | true => have := Nat.testBit_one_eq_true_iff_self_eq_zero.1 hb; omega
      simp [h, this]
    · have : ¬ i ≤ k := by omega
      simp [this, h]
theorem testBit_maskOf {ms l : List Nat} {k : Nat} : Nat.testBit (maskOf ms l) k = true ↔ ∃ i ∈ l, i = k ∨ Nat.testBit (ms.getD i 0) k = true := by
  have key : ∀ (l : List Nat) (m : Nat), Nat.testBit (l.foldl (fun m i => m ||| (1 <<< i ||| ms.getD i 0)) m) k = true ↔ Nat.testBit m k = true ∨ ∃ i ∈ l, i = k ∨ Nat.testBit (ms.getD i 0) k = true := by
    intro l
    induction l with
    | nil => intro m; simp
    | cons x l ih =>
      intro m
      rw [List.foldl_cons, ih]
      simp only [Nat.testBit_or, Bool.or_eq_true, testBit_one_shift, decide_eq_true_eq, List.mem_cons, exists_eq_or_imp]
      constructor
      · rintro ((h | h) | h)
        · exact .inl h
        · exact .inr (.inl h)
        · exact .inr (.inr h)
      · rintro (h | h | h)
        · exact .inl (.inl h)
        · exact .inl (.inr h)
        · exact .inr h
  unfold maskOf
  rw [key]; simp
def masks (ops : List Oper) : List Nat := ops.foldl (fun ms o => ms ++ [maskOf ms (predsOf o)]) []
theorem masks_go (ops : Array Oper) : ∀ (l pre : List Oper) (ms : List Nat), (∃ r, ops.toList = pre ++ l ++ r) → ms.length = pre.length → (∀ j i, Nat.testBit (ms.getD j 0) i = true → Anc ops i j) →
    ∀ j i, Nat.testBit ((l.foldl (fun ms o => ms ++ [maskOf ms (predsOf o)]) ms).getD j 0) i = true → Anc ops i j := by
  intro l
  induction l with
  | nil => intro pre ms _ _ h; exact h
  | cons o l ih =>
    rintro pre ms ⟨r, hr⟩ h1 h2
    rw [List.foldl_cons]
    refine ih (pre ++ [o]) _ ⟨r, by rw [hr]; simp⟩ (by simp [h1]) ?_
    intro j i h
    by_cases hj : j < pre.length
    · rw [List.getD_eq_getElem?_getD, List.getElem?_append_left (by omega), ← List.getD_eq_getElem?_getD] at h
      exact h2 j i h
    · by_cases hj2 : j = pre.length
      · subst hj2
        rw [List.getD_eq_getElem?_getD, List.getElem?_append_right (by omega), h1] at h
        simp only [Nat.sub_self, List.getElem?_cons_zero, Option.getD_some] at h
        obtain ⟨k, hk, h⟩ := testBit_maskOf.1 h
        obtain ⟨e, he, hb, rfl⟩ := mem_predsOf.1 hk
        have ho : ops[pre.length]? = some o := by
          rw [← Array.getElem?_toList, hr, List.append_assoc, List.getElem?_append_right (Nat.le_refl _)]
          simp
        rcases h with rfl | h
        · exact .base ho he hb
        · exact .step (h2 _ _ h) ho he hb
      · rw [List.getD_eq_getElem?_getD, List.getElem?_eq_none (by simp; omega)] at h
        simp at h
theorem masks_anc {ops : Array Oper} {j i : Nat} (h : Nat.testBit ((masks ops.toList).getD j 0) i = true) : Anc ops i j :=
  masks_go ops ops.toList [] [] ⟨[], by simp⟩ rfl (fun j i h => by simp at h) j i h

/-! ### The plan -/
def ordGo (ops : Array Oper) : List Nat → Nat → Bool
  | [], done => (List.range ops.size).all (Nat.testBit done ·)
  | j :: l, done => (match ops[j]? with | some o => (predsOf o).all (Nat.testBit done ·) | none => false) && !Nat.testBit done j && ordGo ops l (done ||| 1 <<< j)
def pairsOK (ops : Array Oper) (ms : List Nat) : Bool :=
  (List.range ops.size).all fun i => (List.range i).all fun j => Nat.testBit (ms.getD i 0) j || (match ops[i]?, ops[j]? with | some x, some y => x.apart ops y | _, _ => true)
def readyIn (ops : Array Oper) (done : Nat) (j : Nat) : Bool := match ops[j]? with | some o => (predsOf o).all (Nat.testBit done ·) | none => false
def orderGo (ops : Array Oper) : Nat → List Nat → Nat → List Nat
  | 0, _, _ => []
  | n + 1, rem, done =>
    match rem.find? (fun j => readyIn ops done j && (match ops[j]? with | some o => !Nat.beq (kindOf o) 3 | none => false)) with
    | some j => j :: orderGo ops n (rem.filter (fun i => !Nat.beq i j)) (done ||| 1 <<< j)
    | none => match rem.find? (readyIn ops done) with
      | some j => j :: orderGo ops n (rem.filter (fun i => !Nat.beq i j)) (done ||| 1 <<< j)
      | none => []
def orderOf (ops : Array Oper) : List Nat := orderGo ops ops.size (List.range ops.size) 0

/-- What the order of a plan is like. -/
structure OrdOK (ops : Array Oper) (σ : List Nat) : Prop where
  nodup : σ.Nodup
  all : ∀ i, i < ops.size → i ∈ σ
  pred : ∀ σ1 j σ2, σ = σ1 ++ j :: σ2 → ∃ o, ops[j]? = some o ∧ ∀ e ∈ o.after, Region.binds .any e = true → e.on ∈ σ1
theorem ordGo_spec {ops : Array Oper} : ∀ (σ : List Nat) (done : Nat) (pre : List Nat), ordGo ops σ done = true → (∀ i, Nat.testBit done i = true ↔ i ∈ pre) →
    σ.Nodup ∧ (∀ i ∈ σ, i ∉ pre) ∧ (∀ i, i < ops.size → i ∈ pre ∨ i ∈ σ) ∧ ∀ σ1 j σ2, σ = σ1 ++ j :: σ2 → ∃ o, ops[j]? = some o ∧ ∀ e ∈ o.after, Region.binds .any e = true → e.on ∈ pre ∨ e.on ∈ σ1 := by
  intro σ
  induction σ with
  | nil =>
    intro done pre h hd
    simp only [ordGo, List.all_eq_true, List.mem_range] at h
    exact ⟨by simp, by simp, fun i hi => .inl ((hd i).1 (h i hi)), fun σ1 j σ2 e => by simp at e⟩
  | cons j σ ih =>
    intro done pre h hd
    simp only [ordGo, Bool.and_eq_true, Bool.not_eq_true'] at h
    obtain ⟨⟨h1, h2⟩, h3⟩ := h
    have hj : j ∉ pre := fun hm => by rw [(hd j).2 hm] at h2; cases h2
    obtain ⟨a, b, c, d⟩ := ih (done ||| 1 <<< j) (j :: pre) h3 (fun i => by
      rw [Nat.testBit_or, testBit_one_shift, Bool.or_eq_true, hd, decide_eq_true_eq, List.mem_cons]
      constructor
      · rintro (h | h); exact .inr h; exact .inl h.symm
      · rintro (h | h); exact .inr h.symm; exact .inl h)
    refine ⟨List.nodup_cons.2 ⟨fun hm => b j hm (by simp), a⟩, ?_, ?_, ?_⟩
    · intro i hi
      rcases List.mem_cons.1 hi with rfl | hi
      · exact hj
      · exact fun hp => b i hi (by simp [hp])
    · intro i hi
      rcases c i hi with hp | hp
      · rcases List.mem_cons.1 hp with rfl | hp
        · exact .inr (by simp)
        · exact .inl hp
      · exact .inr (by simp [hp])
    · intro σ1 k σ2 e
      cases σ1 with
      | nil =>
        simp only [List.nil_append, List.cons.injEq] at e
        obtain ⟨rfl, rfl⟩ := e
        split at h1
        · next o ho =>
          refine ⟨o, ho, fun e he hb => .inl ?_⟩
          rw [List.all_eq_true] at h1
          exact (hd _).1 (h1 _ (mem_predsOf.2 ⟨e, he, hb, rfl⟩))
        · cases h1
      | cons x σ1 =>
        simp only [List.cons_append, List.cons.injEq] at e
        obtain ⟨rfl, rfl⟩ := e
        obtain ⟨o, ho, hp⟩ := d σ1 k σ2 rfl
        refine ⟨o, ho, fun e he hb => ?_⟩
        rcases hp e he hb with h | h
        · rcases List.mem_cons.1 h with h | h
          · exact .inr (by simp [h])
          · exact .inl h
        · exact .inr (by simp [h])
theorem ordGo_ok {ops : Array Oper} {σ : List Nat} (h : ordGo ops σ 0 = true) : OrdOK ops σ := by
  obtain ⟨a, b, c, d⟩ := ordGo_spec σ 0 [] h (fun i => by simp)
  refine ⟨a, fun i hi => (c i hi).resolve_left (by simp), fun σ1 j σ2 e => ?_⟩
  obtain ⟨o, ho, hp⟩ := d σ1 j σ2 e
  exact ⟨o, ho, fun e he hb => (hp e he hb).resolve_left (by simp)⟩
/-- Two operations that no edges bind are apart. -/
def Rel (ops : Array Oper) : Prop := ∀ i j x y, i ≠ j → ops[i]? = some x → ops[j]? = some y → Anc ops i j ∨ Anc ops j i ∨ (x.apart ops y = true ∧ y.apart ops x = true)
theorem apart_symm {ops : Array Oper} {x y : Oper} (h : x.apart ops y = true) : y.apart ops x = true := by
  obtain ⟨h1, h2, h3⟩ := Oper.apart_spec h
  unfold Oper.apart
  rw [Bool.and_eq_true]
  constructor
  · cases hy : y.dst with
    | none => rfl
    | some d =>
      have a := h3 d hy
      have b : x.dst ≠ some d := fun hx => h2 d hx hy
      simp [a, b]
  · cases hx : x.dst with
    | none => rfl
    | some d => simpa using h1 d hx
theorem pairs_ok {ops : Array Oper} (h : pairsOK ops (masks ops.toList) = true) : Rel ops := by
  have key : ∀ i j x y, j < i → ops[i]? = some x → ops[j]? = some y → Anc ops j i ∨ x.apart ops y = true := by
    intro i j x y hji hx hy
    have hi : i < ops.size := (Array.getElem?_eq_some_iff.1 hx).1
    simp only [pairsOK, List.all_eq_true, List.mem_range, Bool.or_eq_true] at h
    rcases h i hi j hji with h | h
    · exact .inl (masks_anc h)
    · rw [hx, hy] at h; exact .inr h
  intro i j x y hne hx hy
  rcases Nat.lt_or_gt_of_ne hne with hlt | hlt
  · rcases key j i y x hlt hy hx with h | h
    · exact .inl h
    · exact .inr (.inr ⟨apart_symm h, h⟩)
  · rcases key i j x y hlt hx hy with h | h
    · exact .inr (.inl h)
    · exact .inr (.inr ⟨h, apart_symm h⟩)

/-! ### The run -/
structure DS where
  a : A
  h : Heap
  last : Option Nat
  reads : List (Nat × Oper × A × Value)
def okLast (ms : List Nat) (last : Option Nat) (j : Nat) : Bool := match last with | none => true | some e => Nat.testBit (ms.getD j 0) e
def veq1 : Value → Value → Bool
  | .bool a, .bool b => a == b
  | .int k x, .int k' y => decide (k = k') && decide (x = y)
  | .string a, .string b => decide (a = b)
  | .pointer none, .pointer none => true
  | .pointer (some ⟨b, o, none⟩), .pointer (some ⟨b', o', none⟩) => Nat.beq b b' && Nat.beq o o'
  | .slice none l c, .slice none l' c' => Nat.beq l l' && Nat.beq c c'
  | .slice (some ⟨b, o, f⟩) l c, .slice (some ⟨b', o', f'⟩) l' c' => Nat.beq b b' && Nat.beq o o' && decide (f = f') && Nat.beq l l' && Nat.beq c c'
  | .map none, .map none => true
  | .map (some r), .map (some r') => Nat.beq r r'
  | .nilFunc, .nilFunc => true
  | .nilIface, .nilIface => true
  | _, _ => false
def veqL : List Value → List Value → Bool
  | [], [] => true
  | x :: l, y :: r => veq1 x y && veqL l r
  | _, _ => false
def veq : Value → Value → Bool
  | .agg cs, .agg ds => veqL cs.toList ds.toList
  | .tuple cs, .tuple ds => veqL cs.toList ds.toList
  | .func (.func f) x y, .func (.func g) x' y' => Nat.beq f g && veqL x.toList x'.toList && veqL y.toList y'.toList
  | .func (.yield f) x y, .func (.yield g) x' y' => Nat.beq f g && veqL x.toList x'.toList && veqL y.toList y'.toList
  | .iface t v, .iface t' v' => decide (t = t') && veq1 v v'
  | v, v' => veq1 v v'
theorem veq1_sound {v u : Value} (h : veq1 v u = true) : v = u := by
  unfold veq1 at h
  split at h <;> simp_all
theorem veqL_sound : ∀ {l r : List Value}, veqL l r = true → l = r
  | [], [], _ => rfl
  | x :: l, y :: r, h => by
    simp only [veqL, Bool.and_eq_true] at h
    rw [veq1_sound h.1, veqL_sound h.2]
  | [], _ :: _, h => by simp [veqL] at h
  | _ :: _, [], h => by simp [veqL] at h
theorem veq_sound {v u : Value} (h : veq v u = true) : v = u := by
  unfold veq at h
  split at h
  · rw [Array.toList_inj.1 (veqL_sound h)]
  · rw [Array.toList_inj.1 (veqL_sound h)]
  · simp only [Bool.and_eq_true] at h
    rw [Nat.eq_of_beq_eq_true h.1.1, Array.toList_inj.1 (veqL_sound h.1.2), Array.toList_inj.1 (veqL_sound h.2)]
  · simp only [Bool.and_eq_true] at h
    rw [Nat.eq_of_beq_eq_true h.1.1, Array.toList_inj.1 (veqL_sound h.1.2), Array.toList_inj.1 (veqL_sound h.2)]
  · simp only [Bool.and_eq_true, decide_eq_true_eq] at h
    rw [h.1, veq1_sound h.2]
  · exact veq1_sound h
def rereads (P : Program) (h : Heap) (l : List (Nat × Oper × A × Value)) : Bool :=
  l.all fun r => match aop P r.2.1 r.2.2.1 h with | some q => veq q.1 r.2.2.2 | none => false
def dstep (P : Program) (prim : Prim) (rec : Rec) (ops : Array Oper) (ms : List Nat) (j : Nat) (s : DS) : Option DS :=
  (ops[j]?).bind fun o =>
    bif awanted ops s.a o then
      bif Nat.beq (kindOf o) 0 then (aop P o s.a s.h).bind fun q => (s.a.put o.dst q.1).map fun a' => ⟨a', s.h, s.last, s.reads⟩
      else bif okLast ms s.last j then
        bif Nat.beq (kindOf o) 1 then (aop P o s.a s.h).bind fun q => (s.a.put o.dst q.1).map fun a' => ⟨a', s.h, s.last, (j, o, s.a, q.1) :: s.reads⟩
        else bif Nat.beq (kindOf o) 2 then (aop P o s.a s.h).bind fun q => (s.a.put o.dst q.1).map fun a' => ⟨a', q.2, s.last, s.reads⟩
        else (ostep P prim rec o s.a s.h).bind fun q => (s.a.put o.dst q.1).bind fun a' =>
          bif Nat.ble s.h.next q.2.next && rereads P q.2 (s.reads.filter fun r => !Nat.testBit (ms.getD j 0) r.1) then
            some ⟨a', q.2, some j, s.reads.filter fun r => !Nat.testBit (ms.getD j 0) r.1⟩ else none
      else none
    else (s.a.put o.dst undef).map fun a' => ⟨a', s.h, s.last, s.reads⟩
def dloop (P : Program) (prim : Prim) (rec : Rec) (ops : Array Oper) (ms : List Nat) : List Nat → DS → Option DS
  | [], s => some s
  | j :: l, s => (dstep P prim rec ops ms j s).bind (dloop P prim rec ops ms l)
def planOK (ops : Array Oper) : Bool := ordGo ops (orderOf ops) 0 && pairsOK ops (masks ops.toList)
def drawnF (P : Program) (prim : Prim) : Draw := fun ops rec a h =>
  bif planOK ops then (dloop P prim rec ops (masks ops.toList) (orderOf ops) ⟨a, h, none, []⟩).map fun s => (s.a, s.h) else none
end Go.AM
