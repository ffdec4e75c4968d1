/- The abstract machine's run, laid out for the kernel: code becomes closures, once. -/
import Derived.Test.YtekhhjcbjaegeaaAM21
set_option linter.all false
namespace Go.AM
noncomputable section
open Go

/-! ### Temporaries -/
structure GetC where
  run : Tr Value → Option Value
def getC : Nat → Nat → GetC
  | 0, _ => ⟨fun _ => none⟩
  | _ + 1, 0 => ⟨fun t => Tr.rec (motive := fun _ => Option Value) none (fun v _ _ _ _ => v) t⟩
  | n + 1, k + 1 => match getC n (k / 2) with
    | ⟨f⟩ => bif k % 2 == 0 then ⟨fun t => Tr.rec (motive := fun _ => Option Value) none (fun _ l _ _ _ => f l) t⟩ else ⟨fun t => Tr.rec (motive := fun _ => Option Value) none (fun _ _ r _ _ => f r) t⟩
theorem getC_eq : ∀ (n k : Nat) (t : Tr Value), k < n → (getC n k).run t = t.get k := by
  intro n
  induction n with
  | zero => intro k t h; omega
  | succ n ih =>
    intro k t h
    cases k with
    | zero => cases t <;> rfl
    | succ k =>
      have := fun t => ih (k / 2) t (by omega)
      simp only [getC]
      generalize getC n (k / 2) = g at this
      obtain ⟨f⟩ := g
      cases hk : (k % 2 == 0) <;> cases t <;> simp only [Tr.get, hk, cond_true, cond_false] <;> exact this _
structure SetC where
  run : Tr Value → Option Value → Tr Value
def setC : Nat → Nat → SetC
  | 0, _ => ⟨fun t _ => t⟩
  | _ + 1, 0 => ⟨fun t x => Tr.rec (motive := fun _ => Tr Value) (.node x .nil .nil) (fun _ l r _ _ => .node x l r) t⟩
  | n + 1, k + 1 => match setC n (k / 2) with
    | ⟨f⟩ => bif k % 2 == 0 then ⟨fun t x => Tr.rec (motive := fun _ => Tr Value) (.node none (f .nil x) .nil) (fun v l r _ _ => .node v (f l x) r) t⟩
      else ⟨fun t x => Tr.rec (motive := fun _ => Tr Value) (.node none .nil (f .nil x)) (fun v l r _ _ => .node v l (f r x)) t⟩
theorem setC_eq : ∀ (n k : Nat) (t : Tr Value) (x : Option Value), (setC n k).run t x = Tr.setF n t k x := by
  intro n
  induction n with
  | zero => intro k t x; rfl
  | succ n ih =>
    intro k t x
    cases k with
    | zero => cases t <;> rfl
    | succ k =>
      have := fun t x => ih (k / 2) t x
      simp only [setC]
      generalize setC n (k / 2) = g at this
      obtain ⟨f⟩ := g
      cases hk : (k % 2 == 0) <;> cases t <;> simp only [Tr.setF, hk, cond_true, cond_false] <;> rw [← this]
structure EvC where
  run : A → Option Value
def evC : Operand → EvC
  | .tmp t => match getC (t + 1) t with | ⟨f⟩ => ⟨fun a => A.rec (motive := fun _ => Option Value) (fun tr _ _ => Option.rec (motive := fun _ => Option Value) (some undef) (fun v => some v) (f tr)) a⟩
  | .const v => bif flat v then ⟨fun _ => some v⟩ else ⟨fun _ => none⟩
  | .global _ => ⟨fun _ => none⟩
  | .func f => ⟨fun _ => some (.func (.func f) #[] #[])⟩
theorem evC_eq (x : Operand) (a : A) : (evC x).run a = a.eval x := by
  obtain ⟨tr, sz, ms⟩ := a
  cases x with
  | tmp t =>
    have := getC_eq (t + 1) t tr (by omega)
    simp only [evC, A.eval]
    generalize getC (t + 1) t = g at this
    obtain ⟨f⟩ := g
    simp only at this ⊢
    rw [this]
    cases tr.get t <;> rfl
  | const v => simp only [evC, A.eval]; cases flat v <;> rfl
  | global g => rfl
  | func f => rfl
structure PutC where
  run : A → Value → Option A
def putC : Option Tmp → PutC
  | none => ⟨fun a _ => some a⟩
  | some d => match setC (d + 1) d with | ⟨f⟩ => ⟨fun a v => A.rec (motive := fun _ => Option A) (fun tr size marks => Bool.rec (motive := fun _ => Option A) none (some ⟨f tr (some v), size, marks⟩) (Nat.blt d size)) a⟩
theorem putC_eq (d : Option Tmp) (a : A) (v : Value) : (putC d).run a v = a.put d v := by
  obtain ⟨tr, sz, ms⟩ := a
  cases d with
  | none => rfl
  | some d =>
    have := setC_eq (d + 1) d tr (some v)
    simp only [putC, A.put_eq]
    generalize setC (d + 1) d = g at this
    obtain ⟨f⟩ := g
    simp only at this ⊢
    rw [this]
    cases Nat.blt d sz <;> rfl
structure EvsC where
  run : A → Option (List Value)
def evsC : List Operand → EvsC
  | [] => ⟨fun _ => some []⟩
  | x :: l => match evC x, evsC l with | ⟨f⟩, ⟨g⟩ => ⟨fun a => match f a with | none => none | some v => match g a with | none => none | some r => some (v :: r)⟩
theorem evsC_eq (a : A) : ∀ l, (evsC l).run a = aevs a l
  | [] => rfl
  | x :: l => by
    have h1 := evC_eq x a
    have h2 := evsC_eq a l
    simp only [evsC, aevs]
    generalize evC x = e at h1
    generalize evsC l = e2 at h2
    obtain ⟨f⟩ := e
    obtain ⟨g⟩ := e2
    simp only at h1 h2 ⊢
    rw [h1, h2]
    cases a.eval x <;> cases aevs a l <;> rfl

/-! ### Whole numbers -/
def wrapF (k : IntKind) (n : Int) : Int :=
  match k with
  | .i64 => match n with
    | .ofNat m => bif Nat.blt m 9223372036854775808 then .ofNat m else k.wrap n
    | .negSucc m => bif Nat.blt m 9223372036854775808 then .negSucc m else k.wrap n
  | _ => k.wrap n
theorem wrapF_eq (k : IntKind) (n : Int) : wrapF k n = k.wrap n := by
  unfold wrapF
  cases k <;> try rfl
  have hs : ∀ n : Int, -9223372036854775808 ≤ n → n < 9223372036854775808 → IntKind.wrap .i64 n = n := by
    intro n h1 h2
    have hb : IntKind.bits .i64 = 64 := rfl
    have hg : IntKind.signed .i64 = true := rfl
    unfold IntKind.wrap
    simp only [hb, hg, Bool.true_and]
    have e1 : (2 ^ 64 : Int) = 18446744073709551616 := by decide
    have e2 : (2 ^ (64 - 1) : Int) = 9223372036854775808 := by decide
    rw [e1, e2]
    split
    · next h => simp only [decide_eq_true_eq] at h; omega
    · next h => simp only [decide_eq_true_eq] at h; omega
  cases n with
  | ofNat m =>
    simp only
    generalize hb : Nat.blt m 9223372036854775808 = b
    cases b with
    | false => rw [cond_false]
    | true =>
      rw [Nat.blt_eq] at hb
      rw [cond_true]
      exact (hs (Int.ofNat m) (by simp only [Int.ofNat_eq_natCast]; omega) (by simp only [Int.ofNat_eq_natCast]; omega)).symm
  | negSucc m =>
    simp only
    generalize hb : Nat.blt m 9223372036854775808 = b
    cases b with
    | false => rw [cond_false]
    | true =>
      rw [Nat.blt_eq] at hb
      rw [cond_true]
      exact (hs (Int.negSucc m) (by rw [Int.negSucc_eq]; omega) (by rw [Int.negSucc_eq]; omega)).symm
def intLt : Int → Int → Bool
  | .ofNat a, .ofNat b => Nat.blt a b
  | .negSucc _, .ofNat _ => true
  | .ofNat _, .negSucc _ => false
  | .negSucc a, .negSucc b => Nat.blt b a
theorem intLt_eq (x y : Int) : intLt x y = decide (x < y) := by
  have key : ∀ a b : Nat, Nat.blt a b = decide (a < b) := by
    intro a b
    cases h : Nat.blt a b with
    | true => rw [Nat.blt_eq] at h; simp [h]
    | false =>
      have : ¬ a < b := fun h2 => by rw [← Nat.blt_eq, h] at h2; cases h2
      simp [this]
  cases x <;> cases y <;> simp only [intLt, key, Int.ofNat_eq_natCast, Int.negSucc_eq]
  · apply decide_eq_decide.2; omega
  · exact (decide_eq_false (by omega)).symm
  · exact (decide_eq_true (by omega)).symm
  · apply decide_eq_decide.2; omega
def intEq : Int → Int → Bool
  | .ofNat a, .ofNat b => Nat.beq a b
  | .negSucc a, .negSucc b => Nat.beq a b
  | _, _ => false
theorem intEq_eq (x y : Int) : intEq x y = (x == y) := by
  have key : ∀ a b : Nat, Nat.beq a b = decide (a = b) := by
    intro a b
    cases h : Nat.beq a b with
    | true => simp [Nat.eq_of_beq_eq_true h]
    | false => simp [Nat.ne_of_beq_eq_false h]
  have e : (x == y) = decide (x = y) := by cases h : decide (x = y) <;> simp_all
  rw [e]
  cases x <;> cases y <;> simp only [intEq, key, Int.ofNat_eq_natCast, Int.negSucc_eq]
  · apply decide_eq_decide.2; omega
  · exact (decide_eq_false (by omega)).symm
  · exact (decide_eq_false (by omega)).symm
  · apply decide_eq_decide.2; omega
variable (P : Program)
structure BinC where
  run : Value → Value → Option Value
def ints (f : IntKind → Int → Int → Value) (g : Value → Value → Option Value) (v u : Value) : Option Value :=
  match v with
  | .int k a => match u with
    | .int k' b => bif decide (k = k') then some (f k a b) else g v u
    | _ => g v u
  | _ => g v u
def binC (op : BinOp) (t : TypeId) (x y : Operand) : BinC :=
  match op with
  | .add => ⟨ints (fun k a b => .int k (wrapF k (a + b))) (abin P .add t x y)⟩
  | .sub => ⟨ints (fun k a b => .int k (wrapF k (a - b))) (abin P .sub t x y)⟩
  | .mul => ⟨ints (fun k a b => .int k (wrapF k (a * b))) (abin P .mul t x y)⟩
  | .eql => ⟨ints (fun _ a b => .bool (intEq a b)) (abin P .eql t x y)⟩
  | .neq => ⟨ints (fun _ a b => .bool (!intEq a b)) (abin P .neq t x y)⟩
  | .lss => ⟨ints (fun _ a b => .bool (intLt a b)) (abin P .lss t x y)⟩
  | .leq => ⟨ints (fun _ a b => .bool (!intLt b a)) (abin P .leq t x y)⟩
  | .gtr => ⟨ints (fun _ a b => .bool (intLt b a)) (abin P .gtr t x y)⟩
  | .geq => ⟨ints (fun _ a b => .bool (!intLt a b)) (abin P .geq t x y)⟩
  | op => ⟨abin P op t x y⟩
theorem ints_eq {f : IntKind → Int → Int → Value} {g : Value → Value → Option Value} (h : ∀ k a b, g (.int k a) (.int k b) = some (f k a b)) (v u : Value) : ints f g v u = g v u := by
  unfold ints
  cases v with
  | int k a =>
    cases u with
    | int k' b =>
      by_cases hk : k = k'
      · subst hk; simp [h]
      · simp [hk]
    | _ => rfl
  | _ => rfl
theorem binC_eq (op : BinOp) (t : TypeId) (x y : Operand) (v u : Value) : (binC P op t x y).run v u = abin P op t x y v u := by
  have hnlt : ∀ a b : Int, (!decide (b < a)) = decide (a ≤ b) := by
    intro a b
    by_cases h : b < a
    · have : ¬ a ≤ b := by omega
      simp [h, this]
    · have : a ≤ b := by omega
      simp [h, this]
  cases op <;> simp only [binC] <;> first | rfl | skip
  case add => exact ints_eq (fun k a b => by rw [wrapF_eq]; cases k <;> rfl) v u
  case sub => exact ints_eq (fun k a b => by rw [wrapF_eq]; cases k <;> rfl) v u
  case mul => exact ints_eq (fun k a b => by rw [wrapF_eq]; cases k <;> rfl) v u
  case eql => exact ints_eq (fun k a b => by rw [intEq_eq]; cases k <;> rfl) v u
  case neq => exact ints_eq (fun k a b => by rw [intEq_eq]; cases k <;> rfl) v u
  case lss => exact ints_eq (fun k a b => by rw [intLt_eq]; cases k <;> rfl) v u
  case leq => exact ints_eq (fun k a b => by rw [intLt_eq, hnlt]; cases k <;> rfl) v u
  case gtr => exact ints_eq (fun k a b => by rw [intLt_eq]; cases k <;> rfl) v u
  case geq => exact ints_eq (fun k a b => by rw [intLt_eq, hnlt]; cases k <;> rfl) v u

/-! ### Operations -/
structure OpC where
  run : A → Heap → Option (Value × Heap)
def withH (r : Option Value) (h : Heap) : Option (Value × Heap) := Option.rec (motive := fun _ => Option (Value × Heap)) none (fun v => some (v, h)) r
theorem withH_eq (r : Option Value) (h : Heap) : withH r h = r.map (·, h) := by cases r <;> rfl
def opC (o : Oper) : OpC :=
  match o.op with
  | .move x => match evC x with | ⟨f⟩ => ⟨fun a h => withH (f a) h⟩
  | .assign x => match evC x with | ⟨f⟩ => ⟨fun a h => withH (f a) h⟩
  | .load t x => match evC x with | ⟨f⟩ => ⟨fun a h => match f a with | none => none | some v => withH (aload P t v h) h⟩
  | .store t x y => match evC x, evC y with | ⟨f⟩, ⟨g⟩ => ⟨fun a h => match f a with | none => none | some v => match g a with | none => none | some u => match astore P t v u h with | none => none | some h' => some (undef, h')⟩
  | .binOp op t x y _ => match evC x, evC y, binC P op t x y with | ⟨f⟩, ⟨g⟩, ⟨b⟩ => ⟨fun a h => match f a with | none => none | some v => match g a with | none => none | some u => withH (b v u) h⟩
  | .indexAddr t x i => match evC x, evC i with | ⟨f⟩, ⟨g⟩ => ⟨fun a h => match f a with | none => none | some v => match g a with | none => none | some u => withH (aindexAddr P t v u) h⟩
  | .fieldAddr s x i => match evC x with | ⟨f⟩ => ⟨fun a h => match f a with | none => none | some v => withH (afieldAddr P s v i) h⟩
  | .convert s d x => match evC x with | ⟨f⟩ => ⟨fun a h => match f a with | none => none | some v => withH (aconv P s d v h) h⟩
  | .nilCheck x => match evC x with | ⟨f⟩ => ⟨fun a h => match f a with | none => none | some v => withH (anilCheck v) h⟩
  | .extract x i => match evC x with | ⟨f⟩ => ⟨fun a h => match f a with | none => none | some v => withH (aextract v i) h⟩
  | .call c => match c.callee with
    | .builtin b => match evsC c.args.toList with | ⟨f⟩ => ⟨fun a h => match f a with | none => none | some l => abuiltin P b c.argTypes o.type l h⟩
    | _ => ⟨fun _ _ => none⟩
  | _ => ⟨fun a h => aop P o a h⟩
theorem opC_eq (o : Oper) (a : A) (h : Heap) : (opC P o).run a h = aop P o a h := by
  obtain ⟨dst, op, ty, pos, after, guard⟩ := o
  cases op <;> simp only [opC] <;> first | rfl | skip
  case move x =>
    have h1 := evC_eq x a
    generalize evC x = e at h1
    obtain ⟨f⟩ := e
    simp only at h1 ⊢
    rw [h1, withH_eq]; rfl
  case assign x =>
    have h1 := evC_eq x a
    generalize evC x = e at h1
    obtain ⟨f⟩ := e
    simp only at h1 ⊢
    rw [h1, withH_eq]; rfl
  case load t x =>
    have h1 := evC_eq x a
    generalize evC x = e at h1
    obtain ⟨f⟩ := e
    simp only [aop] at h1 ⊢
    rw [h1]
    cases a.eval x with
    | none => rfl
    | some v => simp only [withH_eq]; rfl
  case store t x y =>
    have h1 := evC_eq x a
    have h2 := evC_eq y a
    generalize evC x = e at h1
    generalize evC y = e2 at h2
    obtain ⟨f⟩ := e
    obtain ⟨g⟩ := e2
    simp only [aop] at h1 h2 ⊢
    rw [h1, h2]
    cases a.eval x with
    | none => rfl
    | some v =>
      cases a.eval y with
      | none => rfl
      | some u => simp only [Option.bind_some]; cases astore P t v u h <;> rfl
  case binOp op t x y z =>
    have h1 := evC_eq x a
    have h2 := evC_eq y a
    have h3 := binC_eq P op t x y
    generalize evC x = e at h1
    generalize evC y = e2 at h2
    generalize binC P op t x y = e3 at h3
    obtain ⟨f⟩ := e
    obtain ⟨g⟩ := e2
    obtain ⟨b⟩ := e3
    simp only [aop] at h1 h2 h3 ⊢
    rw [h1, h2]
    cases a.eval x with
    | none => rfl
    | some v =>
      cases a.eval y with
      | none => rfl
      | some u => simp only [withH_eq, h3]; rfl
  case indexAddr t x i =>
    have h1 := evC_eq x a
    have h2 := evC_eq i a
    generalize evC x = e at h1
    generalize evC i = e2 at h2
    obtain ⟨f⟩ := e
    obtain ⟨g⟩ := e2
    simp only [aop] at h1 h2 ⊢
    rw [h1, h2]
    cases a.eval x with
    | none => rfl
    | some v =>
      cases a.eval i with
      | none => rfl
      | some u => simp only [withH_eq]; rfl
  case fieldAddr s x i =>
    have h1 := evC_eq x a
    generalize evC x = e at h1
    obtain ⟨f⟩ := e
    simp only [aop] at h1 ⊢
    rw [h1]
    cases a.eval x with
    | none => rfl
    | some v => simp only [withH_eq]; rfl
  case convert s d x =>
    have h1 := evC_eq x a
    generalize evC x = e at h1
    obtain ⟨f⟩ := e
    simp only [aop] at h1 ⊢
    rw [h1]
    cases a.eval x with
    | none => rfl
    | some v => simp only [withH_eq]; rfl
  case nilCheck x =>
    have h1 := evC_eq x a
    generalize evC x = e at h1
    obtain ⟨f⟩ := e
    simp only [aop] at h1 ⊢
    rw [h1]
    cases a.eval x with
    | none => rfl
    | some v => simp only [withH_eq]; rfl
  case extract x i =>
    have h1 := evC_eq x a
    generalize evC x = e at h1
    obtain ⟨f⟩ := e
    simp only [aop] at h1 ⊢
    rw [h1]
    cases a.eval x with
    | none => rfl
    | some v => simp only [withH_eq]; rfl
  case call c =>
    obtain ⟨callee, args, ats⟩ := c
    cases callee <;> simp only [aop] <;> first | rfl | skip
    rename_i b
    have h1 := evsC_eq a args.toList
    generalize evsC args.toList = e at h1
    obtain ⟨f⟩ := e
    simp only at h1 ⊢
    rw [h1]
    cases aevs a args.toList <;> rfl
variable (prim : Prim)
structure StC where
  run : Rec → A → Heap → Option (Value × Heap)
def stC (o : Oper) : StC :=
  match o.op with
  | .call c => match c.callee with
    | .value g => match evC g, evsC c.args.toList with
      | ⟨f⟩, ⟨k⟩ => ⟨fun rec a h => match f a with
        | none => none
        | some v => match k a with
          | none => none
          | some l => match v with
            | .func (.func f) x y => callF P prim rec f (x.toList ++ l ++ y.toList) h
            | .func (.yield k) x y => bif x.isEmpty && y.isEmpty then yieldF rec k l h else none
            | _ => none⟩
    | _ => match opC P o with | ⟨f⟩ => ⟨fun _ a h => f a h⟩
  | _ => match opC P o with | ⟨f⟩ => ⟨fun _ a h => f a h⟩
theorem ostep_op (rec : Rec) (o : Oper) (a : A) (h : Heap) (e : ocall P prim rec o a h = none) : ostep P prim rec o a h = aop P o a h := by
  unfold ostep
  cases aop P o a h with
  | none => exact e
  | some r => rfl
theorem stC_eq (rec : Rec) (o : Oper) (a : A) (h : Heap) : (stC P prim o).run rec a h = ostep P prim rec o a h := by
  have h0 := opC_eq P o a h
  have hop : ocall P prim rec o a h = none → (match opC P o with | ⟨f⟩ => (⟨fun _ a h => f a h⟩ : StC)).run rec a h = ostep P prim rec o a h := by
    intro e
    rw [ostep_op P prim rec o a h e, ← h0]
  obtain ⟨dst, op, ty, pos, after, guard⟩ := o
  cases op <;> simp only [stC] <;> first | (exact hop rfl) | skip
  case call c =>
    obtain ⟨callee, args, ats⟩ := c
    cases callee <;> simp only <;> first | (exact hop rfl) | skip
    rename_i g
    have h1 := evC_eq g a
    have h2 := evsC_eq a args.toList
    generalize evC g = e at h1
    generalize evsC args.toList = e2 at h2
    obtain ⟨f⟩ := e
    obtain ⟨k⟩ := e2
    simp only at h1 h2 ⊢
    rw [h1, h2]
    have ha : aop P ⟨dst, .call ⟨.value g, args, ats⟩, ty, pos, after, guard⟩ a h = none := rfl
    unfold ostep
    rw [ha]
    simp only [ocall]
    cases a.eval g with
    | none => rfl
    | some v =>
      cases aevs a args.toList with
      | none => rfl
      | some l => rfl
/-- A whole operation: its guard, it, where its value goes. -/
structure RnC where
  run : Rec → A → Heap → Option (A × Heap)
def rnC (ops : Array Oper) (o : Oper) : RnC :=
  match stC P prim o, putC o.dst with
  | ⟨f⟩, ⟨p⟩ => match o.guard with
    | none => ⟨fun rec a h => Option.rec (motive := fun _ => Option (A × Heap)) none (fun q => Prod.rec (motive := fun _ => Option (A × Heap)) (fun v h' => Option.rec (motive := fun _ => Option (A × Heap)) none (fun a' => some (a', h')) (p a v)) q) (f rec a h)⟩
    | some _ => ⟨fun rec a h => bif awanted ops a o then (match f rec a h with | none => none | some (v, h') => match p a v with | none => none | some a' => some (a', h'))
        else match p a undef with | none => none | some a' => some (a', h)⟩
theorem rnC_eq (ops : Array Oper) (rec : Rec) (o : Oper) (a : A) (h : Heap) : (rnC P prim ops o).run rec a h =
    bif awanted ops a o then (ostep P prim rec o a h).bind fun q => (a.put o.dst q.1).bind fun a' => some (a', q.2) else (a.put o.dst undef).bind fun a' => some (a', h) := by
  have h1 := fun rec a h => stC_eq P prim rec o a h
  have h2 := fun a v => putC_eq o.dst a v
  unfold rnC
  generalize stC P prim o = e at h1
  generalize putC o.dst = e2 at h2
  obtain ⟨f⟩ := e
  obtain ⟨p⟩ := e2
  simp only at h1 h2 ⊢
  cases hg : o.guard with
  | none =>
    have : awanted ops a o = true := by unfold awanted; rw [hg]
    rw [this]
    simp only [cond_true]
    rw [h1]
    cases ostep P prim rec o a h with
    | none => rfl
    | some q =>
      obtain ⟨v, h'⟩ := q
      simp only [Option.bind_some, h2]
      cases a.put o.dst v <;> rfl
  | some q =>
    simp only
    cases awanted ops a o with
    | true =>
      simp only [cond_true]
      rw [h1]
      cases ostep P prim rec o a h with
      | none => rfl
      | some q =>
        obtain ⟨v, h'⟩ := q
        simp only [Option.bind_some, h2]
        cases a.put o.dst v <;> rfl
    | false =>
      simp only [cond_false, h2]
      cases a.put o.dst undef <;> rfl
def regC (ops : Array Oper) : List Oper → RnC
  | [] => ⟨fun _ a h => some (a, h)⟩
  | o :: l => match rnC P prim ops o, regC ops l with | ⟨f⟩, ⟨g⟩ => ⟨fun rec a h => Option.rec (motive := fun _ => Option (A × Heap)) none (fun q => Prod.rec (motive := fun _ => Option (A × Heap)) (fun a' h' => g rec a' h') q) (f rec a h)⟩
theorem regC_eq (ops : Array Oper) (rec : Rec) : ∀ (l : List Oper) (idx : List Nat) (a : A) (h : Heap), idx.map (fun i => ops[i]?) = l.map some → (regC P prim ops l).run rec a h = runOps P prim rec ops idx a h
  | [], idx, a, h, e => by
    cases idx with
    | nil => rfl
    | cons i idx => simp at e
  | o :: l, idx, a, h, e => by
    cases idx with
    | nil => simp at e
    | cons i idx =>
      simp only [List.map_cons, List.cons.injEq] at e
      have h1 := fun a h => rnC_eq P prim ops rec o a h
      have h2 := fun a h => regC_eq ops rec l idx a h e.2
      simp only [regC, runOps, e.1]
      generalize rnC P prim ops o = c1 at h1
      generalize regC P prim ops l = c2 at h2
      obtain ⟨f⟩ := c1
      obtain ⟨g⟩ := c2
      simp only at h1 h2 ⊢
      rw [h1]
      cases awanted ops a o with
      | true =>
        simp only [cond_true]
        cases ostep P prim rec o a h with
        | none => rfl
        | some q =>
          obtain ⟨v, h'⟩ := q
          simp only [Option.bind_some]
          cases a.put o.dst v with
          | none => rfl
          | some a' => simp only [Option.bind_some]; exact h2 _ _
      | false =>
        simp only [cond_false]
        cases a.put o.dst undef with
        | none => rfl
        | some a' => simp only [Option.bind_some]; exact h2 _ _
theorem regC_all (ops : Array Oper) (rec : Rec) (a : A) (h : Heap) : (regC P prim ops ops.toList).run rec a h = runOps P prim rec ops (List.range ops.size) a h := by
  refine regC_eq P prim ops rec _ _ a h ?_
  apply List.ext_getElem?
  intro i
  simp only [List.getElem?_map, List.getElem?_range', Array.getElem?_toList]
  by_cases hi : i < ops.size
  · simp [List.getElem?_range, hi]
  · simp [List.getElem?_range, hi]

/-! ### Drawn regions -/
structure DstC where
  run : Rec → DS → Option DS
def dstC (ops : Array Oper) (ms : List Nat) (j : Nat) : DstC :=
  match ops[j]? with
  | none => ⟨fun _ _ => none⟩
  | some o => match opC P o, stC P prim o, putC o.dst with
    | ⟨f⟩, ⟨g⟩, ⟨p⟩ => match kindOf o with
      | 0 => ⟨fun _ s => match s with
        | ⟨a, h, last, reads⟩ => bif awanted ops a o then (match f a h with | none => none | some (v, _) => match p a v with | none => none | some a' => some ⟨a', h, last, reads⟩)
            else match p a undef with | none => none | some a' => some ⟨a', h, last, reads⟩⟩
      | k + 1 => ⟨fun rec s => match s with
        | ⟨a, h, last, reads⟩ => bif awanted ops a o then
            bif okLast ms last j then
              match k with
              | 0 => match f a h with | none => none | some (v, _) => match p a v with | none => none | some a' => some ⟨a', h, last, (j, o, a, v) :: reads⟩
              | 1 => match f a h with | none => none | some (v, h') => match p a v with | none => none | some a' => some ⟨a', h', last, reads⟩
              | _ => match g rec a h with
                | none => none
                | some (v, h') => match p a v with
                  | none => none
                  | some a' => bif Nat.ble h.next h'.next && rereads P h' (reads.filter fun r => !Nat.testBit (ms.getD j 0) r.1) then
                      some ⟨a', h', some j, reads.filter fun r => !Nat.testBit (ms.getD j 0) r.1⟩ else none
            else none
            else match p a undef with | none => none | some a' => some ⟨a', h, last, reads⟩⟩
theorem dstC_eq (ops : Array Oper) (ms : List Nat) (j : Nat) (rec : Rec) (s : DS) : (dstC P prim ops ms j).run rec s = dstep P prim rec ops ms j s := by
  obtain ⟨a, h, last, reads⟩ := s
  unfold dstC dstep
  cases ops[j]? with
  | none => rfl
  | some o =>
    have h1 := fun a h => opC_eq P o a h
    have h2 := fun a h => stC_eq P prim rec o a h
    have h3 := fun a v => putC_eq o.dst a v
    simp only [Option.bind_some]
    generalize opC P o = c1 at h1
    generalize stC P prim o = c2 at h2
    generalize putC o.dst = c3 at h3
    obtain ⟨f⟩ := c1
    obtain ⟨g⟩ := c2
    obtain ⟨p⟩ := c3
    simp only at h1 h2 h3 ⊢
    generalize hk : kindOf o = k
    match k with
    | 0 =>
      simp only [h1, h3]
      cases awanted ops a o with
      | true =>
        simp only [cond_true, show Nat.beq 0 0 = true from rfl]
        cases aop P o a h with
        | none => rfl
        | some q => obtain ⟨v, h'⟩ := q; simp only [Option.bind_some]; cases a.put o.dst v <;> rfl
      | false => simp only [cond_false]; cases a.put o.dst undef <;> rfl
    | 1 =>
      have e1 : Nat.beq 1 0 = false := rfl
      have e2 : Nat.beq 1 1 = true := rfl
      simp only [h1, h3, e1, e2]
      cases awanted ops a o with
      | true =>
        simp only [cond_true, cond_false]
        cases okLast ms last j with
        | false => rfl
        | true =>
          simp only [cond_true]
          cases aop P o a h with
          | none => rfl
          | some q => obtain ⟨v, h'⟩ := q; simp only [Option.bind_some]; cases a.put o.dst v <;> rfl
      | false => simp only [cond_false]; cases a.put o.dst undef <;> rfl
    | 2 =>
      have e1 : Nat.beq 2 0 = false := rfl
      have e2 : Nat.beq 2 1 = false := rfl
      have e3 : Nat.beq 2 2 = true := rfl
      simp only [h1, h3, e1, e2, e3]
      cases awanted ops a o with
      | true =>
        simp only [cond_true, cond_false]
        cases okLast ms last j with
        | false => rfl
        | true =>
          simp only [cond_true]
          cases aop P o a h with
          | none => rfl
          | some q => obtain ⟨v, h'⟩ := q; simp only [Option.bind_some]; cases a.put o.dst v <;> rfl
      | false => simp only [cond_false]; cases a.put o.dst undef <;> rfl
    | k + 3 =>
      have e1 : Nat.beq (k + 3) 0 = false := rfl
      have e2 : Nat.beq (k + 3) 1 = false := rfl
      have e3 : Nat.beq (k + 3) 2 = false := rfl
      simp only [h2, h3, e1, e2, e3]
      cases awanted ops a o with
      | true =>
        simp only [cond_true, cond_false]
        cases okLast ms last j with
        | false => rfl
        | true =>
          simp only [cond_true]
          cases ostep P prim rec o a h with
          | none => rfl
          | some q => obtain ⟨v, h'⟩ := q; simp only [Option.bind_some]; cases a.put o.dst v <;> rfl
      | false => simp only [cond_false]; cases a.put o.dst undef <;> rfl
def dlC (ops : Array Oper) (ms : List Nat) : List Nat → DstC
  | [] => ⟨fun _ s => some s⟩
  | j :: l => match dstC P prim ops ms j, dlC ops ms l with | ⟨f⟩, ⟨g⟩ => ⟨fun rec s => match f rec s with | none => none | some s' => g rec s'⟩
theorem dlC_eq (ops : Array Oper) (ms : List Nat) (rec : Rec) : ∀ (l : List Nat) (s : DS), (dlC P prim ops ms l).run rec s = dloop P prim rec ops ms l s
  | [], s => rfl
  | j :: l, s => by
    have h1 := fun s => dstC_eq P prim ops ms j rec s
    have h2 := fun s => dlC_eq ops ms rec l s
    simp only [dlC, dloop]
    generalize dstC P prim ops ms j = c1 at h1
    generalize dlC P prim ops ms l = c2 at h2
    obtain ⟨f⟩ := c1
    obtain ⟨g⟩ := c2
    simp only at h1 h2 ⊢
    rw [h1]
    cases dstep P prim rec ops ms j s with
    | none => rfl
    | some s' => exact h2 s'

/-! ### Code -/
structure CdC where
  run : Rec → Option Nat → A → Heap → Res
def cdC (c : Code) : CdC :=
  match c with
  | .seq x y => ⟨fun rec ro a h => match rec ro x a h with
      | none => none
      | some (.normal, a', h') => rec ro y a' h'
      | some (e, a', h') => some (e, a', h')⟩
  | .cond c x y => match evC c with | ⟨f⟩ => ⟨fun rec ro a h => match f a with
      | some (.bool b) => bif b then rec ro x a h else rec ro y a h
      | _ => none⟩
  | .region _ ops d => bif d then
        bif planOK ops then (match dlC P prim ops (masks ops.toList) (orderOf ops) with
          | ⟨f⟩ => ⟨fun rec _ a h => match f rec ⟨a, h, none, []⟩ with | none => none | some ⟨a', h', _, _⟩ => some (.normal, a', h')⟩)
        else ⟨fun _ _ _ _ => none⟩
      else match regC P prim ops ops.toList with | ⟨f⟩ => ⟨fun rec _ a h => match f rec a h with | none => none | some (a', h') => some (.normal, a', h')⟩
  | c => ⟨fun rec ro a h => execF P prim rec (drawnF P prim) ro c a h⟩
theorem cdC_eq (c : Code) (rec : Rec) (ro : Option Nat) (a : A) (h : Heap) : (cdC P prim c).run rec ro a h = execF P prim rec (drawnF P prim) ro c a h := by
  cases c <;> simp only [cdC]
  case seq x y =>
    simp only [execF]
    cases rec ro x a h with
    | none => rfl
    | some q => obtain ⟨e, a', h'⟩ := q; cases e <;> rfl
  case cond c x y =>
    have h1 := evC_eq c a
    simp only [execF]
    generalize evC c = e at h1
    obtain ⟨f⟩ := e
    simp only at h1 ⊢
    rw [h1]
    cases a.eval c with
    | none => rfl
    | some v => cases v <;> rfl
  case region id ops d =>
    cases d with
    | true =>
      simp only [cond_true, execF, drawnF]
      cases planOK ops with
      | false => rfl
      | true =>
        simp only [cond_true]
        have h1 := fun s => dlC_eq P prim ops (masks ops.toList) rec (orderOf ops) s
        generalize dlC P prim ops (masks ops.toList) (orderOf ops) = c at h1
        obtain ⟨f⟩ := c
        simp only at h1 ⊢
        rw [h1]
        cases dloop P prim rec ops (masks ops.toList) (orderOf ops) ⟨a, h, none, []⟩ <;> rfl
    | false =>
      simp only [cond_false, execF]
      have h1 := regC_all P prim ops rec a h
      generalize regC P prim ops ops.toList = c at h1
      obtain ⟨f⟩ := c
      simp only at h1 ⊢
      rw [h1]
      cases runOps P prim rec ops (List.range ops.size) a h <;> rfl
def runC (n : Nat) : Rec := Nat.rec (motive := fun _ => Rec) (fun _ _ _ _ => none) (fun _ ih ro c a h => match cdC P prim c with | ⟨f⟩ => f ih ro a h) n
theorem runC_eq (n : Nat) : runC P prim n = AM.run P prim n := by
  induction n with
  | zero => rfl
  | succ n ih =>
    funext ro c a h
    show (match cdC P prim c with | ⟨f⟩ => f (runC P prim n) ro a h) = execF P prim (AM.run P prim n) (drawnF P prim) ro c a h
    rw [ih]
    exact cdC_eq P prim c (AM.run P prim n) ro a h
def callC (n : Nat) (f : Nat) (args : List Value) (h : Heap) : Option (Value × Heap) := callF P prim (runC P prim n) f args h
theorem callC_eq (n : Nat) (f : Nat) (args : List Value) (h : Heap) : callC P prim n f args h = call P prim n f args h := by unfold callC call; rw [runC_eq]
end
end Go.AM
