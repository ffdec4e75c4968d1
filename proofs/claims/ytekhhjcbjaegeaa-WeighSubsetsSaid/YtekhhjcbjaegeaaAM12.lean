/- The abstract machine's run of code, of calls, of ranges over functions. -/
import Derived.Test.YtekhhjcbjaegeaaAM11
import Derived.LoopNIn
import Derived.OrdersIn
set_option linter.all false
namespace Go.AM
open Go
variable {P : Program}

/-- How code is left. -/
inductive AX where
  | normal
  | exit (id : Nat)
  | goto (l : Nat)
  | ret
def cx : AX → Exit
  | .normal => .normal
  | .exit i => .exit i
  | .goto l => .goto l
  | .ret => .ret
abbrev Res := Option (AX × A × Heap)
abbrev Rec := Option Nat → Code → A → Heap → Res
abbrev Prim := Nat → Option (List Value → Heap → Option (Value × Heap))

/-! ### Operations one after the other -/
def boolOf : Value → Option Bool
  | .bool b => some b
  | _ => none
def ayielded (ops : Array Oper) (a : A) (j : Nat) : Option Bool := ((ops[j]?).bind (·.dst)).bind fun t => boolOf ((a.tr.get t).getD undef)
def awanted (ops : Array Oper) (a : A) (o : Oper) : Bool :=
  match o.guard with
  | none => true
  | some (j, want) => match ayielded ops a j with | some b => b == want | none => false
theorem awanted_eq {ρ : Rho} {a : A} {c : Act} (r : AR ρ a c) (ops : Array Oper) (o : Oper) : Region.wanted o (yielded ops c.tmps) = awanted ops a o := by
  unfold Region.wanted awanted
  cases hg : o.guard with
  | none => rfl
  | some q =>
    obtain ⟨j, want⟩ := q
    simp only
    have key : yielded ops c.tmps j = ayielded ops a j := by
      unfold yielded ayielded
      cases ho : (ops[j]?).bind (·.dst) with
      | none => rfl
      | some t =>
        simp only [Option.bind_some]
        have ht := r.tmps t
        cases hc : c.tmps[t]? with
        | none =>
          have : c.tmps.getD t undef = undef := by simp [Array.getD_eq_getD_getElem?, hc]
          rw [this] at ht
          generalize (a.tr.get t).getD undef = x at ht ⊢
          cases x with
          | bool b => have := ht.bool_inv; cases this
          | _ => rfl
        | some u =>
          have : c.tmps.getD t undef = u := by simp [Array.getD_eq_getD_getElem?, hc]
          rw [this] at ht
          generalize (a.tr.get t).getD undef = x at ht ⊢
          cases ht with
          | fl e => cases u <;> rfl
          | _ => rfl
    rw [key]
    cases ayielded ops a j with
    | none => rfl
    | some b => rfl

def ofList (l : List Value) : Tr Value := (l.zipIdx.foldl (fun t p => t.set p.2 (some p.1)) Tr.nil)
def initA (fn : Func) (args : List Value) : A := ⟨ofList args, args.length + (fn.ntmps - args.length), []⟩
def resL (P : Program) (a : A) (h : Heap) : List ResultVar → Option (List Value)
  | [] => some []
  | .tmp t :: l => (resL P a h l).map ((a.tr.get t).getD undef :: ·)
  | .cell t ty :: l => (aload P ty ((a.tr.get t).getD undef) h).bind fun v => (resL P a h l).map (v :: ·)
def oneOf (l : List Value) : Value := match l with | [v] => v | l => .tuple l.toArray
def ares (P : Program) (fn : Func) (a : A) (h : Heap) : Option Value := (resL P a h fn.results.toList).map oneOf
def takeMarks : List Nat → Heap → Option Heap
  | [], h => some h
  | m :: ms, h => match h.get m with
    | some .mark => takeMarks ms (h.put m none)
    | _ => none
def callF (P : Program) (prim : Prim) (rec : Rec) (f : Nat) (args : List Value) (h : Heap) : Option (Value × Heap) :=
  match prim f with
  | some g => g args h
  | none => (P.funcs[f]?).bind fun fn => fn.body.bind fun c => (rec none c (initA fn args) h).bind fun q =>
      match q with
      | (.normal, a, h1) | (.ret, a, h1) => (takeMarks a.marks h1).bind fun h2 => (ares P fn a h2).map (·, h2)
      | _ => none
def jumpOf : AX → Option Code
  | .normal => none
  | .ret => some .ret
  | .exit i => some (.exit i)
  | .goto l => some (.goto l)
def setL (tr : Tr Value) (size : Nat) : List (Tmp × Value) → Option (Tr Value)
  | [] => some tr
  | (t, v) :: l => bif Nat.blt t size then setL (tr.set t (some v)) size l else none
def yieldF (rec : Rec) (l : Nat) (args : List Value) (h : Heap) : Option (Value × Heap) :=
  match h.get l with
  | some (.loop .ready p tr sz ps asg body mk) => bif Nat.beq args.length ps.size then
      (setL tr sz (ps.toList.zip args)).bind fun tr' => (rec (some l) asg ⟨tr', sz, []⟩ h).bind fun q =>
        match q with
        | (.normal, a1, h1) =>
          match h1.get l with
          | some (.loop .ready p1 tr1 sz1 ps1 asg1 body1 mk1) =>
            (rec (some l) body a1 (h1.put l (some (.loop .busy p1 tr1 sz1 ps1 asg1 body1 mk1)))).bind fun q2 =>
              match q2.2.2.get l with
              | some (.loop st2 p2 tr2 sz2 ps2 asg2 body2 mk2) =>
                some (.bool (jumpOf q2.1).isNone, q2.2.2.put l (some (.loop (bif (jumpOf q2.1).isNone then .ready else .done) (jumpOf q2.1) tr2 sz2 ps2 asg2 body2 mk2)))
              | _ => none
          | _ => none
        | _ => none else none
  | _ => none
def ocall (P : Program) (prim : Prim) (rec : Rec) (o : Oper) (a : A) (h : Heap) : Option (Value × Heap) :=
  match o.op with
  | .call c =>
    match c.callee with
    | .value g => (a.eval g).bind fun v => (aevs a c.args.toList).bind fun l =>
      match v with
      | .func (.func f) x y => callF P prim rec f (x.toList ++ l ++ y.toList) h
      | .func (.yield k) x y => bif x.isEmpty && y.isEmpty then yieldF rec k l h else none
      | _ => none
    | _ => none
  | _ => none
def ostep (P : Program) (prim : Prim) (rec : Rec) (o : Oper) (a : A) (h : Heap) : Option (Value × Heap) :=
  match aop P o a h with
  | some r => some r
  | none => ocall P prim rec o a h
def runOps (P : Program) (prim : Prim) (rec : Rec) (ops : Array Oper) : List Nat → A → Heap → Option (A × Heap)
  | [], a, h => some (a, h)
  | i :: l, a, h =>
    match ops[i]? with
    | none => runOps P prim rec ops l a h
    | some o =>
      bif awanted ops a o then (ostep P prim rec o a h).bind fun q => (a.put o.dst q.1).bind fun a' => runOps P prim rec ops l a' q.2
      else (a.put o.dst undef).bind fun a' => runOps P prim rec ops l a' h
def rangeF (P : Program) (prim : Prim) (rec : Rec) (ro : Option Nat) (g : Operand) (ps : Array Tmp) (asg body : Code) (a : A) (h : Heap) : Res :=
  (a.eval g).bind fun v =>
    match v with
    | .func (.func f) x y =>
      (match ro with
      | none => some (h.next, h.push .mark, h.next :: a.marks)
      | some l => match h.get l with
        | some (.loop _ _ _ _ _ _ _ mk) => some (mk, h, a.marks)
        | _ => none).bind fun q =>
        let L := q.2.1.next
        (callF P prim rec f (x.toList ++ [Value.func (.yield L) #[] #[]] ++ y.toList) (q.2.1.push (.loop .ready none a.tr a.size ps asg body q.1))).bind fun r =>
          match r.2.get L with
          | some (.loop st p tr2 sz2 ps2 asg2 body2 mk2) =>
            (match st with | .busy => none | _ => some ()).bind fun _ =>
              match p with
              | none => some (.normal, { a with marks := q.2.2 }, r.2.put L (some (.loop .exhausted none tr2 sz2 ps2 asg2 body2 mk2)))
              | some c => rec ro c { a with marks := q.2.2 } (r.2.put L (some (.loop .exhausted (some c) tr2 sz2 ps2 asg2 body2 mk2)))
          | _ => none
    | _ => none
abbrev Draw := Array Oper → Rec → A → Heap → Option (A × Heap)
def execF (P : Program) (prim : Prim) (rec : Rec) (drawn : Draw) (ro : Option Nat) (c : Code) (a : A) (h : Heap) : Res :=
  match c with
  | .skip | .label _ => some (.normal, a, h)
  | .ret => some (.ret, a, h)
  | .exit id => some (.exit id, a, h)
  | .goto l => some (.goto l, a, h)
  | .seq x y => (rec ro x a h).bind fun q => match q.1 with | .normal => rec ro y q.2.1 q.2.2 | _ => some q
  | .cond c x y => (a.eval c).bind fun v => match v with | .bool b => bif b then rec ro x a h else rec ro y a h | _ => none
  | .block id x => (rec ro x a h).map fun q => match q.1 with | .exit i => (bif Nat.beq i id then .normal else .exit i, q.2) | _ => q
  | .loop x => (rec ro x a h).bind fun q => match q.1 with | .normal => rec ro (.loop x) q.2.1 q.2.2 | _ => some q
  | .region _ ops d => (bif d then drawn ops rec a h else runOps P prim rec ops (List.range ops.size) a h).map fun q => (.normal, q.1, q.2)
  | .rangeFunc g ps asg body => rangeF P prim rec ro g ps asg body a h
  | _ => none
def exec (P : Program) (prim : Prim) (drawn : Draw) (n : Nat) : Rec := Nat.rec (motive := fun _ => Rec) (fun _ _ _ _ => none) (fun _ ih => execF P prim ih drawn) n
theorem exec_succ (P : Program) (prim : Prim) (drawn : Draw) (n : Nat) : exec P prim drawn (n + 1) = execF P prim (exec P prim drawn n) drawn := rfl
end Go.AM
