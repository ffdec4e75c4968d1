/- Rules for reckoning with letters: regions one operation after the other. -/
import Derived.Test.YtekhhjcbjaegeaaAM25
set_option linter.all false
namespace Go.AM
open Go
variable {P : Program} {prim : Prim}

def runL (P : Program) (prim : Prim) (rec : Rec) (ops : Array Oper) : List Oper → A → Heap → Option (A × Heap)
  | [], a, h => some (a, h)
  | o :: l, a, h => (bif awanted ops a o then (ostep P prim rec o a h).bind fun q => (a.put o.dst q.1).map fun a' => (a', q.2) else (a.put o.dst undef).map fun a' => (a', h)).bind fun q => runL P prim rec ops l q.1 q.2
theorem runL_eq (ops : Array Oper) (rec : Rec) (a : A) (h : Heap) : runL P prim rec ops ops.toList a h = runOps P prim rec ops (List.range ops.size) a h := by
  rw [← regC_all]
  have key : ∀ (l : List Oper) (a : A) (h : Heap), runL P prim rec ops l a h = (regC P prim ops l).run rec a h := by
    intro l
    induction l with
    | nil => intro a h; rfl
    | cons o l ih =>
      intro a h
      have h1 := rnC_eq P prim ops rec o a h
      simp only [runL, regC]
      have ih' := ih
      generalize rnC P prim ops o = c1 at h1
      generalize regC P prim ops l = c2 at ih'
      obtain ⟨f⟩ := c1
      obtain ⟨g⟩ := c2
      simp only at h1 ih' ⊢
      rw [h1]
      cases awanted ops a o with
      | true =>
        simp only [cond_true]
        cases ostep P prim rec o a h with
        | none => rfl
        | some q =>
          simp only [Option.bind_some]
          cases a.put o.dst q.1 with
          | none => rfl
          | some a' => exact ih' _ _
      | false =>
        simp only [cond_false]
        cases a.put o.dst undef with
        | none => rfl
        | some a' => exact ih' _ _
  exact key _ _ _
section rules
variable {ro : Option Nat} {a a' : A} {h h' : Heap} {e : AX} {x y : Code}
theorem Runs.region_seq {i : Nat} {ops : Array Oper} (hx : ∃ q, runL P prim (AM.run P prim 0) ops ops.toList a h = some q ∧ Runs P prim ro y q.1 q.2 e a' h') : Runs P prim ro (.seq (.region i ops false) y) a h e a' h' := by
  obtain ⟨⟨a1, h1⟩, hq, hy⟩ := hx
  rw [runL_eq] at hq
  exact Runs.seq (Runs.region 0 hq) hy
theorem Runs.region_one {i : Nat} {ops : Array Oper} (hx : ∃ q, runL P prim (AM.run P prim 0) ops ops.toList a h = some q ∧ e = .normal ∧ a' = q.1 ∧ h' = q.2) : Runs P prim ro (.region i ops false) a h e a' h' := by
  obtain ⟨⟨a1, h1⟩, hq, rfl, rfl, rfl⟩ := hx
  rw [runL_eq] at hq
  exact Runs.region 0 hq
end rules

/-! ### What one operation does, for simp -/
section one
variable {ops : Array Oper} {rec : Rec} {a : A} {h : Heap} {dst : Option Tmp} {ty : TypeId} {pos : String} {after : Array Edge} {l : List Oper}
theorem runL_nil : runL P prim rec ops [] a h = some (a, h) := rfl
theorem runL_cons {op : Op} : runL P prim rec ops (⟨dst, op, ty, pos, after, none⟩ :: l) a h = (ostep P prim rec ⟨dst, op, ty, pos, after, none⟩ a h).bind fun q => (a.put dst q.1).bind fun a' => runL P prim rec ops l a' q.2 := by
  simp only [runL, awanted, cond_true]
  cases ostep P prim rec ⟨dst, op, ty, pos, after, none⟩ a h with
  | none => rfl
  | some q =>
    simp only [Option.bind_some]
    cases a.put dst q.1 <;> rfl
theorem runL_guard {op : Op} {j : Nat} {want : Bool} : runL P prim rec ops (⟨dst, op, ty, pos, after, some (j, want)⟩ :: l) a h =
    match ayielded ops a j with
    | some b => bif b == want then (ostep P prim rec ⟨dst, op, ty, pos, after, some (j, want)⟩ a h).bind fun q => (a.put dst q.1).bind fun a' => runL P prim rec ops l a' q.2 else (a.put dst undef).bind fun a' => runL P prim rec ops l a' h
    | none => (a.put dst undef).bind fun a' => runL P prim rec ops l a' h := by
  simp only [runL, awanted]
  cases ayielded ops a j with
  | none => simp only [cond_false]; cases a.put dst undef <;> rfl
  | some b =>
    simp only
    cases (b == want) with
    | true =>
      simp only [cond_true]
      cases ostep P prim rec ⟨dst, op, ty, pos, after, some (j, want)⟩ a h with
      | none => rfl
      | some q => simp only [Option.bind_some]; cases a.put dst q.1 <;> rfl
    | false => simp only [cond_false]; cases a.put dst undef <;> rfl
variable {g : Option (Nat × Bool)}
theorem ostep_move {x : Operand} : ostep P prim rec ⟨dst, .move x, ty, pos, after, g⟩ a h = (a.eval x).map (·, h) := by
  rw [ostep_op _ _ _ _ _ _ rfl]; rfl
theorem ostep_assign {x : Operand} : ostep P prim rec ⟨dst, .assign x, ty, pos, after, g⟩ a h = (a.eval x).map (·, h) := by
  rw [ostep_op _ _ _ _ _ _ rfl]; rfl
theorem ostep_pick {c x y : Operand} : ostep P prim rec ⟨dst, .pick c x y, ty, pos, after, g⟩ a h = (a.eval c).bind fun c => match c with | .bool b => (bif b then a.eval x else a.eval y).map (·, h) | _ => none := by
  rw [ostep_op _ _ _ _ _ _ rfl]; rfl
theorem ostep_load {t : TypeId} {x : Operand} : ostep P prim rec ⟨dst, .load t x, ty, pos, after, g⟩ a h = (a.eval x).bind fun v => (aload P t v h).map (·, h) := by
  rw [ostep_op _ _ _ _ _ _ rfl]; rfl
theorem ostep_store {t : TypeId} {x y : Operand} : ostep P prim rec ⟨dst, .store t x y, ty, pos, after, g⟩ a h = (a.eval x).bind fun v => (a.eval y).bind fun u => (astore P t v u h).map (undef, ·) := by
  rw [ostep_op _ _ _ _ _ _ rfl]; rfl
theorem ostep_binOp {op : BinOp} {t z : TypeId} {x y : Operand} : ostep P prim rec ⟨dst, .binOp op t x y z, ty, pos, after, g⟩ a h = (a.eval x).bind fun v => (a.eval y).bind fun u => ((binC P op t x y).run v u).map (·, h) := by
  rw [ostep_op _ _ _ _ _ _ rfl]
  simp only [binC_eq]; rfl
theorem ostep_indexAddr {t : TypeId} {x y : Operand} : ostep P prim rec ⟨dst, .indexAddr t x y, ty, pos, after, g⟩ a h = (a.eval x).bind fun v => (a.eval y).bind fun u => (aindexAddr P t v u).map (·, h) := by
  rw [ostep_op _ _ _ _ _ _ rfl]; rfl
theorem ostep_builtin {b : Builtin} {args : Array Operand} {ats : Array TypeId} : ostep P prim rec ⟨dst, .call ⟨.builtin b, args, ats⟩, ty, pos, after, g⟩ a h = (aevs a args.toList).bind fun l => abuiltin P b ats ty l h := by
  rw [ostep_op _ _ _ _ _ _ rfl]; rfl
end one
theorem eval_tmp {tr : Tr Value} {sz : Nat} {ms : List Nat} {t : Nat} : (A.mk tr sz ms).eval (.tmp t) = some ((tr.get t).getD undef) := rfl
theorem eval_int {a : A} {k : IntKind} {n : Int} : a.eval (.const (.int k n)) = some (.int k n) := rfl
theorem eval_bool {a : A} {b : Bool} : a.eval (.const (.bool b)) = some (.bool b) := rfl
theorem put_some {tr : Tr Value} {sz : Nat} {ms : List Nat} {d : Nat} {v : Value} : (A.mk tr sz ms).put (some d) v = bif Nat.blt d sz then some ⟨tr.set d (some v), sz, ms⟩ else none := rfl
theorem put_lt {tr : Tr Value} {sz : Nat} {ms : List Nat} {d : Nat} {v : Value} (h : d < sz) : (A.mk tr sz ms).put (some d) v = some ⟨tr.set d (some v), sz, ms⟩ := by
  rw [put_some, show Nat.blt d sz = true from by rw [Nat.blt_eq]; exact h]; rfl
theorem init_eq {fn : Func} {args : List Value} {n : Nat} (h : fn.ntmps = n) (h2 : args.length ≤ n) : initA fn args = ⟨ofList args, n, []⟩ := by
  unfold initA
  rw [h, show args.length + (n - args.length) = n from by omega]
theorem ints_int {f : IntKind → Int → Int → Value} {g : Value → Value → Option Value} {k : IntKind} {a b : Int} : ints f g (.int k a) (.int k b) = some (f k a b) := by
  simp [ints]
theorem put_none {a : A} {v : Value} : a.put none v = some a := rfl
end Go.AM
