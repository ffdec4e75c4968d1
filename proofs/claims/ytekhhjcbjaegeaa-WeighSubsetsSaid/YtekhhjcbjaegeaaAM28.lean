/- One operation after the other, by hand. -/
import Derived.Test.YtekhhjcbjaegeaaAM27
set_option linter.all false
namespace Go.AM
open Go
variable {P : Program} {prim : Prim} {rec : Rec} {ops : Array Oper} {a a1 : A} {h h1 : Heap} {dst : Option Tmp} {op : Op} {ty : TypeId} {pos : String} {after : Array Edge} {l : List Oper} {R : A × Heap → Prop} {v : Value} {j : Nat} {want : Bool}
theorem st_end (k : R (a, h)) : ∃ q, runL P prim rec ops [] a h = some q ∧ R q := ⟨_, rfl, k⟩
theorem st (e : ostep P prim rec ⟨dst, op, ty, pos, after, none⟩ a h = some (v, h1)) (e2 : a.put dst v = some a1) (k : ∃ q, runL P prim rec ops l a1 h1 = some q ∧ R q) : ∃ q, runL P prim rec ops (⟨dst, op, ty, pos, after, none⟩ :: l) a h = some q ∧ R q := by
  rw [runL_cons, e]
  simp only [Option.bind_some, e2]
  exact k
theorem st_yes (y : ayielded ops a j = some want) (e : ostep P prim rec ⟨dst, op, ty, pos, after, some (j, want)⟩ a h = some (v, h1)) (e2 : a.put dst v = some a1) (k : ∃ q, runL P prim rec ops l a1 h1 = some q ∧ R q) : ∃ q, runL P prim rec ops (⟨dst, op, ty, pos, after, some (j, want)⟩ :: l) a h = some q ∧ R q := by
  rw [runL_guard, y]
  simp only [beq_self_eq_true, cond_true, e, Option.bind_some, e2]
  exact k
theorem st_no (y : ayielded ops a j = some (!want)) (e2 : a.put dst undef = some a1) (k : ∃ q, runL P prim rec ops l a1 h = some q ∧ R q) : ∃ q, runL P prim rec ops (⟨dst, op, ty, pos, after, some (j, want)⟩ :: l) a h = some q ∧ R q := by
  rw [runL_guard, y]
  have : ((!want) == want) = false := by cases want <;> rfl
  simp only [this, cond_false, Option.bind_some, e2]
  exact k
theorem yld {t : Nat} {b : Bool} {o : Oper} (h1 : ops[j]? = some o) (h2 : o.dst = some t) (h3 : (a.tr.get t).getD undef = .bool b) : ayielded ops a j = some b := by
  unfold ayielded
  rw [h1]
  simp only [Option.bind_some, h2, h3, boolOf]
/-- The way into code. -/
def cl : Code → Code | .seq x _ => x | c => c
def cr : Code → Code | .seq _ y => y | c => c
def ci : Code → Code | .block _ x => x | .loop x => x | c => c
def ct : Code → Code | .cond _ x _ => x | c => c
def ce : Code → Code | .cond _ _ y => y | c => c
def bodyOf (f : Func) : Code := f.body.getD .skip
theorem Runs.block_exit {ro : Option Nat} {x : Code} {i : Nat} {a a' : A} {h h' : Heap} (hx : Runs P prim ro x a h (.exit i) a' h') : Runs P prim ro (.block i x) a h .normal a' h' := by
  have := Runs.block (i := i) hx
  have e : inBlk i (.exit i) = .normal := by simp [inBlk]
  rw [e] at this; exact this
theorem Runs.block_ret {ro : Option Nat} {x : Code} {i : Nat} {a a' : A} {h h' : Heap} (hx : Runs P prim ro x a h .ret a' h') : Runs P prim ro (.block i x) a h .ret a' h' := Runs.block (i := i) hx
theorem Runs.block_normal {ro : Option Nat} {x : Code} {i : Nat} {a a' : A} {h h' : Heap} (hx : Runs P prim ro x a h .normal a' h') : Runs P prim ro (.block i x) a h .normal a' h' := Runs.block (i := i) hx
end Go.AM
