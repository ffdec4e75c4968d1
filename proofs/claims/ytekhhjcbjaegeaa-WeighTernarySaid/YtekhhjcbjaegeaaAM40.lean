/- Walking with letters: conversions of numbers. -/
import Derived.Test.YtekhhjcbjaegeaaAM39
set_option linter.all false
namespace Go.AM
open Go
variable {P : Program} {prim : Prim}
theorem aconv_int {s d : TypeId} {k k2 : IntKind} {a : Int} {h : Heap} (hs : P.underlying s = some (.int k)) (hd : P.underlying d = some (.int .i64)) (hr : -9223372036854775808 ≤ a ∧ a < 9223372036854775808) : aconv P s d (.int k2 a) h = some (.int .i64 a) := by
  have hb : bytesType P s d = false := by unfold bytesType; rw [hs, hd]
  have hp : pureRun P (convert s d (.int k2 a)) = some (.int .i64 (IntKind.wrap .i64 a)) := by
    unfold convert
    rw [und_run hs, und_run hd]; rfl
  unfold aconv
  rw [hb]
  simp only [cond_false]
  unfold flatRun
  rw [hp, wrap64 hr]; rfl
theorem Op1.conv {base : Tr Value} {n : Nat} {ms : List Nat} {l : Env} {h : Heap} {dd : Option Tmp} {ty : TypeId} {pos : String} {after : Array Edge} {g : Option (Nat × Bool)} {x : Operand} {s d : TypeId} {k k2 : IntKind} {a : Int} (hs : P.underlying s = some (.int k)) (hd : P.underlying d = some (.int .i64)) (hx : ev l x = some (.int k2 a)) (hr : -9223372036854775808 ≤ a ∧ a < 9223372036854775808) :
    Op1 P prim ⟨dd, .convert s d x, ty, pos, after, g⟩ (St base n ms l) h (.int .i64 a) h :=
  .of (by simp only [AM.aop, ev_eval hx, Option.bind_some, aconv_int hs hd hr, Option.map_some])
end Go.AM
