/- From the abstract machine's calls to the kit's. -/
import Derived.Test.YtekhhjcbjaegeaaAM22
import Derived.KernelRfl
import Derived.RowKit3
set_option linter.all false
namespace Go.AM
open Go
variable {P : Program}

/-- Of what was there nothing turns. -/
def Grown0 (W w' : World) : Prop := W.keptBut w' (fun _ => False) ∧ (∀ a : Addr, a.block < W.heap.size → w'.frozen? a = W.frozen? a) ∧ W.heap.size ≤ w'.heap.size
theorem Kept.grown {w w' : World} (k : Kept w w') : Grown0 w w' := by
  obtain ⟨k1, k2, k3, k4, k5, k6⟩ := k
  refine ⟨⟨k3, k5, fun i hi => ?_⟩, k6, k1⟩
  rw [k2 i hi]
  cases w.heap[i]? with
  | none => rfl
  | some o =>
    cases o with
    | cells c t fr => exact ⟨rfl, rfl, rfl, fun _ _ => rfl⟩
    | map es clock => exact .inr ⟨rfl, rfl⟩
    | _ => rfl
theorem names_ok (h : (P.funcs.toList.all fun fn => !(fn.name == "runtime.NumGoroutine")) = true) : NamesOK P := by
  intro f fn c hf _
  have := List.all_eq_true.1 h fn (by rw [Array.mem_toList_iff]; exact Array.mem_of_getElem? hf)
  simpa using this
/-- A closed call, reckoned. -/
theorem reckoned {prim : Prim} (hF : Fit P prim) {n f : Nat} {args : List Value} {v : Value} (e : (callC P prim n f args Heap.empty).map (·.1) = some v) (ha : args.all flat1 = true) (hv : flat v = true) (w : World) :
    CallsIn Fence.wide 0 P f args.toArray w fun e w' => e = .returned v ∧ Kept w w' := by
  obtain ⟨⟨v', h'⟩, h, rfl⟩ := Option.map_eq_some_iff.1 e
  rw [callC_eq] at h
  exact call_flat hF h ha hv w
theorem reckoned_calls {prim : Prim} (hF : Fit P prim) {n f : Nat} {args : List Value} {v : Value} (e : (callC P prim n f args Heap.empty).map (·.1) = some v) (ha : args.all flat1 = true) (hv : flat v = true) (w : World) :
    Calls P f args.toArray w fun e w' => e = .returned v ∧ Grown0 w w' := by
  refine Calls.mono (callsIn_wide.1 (reckoned hF e ha hv w)) ?_
  rintro e w' ⟨h1, h2⟩
  exact ⟨h1, h2.grown⟩
end Go.AM
