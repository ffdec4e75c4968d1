/- The call 'lives' of the program's laws 08 returns true: reckoned on the abstract machine, from any world. -/
import Derived.Test.YtekhhjcbjaegeaaProg
import Derived.Test.YtekhhjcbjaegeaaAM28
set_option maxRecDepth 100000
namespace Go.Proofs.Ytekhhjcbjaegeaa
open Go Go.AM

theorem mixed : Try.prog.follows .mixedOrders = true := by kernel_rfl
theorem names : NamesOK Try.prog := names_ok (by kernel_rfl)
theorem fit0 : Fit Try.prog noPrim := noPrim_fit mixed names
theorem livesEval : (callC Try.prog noPrim 1000000 19 [] Heap.empty).map (·.1) = some (.bool true) := by kernel_rfl
theorem lives_ok (w : World) : CallsIn Fence.wide 0 Try.prog 19 #[] w fun e w' => e = .returned (.bool true) ∧ Kept w w' :=
  reckoned fit0 livesEval rfl rfl w
theorem lives_call (h : Heap) : CallOK Try.prog 19 [] h (.bool true) h := prim_flat rfl rfl lives_ok h
end Go.Proofs.Ytekhhjcbjaegeaa
