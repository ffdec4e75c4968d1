/- Sizes, kinds and zeros of the types that the walks meet. -/
import Derived.Test.YtekhhjcbjaegeaaPrims
import Derived.Test.YtekhhjcbjaegeaaAM36
set_option linter.all false
namespace Go.Proofs.Ytekhhjcbjaegeaa
open Go Go.AM
theorem sz3 : szOf Try.prog 3 = some 1 := by kernel_rfl
theorem agg3 : aggT Try.prog 3 = some false := by kernel_rfl
theorem zero3 : zeroOf Try.prog 3 = some (.int .i64 0) := by kernel_rfl
theorem one3 : OneCell Try.prog 3 := oneCell_of (by kernel_rfl)
theorem sz4 : szOf Try.prog 4 = some 1 := by kernel_rfl
theorem agg4 : aggT Try.prog 4 = some false := by kernel_rfl
theorem zero4 : zeroOf Try.prog 4 = some (.bool false) := by kernel_rfl
theorem one4 : OneCell Try.prog 4 := oneCell_of (by kernel_rfl)
theorem sz22 : szOf Try.prog 22 = some 1 := by kernel_rfl
theorem agg22 : aggT Try.prog 22 = some false := by kernel_rfl
theorem zero22 : zeroOf Try.prog 22 = some (.slice none 0 0) := by kernel_rfl
theorem one22 : OneCell Try.prog 22 := oneCell_of (by kernel_rfl)
theorem sz24 : szOf Try.prog 24 = some 1 := by kernel_rfl
theorem agg24 : aggT Try.prog 24 = some false := by kernel_rfl
theorem zero24 : zeroOf Try.prog 24 = some (.int .i64 0) := by kernel_rfl
theorem one24 : OneCell Try.prog 24 := oneCell_of (by kernel_rfl)
theorem sz33 : szOf Try.prog 33 = some 1 := by kernel_rfl
theorem agg33 : aggT Try.prog 33 = some false := by kernel_rfl
theorem zero33 : zeroOf Try.prog 33 = some (.nilFunc) := by kernel_rfl
theorem one33 : OneCell Try.prog 33 := oneCell_of (by kernel_rfl)
theorem sz34 : szOf Try.prog 34 = some 1 := by kernel_rfl
theorem agg34 : aggT Try.prog 34 = some false := by kernel_rfl
theorem zero34 : zeroOf Try.prog 34 = some (.nilFunc) := by kernel_rfl
theorem one34 : OneCell Try.prog 34 := oneCell_of (by kernel_rfl)
theorem sz47 : szOf Try.prog 47 = some 1 := by kernel_rfl
theorem agg47 : aggT Try.prog 47 = some false := by kernel_rfl
theorem zero47 : zeroOf Try.prog 47 = some (.nilFunc) := by kernel_rfl
theorem one47 : OneCell Try.prog 47 := oneCell_of (by kernel_rfl)
theorem sz63 : szOf Try.prog 63 = some 1 := by kernel_rfl
theorem agg63 : aggT Try.prog 63 = some false := by kernel_rfl
theorem zero63 : zeroOf Try.prog 63 = some (.map none) := by kernel_rfl
theorem one63 : OneCell Try.prog 63 := oneCell_of (by kernel_rfl)
theorem sz65 : szOf Try.prog 65 = some 1 := by kernel_rfl
theorem agg65 : aggT Try.prog 65 = some false := by kernel_rfl
theorem zero65 : zeroOf Try.prog 65 = some (.nilFunc) := by kernel_rfl
theorem one65 : OneCell Try.prog 65 := oneCell_of (by kernel_rfl)
theorem sz68 : szOf Try.prog 68 = some 2 := by kernel_rfl
theorem agg68 : aggT Try.prog 68 = some true := by kernel_rfl
theorem zero68 : zeroOf Try.prog 68 = some (.agg #[.slice none 0 0, .int .i64 0]) := by kernel_rfl
theorem sz69 : szOf Try.prog 69 = some 1 := by kernel_rfl
theorem agg69 : aggT Try.prog 69 = some false := by kernel_rfl
theorem zero69 : zeroOf Try.prog 69 = some (.slice none 0 0) := by kernel_rfl
theorem one69 : OneCell Try.prog 69 := oneCell_of (by kernel_rfl)
theorem sz74 : szOf Try.prog 74 = some 1 := by kernel_rfl
theorem agg74 : aggT Try.prog 74 = some false := by kernel_rfl
theorem zero74 : zeroOf Try.prog 74 = some (.nilFunc) := by kernel_rfl
theorem one74 : OneCell Try.prog 74 := oneCell_of (by kernel_rfl)
theorem sz78 : szOf Try.prog 78 = some 1 := by kernel_rfl
theorem agg78 : aggT Try.prog 78 = some false := by kernel_rfl
theorem zero78 : zeroOf Try.prog 78 = some (.map none) := by kernel_rfl
theorem one78 : OneCell Try.prog 78 := oneCell_of (by kernel_rfl)
end Go.Proofs.Ytekhhjcbjaegeaa
