/- WeighGuys: the law, at every number. -/
import Derived.Test.YtekhhjcbjaegeaaGuy
set_option maxRecDepth 100000
namespace Go.Proofs.Ytekhhjcbjaegeaa
open Go Go.AM

def isTrue' (r : Option (Value × Heap)) : Bool := match r with | some (.bool true, _) => true | _ => false
theorem isTrue_eq {r : Option (Value × Heap)} (h : isTrue' r = true) : r.map (·.1) = some (.bool true) := by
  unfold isTrue' at h
  split at h
  · rfl
  · cases h
theorem guysNeg (m : Nat) : (callC Try.prog primG 1000000 6 [.int .i64 (Int.negSucc m)] Heap.empty).map (·.1) = some (.bool true) := by kernel_rfl
theorem guysOver (m : Nat) : (callC Try.prog primG 1000000 6 [.int .i64 (Int.ofNat (m + 61))] Heap.empty).map (·.1) = some (.bool true) := by kernel_rfl
theorem guysIn0 : ((List.range 18).map (· + 0)).all (fun m => isTrue' (callC Try.prog primG 1000000 6 [.int .i64 (Int.ofNat m)] Heap.empty)) = true := by kernel_rfl
theorem guysIn18 : ((List.range 10).map (· + 18)).all (fun m => isTrue' (callC Try.prog primG 1000000 6 [.int .i64 (Int.ofNat m)] Heap.empty)) = true := by kernel_rfl
theorem guysIn28 : ((List.range 8).map (· + 28)).all (fun m => isTrue' (callC Try.prog primG 1000000 6 [.int .i64 (Int.ofNat m)] Heap.empty)) = true := by kernel_rfl
theorem guysIn36 : ((List.range 6).map (· + 36)).all (fun m => isTrue' (callC Try.prog primG 1000000 6 [.int .i64 (Int.ofNat m)] Heap.empty)) = true := by kernel_rfl
theorem guysIn42 : ((List.range 5).map (· + 42)).all (fun m => isTrue' (callC Try.prog primG 1000000 6 [.int .i64 (Int.ofNat m)] Heap.empty)) = true := by kernel_rfl
theorem guysIn47 : ((List.range 4).map (· + 47)).all (fun m => isTrue' (callC Try.prog primG 1000000 6 [.int .i64 (Int.ofNat m)] Heap.empty)) = true := by kernel_rfl
theorem guysIn51 : ((List.range 4).map (· + 51)).all (fun m => isTrue' (callC Try.prog primG 1000000 6 [.int .i64 (Int.ofNat m)] Heap.empty)) = true := by kernel_rfl
theorem guysIn55 : ((List.range 3).map (· + 55)).all (fun m => isTrue' (callC Try.prog primG 1000000 6 [.int .i64 (Int.ofNat m)] Heap.empty)) = true := by kernel_rfl
theorem guysIn58 : ((List.range 3).map (· + 58)).all (fun m => isTrue' (callC Try.prog primG 1000000 6 [.int .i64 (Int.ofNat m)] Heap.empty)) = true := by kernel_rfl
theorem guysIn (m : Nat) (hm : m < 61) : isTrue' (callC Try.prog primG 1000000 6 [.int .i64 (Int.ofNat m)] Heap.empty) = true := by
  by_cases h18 : m < 18
  · exact inRange guysIn0 (by omega) (by omega)
  by_cases h28 : m < 28
  · exact inRange guysIn18 (by omega) (by omega)
  by_cases h36 : m < 36
  · exact inRange guysIn28 (by omega) (by omega)
  by_cases h42 : m < 42
  · exact inRange guysIn36 (by omega) (by omega)
  by_cases h47 : m < 47
  · exact inRange guysIn42 (by omega) (by omega)
  by_cases h51 : m < 51
  · exact inRange guysIn47 (by omega) (by omega)
  by_cases h55 : m < 55
  · exact inRange guysIn51 (by omega) (by omega)
  by_cases h58 : m < 58
  · exact inRange guysIn55 (by omega) (by omega)
  by_cases h61 : m < 61
  · exact inRange guysIn58 (by omega) (by omega)
  omega
theorem guysLaw (n : Int) (w : World) : Calls Try.prog 6 #[.int .i64 n] w fun e w' => e = .returned (.bool true) ∧ RowKit.Grown w w' := by
  cases n with
  | negSucc m => exact reckoned_calls fitG (guysNeg m) rfl rfl w
  | ofNat m =>
    by_cases hm : m < 61
    · exact reckoned_calls fitG (isTrue_eq (guysIn m hm)) rfl rfl w
    · obtain ⟨k, rfl⟩ : ∃ k, m = k + 61 := ⟨m - 61, by omega⟩
      exact reckoned_calls fitG (guysOver k) rfl rfl w
end Go.Proofs.Ytekhhjcbjaegeaa
