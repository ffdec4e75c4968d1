/- WeighGuys: Guy's terms, reckoned; and the law, at every number. -/
import Derived.Test.YtekhhjcbjaegeaaLives
set_option maxRecDepth 100000
namespace Go.Proofs.Ytekhhjcbjaegeaa
open Go Go.AM

/-- Conway and Guy's sequence, from 0 to 60. -/
def guyTbl : List Int := [0, 1, 2, 4, 7, 13, 24, 44, 84, 161, 309, 594, 1164, 2284, 4484, 8807, 17305, 34301, 68008, 134852, 267420, 530356, 1051905, 2095003, 4172701, 8311101, 16554194, 32973536, 65679652, 130828948, 261127540, 521203175, 1040311347, 2076449993, 4144588885, 8272623576, 16512273616, 32958867580, 65852055508, 131573282068, 262885436596, 525249670017, 1049459028687, 2096841607381, 4189538625877, 8370804628178, 16725096982740, 33433681691864, 66834404516148, 133602956976788, 267074340671508, 533885795906420, 1067246342142823, 2133443225256959, 4264789608906537, 8525389679187197, 17042408553746216, 34076446302864254, 68136167508745768, 136238901335799672, 272410968267083196]
def isInt (r : Option (Value × Heap)) (k : Int) : Bool := match r with | some (.int .i64 v, _) => intEq v k | _ => false
theorem guyEval0 : ((List.range 25).map (· + 0)).all (fun m => isInt (callC Try.prog noPrim 1000000 61 [.int .i64 (Int.ofNat m)] Heap.empty) (guyTbl.getD m 0)) = true := by kernel_rfl
theorem guyEval25 : ((List.range 11).map (· + 25)).all (fun m => isInt (callC Try.prog noPrim 1000000 61 [.int .i64 (Int.ofNat m)] Heap.empty) (guyTbl.getD m 0)) = true := by kernel_rfl
theorem guyEval36 : ((List.range 8).map (· + 36)).all (fun m => isInt (callC Try.prog noPrim 1000000 61 [.int .i64 (Int.ofNat m)] Heap.empty) (guyTbl.getD m 0)) = true := by kernel_rfl
theorem guyEval44 : ((List.range 6).map (· + 44)).all (fun m => isInt (callC Try.prog noPrim 1000000 61 [.int .i64 (Int.ofNat m)] Heap.empty) (guyTbl.getD m 0)) = true := by kernel_rfl
theorem guyEval50 : ((List.range 5).map (· + 50)).all (fun m => isInt (callC Try.prog noPrim 1000000 61 [.int .i64 (Int.ofNat m)] Heap.empty) (guyTbl.getD m 0)) = true := by kernel_rfl
theorem guyEval55 : ((List.range 4).map (· + 55)).all (fun m => isInt (callC Try.prog noPrim 1000000 61 [.int .i64 (Int.ofNat m)] Heap.empty) (guyTbl.getD m 0)) = true := by kernel_rfl
theorem guyEval59 : ((List.range 2).map (· + 59)).all (fun m => isInt (callC Try.prog noPrim 1000000 61 [.int .i64 (Int.ofNat m)] Heap.empty) (guyTbl.getD m 0)) = true := by kernel_rfl
theorem isInt_eq {r : Option (Value × Heap)} {k : Int} (h : isInt r k = true) : r.map (·.1) = some (.int .i64 k) := by
  unfold isInt at h
  split at h
  · rw [intEq_eq] at h
    simp only [beq_iff_eq] at h
    subst h; rfl
  · cases h
theorem inRange {p : Nat → Bool} {n k m : Nat} (h : ((List.range n).map (· + k)).all p = true) (h1 : k ≤ m) (h2 : m < n + k) : p m = true := by
  refine List.all_eq_true.1 h m (List.mem_map.2 ⟨m - k, List.mem_range.2 (by omega), by omega⟩)
theorem guyEval (m : Nat) (hm : m < 61) : isInt (callC Try.prog noPrim 1000000 61 [.int .i64 (Int.ofNat m)] Heap.empty) (guyTbl.getD m 0) = true := by
  by_cases h25 : m < 25
  · exact inRange guyEval0 (by omega) (by omega)
  by_cases h36 : m < 36
  · exact inRange guyEval25 (by omega) (by omega)
  by_cases h44 : m < 44
  · exact inRange guyEval36 (by omega) (by omega)
  by_cases h50 : m < 50
  · exact inRange guyEval44 (by omega) (by omega)
  by_cases h55 : m < 55
  · exact inRange guyEval50 (by omega) (by omega)
  by_cases h59 : m < 59
  · exact inRange guyEval55 (by omega) (by omega)
  by_cases h61 : m < 61
  · exact inRange guyEval59 (by omega) (by omega)
  omega
theorem guy_ok (m : Nat) (hm : m < 61) (w : World) : CallsIn Fence.wide 0 Try.prog 61 #[.int .i64 (Int.ofNat m)] w fun e w' => e = .returned (.int .i64 (guyTbl.getD m 0)) ∧ Kept w w' :=
  reckoned fit0 (isInt_eq (guyEval m hm)) rfl rfl w
/-- What is taken as it is: lives, and Guy's terms. -/
def primG : Prim := fun f =>
  bif Nat.beq f 19 then some fun args h => match args with | [] => some (.bool true, h) | _ => none
  else bif Nat.beq f 61 then some fun args h => match args with | [.int .i64 (.ofNat m)] => bif Nat.blt m 61 then some (.int .i64 (guyTbl.getD m 0), h) else none | _ => none
  else none
theorem primG_ok : PrimOK Try.prog primG := by
  intro f g hg args h v h' e
  unfold primG at hg
  cases h1 : Nat.beq f 19 with
  | true =>
    obtain rfl := Nat.eq_of_beq_eq_true h1
    rw [h1] at hg
    simp only [cond_true, Option.some.injEq] at hg
    subst hg
    simp only at e
    split at e
    · simp only [Option.some.injEq, Prod.mk.injEq] at e
      obtain ⟨rfl, rfl⟩ := e
      exact lives_call h
    · cases e
  | false =>
    rw [h1] at hg
    simp only [cond_false] at hg
    cases h2 : Nat.beq f 61 with
    | true =>
      obtain rfl := Nat.eq_of_beq_eq_true h2
      rw [h2] at hg
      simp only [cond_true, Option.some.injEq] at hg
      subst hg
      simp only at e
      split at e
      · next m =>
        cases hb : Nat.blt m 61 with
        | false => rw [hb] at e; cases e
        | true =>
          rw [hb] at e
          simp only [cond_true, Option.some.injEq, Prod.mk.injEq] at e
          obtain ⟨rfl, rfl⟩ := e
          rw [Nat.blt_eq] at hb
          exact prim_flat rfl rfl (guy_ok m hb) h
      · cases e
    | false => rw [h2] at hg; cases hg
theorem fitG : Fit Try.prog primG := by
  refine ⟨mixed, names, primG_ok, fun f hf => ?_⟩
  unfold primG at hf
  cases h1 : Nat.beq f 19 with
  | true => obtain rfl := Nat.eq_of_beq_eq_true h1; exact ⟨_, _, Try.func19, rfl⟩
  | false =>
    rw [h1] at hf
    cases h2 : Nat.beq f 61 with
    | true => obtain rfl := Nat.eq_of_beq_eq_true h2; exact ⟨_, _, Try.func61, rfl⟩
    | false => rw [h2] at hf; exact absurd rfl hf
end Go.Proofs.Ytekhhjcbjaegeaa
