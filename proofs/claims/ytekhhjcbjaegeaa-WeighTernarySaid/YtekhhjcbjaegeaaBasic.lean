/- Walks: In, check, total, Weights, Before, Same. -/
import Derived.Test.YtekhhjcbjaegeaaFacts
set_option linter.all false
set_option maxRecDepth 100000
set_option maxHeartbeats 4000000
namespace Go.Proofs.Ytekhhjcbjaegeaa
open Go Go.AM
theorem gD {xs : List Int} {i : Nat} (h : i < xs.length) : xs.getD i 0 = xs[i] := by rw [List.getD_eq_getElem?_getD, List.getElem?_eq_getElem h]; rfl
/-- In. -/
theorem in_walk (h : Heap) (a b c : Int) : CW Try.prog primW 29 [.int .i64 a, .int .i64 b, .int .i64 c] h fun v h' => v = .bool (decide (b ≤ a ∧ a ≤ c)) ∧ h' = h := by
    refine CW.intro (l := [(2, .int .i64 c), (1, .int .i64 b), (0, .int .i64 a)]) rfl Try.func29 rfl (by rfl) ?_
    refine W.rs ?_
    refine RG.step (Op1.assign (by rfl)) (by rfl) ?_
    refine RG.done ?_
    refine W.rs ?_
    refine RG.step (Op1.move (by rfl)) (by rfl) ?_
    refine RG.step (Op1.move (by rfl)) (by rfl) ?_
    refine RG.step (Op1.geq (by rfl) (by rfl)) (by rfl) ?_
    refine RG.step (Op1.move (by rfl)) (by rfl) ?_
    refine RG.cases 10 (by rfl) (fun c1 => ?_) (fun c1 => ?_)
    · refine RG.gd (by rfl) (by rfl) (Op1.move (by rfl)) (by rfl) ?_
      refine RG.gd (by rfl) (by rfl) (Op1.move (by rfl)) (by rfl) ?_
      refine RG.gd (by rfl) (by rfl) (Op1.leq (by rfl) (by rfl)) (by rfl) ?_
      refine RG.step (Op1.pickT (by rfl) (by rfl)) (by rfl) ?_
      refine RG.step (Op1.assign (by rfl)) (by rfl) ?_
      refine RG.done ?_
      refine W.ret ?_
      refine leaf1 rfl (by rfl) ⟨?_, rfl⟩
      simp [*]
    · refine RG.not (by rfl) (by rfl) (by rfl) (by rfl) ?_
      refine RG.not (by rfl) (by rfl) (by rfl) (by rfl) ?_
      refine RG.not (by rfl) (by rfl) (by rfl) (by rfl) ?_
      refine RG.step (Op1.pickF (by rfl) (by rfl)) (by rfl) ?_
      refine RG.step (Op1.assign (by rfl)) (by rfl) ?_
      refine RG.done ?_
      refine W.ret ?_
      refine leaf1 rfl (by rfl) ⟨?_, rfl⟩
      simp [*]
/-- What 'check' answers. -/
def checkV (xs : List Int) (most : Int) : Int :=
  if most < xs.length then 3 else if xs = [] ∨ xs.getD 0 0 < 1 ∨ 100000 < xs.getD (xs.length - 1) 0 then 2 else if ∀ i, i < xs.length - 1 → xs.getD i 0 < xs.getD (i + 1) 0 then 0 else 2
theorem check_step {xs : List Int} {i : Nat} (hi : 1 ≤ i) (hall : ∀ j, j + 1 < i → j + 1 < xs.length → xs.getD j 0 < xs.getD (j + 1) 0) (hc : ¬ xs.getD (i : Int).toNat 0 ≤ xs.getD ((i : Int) - 1).toNat 0) {j : Nat} (h1 : j + 1 < i + 1) (h2 : j + 1 < xs.length) : xs.getD j 0 < xs.getD (j + 1) 0 := by
  by_cases h : j + 1 < i
  · exact hall j h h2
  · have e1 : ((i : Int) - 1).toNat = j := by omega
    have e2 : (i : Int).toNat = j + 1 := by omega
    rw [e1, e2] at hc; omega
theorem check_walk {N : Nat} {h : Heap} {ad : Option Addr} {xs : List Int} {c : Nat} {most : Int} (hA : IntsA N h ad xs) (hl : xs.length < 4611686018427387904) :
    CW Try.prog primW 40 [.slice ad xs.length c, .int .i64 most] h fun v h' => v = .int .i64 (checkV xs most) ∧ h' = h := by
    refine CW.intro (l := [(1, .int .i64 most), (0, .slice ad xs.length c)]) rfl Try.func40 rfl (by rfl) ?_
    refine W.rs ?_
    refine RG.step (Op1.assign (by rfl)) (by rfl) ?_
    refine RG.done ?_
    refine W.seq ?_
    refine W.block ?_
    refine W.rs ?_
    refine RG.step (Op1.move (by rfl)) (by rfl) ?_
    refine RG.step (Op1.len Try.underlying22 (by rfl) (by rfl)) (by rfl) ?_
    refine RG.step (Op1.move (by rfl)) (by rfl) ?_
    refine RG.step (Op1.gtr (by rfl) (by rfl)) (by rfl) ?_
    refine RG.step (Op1.assign (by rfl)) (by rfl) ?_
    refine RG.done ?_
    refine W.cases 6 (by rfl) (fun c1 => ?_) (fun c1 => ?_)
    · refine W.condT (by rfl) ?_
      refine W.rs ?_
      refine RG.step (Op1.assign (by rfl)) (by rfl) ?_
      refine RG.done ?_
      refine W.ret ?_
      refine leaf1 rfl (by rfl) ⟨congrArg _ ?_, rfl⟩
      rw [checkV, if_pos c1]
    · refine W.condF (by rfl) ?_
      refine W.rs ?_
      refine RG.step (Op1.move (by rfl)) (by rfl) ?_
      refine RG.step (Op1.len Try.underlying22 (by rfl) (by rfl)) (by rfl) ?_
      refine RG.step (Op1.eql (by rfl) (by rfl)) (by rfl) ?_
      refine RG.step (Op1.move (by rfl)) (by rfl) ?_
      refine RG.cases 15 (by rfl) (fun c2 => ?_) (fun c2 => ?_)
      · refine RG.not (by rfl) (by rfl) (by rfl) (by rfl) ?_
        refine RG.not (by rfl) (by rfl) (by rfl) (by rfl) ?_
        refine RG.not (by rfl) (by rfl) (by rfl) (by rfl) ?_
        refine RG.not (by rfl) (by rfl) (by rfl) (by rfl) ?_
        refine RG.step (Op1.pickT (by rfl) (by rfl)) (by rfl) ?_
        refine RG.step (Op1.move (by rfl)) (by rfl) ?_
        refine RG.not (by rfl) (by rfl) (by rfl) (by rfl) ?_
        refine RG.not (by rfl) (by rfl) (by rfl) (by rfl) ?_
        refine RG.not (by rfl) (by rfl) (by rfl) (by rfl) ?_
        refine RG.not (by rfl) (by rfl) (by rfl) (by rfl) ?_
        refine RG.not (by rfl) (by rfl) (by rfl) (by rfl) ?_
        refine RG.not (by rfl) (by rfl) (by rfl) (by rfl) ?_
        refine RG.not (by rfl) (by rfl) (by rfl) (by rfl) ?_
        refine RG.step (Op1.pickT (by rfl) (by rfl)) (by rfl) ?_
        refine RG.step (Op1.assign (by rfl)) (by rfl) ?_
        refine RG.done ?_
        refine W.condT (by rfl) ?_
        refine W.rs ?_
        refine RG.step (Op1.assign (by rfl)) (by rfl) ?_
        refine RG.done ?_
        refine W.ret ?_
        refine leaf1 rfl (by rfl) ⟨congrArg _ ?_, rfl⟩
        rw [checkV, if_neg c1, if_pos (.inl (List.length_eq_zero_iff.1 (by omega)))]
      · refine RG.gd (by rfl) (by rfl) (Op1.move (by rfl)) (by rfl) ?_
        refine RG.gd (by rfl) (by rfl) (Op1.idxI hA Try.underlying22 sz3 (by rfl) (by rfl) (by omega) (by omega)) (by rfl) ?_
        refine RG.gd (by rfl) (by rfl) (Op1.load agg3 (by rfl) (hA.at (by omega) (by omega))) (by rfl) ?_
        refine RG.gd (by rfl) (by rfl) (Op1.lss (by rfl) (by rfl)) (by rfl) ?_
        refine RG.step (Op1.pickF (by rfl) (by rfl)) (by rfl) ?_
        refine RG.step (Op1.move (by rfl)) (by rfl) ?_
        refine RG.cases 21 (by rfl) (fun c3 => ?_) (fun c3 => ?_)
        · refine RG.not (by rfl) (by rfl) (by rfl) (by rfl) ?_
          refine RG.not (by rfl) (by rfl) (by rfl) (by rfl) ?_
          refine RG.not (by rfl) (by rfl) (by rfl) (by rfl) ?_
          refine RG.not (by rfl) (by rfl) (by rfl) (by rfl) ?_
          refine RG.not (by rfl) (by rfl) (by rfl) (by rfl) ?_
          refine RG.not (by rfl) (by rfl) (by rfl) (by rfl) ?_
          refine RG.not (by rfl) (by rfl) (by rfl) (by rfl) ?_
          refine RG.step (Op1.pickT (by rfl) (by rfl)) (by rfl) ?_
          refine RG.step (Op1.assign (by rfl)) (by rfl) ?_
          refine RG.done ?_
          refine W.condT (by rfl) ?_
          refine W.rs ?_
          refine RG.step (Op1.assign (by rfl)) (by rfl) ?_
          refine RG.done ?_
          refine W.ret ?_
          refine leaf1 rfl (by rfl) ⟨congrArg _ ?_, rfl⟩
          rw [checkV, if_neg c1, if_pos (.inr (.inl c3))]
        · refine RG.gd (by rfl) (by rfl) (Op1.move (by rfl)) (by rfl) ?_
          refine RG.gd (by rfl) (by rfl) (Op1.move (by rfl)) (by rfl) ?_
          refine RG.gd (by rfl) (by rfl) (Op1.len Try.underlying22 (by rfl) (by rfl)) (by rfl) ?_
          refine RG.gd (by rfl) (by rfl) (Op1.sub (by rfl) (by rfl) (by omega)) (by rfl) ?_
          refine RG.gd (by rfl) (by rfl) (Op1.idxI hA Try.underlying22 sz3 (by rfl) (by rfl) (by omega) (by omega)) (by rfl) ?_
          refine RG.gd (by rfl) (by rfl) (Op1.load agg3 (by rfl) (hA.at (by omega) (by omega))) (by rfl) ?_
          refine RG.gd (by rfl) (by rfl) (Op1.gtr (by rfl) (by rfl)) (by rfl) ?_
          refine RG.step (Op1.pickF (by rfl) (by rfl)) (by rfl) ?_
          refine RG.step (Op1.assign (by rfl)) (by rfl) ?_
          refine RG.done ?_
          refine W.cases 11 (by rfl) (fun c4 => ?_) (fun c4 => ?_)
          · refine W.condT (by rfl) ?_
            refine W.rs ?_
            refine RG.step (Op1.assign (by rfl)) (by rfl) ?_
            refine RG.done ?_
            refine W.ret ?_
            refine leaf1 rfl (by rfl) ⟨congrArg _ ?_, rfl⟩
            rw [checkV, if_neg c1, if_pos (.inr (.inr (by rw [show xs.length - 1 = ((xs.length : Int) - 1).toNat from by omega]; exact c4)))]
          · refine W.condF (by rfl) ?_
            refine W.skip ?_
            refine W.seq ?_
            refine W.rs ?_
            refine RG.step (Op1.assign (by rfl)) (by rfl) ?_
            refine RG.done ?_
            refine W.block ?_
            refine W.loop (σ := Nat) (fun i a h1 => Has 46 [] [(0, .slice ad xs.length c), (5, .int .i64 (i : Int))] a ∧ h1 = h ∧ 1 ≤ i ∧ ∀ j, j + 1 < i → j + 1 < xs.length → xs.getD j 0 < xs.getD (j + 1) 0) (fun i => xs.length - i) ?_ (1) ?_
            · rintro i _ _ ⟨⟨base, rfl⟩, rfl, hi, hall⟩
              refine W.seq ?_
              refine W.rs ?_
              refine RG.step (Op1.move (by rfl)) (by rfl) ?_
              refine RG.step (Op1.move (by rfl)) (by rfl) ?_
              refine RG.step (Op1.len Try.underlying22 (by rfl) (by rfl)) (by rfl) ?_
              refine RG.step (Op1.lss (by rfl) (by rfl)) (by rfl) ?_
              refine RG.done ?_
              refine W.cases 33 (by rfl) (fun c5 => ?_) (fun c5 => ?_)
              · refine W.condT (by rfl) ?_
                refine W.skip ?_
                refine W.seq ?_
                refine W.block ?_
                refine W.ds (σ := [0, 1, 2, 3, 4, 5, 6, 7, 8, 9]) (by kernel_rfl) (by kernel_rfl) ?_
                refine RD.pure (by rfl) (by rfl) GOK.no (Op1.move (by rfl)) (by rfl) ?_
                refine RD.pure (by rfl) (by rfl) GOK.no (Op1.move (by rfl)) (by rfl) ?_
                refine RD.pure (by rfl) (by rfl) GOK.no (Op1.idxI hA Try.underlying22 sz3 (by rfl) (by rfl) (by omega) (by omega)) (by rfl) ?_
                refine RD.read (C := fun h => cellAt h _ _ = some _) (by rfl) (by rfl) (by rfl) GOK.no (fun _ hC => Op1.load agg3 (by rfl) hC) (hA.at (by omega) (by omega)) (simple_of (by rfl)) (by rfl) ?_
                refine RD.pure (by rfl) (by rfl) GOK.no (Op1.move (by rfl)) (by rfl) ?_
                refine RD.pure (by rfl) (by rfl) GOK.no (Op1.move (by rfl)) (by rfl) ?_
                refine RD.pure (by rfl) (by rfl) GOK.no (Op1.sub (by rfl) (by rfl) (by omega)) (by rfl) ?_
                refine RD.pure (by rfl) (by rfl) GOK.no (Op1.idxI hA Try.underlying22 sz3 (by rfl) (by rfl) (by omega) (by omega)) (by rfl) ?_
                refine RD.read (C := fun h => cellAt h _ _ = some _) (by rfl) (by rfl) (by rfl) GOK.no (fun _ hC => Op1.load agg3 (by rfl) hC) (hA.at (by omega) (by omega)) (simple_of (by rfl)) (by rfl) ?_
                refine RD.pure (by rfl) (by rfl) GOK.no (Op1.leq (by rfl) (by rfl)) (by rfl) ?_
                refine RD.done ?_
                refine W.cases 45 (by rfl) (fun c6 => ?_) (fun c6 => ?_)
                · refine W.condT (by rfl) ?_
                  refine W.rs ?_
                  refine RG.step (Op1.assign (by rfl)) (by rfl) ?_
                  refine RG.done ?_
                  refine W.ret ?_
                  refine leaf1 rfl (by rfl) ⟨congrArg _ ?_, rfl⟩
                  rw [checkV, if_neg c1, if_neg (fun e => e.elim (fun e => c2 (by rw [e]; rfl)) (fun e => e.elim c3 (fun e => c4 (by rw [show ((xs.length : Int) - 1).toNat = xs.length - 1 from by omega]; exact e)))), if_neg (fun k => absurd (k (i - 1) (by omega)) (by rw [show i - 1 + 1 = (i : Int).toNat from by omega, show i - 1 = ((i : Int) - 1).toNat from by omega]; omega))]
                · refine W.condF (by rfl) ?_
                  refine W.skip ?_
                  refine W.region ?_
                  refine RG.step (Op1.move (by rfl)) (by rfl) ?_
                  refine RG.step (Op1.add (by rfl) (by rfl) (by omega)) (by rfl) ?_
                  refine RG.step (Op1.assign (by rfl)) (by rfl) ?_
                  refine RG.done ?_
                  exact loopQ_next (i + 1) (by omega) ⟨St_has _ ⟨rfl, rfl, trivial⟩, rfl, by omega, fun j h1 h2 => check_step hi hall (by omega) h1 h2⟩
              · refine W.condF (by rfl) ?_
                refine W.exit ?_
                refine W.rs ?_
                refine RG.step (Op1.assign (by rfl)) (by rfl) ?_
                refine RG.done ?_
                refine W.ret ?_
                refine leaf1 rfl (by rfl) ⟨congrArg _ ?_, rfl⟩
                rw [checkV, if_neg c1, if_neg (fun e => e.elim (fun e => c2 (by rw [e]; rfl)) (fun e => e.elim c3 (fun e => c4 (by rw [show ((xs.length : Int) - 1).toNat = xs.length - 1 from by omega]; exact e)))), if_pos (fun j hj => hall j (by omega) (by omega))]
            · exact ⟨St_has _ ⟨rfl, rfl, trivial⟩, rfl, Nat.le_refl _, fun j h1 _ => by omega⟩
/-- What 'total' answers. -/
def totalV (xs : List Int) (most sum : Int) : Int := if xs.length ≤ most ∧ sum < 0 then 1 else checkV xs most
theorem total_walk {N : Nat} {h : Heap} {ad : Option Addr} {xs : List Int} {c : Nat} {most sum : Int} (hA : IntsA N h ad xs) (hl : xs.length < 4611686018427387904) :
    CW Try.prog primW 55 [.slice ad xs.length c, .int .i64 most, .int .i64 sum] h fun v h' => v = .int .i64 (totalV xs most sum) ∧ h' = h := by
    refine CW.intro (l := [(2, .int .i64 sum), (1, .int .i64 most), (0, .slice ad xs.length c)]) rfl Try.func55 rfl (by rfl) ?_
    refine W.rs ?_
    refine RG.step (Op1.assign (by rfl)) (by rfl) ?_
    refine RG.done ?_
    refine W.seq ?_
    refine W.rs ?_
    refine RG.step (Op1.move (by rfl)) (by rfl) ?_
    refine RG.step (Op1.len Try.underlying22 (by rfl) (by rfl)) (by rfl) ?_
    refine RG.step (Op1.move (by rfl)) (by rfl) ?_
    refine RG.step (Op1.leq (by rfl) (by rfl)) (by rfl) ?_
    refine RG.step (Op1.move (by rfl)) (by rfl) ?_
    refine RG.cases 11 (by rfl) (fun c1 => ?_) (fun c1 => ?_)
    · refine RG.gd (by rfl) (by rfl) (Op1.move (by rfl)) (by rfl) ?_
      refine RG.gd (by rfl) (by rfl) (Op1.lss (by rfl) (by rfl)) (by rfl) ?_
      refine RG.step (Op1.pickT (by rfl) (by rfl)) (by rfl) ?_
      refine RG.done ?_
      refine W.cases 14 (by rfl) (fun c2 => ?_) (fun c2 => ?_)
      · refine W.condT (by rfl) ?_
        refine W.rs ?_
        refine RG.step (Op1.assign (by rfl)) (by rfl) ?_
        refine RG.done ?_
        refine W.ret ?_
        refine leaf1 rfl (by rfl) ⟨congrArg _ ?_, rfl⟩
        rw [totalV, if_pos ⟨c1, c2⟩]
      · refine W.condF (by rfl) ?_
        refine W.skip ?_
        refine W.rs ?_
        refine RG.step (Op1.move (by rfl)) (by rfl) ?_
        refine RG.step (Op1.move (by rfl)) (by rfl) ?_
        refine RG.callP (by rfl) (by exact check_walk hA hl) (by rfl) ?_
        refine RG.step (Op1.assign (by rfl)) (by rfl) ?_
        refine RG.done ?_
        refine W.ret ?_
        refine leaf1 rfl (by rfl) ⟨congrArg _ ?_, rfl⟩
        rw [totalV, if_neg (fun e => c2 e.2)]
    · refine RG.not (by rfl) (by rfl) (by rfl) (by rfl) ?_
      refine RG.not (by rfl) (by rfl) (by rfl) (by rfl) ?_
      refine RG.step (Op1.pickF (by rfl) (by rfl)) (by rfl) ?_
      refine RG.done ?_
      refine W.condF (by rfl) ?_
      refine W.skip ?_
      refine W.rs ?_
      refine RG.step (Op1.move (by rfl)) (by rfl) ?_
      refine RG.step (Op1.move (by rfl)) (by rfl) ?_
      refine RG.callP (by rfl) (by exact check_walk hA hl) (by rfl) ?_
      refine RG.step (Op1.assign (by rfl)) (by rfl) ?_
      refine RG.done ?_
      refine W.ret ?_
      refine leaf1 rfl (by rfl) ⟨congrArg _ ?_, rfl⟩
      rw [totalV, if_neg (fun e => c1 e.1)]
/-- Whether a weight at a place is as it should be. -/
def goodAt (xs : List Int) (j : Nat) : Prop := (1 ≤ xs.getD j 0 ∧ xs.getD j 0 ≤ 100000) ∧ (0 < j → xs.getD (j - 1) 0 < xs.getD j 0)
instance (xs : List Int) (j : Nat) : Decidable (goodAt xs j) := by unfold goodAt; infer_instance
def Good (xs : List Int) : Prop := xs ≠ [] ∧ ∀ j, j < xs.length → goodAt xs j
instance (xs : List Int) : Decidable (Good xs) := by unfold Good; infer_instance
/-- What 'Weights' of the reference answers. -/
def errV (xs : List Int) : Int := if 12 < xs.length then 3 else if Good xs then 0 else 2
theorem good_step {xs : List Int} {i : Nat} (hall : ∀ j, j < i → goodAt xs j) (hg : goodAt xs i) {j : Nat} (hj : j < i + 1) : goodAt xs j := by
  by_cases h : j < i
  · exact hall j h
  · rw [show j = i from by omega]; exact hg
theorem weights_walk {N : Nat} {h : Heap} {ad : Option Addr} {xs : List Int} {c : Nat} (hA : IntsA N h ad xs) (hl : xs.length < 4611686018427387904) :
    CW Try.prog primW 18 [.slice ad xs.length c] h fun v h' => v = .int .i64 (errV xs) ∧ h' = h := by
    refine CW.intro (l := [(0, .slice ad xs.length c)]) rfl Try.func18 rfl (by rfl) ?_
    refine W.rs ?_
    refine RG.step (Op1.assign (by rfl)) (by rfl) ?_
    refine RG.done ?_
    refine W.seq ?_
    refine W.rs ?_
    refine RG.step (Op1.move (by rfl)) (by rfl) ?_
    refine RG.step (Op1.len Try.underlying22 (by rfl) (by rfl)) (by rfl) ?_
    refine RG.step (Op1.gtr (by rfl) (by rfl)) (by rfl) ?_
    refine RG.done ?_
    refine W.cases 6 (by rfl) (fun c1 => ?_) (fun c1 => ?_)
    · refine W.condT (by rfl) ?_
      refine W.rs ?_
      refine RG.step (Op1.assign (by rfl)) (by rfl) ?_
      refine RG.done ?_
      refine W.ret ?_
      refine leaf1 rfl (by rfl) ⟨congrArg _ ?_, rfl⟩
      rw [errV, if_pos (by omega)]
    · refine W.condF (by rfl) ?_
      refine W.skip ?_
      refine W.seq ?_
      refine W.rs ?_
      refine RG.step (Op1.assign (by rfl)) (by rfl) ?_
      refine RG.done ?_
      refine W.block ?_
      refine W.loop (σ := Nat) (fun i a h1 => Has 38 [] [(0, .slice ad xs.length c), (3, .int .i64 (i : Int))] a ∧ h1 = h ∧ i ≤ xs.length ∧ ∀ j, j < i → goodAt xs j) (fun i => xs.length - i) ?_ (0) ?_
      · rintro i _ _ ⟨⟨base, rfl⟩, rfl, hi, hall⟩
        refine W.seq ?_
        refine W.rs ?_
        refine RG.step (Op1.move (by rfl)) (by rfl) ?_
        refine RG.step (Op1.move (by rfl)) (by rfl) ?_
        refine RG.step (Op1.len Try.underlying22 (by rfl) (by rfl)) (by rfl) ?_
        refine RG.step (Op1.lss (by rfl) (by rfl)) (by rfl) ?_
        refine RG.done ?_
        refine W.cases 10 (by rfl) (fun c2 => ?_) (fun c2 => ?_)
        · refine W.condT (by rfl) ?_
          refine W.skip ?_
          refine W.seq ?_
          refine W.block ?_
          refine W.ds (σ := [0, 1, 2, 3, 4, 5, 6, 7, 8, 9, 10, 11, 12, 13, 14, 15, 16, 17, 18, 19, 20, 21]) (by kernel_rfl) (by kernel_rfl) ?_
          refine RD.pure (by rfl) (by rfl) GOK.no (Op1.move (by rfl)) (by rfl) ?_
          refine RD.pure (by rfl) (by rfl) GOK.no (Op1.move (by rfl)) (by rfl) ?_
          refine RD.pure (by rfl) (by rfl) GOK.no (Op1.idxI hA Try.underlying22 sz3 (by rfl) (by rfl) (by omega) (by omega)) (by rfl) ?_
          refine RD.read (C := fun h => cellAt h _ _ = some _) (by rfl) (by rfl) (by rfl) GOK.no (fun _ hC => Op1.load agg3 (by rfl) hC) (hA.at (by omega) (by omega)) (simple_of (by rfl)) (by rfl) ?_
          refine RD.callP (m := 15) (pend2 := []) (by rfl) (by rfl) GOK.no (by kernel_rfl) (by rfl) (by rfl) (by rfl) (by exact in_walk _ _ _ _) (by exact True.intro) ?_
          refine RD.pure (by rfl) (by rfl) GOK.no (Op1.notD (by rfl)) (by rfl) ?_
          refine RD.pure (by rfl) (by rfl) GOK.no (Op1.move (by rfl)) (by rfl) ?_
          refine RD.cases 19 (by rfl) (fun c3 => ?_) (fun c3 => ?_)
          · refine RD.not (by rfl) (GOK.is (t := 19) (by rfl) (by rfl) (by rfl)) (by rfl) ?_
            refine RD.not (by rfl) (GOK.is (t := 19) (by rfl) (by rfl) (by rfl)) (by rfl) ?_
            refine RD.not (by rfl) (GOK.is (t := 19) (by rfl) (by rfl) (by rfl)) (by rfl) ?_
            refine RD.not (by rfl) (GOK.is (t := 22) (by rfl) (by rfl) (by rfl)) (by rfl) ?_
            refine RD.not (by rfl) (GOK.is (t := 22) (by rfl) (by rfl) (by rfl)) (by rfl) ?_
            refine RD.not (by rfl) (GOK.is (t := 22) (by rfl) (by rfl) (by rfl)) (by rfl) ?_
            refine RD.not (by rfl) (GOK.is (t := 22) (by rfl) (by rfl) (by rfl)) (by rfl) ?_
            refine RD.not (by rfl) (GOK.is (t := 22) (by rfl) (by rfl) (by rfl)) (by rfl) ?_
            refine RD.not (by rfl) (GOK.is (t := 22) (by rfl) (by rfl) (by rfl)) (by rfl) ?_
            refine RD.not (by rfl) (GOK.is (t := 22) (by rfl) (by rfl) (by rfl)) (by rfl) ?_
            refine RD.not (by rfl) (GOK.is (t := 22) (by rfl) (by rfl) (by rfl)) (by rfl) ?_
            refine RD.not (by rfl) (GOK.is (t := 22) (by rfl) (by rfl) (by rfl)) (by rfl) ?_
            refine RD.not (by rfl) (GOK.is (t := 22) (by rfl) (by rfl) (by rfl)) (by rfl) ?_
            refine RD.not (by rfl) (GOK.is (t := 19) (by rfl) (by rfl) (by rfl)) (by rfl) ?_
            refine RD.pure (by rfl) (by rfl) GOK.no (Op1.pickT (by rfl) (by rfl)) (by rfl) ?_
            refine RD.done ?_
            refine W.condT (by rfl) ?_
            refine W.rs ?_
            refine RG.step (Op1.assign (by rfl)) (by rfl) ?_
            refine RG.done ?_
            refine W.ret ?_
            refine leaf1 rfl (by rfl) ⟨congrArg _ ?_, rfl⟩
            rw [errV, if_neg (by omega), if_neg (fun e => c3 (e.2 i (by omega)).1)]
          · refine RD.pure (by rfl) (by rfl) (GOK.is (t := 19) (by rfl) (by rfl) (by rfl)) (Op1.move (by rfl)) (by rfl) ?_
            refine RD.pure (by rfl) (by rfl) (GOK.is (t := 19) (by rfl) (by rfl) (by rfl)) (Op1.gtr (by rfl) (by rfl)) (by rfl) ?_
            refine RD.pure (by rfl) (by rfl) (GOK.is (t := 19) (by rfl) (by rfl) (by rfl)) (Op1.move (by rfl)) (by rfl) ?_
            refine RD.cases 22 (by rfl) (fun c4 => ?_) (fun c4 => ?_)
            · refine RD.pure (by rfl) (by rfl) (GOK.is (t := 22) (by rfl) (by rfl) (by rfl)) (Op1.move (by rfl)) (by rfl) ?_
              refine RD.pure (by rfl) (by rfl) (GOK.is (t := 22) (by rfl) (by rfl) (by rfl)) (Op1.move (by rfl)) (by rfl) ?_
              refine RD.pure (by rfl) (by rfl) (GOK.is (t := 22) (by rfl) (by rfl) (by rfl)) (Op1.idxI hA Try.underlying22 sz3 (by rfl) (by rfl) (by omega) (by omega)) (by rfl) ?_
              refine RD.read (C := fun h => cellAt h _ _ = some _) (by rfl) (by rfl) (by kernel_rfl) (GOK.is (t := 22) (by rfl) (by rfl) (by rfl)) (fun _ hC => Op1.load agg3 (by rfl) hC) (hA.at (by omega) (by omega)) (simple_of (by rfl)) (by rfl) ?_
              refine RD.pure (by rfl) (by rfl) (GOK.is (t := 22) (by rfl) (by rfl) (by rfl)) (Op1.move (by rfl)) (by rfl) ?_
              refine RD.pure (by rfl) (by rfl) (GOK.is (t := 22) (by rfl) (by rfl) (by rfl)) (Op1.move (by rfl)) (by rfl) ?_
              refine RD.pure (by rfl) (by rfl) (GOK.is (t := 22) (by rfl) (by rfl) (by rfl)) (Op1.sub (by rfl) (by rfl) (by omega)) (by rfl) ?_
              refine RD.pure (by rfl) (by rfl) (GOK.is (t := 22) (by rfl) (by rfl) (by rfl)) (Op1.idxI hA Try.underlying22 sz3 (by rfl) (by rfl) (by omega) (by omega)) (by rfl) ?_
              refine RD.read (C := fun h => cellAt h _ _ = some _) (by rfl) (by rfl) (by kernel_rfl) (GOK.is (t := 22) (by rfl) (by rfl) (by rfl)) (fun _ hC => Op1.load agg3 (by rfl) hC) (hA.at (by omega) (by omega)) (simple_of (by rfl)) (by rfl) ?_
              refine RD.pure (by rfl) (by rfl) (GOK.is (t := 22) (by rfl) (by rfl) (by rfl)) (Op1.leq (by rfl) (by rfl)) (by rfl) ?_
              refine RD.pure (by rfl) (by rfl) (GOK.is (t := 19) (by rfl) (by rfl) (by rfl)) (Op1.pickT (by rfl) (by rfl)) (by rfl) ?_
              refine RD.pure (by rfl) (by rfl) GOK.no (Op1.pickF (by rfl) (by rfl)) (by rfl) ?_
              refine RD.done ?_
              refine W.cases 34 (by rfl) (fun c5 => ?_) (fun c5 => ?_)
              · refine W.condT (by rfl) ?_
                refine W.rs ?_
                refine RG.step (Op1.assign (by rfl)) (by rfl) ?_
                refine RG.done ?_
                refine W.ret ?_
                refine leaf1 rfl (by rfl) ⟨congrArg _ ?_, rfl⟩
                rw [errV, if_neg (by omega), if_neg (fun e => absurd ((e.2 i (by omega)).2 (by omega)) (by have k := c5; rw [Int.toNat_natCast, show ((i : Int) - 1).toNat = i - 1 from by omega] at k; omega))]
              · refine W.condF (by rfl) ?_
                refine W.skip ?_
                refine W.region ?_
                refine RG.step (Op1.move (by rfl)) (by rfl) ?_
                refine RG.step (Op1.add (by rfl) (by rfl) (by omega)) (by rfl) ?_
                refine RG.step (Op1.assign (by rfl)) (by rfl) ?_
                refine RG.done ?_
                exact loopQ_next (i + 1) (by omega) ⟨St_has _ ⟨rfl, rfl, trivial⟩, rfl, by omega, fun j hj => good_step hall (by unfold goodAt; refine ⟨Decidable.not_not.1 c3, fun hp => ?_⟩; have k := c5; rw [Int.toNat_natCast, show ((i : Int) - 1).toNat = i - 1 from by omega] at k; omega) hj⟩
            · refine RD.not (by rfl) (GOK.is (t := 22) (by rfl) (by rfl) (by rfl)) (by rfl) ?_
              refine RD.not (by rfl) (GOK.is (t := 22) (by rfl) (by rfl) (by rfl)) (by rfl) ?_
              refine RD.not (by rfl) (GOK.is (t := 22) (by rfl) (by rfl) (by rfl)) (by rfl) ?_
              refine RD.not (by rfl) (GOK.is (t := 22) (by rfl) (by rfl) (by rfl)) (by rfl) ?_
              refine RD.not (by rfl) (GOK.is (t := 22) (by rfl) (by rfl) (by rfl)) (by rfl) ?_
              refine RD.not (by rfl) (GOK.is (t := 22) (by rfl) (by rfl) (by rfl)) (by rfl) ?_
              refine RD.not (by rfl) (GOK.is (t := 22) (by rfl) (by rfl) (by rfl)) (by rfl) ?_
              refine RD.not (by rfl) (GOK.is (t := 22) (by rfl) (by rfl) (by rfl)) (by rfl) ?_
              refine RD.not (by rfl) (GOK.is (t := 22) (by rfl) (by rfl) (by rfl)) (by rfl) ?_
              refine RD.not (by rfl) (GOK.is (t := 22) (by rfl) (by rfl) (by rfl)) (by rfl) ?_
              refine RD.pure (by rfl) (by rfl) (GOK.is (t := 19) (by rfl) (by rfl) (by rfl)) (Op1.pickF (by rfl) (by rfl)) (by rfl) ?_
              refine RD.pure (by rfl) (by rfl) GOK.no (Op1.pickF (by rfl) (by rfl)) (by rfl) ?_
              refine RD.done ?_
              refine W.condF (by rfl) ?_
              refine W.skip ?_
              refine W.region ?_
              refine RG.step (Op1.move (by rfl)) (by rfl) ?_
              refine RG.step (Op1.add (by rfl) (by rfl) (by omega)) (by rfl) ?_
              refine RG.step (Op1.assign (by rfl)) (by rfl) ?_
              refine RG.done ?_
              exact loopQ_next (i + 1) (by omega) ⟨St_has _ ⟨rfl, rfl, trivial⟩, rfl, by omega, fun j hj => good_step hall (by unfold goodAt; refine ⟨Decidable.not_not.1 c3, fun hp => ?_⟩; have k := c4; omega) hj⟩
        · refine W.condF (by rfl) ?_
          refine W.exit ?_
          refine W.seq ?_
          refine W.rs ?_
          refine RG.step (Op1.move (by rfl)) (by rfl) ?_
          refine RG.step (Op1.len Try.underlying22 (by rfl) (by rfl)) (by rfl) ?_
          refine RG.step (Op1.eql (by rfl) (by rfl)) (by rfl) ?_
          refine RG.done ?_
          refine W.cases 37 (by rfl) (fun c6 => ?_) (fun c6 => ?_)
          · refine W.condT (by rfl) ?_
            refine W.rs ?_
            refine RG.step (Op1.assign (by rfl)) (by rfl) ?_
            refine RG.done ?_
            refine W.ret ?_
            refine leaf1 rfl (by rfl) ⟨congrArg _ ?_, rfl⟩
            rw [errV, if_neg (by omega), if_neg (fun e => e.1 (List.length_eq_zero_iff.1 (by omega)))]
          · refine W.condF (by rfl) ?_
            refine W.skip ?_
            refine W.rs ?_
            refine RG.step (Op1.assign (by rfl)) (by rfl) ?_
            refine RG.done ?_
            refine W.ret ?_
            refine leaf1 rfl (by rfl) ⟨congrArg _ ?_, rfl⟩
            rw [errV, if_neg (by omega), if_pos ⟨fun e => c6 (by rw [e]; rfl), fun j hj => hall j (by omega)⟩]
      · exact ⟨St_has _ ⟨rfl, rfl, trivial⟩, rfl, Nat.zero_le _, fun j h1 => by omega⟩
/-- Lexicographically before. -/
def lexB : List Int → List Int → Bool
  | _, [] => false
  | [], _ :: _ => true
  | x :: xs, y :: ys => if ¬ x = y then decide (x < y) else lexB xs ys
theorem lexB_nil (xs : List Int) : lexB xs [] = false := by cases xs <;> rfl
theorem lexB_step {xs ys : List Int} {i : Nat} (h1 : i < xs.length) (h2 : i < ys.length) : lexB (xs.drop i) (ys.drop i) = if ¬ xs.getD i 0 = ys.getD i 0 then decide (xs.getD i 0 < ys.getD i 0) else lexB (xs.drop (i + 1)) (ys.drop (i + 1)) := by
  rw [List.drop_eq_getElem_cons h1, List.drop_eq_getElem_cons h2, gD h1, gD h2]; rfl
theorem lexB_end {xs ys : List Int} {i : Nat} (h1 : i ≤ xs.length) (h2 : i ≤ ys.length) (h : i = xs.length ∨ i = ys.length) : lexB (xs.drop i) (ys.drop i) = decide (xs.length < ys.length) := by
  rcases h with h | h
  · rw [List.drop_eq_nil_iff.2 (show xs.length ≤ i by omega)]
    cases hd : ys.drop i with
    | nil => have := List.drop_eq_nil_iff.1 hd; simp [lexB]; omega
    | cons y r =>
      have : i < ys.length := by
        rcases Nat.lt_or_ge i ys.length with h | h
        · exact h
        · rw [List.drop_eq_nil_iff.2 h] at hd; cases hd
      simp [lexB]; omega
  · rw [List.drop_eq_nil_iff.2 (show ys.length ≤ i by omega), lexB_nil]
    simp; omega
theorem lexB_irrefl : ∀ xs : List Int, lexB xs xs = false
  | [] => rfl
  | x :: xs => by simp [lexB, lexB_irrefl xs]
theorem lexB_tri : ∀ {xs ys : List Int}, lexB xs ys = false → lexB ys xs = false → xs = ys
  | [], [], _, _ => rfl
  | [], y :: ys, h, _ => by simp [lexB] at h
  | x :: xs, [], _, h => by simp [lexB] at h
  | x :: xs, y :: ys, h1, h2 => by
    simp only [lexB] at h1 h2
    by_cases e : x = y
    · subst e
      simp at h1 h2
      rw [lexB_tri h1 h2]
    · have e' : ¬ y = x := fun k => e k.symm
      simp [e, e'] at h1 h2
      omega
theorem before_walk {N M : Nat} {h : Heap} {ad bd : Option Addr} {xs ys : List Int} {c e : Nat} (hA : IntsA N h ad xs) (hB : IntsA M h bd ys) (hl : xs.length < 4611686018427387904) (hl2 : ys.length < 4611686018427387904) :
    CW Try.prog primW 35 [.slice ad xs.length c, .slice bd ys.length e] h fun v h' => v = .bool (lexB xs ys) ∧ h' = h := by
    refine CW.intro (l := [(1, .slice bd ys.length e), (0, .slice ad xs.length c)]) rfl Try.func35 rfl (by rfl) ?_
    refine W.rs ?_
    refine RG.step (Op1.assign (by rfl)) (by rfl) ?_
    refine RG.done ?_
    refine W.seq ?_
    refine W.rs ?_
    refine RG.step (Op1.assign (by rfl)) (by rfl) ?_
    refine RG.done ?_
    refine W.block ?_
    refine W.loop (σ := Nat) (fun i a h1 => Has 41 [] [(0, .slice ad xs.length c), (1, .slice bd ys.length e), (5, .int .i64 (i : Int))] a ∧ h1 = h ∧ i ≤ xs.length ∧ i ≤ ys.length ∧ lexB xs ys = lexB (xs.drop i) (ys.drop i)) (fun i => xs.length - i) ?_ (0) ?_
    · rintro i _ _ ⟨⟨base, rfl⟩, rfl, hi, hj, hq⟩
      refine W.seq ?_
      refine W.rs ?_
      refine RG.step (Op1.move (by rfl)) (by rfl) ?_
      refine RG.step (Op1.move (by rfl)) (by rfl) ?_
      refine RG.step (Op1.len Try.underlying22 (by rfl) (by rfl)) (by rfl) ?_
      refine RG.step (Op1.lss (by rfl) (by rfl)) (by rfl) ?_
      refine RG.step (Op1.move (by rfl)) (by rfl) ?_
      refine RG.cases 10 (by rfl) (fun c1 => ?_) (fun c1 => ?_)
      · refine RG.gd (by rfl) (by rfl) (Op1.move (by rfl)) (by rfl) ?_
        refine RG.gd (by rfl) (by rfl) (Op1.move (by rfl)) (by rfl) ?_
        refine RG.gd (by rfl) (by rfl) (Op1.len Try.underlying22 (by rfl) (by rfl)) (by rfl) ?_
        refine RG.gd (by rfl) (by rfl) (Op1.lss (by rfl) (by rfl)) (by rfl) ?_
        refine RG.step (Op1.pickT (by rfl) (by rfl)) (by rfl) ?_
        refine RG.done ?_
        refine W.cases 15 (by rfl) (fun c2 => ?_) (fun c2 => ?_)
        · refine W.condT (by rfl) ?_
          refine W.skip ?_
          refine W.seq ?_
          refine W.block ?_
          refine W.ds (σ := [0, 1, 2, 3, 4, 5, 6, 7, 8]) (by kernel_rfl) (by kernel_rfl) ?_
          refine RD.pure (by rfl) (by rfl) GOK.no (Op1.move (by rfl)) (by rfl) ?_
          refine RD.pure (by rfl) (by rfl) GOK.no (Op1.move (by rfl)) (by rfl) ?_
          refine RD.pure (by rfl) (by rfl) GOK.no (Op1.idxI hA Try.underlying22 sz3 (by rfl) (by rfl) (by omega) (by omega)) (by rfl) ?_
          refine RD.read (C := fun h => cellAt h _ _ = some _) (by rfl) (by rfl) (by rfl) GOK.no (fun _ hC => Op1.load agg3 (by rfl) hC) (hA.at (by omega) (by omega)) (simple_of (by rfl)) (by rfl) ?_
          refine RD.pure (by rfl) (by rfl) GOK.no (Op1.move (by rfl)) (by rfl) ?_
          refine RD.pure (by rfl) (by rfl) GOK.no (Op1.move (by rfl)) (by rfl) ?_
          refine RD.pure (by rfl) (by rfl) GOK.no (Op1.idxI hB Try.underlying22 sz3 (by rfl) (by rfl) (by omega) (by omega)) (by rfl) ?_
          refine RD.read (C := fun h => cellAt h _ _ = some _) (by rfl) (by rfl) (by rfl) GOK.no (fun _ hC => Op1.load agg3 (by rfl) hC) (hB.at (by omega) (by omega)) (simple_of (by rfl)) (by rfl) ?_
          refine RD.pure (by rfl) (by rfl) GOK.no (Op1.neq (by rfl) (by rfl)) (by rfl) ?_
          refine RD.done ?_
          refine W.cases 26 (by rfl) (fun c3 => ?_) (fun c3 => ?_)
          · refine W.condT (by rfl) ?_
            refine W.ds (σ := [0, 1, 2, 3, 4, 5, 6, 7, 8, 9]) (by kernel_rfl) (by kernel_rfl) ?_
            refine RD.pure (by rfl) (by rfl) GOK.no (Op1.move (by rfl)) (by rfl) ?_
            refine RD.pure (by rfl) (by rfl) GOK.no (Op1.move (by rfl)) (by rfl) ?_
            refine RD.pure (by rfl) (by rfl) GOK.no (Op1.idxI hA Try.underlying22 sz3 (by rfl) (by rfl) (by omega) (by omega)) (by rfl) ?_
            refine RD.read (C := fun h => cellAt h _ _ = some _) (by rfl) (by rfl) (by rfl) GOK.no (fun _ hC => Op1.load agg3 (by rfl) hC) (hA.at (by omega) (by omega)) (simple_of (by rfl)) (by rfl) ?_
            refine RD.pure (by rfl) (by rfl) GOK.no (Op1.move (by rfl)) (by rfl) ?_
            refine RD.pure (by rfl) (by rfl) GOK.no (Op1.move (by rfl)) (by rfl) ?_
            refine RD.pure (by rfl) (by rfl) GOK.no (Op1.idxI hB Try.underlying22 sz3 (by rfl) (by rfl) (by omega) (by omega)) (by rfl) ?_
            refine RD.read (C := fun h => cellAt h _ _ = some _) (by rfl) (by rfl) (by rfl) GOK.no (fun _ hC => Op1.load agg3 (by rfl) hC) (hB.at (by omega) (by omega)) (simple_of (by rfl)) (by rfl) ?_
            refine RD.pure (by rfl) (by rfl) GOK.no (Op1.lss (by rfl) (by rfl)) (by rfl) ?_
            refine RD.pure (by rfl) (by rfl) GOK.no (Op1.assign (by rfl)) (by rfl) ?_
            refine RD.done ?_
            refine W.ret ?_
            refine leaf1 rfl (by rfl) ⟨congrArg _ ?_, rfl⟩
            have k := c3
            rw [Int.toNat_natCast] at k ⊢
            rw [hq, lexB_step (by omega) (by omega), if_pos k]
          · refine W.condF (by rfl) ?_
            refine W.skip ?_
            refine W.region ?_
            refine RG.step (Op1.move (by rfl)) (by rfl) ?_
            refine RG.step (Op1.add (by rfl) (by rfl) (by omega)) (by rfl) ?_
            refine RG.step (Op1.assign (by rfl)) (by rfl) ?_
            refine RG.done ?_
            exact loopQ_next (i + 1) (by omega) ⟨St_has _ ⟨rfl, rfl, rfl, trivial⟩, rfl, by omega, by omega, by rw [hq, lexB_step (by omega) (by omega), if_neg]; rw [Int.toNat_natCast] at c3; exact c3⟩
        · refine W.condF (by rfl) ?_
          refine W.exit ?_
          refine W.rs ?_
          refine RG.step (Op1.move (by rfl)) (by rfl) ?_
          refine RG.step (Op1.len Try.underlying22 (by rfl) (by rfl)) (by rfl) ?_
          refine RG.step (Op1.move (by rfl)) (by rfl) ?_
          refine RG.step (Op1.len Try.underlying22 (by rfl) (by rfl)) (by rfl) ?_
          refine RG.step (Op1.lss (by rfl) (by rfl)) (by rfl) ?_
          refine RG.step (Op1.assign (by rfl)) (by rfl) ?_
          refine RG.done ?_
          refine W.ret ?_
          refine leaf1 rfl (by rfl) ⟨congrArg _ ?_, rfl⟩
          rw [hq, lexB_end (by omega) (by omega) (by omega)]
          simp
      · refine RG.not (by rfl) (by rfl) (by rfl) (by rfl) ?_
        refine RG.not (by rfl) (by rfl) (by rfl) (by rfl) ?_
        refine RG.not (by rfl) (by rfl) (by rfl) (by rfl) ?_
        refine RG.not (by rfl) (by rfl) (by rfl) (by rfl) ?_
        refine RG.step (Op1.pickF (by rfl) (by rfl)) (by rfl) ?_
        refine RG.done ?_
        refine W.condF (by rfl) ?_
        refine W.exit ?_
        refine W.rs ?_
        refine RG.step (Op1.move (by rfl)) (by rfl) ?_
        refine RG.step (Op1.len Try.underlying22 (by rfl) (by rfl)) (by rfl) ?_
        refine RG.step (Op1.move (by rfl)) (by rfl) ?_
        refine RG.step (Op1.len Try.underlying22 (by rfl) (by rfl)) (by rfl) ?_
        refine RG.step (Op1.lss (by rfl) (by rfl)) (by rfl) ?_
        refine RG.step (Op1.assign (by rfl)) (by rfl) ?_
        refine RG.done ?_
        refine W.ret ?_
        refine leaf1 rfl (by rfl) ⟨congrArg _ ?_, rfl⟩
        rw [hq, lexB_end (by omega) (by omega) (by omega)]
        simp
    · exact ⟨St_has _ ⟨rfl, rfl, rfl, trivial⟩, rfl, Nat.zero_le _, Nat.zero_le _, rfl⟩
theorem same_walk {N M : Nat} {h : Heap} {ad bd : Option Addr} {xs ys : List Int} {c e : Nat} (hA : IntsA N h ad xs) (hB : IntsA M h bd ys) (hl : xs.length < 4611686018427387904) (hl2 : ys.length < 4611686018427387904) :
    CW Try.prog primW 21 [.slice ad xs.length c, .slice bd ys.length e] h fun v h' => v = .bool (decide (xs = ys)) ∧ h' = h := by
    refine CW.intro (l := [(1, .slice bd ys.length e), (0, .slice ad xs.length c)]) rfl Try.func21 rfl (by rfl) ?_
    refine W.rs ?_
    refine RG.step (Op1.assign (by rfl)) (by rfl) ?_
    refine RG.done ?_
    refine W.rs ?_
    refine RG.step (Op1.move (by rfl)) (by rfl) ?_
    refine RG.step (Op1.move (by rfl)) (by rfl) ?_
    refine RG.callP (by rfl) (by exact before_walk hA hB hl hl2) (by rfl) ?_
    refine RG.step (Op1.notB (by rfl)) (by rfl) ?_
    refine RG.step (Op1.move (by rfl)) (by rfl) ?_
    refine RG.casesB 9 (by rfl) (fun c1 => ?_) (fun c1 => ?_)
    · refine RG.gd (by rfl) (by rfl) (Op1.move (by rfl)) (by rfl) ?_
      refine RG.gd (by rfl) (by rfl) (Op1.move (by rfl)) (by rfl) ?_
      refine RG.callPG (by rfl) (by rfl) (by rfl) (by exact before_walk hB hA hl2 hl) (by rfl) ?_
      refine RG.gd (by rfl) (by rfl) (Op1.notB (by rfl)) (by rfl) ?_
      refine RG.step (Op1.pickT (by rfl) (by rfl)) (by rfl) ?_
      refine RG.step (Op1.assign (by rfl)) (by rfl) ?_
      refine RG.done ?_
      refine W.ret ?_
      refine leaf1 rfl (by rfl) ⟨congrArg _ ?_, rfl⟩
      cases hq : lexB ys xs with
      | false => rw [lexB_tri (by simpa using c1) hq]; simp
      | true =>
        have : xs ≠ ys := by intro e; subst e; rw [lexB_irrefl] at hq; cases hq
        simp [this]
    · refine RG.not (by rfl) (by rfl) (by rfl) (by rfl) ?_
      refine RG.not (by rfl) (by rfl) (by rfl) (by rfl) ?_
      refine RG.not (by rfl) (by rfl) (by rfl) (by rfl) ?_
      refine RG.not (by rfl) (by rfl) (by rfl) (by rfl) ?_
      refine RG.step (Op1.pickF (by rfl) (by rfl)) (by rfl) ?_
      refine RG.step (Op1.assign (by rfl)) (by rfl) ?_
      refine RG.done ?_
      refine W.ret ?_
      refine leaf1 rfl (by rfl) ⟨congrArg _ ?_, rfl⟩
      have : xs ≠ ys := by intro e; subst e; rw [lexB_irrefl] at c1; cases c1
      simp [this]
theorem has_step {xs : List Int} {i : Nat} {v : Int} (hi : i < xs.length) (hall : ∀ j, j < i → xs.getD j 0 ≠ v) (hc : ¬ xs.getD i 0 = v) {j : Nat} (hj : j < i + 1) : xs.getD j 0 ≠ v := by
  by_cases h : j < i
  · exact hall j h
  · rw [show j = i from by omega]; exact hc
theorem mem_getD {xs : List Int} {v : Int} : v ∈ xs ↔ ∃ j, j < xs.length ∧ xs.getD j 0 = v := by
  rw [List.mem_iff_getElem]
  constructor
  · rintro ⟨j, hj, e⟩; exact ⟨j, hj, by rw [gD hj]; exact e⟩
  · rintro ⟨j, hj, e⟩; exact ⟨j, hj, by rw [gD hj] at e; exact e⟩
theorem has_walk {N : Nat} {h : Heap} {ad : Option Addr} {xs : List Int} {c : Nat} {v : Int} (hA : IntsA N h ad xs) (hl : xs.length < 4611686018427387904) :
    CW Try.prog primW 33 [.slice ad xs.length c, .int .i64 v] h fun r h' => r = .bool (decide (v ∈ xs)) ∧ h' = h := by
    refine CW.intro (l := [(1, .int .i64 v), (0, .slice ad xs.length c)]) rfl Try.func33 rfl (by rfl) ?_
    refine W.rs ?_
    refine RG.step (Op1.assign (by rfl)) (by rfl) ?_
    refine RG.done ?_
    refine W.seq ?_
    refine W.rs ?_
    refine RG.step (Op1.assign (by rfl)) (by rfl) ?_
    refine RG.done ?_
    refine W.block ?_
    refine W.loop (σ := Nat) (fun i a h1 => Has 18 [] [(0, .slice ad xs.length c), (1, .int .i64 v), (5, .int .i64 (i : Int))] a ∧ h1 = h ∧ i ≤ xs.length ∧ ∀ j, j < i → xs.getD j 0 ≠ v) (fun i => xs.length - i) ?_ (0) ?_
    · rintro i _ _ ⟨⟨base, rfl⟩, rfl, hi, hall⟩
      refine W.seq ?_
      refine W.rs ?_
      refine RG.step (Op1.move (by rfl)) (by rfl) ?_
      refine RG.step (Op1.move (by rfl)) (by rfl) ?_
      refine RG.step (Op1.len Try.underlying22 (by rfl) (by rfl)) (by rfl) ?_
      refine RG.step (Op1.lss (by rfl) (by rfl)) (by rfl) ?_
      refine RG.done ?_
      refine W.cases 9 (by rfl) (fun c1 => ?_) (fun c1 => ?_)
      · refine W.condT (by rfl) ?_
        refine W.skip ?_
        refine W.seq ?_
        refine W.block ?_
        refine W.rs ?_
        refine RG.step (Op1.move (by rfl)) (by rfl) ?_
        refine RG.step (Op1.move (by rfl)) (by rfl) ?_
        refine RG.step (Op1.idxI hA Try.underlying22 sz3 (by rfl) (by rfl) (by omega) (by omega)) (by rfl) ?_
        refine RG.step (Op1.load agg3 (by rfl) (hA.at (by omega) (by omega))) (by rfl) ?_
        refine RG.step (Op1.move (by rfl)) (by rfl) ?_
        refine RG.step (Op1.eql (by rfl) (by rfl)) (by rfl) ?_
        refine RG.done ?_
        refine W.cases 17 (by rfl) (fun c2 => ?_) (fun c2 => ?_)
        · refine W.condT (by rfl) ?_
          refine W.rs ?_
          refine RG.step (Op1.assign (by rfl)) (by rfl) ?_
          refine RG.done ?_
          refine W.ret ?_
          refine leaf1 rfl (by rfl) ⟨congrArg _ ?_, rfl⟩
          exact (decide_eq_true (mem_getD.2 ⟨i, by omega, by rw [Int.toNat_natCast] at c2; exact c2⟩)).symm
        · refine W.condF (by rfl) ?_
          refine W.skip ?_
          refine W.region ?_
          refine RG.step (Op1.move (by rfl)) (by rfl) ?_
          refine RG.step (Op1.add (by rfl) (by rfl) (by omega)) (by rfl) ?_
          refine RG.step (Op1.assign (by rfl)) (by rfl) ?_
          refine RG.done ?_
          exact loopQ_next (i + 1) (by omega) ⟨St_has _ ⟨rfl, rfl, rfl, trivial⟩, rfl, by omega, fun j hj => has_step (by omega) hall (by rw [Int.toNat_natCast] at c2; exact c2) hj⟩
      · refine W.condF (by rfl) ?_
        refine W.exit ?_
        refine W.rs ?_
        refine RG.step (Op1.assign (by rfl)) (by rfl) ?_
        refine RG.done ?_
        refine W.ret ?_
        refine leaf1 rfl (by rfl) ⟨congrArg _ ?_, rfl⟩
        exact (decide_eq_false (fun hm => by obtain ⟨j, hj, e⟩ := mem_getD.1 hm; exact hall j (by omega) e)).symm
    · exact ⟨St_has _ ⟨rfl, rfl, rfl, trivial⟩, rfl, Nat.zero_le _, fun j h1 => by omega⟩
/-- Rising indices below n. -/
def riseAt (n : Int) (xs : List Int) (j : Nat) : Prop := (0 ≤ xs.getD j 0 ∧ xs.getD j 0 ≤ n - 1) ∧ (0 < j → xs.getD (j - 1) 0 < xs.getD j 0)
instance (n : Int) (xs : List Int) (j : Nat) : Decidable (riseAt n xs j) := by unfold riseAt; infer_instance
def Rise (n : Int) (xs : List Int) : Prop := ∀ j, j < xs.length → riseAt n xs j
instance (n : Int) (xs : List Int) : Decidable (Rise n xs) := by unfold Rise; infer_instance
theorem rise_step {n : Int} {xs : List Int} {i : Nat} (hall : ∀ j, j < i → riseAt n xs j) (hg : riseAt n xs i) {j : Nat} (hj : j < i + 1) : riseAt n xs j := by
  by_cases h : j < i
  · exact hall j h
  · rw [show j = i from by omega]; exact hg
theorem rising_walk {N : Nat} {h : Heap} {ad : Option Addr} {xs : List Int} {c : Nat} {n : Int} (hA : IntsA N h ad xs) (hl : xs.length < 4611686018427387904) (hn : 0 ≤ n ∧ n < 4611686018427387904) :
    CW Try.prog primW 62 [.int .i64 n, .slice ad xs.length c] h fun r h' => r = .bool (decide (Rise n xs)) ∧ h' = h := by
    refine CW.intro (l := [(1, .slice ad xs.length c), (0, .int .i64 n)]) rfl Try.func62 rfl (by rfl) ?_
    refine W.rs ?_
    refine RG.step (Op1.assign (by rfl)) (by rfl) ?_
    refine RG.done ?_
    refine W.seq ?_
    refine W.rs ?_
    refine RG.step (Op1.assign (by rfl)) (by rfl) ?_
    refine RG.done ?_
    refine W.block ?_
    refine W.loop (σ := Nat) (fun i a h1 => Has 36 [] [(0, .int .i64 n), (1, .slice ad xs.length c), (5, .int .i64 (i : Int))] a ∧ h1 = h ∧ i ≤ xs.length ∧ ∀ j, j < i → riseAt n xs j) (fun i => xs.length - i) ?_ (0) ?_
    · rintro i _ _ ⟨⟨base, rfl⟩, rfl, hi, hall⟩
      refine W.seq ?_
      refine W.rs ?_
      refine RG.step (Op1.move (by rfl)) (by rfl) ?_
      refine RG.step (Op1.move (by rfl)) (by rfl) ?_
      refine RG.step (Op1.len Try.underlying22 (by rfl) (by rfl)) (by rfl) ?_
      refine RG.step (Op1.lss (by rfl) (by rfl)) (by rfl) ?_
      refine RG.done ?_
      refine W.cases 9 (by rfl) (fun c1 => ?_) (fun c1 => ?_)
      · refine W.condT (by rfl) ?_
        refine W.skip ?_
        refine W.seq ?_
        refine W.block ?_
        refine W.ds (σ := [0, 1, 2, 3, 4, 5, 6, 7, 8, 9, 10, 11, 12, 13, 14, 15, 16, 17, 18, 19, 20, 21, 22, 23]) (by kernel_rfl) (by kernel_rfl) ?_
        refine RD.pure (by rfl) (by rfl) GOK.no (Op1.move (by rfl)) (by rfl) ?_
        refine RD.pure (by rfl) (by rfl) GOK.no (Op1.move (by rfl)) (by rfl) ?_
        refine RD.pure (by rfl) (by rfl) GOK.no (Op1.idxI hA Try.underlying22 sz3 (by rfl) (by rfl) (by omega) (by omega)) (by rfl) ?_
        refine RD.read (C := fun h => cellAt h _ _ = some _) (by rfl) (by rfl) (by rfl) GOK.no (fun _ hC => Op1.load agg3 (by rfl) hC) (hA.at (by omega) (by omega)) (simple_of (by rfl)) (by rfl) ?_
        refine RD.pure (by rfl) (by rfl) GOK.no (Op1.move (by rfl)) (by rfl) ?_
        refine RD.pure (by rfl) (by rfl) GOK.no (Op1.sub (by rfl) (by rfl) (by omega)) (by rfl) ?_
        refine RD.callP (m := 63) (pend2 := []) (by rfl) (by rfl) GOK.no (by kernel_rfl) (by rfl) (by rfl) (by rfl) (by exact in_walk _ _ _ _) (by exact True.intro) ?_
        refine RD.pure (by rfl) (by rfl) GOK.no (Op1.notD (by rfl)) (by rfl) ?_
        refine RD.pure (by rfl) (by rfl) GOK.no (Op1.move (by rfl)) (by rfl) ?_
        refine RD.cases 20 (by rfl) (fun c2 => ?_) (fun c2 => ?_)
        · refine RD.not (by rfl) (GOK.is (t := 20) (by rfl) (by rfl) (by rfl)) (by rfl) ?_
          refine RD.not (by rfl) (GOK.is (t := 20) (by rfl) (by rfl) (by rfl)) (by rfl) ?_
          refine RD.not (by rfl) (GOK.is (t := 20) (by rfl) (by rfl) (by rfl)) (by rfl) ?_
          refine RD.not (by rfl) (GOK.is (t := 23) (by rfl) (by rfl) (by rfl)) (by rfl) ?_
          refine RD.not (by rfl) (GOK.is (t := 23) (by rfl) (by rfl) (by rfl)) (by rfl) ?_
          refine RD.not (by rfl) (GOK.is (t := 23) (by rfl) (by rfl) (by rfl)) (by rfl) ?_
          refine RD.not (by rfl) (GOK.is (t := 23) (by rfl) (by rfl) (by rfl)) (by rfl) ?_
          refine RD.not (by rfl) (GOK.is (t := 23) (by rfl) (by rfl) (by rfl)) (by rfl) ?_
          refine RD.not (by rfl) (GOK.is (t := 23) (by rfl) (by rfl) (by rfl)) (by rfl) ?_
          refine RD.not (by rfl) (GOK.is (t := 23) (by rfl) (by rfl) (by rfl)) (by rfl) ?_
          refine RD.not (by rfl) (GOK.is (t := 23) (by rfl) (by rfl) (by rfl)) (by rfl) ?_
          refine RD.not (by rfl) (GOK.is (t := 23) (by rfl) (by rfl) (by rfl)) (by rfl) ?_
          refine RD.not (by rfl) (GOK.is (t := 23) (by rfl) (by rfl) (by rfl)) (by rfl) ?_
          refine RD.not (by rfl) (GOK.is (t := 20) (by rfl) (by rfl) (by rfl)) (by rfl) ?_
          refine RD.pure (by rfl) (by rfl) GOK.no (Op1.pickT (by rfl) (by rfl)) (by rfl) ?_
          refine RD.done ?_
          refine W.condT (by rfl) ?_
          refine W.rs ?_
          refine RG.step (Op1.assign (by rfl)) (by rfl) ?_
          refine RG.done ?_
          refine W.ret ?_
          refine leaf1 rfl (by rfl) ⟨congrArg _ ?_, rfl⟩
          exact (decide_eq_false (fun e => c2 (e i (by omega)).1)).symm
        · refine RD.pure (by rfl) (by rfl) (GOK.is (t := 20) (by rfl) (by rfl) (by rfl)) (Op1.move (by rfl)) (by rfl) ?_
          refine RD.pure (by rfl) (by rfl) (GOK.is (t := 20) (by rfl) (by rfl) (by rfl)) (Op1.gtr (by rfl) (by rfl)) (by rfl) ?_
          refine RD.pure (by rfl) (by rfl) (GOK.is (t := 20) (by rfl) (by rfl) (by rfl)) (Op1.move (by rfl)) (by rfl) ?_
          refine RD.cases 23 (by rfl) (fun c3 => ?_) (fun c3 => ?_)
          · refine RD.pure (by rfl) (by rfl) (GOK.is (t := 23) (by rfl) (by rfl) (by rfl)) (Op1.move (by rfl)) (by rfl) ?_
            refine RD.pure (by rfl) (by rfl) (GOK.is (t := 23) (by rfl) (by rfl) (by rfl)) (Op1.move (by rfl)) (by rfl) ?_
            refine RD.pure (by rfl) (by rfl) (GOK.is (t := 23) (by rfl) (by rfl) (by rfl)) (Op1.idxI hA Try.underlying22 sz3 (by rfl) (by rfl) (by omega) (by omega)) (by rfl) ?_
            refine RD.read (C := fun h => cellAt h _ _ = some _) (by rfl) (by rfl) (by kernel_rfl) (GOK.is (t := 23) (by rfl) (by rfl) (by rfl)) (fun _ hC => Op1.load agg3 (by rfl) hC) (hA.at (by omega) (by omega)) (simple_of (by rfl)) (by rfl) ?_
            refine RD.pure (by rfl) (by rfl) (GOK.is (t := 23) (by rfl) (by rfl) (by rfl)) (Op1.move (by rfl)) (by rfl) ?_
            refine RD.pure (by rfl) (by rfl) (GOK.is (t := 23) (by rfl) (by rfl) (by rfl)) (Op1.move (by rfl)) (by rfl) ?_
            refine RD.pure (by rfl) (by rfl) (GOK.is (t := 23) (by rfl) (by rfl) (by rfl)) (Op1.sub (by rfl) (by rfl) (by omega)) (by rfl) ?_
            refine RD.pure (by rfl) (by rfl) (GOK.is (t := 23) (by rfl) (by rfl) (by rfl)) (Op1.idxI hA Try.underlying22 sz3 (by rfl) (by rfl) (by omega) (by omega)) (by rfl) ?_
            refine RD.read (C := fun h => cellAt h _ _ = some _) (by rfl) (by rfl) (by kernel_rfl) (GOK.is (t := 23) (by rfl) (by rfl) (by rfl)) (fun _ hC => Op1.load agg3 (by rfl) hC) (hA.at (by omega) (by omega)) (simple_of (by rfl)) (by rfl) ?_
            refine RD.pure (by rfl) (by rfl) (GOK.is (t := 23) (by rfl) (by rfl) (by rfl)) (Op1.leq (by rfl) (by rfl)) (by rfl) ?_
            refine RD.pure (by rfl) (by rfl) (GOK.is (t := 20) (by rfl) (by rfl) (by rfl)) (Op1.pickT (by rfl) (by rfl)) (by rfl) ?_
            refine RD.pure (by rfl) (by rfl) GOK.no (Op1.pickF (by rfl) (by rfl)) (by rfl) ?_
            refine RD.done ?_
            refine W.cases 35 (by rfl) (fun c4 => ?_) (fun c4 => ?_)
            · refine W.condT (by rfl) ?_
              refine W.rs ?_
              refine RG.step (Op1.assign (by rfl)) (by rfl) ?_
              refine RG.done ?_
              refine W.ret ?_
              refine leaf1 rfl (by rfl) ⟨congrArg _ ?_, rfl⟩
              exact (decide_eq_false (fun e => absurd ((e i (by omega)).2 (by omega)) (by have k := c4; rw [Int.toNat_natCast, show ((i : Int) - 1).toNat = i - 1 from by omega] at k; omega))).symm
            · refine W.condF (by rfl) ?_
              refine W.skip ?_
              refine W.region ?_
              refine RG.step (Op1.move (by rfl)) (by rfl) ?_
              refine RG.step (Op1.add (by rfl) (by rfl) (by omega)) (by rfl) ?_
              refine RG.step (Op1.assign (by rfl)) (by rfl) ?_
              refine RG.done ?_
              exact loopQ_next (i + 1) (by omega) ⟨St_has _ ⟨rfl, rfl, rfl, trivial⟩, rfl, by omega, fun j hj => rise_step hall (by unfold riseAt; refine ⟨Decidable.not_not.1 c2, fun hp => ?_⟩; have k := c4; rw [Int.toNat_natCast, show ((i : Int) - 1).toNat = i - 1 from by omega] at k; omega) hj⟩
          · refine RD.not (by rfl) (GOK.is (t := 23) (by rfl) (by rfl) (by rfl)) (by rfl) ?_
            refine RD.not (by rfl) (GOK.is (t := 23) (by rfl) (by rfl) (by rfl)) (by rfl) ?_
            refine RD.not (by rfl) (GOK.is (t := 23) (by rfl) (by rfl) (by rfl)) (by rfl) ?_
            refine RD.not (by rfl) (GOK.is (t := 23) (by rfl) (by rfl) (by rfl)) (by rfl) ?_
            refine RD.not (by rfl) (GOK.is (t := 23) (by rfl) (by rfl) (by rfl)) (by rfl) ?_
            refine RD.not (by rfl) (GOK.is (t := 23) (by rfl) (by rfl) (by rfl)) (by rfl) ?_
            refine RD.not (by rfl) (GOK.is (t := 23) (by rfl) (by rfl) (by rfl)) (by rfl) ?_
            refine RD.not (by rfl) (GOK.is (t := 23) (by rfl) (by rfl) (by rfl)) (by rfl) ?_
            refine RD.not (by rfl) (GOK.is (t := 23) (by rfl) (by rfl) (by rfl)) (by rfl) ?_
            refine RD.not (by rfl) (GOK.is (t := 23) (by rfl) (by rfl) (by rfl)) (by rfl) ?_
            refine RD.pure (by rfl) (by rfl) (GOK.is (t := 20) (by rfl) (by rfl) (by rfl)) (Op1.pickF (by rfl) (by rfl)) (by rfl) ?_
            refine RD.pure (by rfl) (by rfl) GOK.no (Op1.pickF (by rfl) (by rfl)) (by rfl) ?_
            refine RD.done ?_
            refine W.condF (by rfl) ?_
            refine W.skip ?_
            refine W.region ?_
            refine RG.step (Op1.move (by rfl)) (by rfl) ?_
            refine RG.step (Op1.add (by rfl) (by rfl) (by omega)) (by rfl) ?_
            refine RG.step (Op1.assign (by rfl)) (by rfl) ?_
            refine RG.done ?_
            exact loopQ_next (i + 1) (by omega) ⟨St_has _ ⟨rfl, rfl, rfl, trivial⟩, rfl, by omega, fun j hj => rise_step hall (by unfold riseAt; refine ⟨Decidable.not_not.1 c2, fun hp => ?_⟩; have k := c3; omega) hj⟩
      · refine W.condF (by rfl) ?_
        refine W.exit ?_
        refine W.rs ?_
        refine RG.step (Op1.assign (by rfl)) (by rfl) ?_
        refine RG.done ?_
        refine W.ret ?_
        refine leaf1 rfl (by rfl) ⟨congrArg _ ?_, rfl⟩
        exact (decide_eq_true (fun j hj => hall j (by omega))).symm
    · exact ⟨St_has _ ⟨rfl, rfl, rfl, trivial⟩, rfl, Nat.zero_le _, fun j h1 => by omega⟩
end Go.Proofs.Ytekhhjcbjaegeaa
