/- The law WeighSubsets, walked. -/
import Derived.Test.YtekhhjcbjaegeaaPlain1
set_option linter.all false
set_option maxRecDepth 100000
set_option maxHeartbeats 4000000
namespace Go.Proofs.Ytekhhjcbjaegeaa
open Go Go.AM
theorem SubsetR.form {xs : List Int} {sum : Int} {N : Nat} {h : Heap} {sv : Value} {e : Int} (r : SubsetR xs sum N h sv e) : ∃ ad m, sv = .slice ad m m := by
  rcases r with ⟨_, rfl, _⟩ | ⟨_, _, rfl, _⟩ | ⟨_, x, _, ha, _⟩
  · exact ⟨_, _, rfl⟩
  · exact ⟨_, _, rfl⟩
  · obtain ⟨ad, rfl, _⟩ := ha.nums; exact ⟨_, _, rfl⟩
theorem BestR.form {N : Nat} {h : Heap} {sb : Value} {l : Option (List Int)} (b : BestR N h sb l) : ∃ ad m, sb = .slice ad m m := by
  cases l with
  | none => exact ⟨_, _, b⟩
  | some l => obtain ⟨⟨a0, rfl⟩, _⟩ := b; exact ⟨_, _, rfl⟩
theorem Acc.len {N : Nat} {h : Heap} {ad : Option Addr} {m c : Nat} {xs : List Int} (a : AM.Acc N h (.slice ad m c) (ivs xs)) : m = xs.length ∧ c = xs.length := by
  obtain ⟨ad2, e, _⟩ := a.nums
  injection e with e1 e2 e3
  exact ⟨e2, e3⟩
theorem totalV_err (xs : List Int) (sum : Int) : totalV xs 12 sum = if xs.length ≤ 12 ∧ sum < 0 then 1 else errV xs := by
  unfold totalV
  by_cases h : xs.length ≤ 12 ∧ sum < 0
  · rw [if_pos h, if_pos ⟨by omega, h.2⟩]
  · rw [if_neg h, if_neg (fun k => h ⟨by omega, k.2⟩), check_err]
theorem errV_3 (xs : List Int) : errV xs = 3 ↔ 12 < xs.length := by
  unfold errV
  split
  · exact ⟨fun _ => (by assumption), fun _ => rfl⟩
  · split <;> exact ⟨fun h => (by cases h), fun h => (by omega)⟩
theorem weighSubsets_walk {h : Heap} {ad : Option Addr} {xs0 : List Int} {c : Nat} {total : Int} (hA : SlA h.next h ad xs0 c) (hl : xs0.length < 9223372036854775808) :
    CW Try.prog primW 4 [.slice ad xs0.length c, .int .i64 total] h fun v h' => v = .bool true ∧ Grow h h' := by
  obtain ⟨xs, hxs⟩ : ∃ xs, xs = xs0.take 13 := ⟨_, rfl⟩
  have hxl : xs.length ≤ 13 := by rw [hxs, List.length_take]; omega
  have hTe := totalV_err xs total
  have he3 := errV_3 xs
  refine CW.intro (l := [(1, .int .i64 total), (0, .slice ad xs0.length c)]) rfl Try.func4 rfl (by rfl) ?_
  refine W.rs ?_
  refine RG.step (Op1.assign (by rfl)) (by rfl) ?_
  refine RG.done ?_
  refine W.rs ?_
  refine RG.step (Op1.move (by rfl)) (by rfl) ?_
  refine RG.call (by rfl) (by exact cut_walk hA hl) (by rfl) ?_
  rintro sl h2 ⟨hL, gL⟩
  rw [← hxs] at hL
  obtain ⟨adl, rfl, _, _⟩ := hL.nums
  refine RG.step (Op1.assign (by rfl)) (by rfl) ?_
  refine RG.done ?_
  refine W.rs ?_
  refine RG.step (Op1.move (by rfl)) (by rfl) ?_
  refine RG.step (Op1.move (by rfl)) (by rfl) ?_
  refine RG.call (by rfl) (by exact subset_walk hL.ia (by omega)) (by rfl) ?_
  rintro _ h3 ⟨gS, sv, e, rfl, hR⟩
  obtain ⟨adv, mv, rfl⟩ := hR.form
  refine RG.step (Op1.move (by rfl)) (by rfl) ?_
  refine RG.step (Op1.extract (by rfl) (by rfl)) (by rfl) ?_
  refine RG.step (Op1.extract (by rfl) (by rfl)) (by rfl) ?_
  refine RG.step (Op1.assign (by rfl)) (by rfl) ?_
  refine RG.step (Op1.assign (by rfl)) (by rfl) ?_
  refine RG.done ?_
  refine W.rs ?_
  refine RG.step (Op1.move (by rfl)) (by rfl) ?_
  refine RG.step (Op1.move (by rfl)) (by rfl) ?_
  refine RG.call (by rfl) (by exact ways_walk (hL.grow gS).ia (by omega)) (by rfl) ?_
  rintro _ h4 ⟨rfl, gW⟩
  
  refine RG.step (Op1.move (by rfl)) (by rfl) ?_
  refine RG.step (Op1.extract (by rfl) (by rfl)) (by rfl) ?_
  refine RG.step (Op1.extract (by rfl) (by rfl)) (by rfl) ?_
  refine RG.step (Op1.assign (by rfl)) (by rfl) ?_
  refine RG.step (Op1.assign (by rfl)) (by rfl) ?_
  refine RG.done ?_
  refine W.rs ?_
  refine RG.step (Op1.move (by rfl)) (by rfl) ?_
  refine RG.callP (by rfl) (by exact weights_walk (hL.grow (gS.trans gW)).ia (by omega)) (by rfl) ?_
  refine RG.step (Op1.assign (by rfl)) (by rfl) ?_
  refine RG.done ?_
  refine W.seq ?_
  refine W.rs ?_
  refine RG.step (Op1.move (by rfl)) (by rfl) ?_
  refine RG.step (Op1.neq (by rfl) (by rfl)) (by rfl) ?_
  refine RG.step (Op1.move (by rfl)) (by rfl) ?_
  refine RG.cases 31 (by rfl) (fun c1 => ?_) (fun c1 => ?_)
  · refine RG.gd (by rfl) (by rfl) (Op1.move (by rfl)) (by rfl) ?_
    refine RG.gd (by rfl) (by rfl) (Op1.lss (by rfl) (by rfl)) (by rfl) ?_
    refine RG.step (Op1.pickT (by rfl) (by rfl)) (by rfl) ?_
    refine RG.done ?_
    refine W.cases 34 (by rfl) (fun c2 => ?_) (fun c2 => ?_)
    · refine W.condT (by rfl) ?_
      refine W.region ?_
      refine RG.step (Op1.assign (by rfl)) (by rfl) ?_
      refine RG.done ?_
      refine W.seq ?_
      refine W.rs ?_
      refine RG.step (Op1.move (by rfl)) (by rfl) ?_
      refine RG.step (Op1.neq (by rfl) (by rfl)) (by rfl) ?_
      refine RG.done ?_
      refine W.yes 36 (by rfl) (decide_eq_true (by omega)) ?_
      refine W.condT (by rfl) ?_
      refine W.rs ?_
      have hTb : totalV xs 12 total = 1 := by rw [hTe, if_pos ⟨by omega, c2⟩]
      have hT0 : totalV xs 12 total ≠ 0 := by rw [hTb]; decide
      have hRb : mv = 0 ∧ e = totalV xs 12 total := by
        rcases hR with ⟨_, hs, he⟩ | ⟨h0, _⟩ | ⟨h0, _⟩
        · injection hs with _ h1 _; exact ⟨h1, he⟩
        · exact absurd h0 hT0
        · exact absurd h0 hT0
      refine RG.step (Op1.move (by rfl)) (by rfl) ?_
      refine RG.step (Op1.len Try.underlying22 (by rfl) (by rfl)) (by rfl) ?_
      refine RG.step (Op1.eql (by rfl) (by rfl)) (by rfl) ?_
      refine RG.step (Op1.move (by rfl)) (by rfl) ?_
      refine RG.yes 40 (by rfl) (decide_eq_true (by omega)) ?_
      refine RG.gd (by rfl) (by rfl) (Op1.move (by rfl)) (by rfl) ?_
      refine RG.gd (by rfl) (by rfl) (Op1.move (by rfl)) (by rfl) ?_
      refine RG.gd (by rfl) (by rfl) (Op1.eql (by rfl) (by rfl)) (by rfl) ?_
      refine RG.step (Op1.pickT (by rfl) (by rfl)) (by rfl) ?_
      refine RG.step (Op1.move (by rfl)) (by rfl) ?_
      refine RG.yes 45 (by rfl) (decide_eq_true (by omega)) ?_
      refine RG.gd (by rfl) (by rfl) (Op1.move (by rfl)) (by rfl) ?_
      refine RG.gd (by rfl) (by rfl) (Op1.eql (by rfl) (by rfl)) (by rfl) ?_
      refine RG.step (Op1.pickT (by rfl) (by rfl)) (by rfl) ?_
      refine RG.step (Op1.move (by rfl)) (by rfl) ?_
      refine RG.yes 49 (by rfl) (decide_eq_true (by rw [if_neg hT0])) ?_
      refine RG.gd (by rfl) (by rfl) (Op1.move (by rfl)) (by rfl) ?_
      refine RG.gd (by rfl) (by rfl) (Op1.move (by rfl)) (by rfl) ?_
      refine RG.gd (by rfl) (by rfl) (Op1.eql (by rfl) (by rfl)) (by rfl) ?_
      refine RG.step (Op1.pickT (by rfl) (by rfl)) (by rfl) ?_
      refine RG.step (Op1.move (by rfl)) (by rfl) ?_
      refine RG.yes 54 (by rfl) (decide_eq_true (by omega)) ?_
      refine RG.callPG (by rfl) (by rfl) (by rfl) (by exact lives_cw _) (by rfl) ?_
      refine RG.step (Op1.pickT (by rfl) (by rfl)) (by rfl) ?_
      refine RG.step (Op1.assign (by rfl)) (by rfl) ?_
      
      refine RG.done ?_
      refine W.ret ?_
      exact leaf1 rfl (by rfl) ⟨rfl, ((gL.trans gS).trans gW)⟩
    · refine W.condF (by rfl) ?_
      refine W.skip ?_
      refine W.seq ?_
      refine W.rs ?_
      refine RG.step (Op1.move (by rfl)) (by rfl) ?_
      refine RG.step (Op1.neq (by rfl) (by rfl)) (by rfl) ?_
      refine RG.done ?_
      refine W.cases 36 (by rfl) (fun c3 => ?_) (fun c3 => ?_)
      · refine W.condT (by rfl) ?_
        refine W.rs ?_
        have hTb : totalV xs 12 total = errV xs := by rw [hTe, if_neg (fun k => c2 k.2)]
        have hT0 : totalV xs 12 total ≠ 0 := by rw [hTb]; exact c3
        have hRb : mv = 0 ∧ e = totalV xs 12 total := by
          rcases hR with ⟨_, hs, he⟩ | ⟨h0, _⟩ | ⟨h0, _⟩
          · injection hs with _ h1 _; exact ⟨h1, he⟩
          · exact absurd h0 hT0
          · exact absurd h0 hT0
        refine RG.step (Op1.move (by rfl)) (by rfl) ?_
        refine RG.step (Op1.len Try.underlying22 (by rfl) (by rfl)) (by rfl) ?_
        refine RG.step (Op1.eql (by rfl) (by rfl)) (by rfl) ?_
        refine RG.step (Op1.move (by rfl)) (by rfl) ?_
        refine RG.yes 40 (by rfl) (decide_eq_true (by omega)) ?_
        refine RG.gd (by rfl) (by rfl) (Op1.move (by rfl)) (by rfl) ?_
        refine RG.gd (by rfl) (by rfl) (Op1.move (by rfl)) (by rfl) ?_
        refine RG.gd (by rfl) (by rfl) (Op1.eql (by rfl) (by rfl)) (by rfl) ?_
        refine RG.step (Op1.pickT (by rfl) (by rfl)) (by rfl) ?_
        refine RG.step (Op1.move (by rfl)) (by rfl) ?_
        refine RG.yes 45 (by rfl) (decide_eq_true (by omega)) ?_
        refine RG.gd (by rfl) (by rfl) (Op1.move (by rfl)) (by rfl) ?_
        refine RG.gd (by rfl) (by rfl) (Op1.eql (by rfl) (by rfl)) (by rfl) ?_
        refine RG.step (Op1.pickT (by rfl) (by rfl)) (by rfl) ?_
        refine RG.step (Op1.move (by rfl)) (by rfl) ?_
        refine RG.yes 49 (by rfl) (decide_eq_true (by rw [if_neg hT0])) ?_
        refine RG.gd (by rfl) (by rfl) (Op1.move (by rfl)) (by rfl) ?_
        refine RG.gd (by rfl) (by rfl) (Op1.move (by rfl)) (by rfl) ?_
        refine RG.gd (by rfl) (by rfl) (Op1.eql (by rfl) (by rfl)) (by rfl) ?_
        refine RG.step (Op1.pickT (by rfl) (by rfl)) (by rfl) ?_
        refine RG.step (Op1.move (by rfl)) (by rfl) ?_
        refine RG.yes 54 (by rfl) (decide_eq_true (by omega)) ?_
        refine RG.callPG (by rfl) (by rfl) (by rfl) (by exact lives_cw _) (by rfl) ?_
        refine RG.step (Op1.pickT (by rfl) (by rfl)) (by rfl) ?_
        refine RG.step (Op1.assign (by rfl)) (by rfl) ?_
        
        refine RG.done ?_
        refine W.ret ?_
        exact leaf1 rfl (by rfl) ⟨rfl, ((gL.trans gS).trans gW)⟩
      · refine W.condF (by rfl) ?_
        refine W.skip ?_
        refine W.rs ?_
        have hT0 : totalV xs 12 total = 0 := by rw [hTe, if_neg (fun k => c2 k.2)]; exact Decidable.not_not.1 c3
        have hgr := checkV_range (totalV_check hT0)
        have hgl : xs.length ≤ 12 := by have := checkV_len (totalV_check hT0); omega
        have hwr := ways_ref (w := xs) (by omega) total
        have hfr := find_ref (w := xs) (by omega) total
        have hrl := refSt_le (sumsL xs) total (sumsL xs).length
        have hsl := sumsL_len _ xs rfl
        have hp2 := Nat.pow_le_pow_right (show 0 < 2 by omega) hgl
        refine RG.step (Op1.move (by rfl)) (by rfl) ?_
        refine RG.step (Op1.move (by rfl)) (by rfl) ?_
        refine RG.call (by rfl) (by exact refsub_walk (hL.grow (gS.trans gW)).ia hgl hgr) (by rfl) ?_
        rintro _ h5 ⟨sb, rfl, hB, gB⟩
        obtain ⟨adb, mb, rfl⟩ := hB.form
        refine RG.step (Op1.move (by rfl)) (by rfl) ?_
        refine RG.step (Op1.extract (by rfl) (by rfl)) (by rfl) ?_
        refine RG.step (Op1.extract (by rfl) (by rfl)) (by rfl) ?_
        refine RG.step (Op1.assign (by rfl)) (by rfl) ?_
        refine RG.step (Op1.assign (by rfl)) (by rfl) ?_
        refine RG.done ?_
        refine W.seq ?_
        refine W.rs ?_
        refine RG.step (Op1.move (by rfl)) (by rfl) ?_
        refine RG.step (Op1.move (by rfl)) (by rfl) ?_
        refine RG.step (Op1.neq (by rfl) (by rfl)) (by rfl) ?_
        refine RG.step (Op1.move (by rfl)) (by rfl) ?_
        refine RG.no 66 (by rfl) (decide_eq_false (Decidable.not_not.2 (by rw [if_pos hT0]; omega))) ?_
        refine RG.gd (by rfl) (by rfl) (Op1.move (by rfl)) (by rfl) ?_
        refine RG.gd (by rfl) (by rfl) (Op1.neq (by rfl) (by rfl)) (by rfl) ?_
        refine RG.step (Op1.pickF (by rfl) (by rfl)) (by rfl) ?_
        refine RG.step (Op1.move (by rfl)) (by rfl) ?_
        refine RG.no 70 (by rfl) (decide_eq_false (Decidable.not_not.2 hT0)) ?_
        refine RG.callPG (by rfl) (by rfl) (by rfl) (by exact lives_cw _) (by rfl) ?_
        refine RG.gd (by rfl) (by rfl) (Op1.notB (by rfl)) (by rfl) ?_
        refine RG.step (Op1.pickF (by rfl) (by rfl)) (by rfl) ?_
        refine RG.done ?_
        refine W.condF (by rfl) ?_
        refine W.skip ?_
        refine W.seq ?_
        refine W.rs ?_
        refine RG.step (Op1.move (by rfl)) (by rfl) ?_
        refine RG.step (Op1.eql (by rfl) (by rfl)) (by rfl) ?_
        refine RG.done ?_
        refine W.cases 75 (by rfl) (fun c4 => ?_) (fun c4 => ?_)
        · refine W.condT (by rfl) ?_
          refine W.rs ?_
          have hf0 : (subs xs).find? (subsetP total) = none := by
            have : waysN xs total = 0 := by omega
            unfold waysN at this
            rw [List.countP_eq_zero] at this
            exact List.find?_eq_none.2 (fun x hx => this x hx)
          have hRn : mv = 0 ∧ e = 5 := by
            rcases hR with ⟨h0, _⟩ | ⟨_, _, hs, he⟩ | ⟨_, x, hx, _⟩
            · exact absurd hT0 h0
            · injection hs with _ h1 _; exact ⟨h1, he⟩
            · rw [hf0] at hx; cases hx
          refine RG.step (Op1.move (by rfl)) (by rfl) ?_
          refine RG.step (Op1.len Try.underlying22 (by rfl) (by rfl)) (by rfl) ?_
          refine RG.step (Op1.eql (by rfl) (by rfl)) (by rfl) ?_
          refine RG.step (Op1.move (by rfl)) (by rfl) ?_
          refine RG.yes 79 (by rfl) (decide_eq_true (by omega)) ?_
          refine RG.gd (by rfl) (by rfl) (Op1.move (by rfl)) (by rfl) ?_
          refine RG.gd (by rfl) (by rfl) (Op1.eql (by rfl) (by rfl)) (by rfl) ?_
          refine RG.step (Op1.pickT (by rfl) (by rfl)) (by rfl) ?_
          refine RG.step (Op1.assign (by rfl)) (by rfl) ?_
          refine RG.done ?_
          refine W.ret ?_
          exact leaf1 rfl (by rfl) ⟨congrArg _ (decide_eq_true (by omega)), (((gL.trans gS).trans gW).trans gB)⟩
        · refine W.condF (by rfl) ?_
          refine W.skip ?_
          refine W.rs ?_
          obtain ⟨x, hx⟩ : ∃ x, (subs xs).find? (subsetP total) = some x := by
            cases hf : (subs xs).find? (subsetP total) with
            | some x => exact ⟨x, rfl⟩
            | none =>
              exfalso
              have h0 : waysN xs total = 0 := by
                unfold waysN
                rw [List.countP_eq_zero]
                exact fun x hx => List.find?_eq_none.1 hf x hx
              omega
          obtain ⟨hAx, hex⟩ : AM.Acc h2.next h3 (.slice adv mv mv) (ivs x.1) ∧ e = 0 := by
            rcases hR with ⟨h0, _⟩ | ⟨_, hn, _⟩ | ⟨_, y, hy, ha, he⟩
            · exact absurd hT0 h0
            · rw [hn] at hx; cases hx
            · rw [hx] at hy; cases hy; exact ⟨ha, he⟩
          rw [hfr, hx] at hB
          simp only [Option.map_some] at hB
          obtain ⟨_, hbl, hBx⟩ := hB
          obtain ⟨rfl, _⟩ := Acc.len hAx
          obtain ⟨rfl, _⟩ := Acc.len hBx
          refine RG.step (Op1.move (by rfl)) (by rfl) ?_
          refine RG.step (Op1.move (by rfl)) (by rfl) ?_
          refine RG.callP (by rfl) (by exact same_walk (hAx.grow (gW.trans gB)).ia hBx.ia (by omega) (by omega)) (by rfl) ?_
          refine RG.step (Op1.move (by rfl)) (by rfl) ?_
          refine RG.yes 86 (by rfl) (decide_eq_true rfl) ?_
          refine RG.gd (by rfl) (by rfl) (Op1.move (by rfl)) (by rfl) ?_
          refine RG.gd (by rfl) (by rfl) (Op1.eql (by rfl) (by rfl)) (by rfl) ?_
          refine RG.step (Op1.pickT (by rfl) (by rfl)) (by rfl) ?_
          refine RG.step (Op1.assign (by rfl)) (by rfl) ?_
          refine RG.done ?_
          refine W.ret ?_
          exact leaf1 rfl (by rfl) ⟨congrArg _ (decide_eq_true (by omega)), (((gL.trans gS).trans gW).trans gB)⟩
  · refine RG.not (by rfl) (by rfl) (by rfl) (by rfl) ?_
    refine RG.not (by rfl) (by rfl) (by rfl) (by rfl) ?_
    refine RG.step (Op1.pickF (by rfl) (by rfl)) (by rfl) ?_
    refine RG.done ?_
    refine W.condF (by rfl) ?_
    refine W.skip ?_
    refine W.seq ?_
    refine W.rs ?_
    refine RG.step (Op1.move (by rfl)) (by rfl) ?_
    refine RG.step (Op1.neq (by rfl) (by rfl)) (by rfl) ?_
    refine RG.done ?_
    refine W.yes 36 (by rfl) (decide_eq_true (by omega)) ?_
    refine W.condT (by rfl) ?_
    refine W.rs ?_
    have hTb : totalV xs 12 total = errV xs := by rw [hTe, if_neg (fun k => by omega)]
    have hT0 : totalV xs 12 total ≠ 0 := by rw [hTb]; omega
    have hRb : mv = 0 ∧ e = totalV xs 12 total := by
      rcases hR with ⟨_, hs, he⟩ | ⟨h0, _⟩ | ⟨h0, _⟩
      · injection hs with _ h1 _; exact ⟨h1, he⟩
      · exact absurd h0 hT0
      · exact absurd h0 hT0
    refine RG.step (Op1.move (by rfl)) (by rfl) ?_
    refine RG.step (Op1.len Try.underlying22 (by rfl) (by rfl)) (by rfl) ?_
    refine RG.step (Op1.eql (by rfl) (by rfl)) (by rfl) ?_
    refine RG.step (Op1.move (by rfl)) (by rfl) ?_
    refine RG.yes 40 (by rfl) (decide_eq_true (by omega)) ?_
    refine RG.gd (by rfl) (by rfl) (Op1.move (by rfl)) (by rfl) ?_
    refine RG.gd (by rfl) (by rfl) (Op1.move (by rfl)) (by rfl) ?_
    refine RG.gd (by rfl) (by rfl) (Op1.eql (by rfl) (by rfl)) (by rfl) ?_
    refine RG.step (Op1.pickT (by rfl) (by rfl)) (by rfl) ?_
    refine RG.step (Op1.move (by rfl)) (by rfl) ?_
    refine RG.yes 45 (by rfl) (decide_eq_true (by omega)) ?_
    refine RG.gd (by rfl) (by rfl) (Op1.move (by rfl)) (by rfl) ?_
    refine RG.gd (by rfl) (by rfl) (Op1.eql (by rfl) (by rfl)) (by rfl) ?_
    refine RG.step (Op1.pickT (by rfl) (by rfl)) (by rfl) ?_
    refine RG.step (Op1.move (by rfl)) (by rfl) ?_
    refine RG.yes 49 (by rfl) (decide_eq_true (by rw [if_neg hT0])) ?_
    refine RG.gd (by rfl) (by rfl) (Op1.move (by rfl)) (by rfl) ?_
    refine RG.gd (by rfl) (by rfl) (Op1.move (by rfl)) (by rfl) ?_
    refine RG.gd (by rfl) (by rfl) (Op1.eql (by rfl) (by rfl)) (by rfl) ?_
    refine RG.step (Op1.pickT (by rfl) (by rfl)) (by rfl) ?_
    refine RG.step (Op1.move (by rfl)) (by rfl) ?_
    refine RG.yes 54 (by rfl) (decide_eq_true (by omega)) ?_
    refine RG.callPG (by rfl) (by rfl) (by rfl) (by exact lives_cw _) (by rfl) ?_
    refine RG.step (Op1.pickT (by rfl) (by rfl)) (by rfl) ?_
    refine RG.step (Op1.assign (by rfl)) (by rfl) ?_
    
    refine RG.done ?_
    refine W.ret ?_
    exact leaf1 rfl (by rfl) ⟨rfl, ((gL.trans gS).trans gW)⟩
end Go.Proofs.Ytekhhjcbjaegeaa
