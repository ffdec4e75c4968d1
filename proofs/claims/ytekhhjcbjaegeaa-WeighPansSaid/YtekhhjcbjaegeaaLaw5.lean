/- The law WeighPans, walked. -/
import Derived.Test.YtekhhjcbjaegeaaLaw4
import Derived.Test.YtekhhjcbjaegeaaPlain2
set_option linter.all false
set_option maxRecDepth 100000
set_option maxHeartbeats 400000
namespace Go.Proofs.Ytekhhjcbjaegeaa
open Go Go.AM
theorem PansR.form {xs : List Int} {sum : Int} {N : Nat} {h : Heap} {sv : Value} {e : Int} (r : PansR xs sum N h sv e) : ∃ ad m, sv = .slice ad m m := by
  rcases r with ⟨_, rfl, _⟩ | ⟨_, _, rfl, _⟩ | ⟨_, x, _, ha, _⟩
  · exact ⟨_, _, rfl⟩
  · exact ⟨_, _, rfl⟩
  · obtain ⟨ad, rfl, _⟩ := ha.nums; exact ⟨_, _, rfl⟩
theorem totalV9 (xs : List Int) (sum : Int) : totalV xs 9 sum = if 9 < xs.length then 3 else if sum < 0 then 1 else errV xs := by
  by_cases h9 : 9 < xs.length
  · rw [if_pos h9]
    unfold totalV
    rw [if_neg (fun k => by omega)]
    unfold checkV
    rw [if_pos (by omega)]
  · rw [if_neg h9]
    unfold totalV
    by_cases hs : sum < 0
    · rw [if_pos ⟨by omega, hs⟩, if_pos hs]
    · rw [if_neg (fun k => hs k.2), if_neg hs, ← check_err]
      unfold checkV
      rw [if_neg (show ¬ (9 : Int) < xs.length by omega), if_neg (show ¬ (12 : Int) < xs.length by omega)]
theorem weighPans_walk {h : Heap} {ad : Option Addr} {xs0 : List Int} {c : Nat} {total : Int} (hA : SlA h.next h ad xs0 c) (hl : xs0.length < 9223372036854775808) (ht : total < 9223372036854775808) :
    CW Try.prog primW 5 [.slice ad xs0.length c, .int .i64 total] h fun v h' => v = .bool true ∧ Grow h h' := by
  obtain ⟨xs, hxs⟩ : ∃ xs, xs = xs0.take 13 := ⟨_, rfl⟩
  have hxl : xs.length ≤ 13 := by rw [hxs, List.length_take]; omega
  have hT9 := totalV9 xs total
  have he3 := errV_3 xs
  refine CW.intro (l := [(1, .int .i64 total), (0, .slice ad xs0.length c)]) rfl Try.func5 rfl (by rfl) ?_
  refine W.rs ?_
  refine RG.step (Op1.assign (by rfl)) (by rfl) ?_
  refine RG.done ?_
  refine W.rs ?_
  refine RG.step (Op1.move (by rfl)) (by rfl) ?_
  refine RG.call (by rfl) (by exact cut_walk hA hl) (by rfl) ?_
  rintro sl h2 ⟨hL, gL⟩
  rw [← hxs] at hL
  obtain ⟨adl, rfl, _, _⟩ := hL.nums
  refine RG.step (Op1.assign (by rfl)) (by rfl) ?_
  refine RG.done ?_
  refine W.rs ?_
  refine RG.step (Op1.move (by rfl)) (by rfl) ?_
  refine RG.step (Op1.move (by rfl)) (by rfl) ?_
  refine RG.call (by rfl) (by exact pansW_walk hL.ia (by omega) ht) (by rfl) ?_
  rintro _ h3 ⟨gS, sv, e, rfl, hR⟩
  obtain ⟨adv, mv, rfl⟩ := hR.form
  refine RG.step (Op1.move (by rfl)) (by rfl) ?_
  refine RG.step (Op1.extract (by rfl) (by rfl)) (by rfl) ?_
  refine RG.step (Op1.extract (by rfl) (by rfl)) (by rfl) ?_
  refine RG.step (Op1.assign (by rfl)) (by rfl) ?_
  refine RG.step (Op1.assign (by rfl)) (by rfl) ?_
  refine RG.done ?_
  refine W.rs ?_
  refine RG.step (Op1.move (by rfl)) (by rfl) ?_
  refine RG.callP (by rfl) (by exact weights_walk (hL.grow gS).ia (by omega)) (by rfl) ?_
  refine RG.step (Op1.assign (by rfl)) (by rfl) ?_
  refine RG.done ?_
  refine W.seq ?_
  refine W.rs ?_
  refine RG.step (Op1.move (by rfl)) (by rfl) ?_
  refine RG.step (Op1.neq (by rfl) (by rfl)) (by rfl) ?_
  refine RG.step (Op1.move (by rfl)) (by rfl) ?_
  refine RG.cases 22 (by rfl) (fun c1 => ?_) (fun c1 => ?_)
  · refine RG.gd (by rfl) (by rfl) (Op1.move (by rfl)) (by rfl) ?_
    refine RG.gd (by rfl) (by rfl) (Op1.lss (by rfl) (by rfl)) (by rfl) ?_
    refine RG.step (Op1.pickT (by rfl) (by rfl)) (by rfl) ?_
    refine RG.done ?_
    refine W.cases 25 (by rfl) (fun c2 => ?_) (fun c2 => ?_)
    · refine W.condT (by rfl) ?_
      refine W.region ?_
      refine RG.step (Op1.assign (by rfl)) (by rfl) ?_
      refine RG.done ?_
      refine W.seq ?_
      refine W.rs ?_
      refine RG.step (Op1.move (by rfl)) (by rfl) ?_
      refine RG.step (Op1.len Try.underlying22 (by rfl) (by rfl)) (by rfl) ?_
      refine RG.step (Op1.gtr (by rfl) (by rfl)) (by rfl) ?_
      refine RG.done ?_
      refine W.cases 28 (by rfl) (fun c3 => ?_) (fun c3 => ?_)
      · refine W.condT (by rfl) ?_
        refine W.region ?_
        refine RG.step (Op1.assign (by rfl)) (by rfl) ?_
        refine RG.done ?_
        refine W.seq ?_
        refine W.rs ?_
        refine RG.step (Op1.move (by rfl)) (by rfl) ?_
        refine RG.step (Op1.neq (by rfl) (by rfl)) (by rfl) ?_
        refine RG.done ?_
        refine W.yes 30 (by rfl) (decide_eq_true (by omega)) ?_
        refine W.condT (by rfl) ?_
        refine W.rs ?_
        have hTb : totalV xs 9 total = 3 := by rw [hT9, if_pos (by omega)]
        have hT0 : totalV xs 9 total ≠ 0 := by rw [hTb]; decide
        have hRb : mv = 0 ∧ e = totalV xs 9 total := by
          rcases hR with ⟨_, hs, he⟩ | ⟨h0, _⟩ | ⟨h0, _⟩
          · injection hs with _ h1 _; exact ⟨h1, he⟩
          · exact absurd h0 hT0
          · exact absurd h0 hT0
        refine RG.step (Op1.move (by rfl)) (by rfl) ?_
        refine RG.step (Op1.len Try.underlying22 (by rfl) (by rfl)) (by rfl) ?_
        refine RG.step (Op1.eql (by rfl) (by rfl)) (by rfl) ?_
        refine RG.step (Op1.move (by rfl)) (by rfl) ?_
        refine RG.yes 34 (by rfl) (decide_eq_true (by omega)) ?_
        refine RG.gd (by rfl) (by rfl) (Op1.move (by rfl)) (by rfl) ?_
        refine RG.gd (by rfl) (by rfl) (Op1.move (by rfl)) (by rfl) ?_
        refine RG.gd (by rfl) (by rfl) (Op1.eql (by rfl) (by rfl)) (by rfl) ?_
        refine RG.step (Op1.pickT (by rfl) (by rfl)) (by rfl) ?_
        refine RG.step (Op1.move (by rfl)) (by rfl) ?_
        refine RG.yes 39 (by rfl) (decide_eq_true (by omega)) ?_
        refine RG.callPG (by rfl) (by rfl) (by rfl) (by exact lives_cw _) (by rfl) ?_
        refine RG.step (Op1.pickT (by rfl) (by rfl)) (by rfl) ?_
        refine RG.step (Op1.assign (by rfl)) (by rfl) ?_
        refine RG.done ?_
        refine W.ret ?_
        exact leaf1 rfl (by rfl) ⟨rfl, (gL.trans gS)⟩
      · refine W.condF (by rfl) ?_
        refine W.skip ?_
        refine W.seq ?_
        refine W.rs ?_
        refine RG.step (Op1.move (by rfl)) (by rfl) ?_
        refine RG.step (Op1.neq (by rfl) (by rfl)) (by rfl) ?_
        refine RG.done ?_
        refine W.yes 30 (by rfl) (decide_eq_true (by omega)) ?_
        refine W.condT (by rfl) ?_
        refine W.rs ?_
        have hTb : totalV xs 9 total = 1 := by rw [hT9, if_neg (by omega), if_pos (by omega)]
        have hT0 : totalV xs 9 total ≠ 0 := by rw [hTb]; decide
        have hRb : mv = 0 ∧ e = totalV xs 9 total := by
          rcases hR with ⟨_, hs, he⟩ | ⟨h0, _⟩ | ⟨h0, _⟩
          · injection hs with _ h1 _; exact ⟨h1, he⟩
          · exact absurd h0 hT0
          · exact absurd h0 hT0
        refine RG.step (Op1.move (by rfl)) (by rfl) ?_
        refine RG.step (Op1.len Try.underlying22 (by rfl) (by rfl)) (by rfl) ?_
        refine RG.step (Op1.eql (by rfl) (by rfl)) (by rfl) ?_
        refine RG.step (Op1.move (by rfl)) (by rfl) ?_
        refine RG.yes 34 (by rfl) (decide_eq_true (by omega)) ?_
        refine RG.gd (by rfl) (by rfl) (Op1.move (by rfl)) (by rfl) ?_
        refine RG.gd (by rfl) (by rfl) (Op1.move (by rfl)) (by rfl) ?_
        refine RG.gd (by rfl) (by rfl) (Op1.eql (by rfl) (by rfl)) (by rfl) ?_
        refine RG.step (Op1.pickT (by rfl) (by rfl)) (by rfl) ?_
        refine RG.step (Op1.move (by rfl)) (by rfl) ?_
        refine RG.yes 39 (by rfl) (decide_eq_true (by omega)) ?_
        refine RG.callPG (by rfl) (by rfl) (by rfl) (by exact lives_cw _) (by rfl) ?_
        refine RG.step (Op1.pickT (by rfl) (by rfl)) (by rfl) ?_
        refine RG.step (Op1.assign (by rfl)) (by rfl) ?_
        refine RG.done ?_
        refine W.ret ?_
        exact leaf1 rfl (by rfl) ⟨rfl, (gL.trans gS)⟩
    · refine W.condF (by rfl) ?_
      refine W.skip ?_
      refine W.seq ?_
      refine W.rs ?_
      refine RG.step (Op1.move (by rfl)) (by rfl) ?_
      refine RG.step (Op1.len Try.underlying22 (by rfl) (by rfl)) (by rfl) ?_
      refine RG.step (Op1.gtr (by rfl) (by rfl)) (by rfl) ?_
      refine RG.done ?_
      refine W.cases 28 (by rfl) (fun c4 => ?_) (fun c4 => ?_)
      · refine W.condT (by rfl) ?_
        refine W.region ?_
        refine RG.step (Op1.assign (by rfl)) (by rfl) ?_
        refine RG.done ?_
        refine W.seq ?_
        refine W.rs ?_
        refine RG.step (Op1.move (by rfl)) (by rfl) ?_
        refine RG.step (Op1.neq (by rfl) (by rfl)) (by rfl) ?_
        refine RG.done ?_
        refine W.yes 30 (by rfl) (decide_eq_true (by omega)) ?_
        refine W.condT (by rfl) ?_
        refine W.rs ?_
        have hTb : totalV xs 9 total = 3 := by rw [hT9, if_pos (by omega)]
        have hT0 : totalV xs 9 total ≠ 0 := by rw [hTb]; decide
        have hRb : mv = 0 ∧ e = totalV xs 9 total := by
          rcases hR with ⟨_, hs, he⟩ | ⟨h0, _⟩ | ⟨h0, _⟩
          · injection hs with _ h1 _; exact ⟨h1, he⟩
          · exact absurd h0 hT0
          · exact absurd h0 hT0
        refine RG.step (Op1.move (by rfl)) (by rfl) ?_
        refine RG.step (Op1.len Try.underlying22 (by rfl) (by rfl)) (by rfl) ?_
        refine RG.step (Op1.eql (by rfl) (by rfl)) (by rfl) ?_
        refine RG.step (Op1.move (by rfl)) (by rfl) ?_
        refine RG.yes 34 (by rfl) (decide_eq_true (by omega)) ?_
        refine RG.gd (by rfl) (by rfl) (Op1.move (by rfl)) (by rfl) ?_
        refine RG.gd (by rfl) (by rfl) (Op1.move (by rfl)) (by rfl) ?_
        refine RG.gd (by rfl) (by rfl) (Op1.eql (by rfl) (by rfl)) (by rfl) ?_
        refine RG.step (Op1.pickT (by rfl) (by rfl)) (by rfl) ?_
        refine RG.step (Op1.move (by rfl)) (by rfl) ?_
        refine RG.yes 39 (by rfl) (decide_eq_true (by omega)) ?_
        refine RG.callPG (by rfl) (by rfl) (by rfl) (by exact lives_cw _) (by rfl) ?_
        refine RG.step (Op1.pickT (by rfl) (by rfl)) (by rfl) ?_
        refine RG.step (Op1.assign (by rfl)) (by rfl) ?_
        refine RG.done ?_
        refine W.ret ?_
        exact leaf1 rfl (by rfl) ⟨rfl, (gL.trans gS)⟩
      · refine W.condF (by rfl) ?_
        refine W.skip ?_
        refine W.seq ?_
        refine W.rs ?_
        refine RG.step (Op1.move (by rfl)) (by rfl) ?_
        refine RG.step (Op1.neq (by rfl) (by rfl)) (by rfl) ?_
        refine RG.done ?_
        refine W.cases 30 (by rfl) (fun c5 => ?_) (fun c5 => ?_)
        · refine W.condT (by rfl) ?_
          refine W.rs ?_
          have hTb : totalV xs 9 total = errV xs := by rw [hT9, if_neg (by omega), if_neg (by omega)]
          have hT0 : totalV xs 9 total ≠ 0 := by rw [hTb]; omega
          have hRb : mv = 0 ∧ e = totalV xs 9 total := by
            rcases hR with ⟨_, hs, he⟩ | ⟨h0, _⟩ | ⟨h0, _⟩
            · injection hs with _ h1 _; exact ⟨h1, he⟩
            · exact absurd h0 hT0
            · exact absurd h0 hT0
          refine RG.step (Op1.move (by rfl)) (by rfl) ?_
          refine RG.step (Op1.len Try.underlying22 (by rfl) (by rfl)) (by rfl) ?_
          refine RG.step (Op1.eql (by rfl) (by rfl)) (by rfl) ?_
          refine RG.step (Op1.move (by rfl)) (by rfl) ?_
          refine RG.yes 34 (by rfl) (decide_eq_true (by omega)) ?_
          refine RG.gd (by rfl) (by rfl) (Op1.move (by rfl)) (by rfl) ?_
          refine RG.gd (by rfl) (by rfl) (Op1.move (by rfl)) (by rfl) ?_
          refine RG.gd (by rfl) (by rfl) (Op1.eql (by rfl) (by rfl)) (by rfl) ?_
          refine RG.step (Op1.pickT (by rfl) (by rfl)) (by rfl) ?_
          refine RG.step (Op1.move (by rfl)) (by rfl) ?_
          refine RG.yes 39 (by rfl) (decide_eq_true (by omega)) ?_
          refine RG.callPG (by rfl) (by rfl) (by rfl) (by exact lives_cw _) (by rfl) ?_
          refine RG.step (Op1.pickT (by rfl) (by rfl)) (by rfl) ?_
          refine RG.step (Op1.assign (by rfl)) (by rfl) ?_
          refine RG.done ?_
          refine W.ret ?_
          exact leaf1 rfl (by rfl) ⟨rfl, (gL.trans gS)⟩
        · refine W.condF (by rfl) ?_
          refine W.skip ?_
          refine W.seq ?_
          refine W.rs ?_
          have hT0 : totalV xs 9 total = 0 := by rw [hT9, if_neg (by omega), if_neg (by omega)]; omega
          have hgr := checkV_range (totalV_check hT0)
          have hgl : xs.length ≤ 9 := by have := checkV_len (totalV_check hT0); omega
          have hpr : (pansE xs.length []).find? (pansP xs total) = refP xs total := pans_ref xs total (fun y hy => (hgr y hy).1)
          refine RG.step (Op1.move (by rfl)) (by rfl) ?_
          refine RG.step (Op1.move (by rfl)) (by rfl) ?_
          refine RG.step (Op1.lit0 Try.underlying22 sz3 zero3 rfl rfl) (by rfl) ?_
          refine RG.abs fun h4 n4 e4 g4 => ?_
          refine RG.call (by rfl) (by exact refpans_walk (by omega) hgr xs.length _ [] total h4 ⟨h3.next, 0, none⟩ (by simp) (hL.grow (gS.trans g4)).ia (Acc.lit0 (Nat.zero_le _) e4)) (by rfl) ?_
          rintro v5 h5 ⟨gB, hB⟩
          have hB : PansA h5 v5 [] (refP xs total) := hB
          refine RG.step (Op1.assign (by rfl)) (by rfl) ?_
          refine RG.done ?_
          refine W.rs ?_
          refine RG.step (Op1.move (by rfl)) (by rfl) ?_
          rcases hq : refP xs total with _ | y
          · have hB : PansA h5 v5 [] none := by rw [← hq]; exact hB
            obtain rfl : v5 = .slice none 0 0 := hB
            have hRn : mv = 0 ∧ e = 5 := by
              rcases hR with ⟨h0, _⟩ | ⟨_, _, hs, he⟩ | ⟨_, x, hx, _⟩
              · exact absurd hT0 h0
              · injection hs with _ h1 _; exact ⟨h1, he⟩
              · rw [hpr, hq] at hx; cases hx
            refine RG.step (Op1.neNil Try.underlying22 (by rfl) (by rfl)) (by rfl) ?_
            refine RG.done ?_
            refine W.condF (by rfl) ?_
            refine W.skip ?_
            refine W.rs ?_
            refine RG.step (Op1.move (by rfl)) (by rfl) ?_
            refine RG.step (Op1.len Try.underlying22 (by rfl) (by rfl)) (by rfl) ?_
            refine RG.step (Op1.eql (by rfl) (by rfl)) (by rfl) ?_
            refine RG.step (Op1.move (by rfl)) (by rfl) ?_
            refine RG.yes 61 (by rfl) (decide_eq_true (by omega)) ?_
            refine RG.gd (by rfl) (by rfl) (Op1.move (by rfl)) (by rfl) ?_
            refine RG.gd (by rfl) (by rfl) (Op1.eql (by rfl) (by rfl)) (by rfl) ?_
            refine RG.step (Op1.pickT (by rfl) (by rfl)) (by rfl) ?_
            refine RG.step (Op1.move (by rfl)) (by rfl) ?_
            refine RG.yes 65 (by rfl) (decide_eq_true (by omega)) ?_
            refine RG.callPG (by rfl) (by rfl) (by rfl) (by exact lives_cw _) (by rfl) ?_
            refine RG.step (Op1.pickT (by rfl) (by rfl)) (by rfl) ?_
            refine RG.step (Op1.assign (by rfl)) (by rfl) ?_
            refine RG.done ?_
            refine W.ret ?_
            exact leaf1 rfl (by rfl) ⟨rfl, (((gL.trans gS).trans g4).trans gB)⟩
          · have hB : PansA h5 v5 [] (some y) := by rw [← hq]; exact hB
            obtain ⟨a, rfl, hBx⟩ := hB
            rw [List.nil_append] at hBx ⊢
            have hyl : y.length ≤ 9 := by
              have h1 := (pansE_wg _ [] (fun v hv => by cases hv) y (List.mem_of_find?_eq_some (hpr.trans hq))).1
              simp only [List.length_nil, Nat.zero_add] at h1
              omega
            obtain ⟨hAx, hex⟩ : AM.Acc h2.next h3 (.slice adv mv mv) (ivs y) ∧ e = 0 := by
              rcases hR with ⟨h0, _⟩ | ⟨_, hn, _⟩ | ⟨_, z, hz, ha, he⟩
              · exact absurd hT0 h0
              · rw [hpr, hq] at hn; cases hn
              · rw [hpr, hq] at hz; cases hz; exact ⟨ha, he⟩
            obtain ⟨rfl, _⟩ := Acc.len hAx
            refine RG.step (Op1.neNil Try.underlying22 (by rfl) (by rfl)) (by rfl) ?_
            refine RG.done ?_
            refine W.condT (by rfl) ?_
            refine W.rs ?_
            refine RG.step (Op1.move (by rfl)) (by rfl) ?_
            refine RG.step (Op1.move (by rfl)) (by rfl) ?_
            refine RG.callP (by rfl) (by exact same_walk (hAx.grow (g4.trans gB)).ia hBx.ia (by omega) (by omega)) (by rfl) ?_
            refine RG.step (Op1.move (by rfl)) (by rfl) ?_
            refine RG.yes 51 (by rfl) (decide_eq_true rfl) ?_
            refine RG.gd (by rfl) (by rfl) (Op1.move (by rfl)) (by rfl) ?_
            refine RG.gd (by rfl) (by rfl) (Op1.eql (by rfl) (by rfl)) (by rfl) ?_
            refine RG.step (Op1.pickT (by rfl) (by rfl)) (by rfl) ?_
            refine RG.step (Op1.move (by rfl)) (by rfl) ?_
            refine RG.yes 55 (by rfl) (decide_eq_true (by omega)) ?_
            refine RG.callPG (by rfl) (by rfl) (by rfl) (by exact lives_cw _) (by rfl) ?_
            refine RG.step (Op1.pickT (by rfl) (by rfl)) (by rfl) ?_
            refine RG.step (Op1.assign (by rfl)) (by rfl) ?_
            refine RG.done ?_
            refine W.ret ?_
            exact leaf1 rfl (by rfl) ⟨rfl, (((gL.trans gS).trans g4).trans gB)⟩
  · refine RG.not (by rfl) (by rfl) (by rfl) (by rfl) ?_
    refine RG.not (by rfl) (by rfl) (by rfl) (by rfl) ?_
    refine RG.step (Op1.pickF (by rfl) (by rfl)) (by rfl) ?_
    refine RG.done ?_
    refine W.condF (by rfl) ?_
    refine W.skip ?_
    refine W.seq ?_
    refine W.rs ?_
    refine RG.step (Op1.move (by rfl)) (by rfl) ?_
    refine RG.step (Op1.len Try.underlying22 (by rfl) (by rfl)) (by rfl) ?_
    refine RG.step (Op1.gtr (by rfl) (by rfl)) (by rfl) ?_
    refine RG.done ?_
    refine W.yes 28 (by rfl) (decide_eq_true (by omega)) ?_
    refine W.condT (by rfl) ?_
    refine W.region ?_
    refine RG.step (Op1.assign (by rfl)) (by rfl) ?_
    refine RG.done ?_
    refine W.seq ?_
    refine W.rs ?_
    refine RG.step (Op1.move (by rfl)) (by rfl) ?_
    refine RG.step (Op1.neq (by rfl) (by rfl)) (by rfl) ?_
    refine RG.done ?_
    refine W.yes 30 (by rfl) (decide_eq_true (by omega)) ?_
    refine W.condT (by rfl) ?_
    refine W.rs ?_
    have hTb : totalV xs 9 total = 3 := by rw [hT9, if_pos (by omega)]
    have hT0 : totalV xs 9 total ≠ 0 := by rw [hTb]; decide
    have hRb : mv = 0 ∧ e = totalV xs 9 total := by
      rcases hR with ⟨_, hs, he⟩ | ⟨h0, _⟩ | ⟨h0, _⟩
      · injection hs with _ h1 _; exact ⟨h1, he⟩
      · exact absurd h0 hT0
      · exact absurd h0 hT0
    refine RG.step (Op1.move (by rfl)) (by rfl) ?_
    refine RG.step (Op1.len Try.underlying22 (by rfl) (by rfl)) (by rfl) ?_
    refine RG.step (Op1.eql (by rfl) (by rfl)) (by rfl) ?_
    refine RG.step (Op1.move (by rfl)) (by rfl) ?_
    refine RG.yes 34 (by rfl) (decide_eq_true (by omega)) ?_
    refine RG.gd (by rfl) (by rfl) (Op1.move (by rfl)) (by rfl) ?_
    refine RG.gd (by rfl) (by rfl) (Op1.move (by rfl)) (by rfl) ?_
    refine RG.gd (by rfl) (by rfl) (Op1.eql (by rfl) (by rfl)) (by rfl) ?_
    refine RG.step (Op1.pickT (by rfl) (by rfl)) (by rfl) ?_
    refine RG.step (Op1.move (by rfl)) (by rfl) ?_
    refine RG.yes 39 (by rfl) (decide_eq_true (by omega)) ?_
    refine RG.callPG (by rfl) (by rfl) (by rfl) (by exact lives_cw _) (by rfl) ?_
    refine RG.step (Op1.pickT (by rfl) (by rfl)) (by rfl) ?_
    refine RG.step (Op1.assign (by rfl)) (by rfl) ?_
    refine RG.done ?_
    refine W.ret ?_
    exact leaf1 rfl (by rfl) ⟨rfl, (gL.trans gS)⟩
end Go.Proofs.Ytekhhjcbjaegeaa
