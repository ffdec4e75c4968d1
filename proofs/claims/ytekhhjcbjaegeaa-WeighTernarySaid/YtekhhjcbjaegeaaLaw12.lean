/- The law WeighTernary, walked. -/
import Derived.Test.YtekhhjcbjaegeaaPlain3
import Derived.Test.YtekhhjcbjaegeaaPans
import Derived.Test.YtekhhjcbjaegeaaAM40
set_option linter.all false
set_option maxRecDepth 100000
set_option maxHeartbeats 400000
namespace Go.Proofs.Ytekhhjcbjaegeaa
open Go Go.AM
theorem tmod_in {a b : Int} (ha : 0 ≤ a) (hb : 0 < b) : 0 ≤ a.tmod b ∧ a.tmod b < b := by
  rw [Int.tmod_eq_emod_of_nonneg ha]
  exact ⟨Int.emod_nonneg _ (by omega), Int.emod_lt_of_pos _ hb⟩
theorem weighTernary_walk {h : Heap} {a0 a1 : Int} (ha0 : 0 ≤ a0 ∧ a0 < 256) (ha1 : 0 ≤ a1 ∧ a1 < 65536) :
    CW Try.prog primW 12 [.int .u8 a0, .int .u16 a1] h fun v h' => v = .bool true ∧ Grow h h' := by
  have K0 := KeepN.refl h.next h
  have hq := tmod_in (b := 9) ha0.1 (by decide)
  obtain ⟨m, hm, hm1, hm9⟩ : ∃ m : Nat, a0.tmod 9 + 1 = (m : Int) ∧ 1 ≤ m ∧ m ≤ 9 := ⟨(a0.tmod 9 + 1).toNat, by omega, by omega, by omega⟩
  refine CW.intro (l := [(1, .int .u16 a1), (0, .int .u8 a0)]) rfl Try.func12 rfl (by rfl) ?_
  refine W.rs ?_
  refine RG.step (Op1.assign (by rfl)) (by rfl) ?_
  refine RG.done ?_
  refine W.rs ?_
  refine RG.step (Op1.move (by rfl)) (by rfl) ?_
  refine RG.step (Op1.conv Try.underlying5 Try.underlying3 (by rfl) (by omega)) (by rfl) ?_
  refine RG.step (Op1.rem (by rfl) (by rfl) (by decide)) (by rfl) ?_
  refine RG.step (Op1.add (by rfl) (by rfl) (by omega)) (by rfl) ?_
  refine RG.tell (v := .int .i64 (m : Int)) 22 (by rfl) (congrArg _ hm) ?_
  refine RG.step (Op1.lit0 Try.underlying22 sz3 zero3 rfl rfl) (by rfl) ?_
  refine RG.abs fun h1 n1 e1 g1 => ?_
  have K2 := K0.trans (g1.keepN K0.next)
  have lte1 := Heap.get_lt e1
  refine RG.step (Op1.assign (by rfl)) (by rfl) ?_
  refine RG.step (Op1.assign (by rfl)) (by rfl) ?_
  refine RG.step (Op1.assign (by rfl)) (by rfl) ?_
  refine RG.step (Op1.assign (by rfl)) (by rfl) ?_
  refine RG.done ?_
  refine W.seq ?_
  refine W.rs ?_
  refine RG.step (Op1.assign (by rfl)) (by rfl) ?_
  refine RG.done ?_
  refine W.block ?_
  refine W.loop (σ := Nat) (fun i a h2 => ∃ s, Has 89 [] [(1, .int .u16 a1), (5, .int .i64 (m : Int)), (6, s), (7, .int .i64 (s3 i)), (8, .int .i64 (pow3 i)), (9, .int .i64 (i : Int))] a ∧ i ≤ m ∧ Acc h.next h2 s (ivs (l3 i)) ∧ KeepN h.next h h2) (fun i => m - i) ?_ (0) ?_
  · rintro i _ h2 ⟨s, ⟨base, rfl⟩, him, hS, hK2⟩
    obtain ⟨ado, rfl, hI, _⟩ := hS.nums
    have nK2 := hK2.next
    have hp9 := pow3_le i (by omega)
    have hpp := pow3_pos i
    have hsp := s3_pow i
    refine W.seq ?_
    refine W.rs ?_
    refine RG.step (Op1.move (by rfl)) (by rfl) ?_
    refine RG.step (Op1.move (by rfl)) (by rfl) ?_
    refine RG.step (Op1.lss (by rfl) (by rfl)) (by rfl) ?_
    refine RG.done ?_
    refine W.cases 26 (by rfl) (fun c3 => ?_) (fun c3 => ?_)
    · refine W.condT (by rfl) ?_
      refine W.skip ?_
      refine W.seq ?_
      refine W.block ?_
      refine W.rs ?_
      refine RG.step (Op1.move (by rfl)) (by rfl) ?_
      refine RG.step (Op1.move (by rfl)) (by rfl) ?_
      refine RG.step (Op1.lit1 Try.underlying22 sz3 zero3 rfl rfl (by rfl) rfl) (by rfl) ?_
      refine RG.abs fun h4 n4 e4 g4 => ?_
      have K5 := hK2.trans (g4.keepN hK2.next)
      have lte4 := Heap.get_lt e4
      refine RG.app Try.underlying22 Try.underlying22 one3 (by rfl) ((hS.grow g4)) (by rfl) (Src.one e4) (rfl) (by omega) (by rw [ivs_len, l3_len]; simp; omega) (by rfl) fun s6 h6 a6 k6 n6 => ?_
      have nx6 := k6.next
      have K7 := K5.trans (k6.less (by omega))
      have a6x : AM.Acc h.next h6 s6 (ivs (l3 (i + 1))) := by rw [l3, ivs_app]; exact a6
      refine RG.step (Op1.assign (by rfl)) (by rfl) ?_
      refine RG.done ?_
      refine W.rs ?_
      refine RG.step (Op1.move (by rfl)) (by rfl) ?_
      refine RG.step (Op1.move (by rfl)) (by rfl) ?_
      refine RG.step (Op1.add (by rfl) (by rfl) (by omega)) (by rfl) ?_
      refine RG.step (Op1.assign (by rfl)) (by rfl) ?_
      refine RG.done ?_
      refine W.region ?_
      refine RG.step (Op1.move (by rfl)) (by rfl) ?_
      refine RG.step (Op1.mul (by rfl) (by rfl) (by omega)) (by rfl) ?_
      refine RG.step (Op1.assign (by rfl)) (by rfl) ?_
      refine RG.done ?_
      refine W.region ?_
      refine RG.step (Op1.move (by rfl)) (by rfl) ?_
      refine RG.step (Op1.add (by rfl) (by rfl) (by omega)) (by rfl) ?_
      refine RG.step (Op1.assign (by rfl)) (by rfl) ?_
      refine RG.done ?_
      exact loopQ_next (i + 1) (by omega) ⟨_, St_has _ ⟨rfl, rfl, rfl, rfl, rfl, rfl, trivial⟩, by omega, a6x, K7⟩
    · refine W.condF (by rfl) ?_
      refine W.exit ?_
      refine W.rs ?_
      obtain rfl : m = i := by omega
      refine RG.step (Op1.move (by rfl)) (by rfl) ?_
      refine RG.step (Op1.conv Try.underlying57 Try.underlying3 (by rfl) (by omega)) (by rfl) ?_
      refine RG.step (Op1.move (by rfl)) (by rfl) ?_
      refine RG.step (Op1.add (by rfl) (by rfl) (by omega)) (by rfl) ?_
      refine RG.step (Op1.rem (by rfl) (by rfl) (by omega)) (by rfl) ?_
      have htb := tmod_in (b := s3 m + 1) ha1.1 (by omega)
      obtain ⟨t, ht⟩ : ∃ t, a1.tmod (s3 m + 1) = t := ⟨_, rfl⟩
      rw [ht] at htb
      obtain ⟨ht0, htm⟩ : 0 ≤ t ∧ t ≤ s3 m := by omega
      refine RG.tell (v := .int .i64 t) 42 (by rfl) (congrArg _ ht) ?_
      refine RG.step (Op1.assign (by rfl)) (by rfl) ?_
      refine RG.done ?_
      refine W.rs ?_
      refine RG.step (Op1.move (by rfl)) (by rfl) ?_
      refine RG.step (Op1.move (by rfl)) (by rfl) ?_
      refine RG.call (by rfl) (by exact pansW_walk hI (by rw [l3_len]; omega) (by omega)) (by rfl) ?_
      rintro _ hP ⟨gP, sv, e, rfl, hR⟩
      obtain ⟨hAx, rfl⟩ : AM.Acc h2.next hP sv (ivs (wl t m)) ∧ e = 0 := by
        rcases hR with ⟨h0, _⟩ | ⟨_, hn, _⟩ | ⟨_, z, hz, ha, he⟩
        · exact absurd (tot3 (by omega) (by omega) ht0) h0
        · rw [tern_find ht0 htm] at hn; cases hn
        · rw [tern_find ht0 htm] at hz; cases hz; exact ⟨ha, he⟩
      obtain ⟨adp, rfl, hPI, _⟩ := hAx.nums
      have hI5 := (hI.grow gP).top
      have K8 := hK2.trans (gP.keepN hK2.next)
      
      refine RG.step (Op1.move (by rfl)) (by rfl) ?_
      refine RG.step (Op1.extract (by rfl) (by rfl)) (by rfl) ?_
      refine RG.step (Op1.extract (by rfl) (by rfl)) (by rfl) ?_
      refine RG.step (Op1.assign (by rfl)) (by rfl) ?_
      refine RG.step (Op1.assign (by rfl)) (by rfl) ?_
      refine RG.done ?_
      refine W.rs ?_
      refine RG.step (Op1.lit0 Try.underlying22 sz3 zero3 rfl rfl) (by rfl) ?_
      refine RG.abs fun h9 n9 e9 g9 => ?_
      have K10 := K8.trans (g9.keepN K8.next)
      have lte9 := Heap.get_lt e9
      refine RG.step (Op1.move (by rfl)) (by rfl) ?_
      refine RG.step (Op1.assign (by rfl)) (by rfl) ?_
      refine RG.step (Op1.assign (by rfl)) (by rfl) ?_
      refine RG.done ?_
      refine W.seq ?_
      refine W.rs ?_
      refine RG.step (Op1.assign (by rfl)) (by rfl) ?_
      refine RG.done ?_
      refine W.block ?_
      refine W.loop (σ := Nat) (fun j a h3 => ∃ s, Has 89 [] [(5, .int .i64 (m : Int)), (6, .slice ado (l3 m).length (l3 m).length), (7, .int .i64 (s3 m)), (11, .slice adp (wl t m).length (wl t m).length), (12, .int .i64 0), (13, s), (14, .int .i64 (rst t j)), (15, .int .i64 (j : Int))] a ∧ j ≤ m ∧ Acc hP.next h3 s (ivs (wl t j)) ∧ KeepN hP.next hP h3) (fun j => m - j) ?_ (0) ?_
      · rintro j _ h3 ⟨s, ⟨base, rfl⟩, hjm, hT, hK3⟩
        obtain ⟨ad4, rfl, hTI, _⟩ := hT.nums
        have nK3 := hK3.next
        have hd := dg_step (rst_nn ht0 j)
        have hr1 := rst_nn ht0 j
        have hr2 := rst_le ht0 htm j hjm
        have hp92 := pow3_le (m - j) (by omega)
        have hsp2 := s3_pow (m - j)
        refine W.seq ?_
        refine W.rs ?_
        refine RG.step (Op1.move (by rfl)) (by rfl) ?_
        refine RG.step (Op1.move (by rfl)) (by rfl) ?_
        refine RG.step (Op1.lss (by rfl) (by rfl)) (by rfl) ?_
        refine RG.done ?_
        refine W.cases 53 (by rfl) (fun c11 => ?_) (fun c11 => ?_)
        · refine W.condT (by rfl) ?_
          refine W.skip ?_
          refine W.seq ?_
          refine W.block ?_
          refine W.rs ?_
          refine RG.step (Op1.move (by rfl)) (by rfl) ?_
          refine RG.step (Op1.rem (by rfl) (by rfl) (by decide)) (by rfl) ?_
          refine RG.step (Op1.assign (by rfl)) (by rfl) ?_
          refine RG.done ?_
          refine W.seq ?_
          refine W.rs ?_
          refine RG.step (Op1.move (by rfl)) (by rfl) ?_
          refine RG.step (Op1.eql (by rfl) (by rfl)) (by rfl) ?_
          refine RG.done ?_
          refine W.cases 59 (by rfl) (fun c12 => ?_) (fun c12 => ?_)
          · refine W.condT (by rfl) ?_
            refine W.region ?_
            refine RG.step (Op1.assign (by rfl)) (by rfl) ?_
            refine RG.done ?_
            refine W.rs ?_
            refine RG.tell (v := .int .i64 (dg (rst t j))) 16 (by rfl) (congrArg _ (by rw [dg, if_pos c12])) ?_
            refine RG.step (Op1.move (by rfl)) (by rfl) ?_
            refine RG.step (Op1.move (by rfl)) (by rfl) ?_
            refine RG.step (Op1.lit1 Try.underlying22 sz3 zero3 rfl rfl (by rfl) rfl) (by rfl) ?_
            refine RG.abs fun h13 n13 e13 g13 => ?_
            have K14 := hK3.trans (g13.keepN hK3.next)
            have lte13 := Heap.get_lt e13
            refine RG.app Try.underlying22 Try.underlying22 one3 (by rfl) ((hT.grow g13)) (by rfl) (Src.one e13) (rfl) (by omega) (by rw [ivs_len, (wl_wg ht0 j).1]; simp; omega) (by rfl) fun s15 h15 a15 k15 n15 => ?_
            have nx15 := k15.next
            have K16 := K14.trans (k15.less (by omega))
            have a15x : AM.Acc hP.next h15 s15 (ivs (wl t (j + 1))) := by rw [wl, ivs_app]; exact a15
            refine RG.step (Op1.assign (by rfl)) (by rfl) ?_
            refine RG.done ?_
            refine W.region ?_
            refine RG.step (Op1.move (by rfl)) (by rfl) ?_
            refine RG.step (Op1.move (by rfl)) (by rfl) ?_
            refine RG.step (Op1.sub (by rfl) (by rfl) (by omega)) (by rfl) ?_
            refine RG.step (Op1.quo (by rfl) (by rfl) (by decide) (by omega)) (by rfl) ?_
            refine RG.step (Op1.assign (by rfl)) (by rfl) ?_
            refine RG.done ?_
            refine W.region ?_
            refine RG.step (Op1.move (by rfl)) (by rfl) ?_
            refine RG.step (Op1.add (by rfl) (by rfl) (by omega)) (by rfl) ?_
            refine RG.step (Op1.assign (by rfl)) (by rfl) ?_
            refine RG.done ?_
            exact loopQ_next (j + 1) (by omega) ⟨_, St_has _ ⟨rfl, rfl, rfl, rfl, rfl, rfl, rfl, rfl, trivial⟩, by omega, a15x, K16⟩
          · refine W.condF (by rfl) ?_
            refine W.skip ?_
            refine W.rs ?_
            refine RG.tell (v := .int .i64 (dg (rst t j))) 16 (by rfl) (congrArg _ (by rw [dg, if_neg c12])) ?_
            refine RG.step (Op1.move (by rfl)) (by rfl) ?_
            refine RG.step (Op1.move (by rfl)) (by rfl) ?_
            refine RG.step (Op1.lit1 Try.underlying22 sz3 zero3 rfl rfl (by rfl) rfl) (by rfl) ?_
            refine RG.abs fun h17 n17 e17 g17 => ?_
            have K18 := hK3.trans (g17.keepN hK3.next)
            have lte17 := Heap.get_lt e17
            refine RG.app Try.underlying22 Try.underlying22 one3 (by rfl) ((hT.grow g17)) (by rfl) (Src.one e17) (rfl) (by omega) (by rw [ivs_len, (wl_wg ht0 j).1]; simp; omega) (by rfl) fun s19 h19 a19 k19 n19 => ?_
            have nx19 := k19.next
            have K20 := K18.trans (k19.less (by omega))
            have a19x : AM.Acc hP.next h19 s19 (ivs (wl t (j + 1))) := by rw [wl, ivs_app]; exact a19
            refine RG.step (Op1.assign (by rfl)) (by rfl) ?_
            refine RG.done ?_
            refine W.region ?_
            refine RG.step (Op1.move (by rfl)) (by rfl) ?_
            refine RG.step (Op1.move (by rfl)) (by rfl) ?_
            refine RG.step (Op1.sub (by rfl) (by rfl) (by omega)) (by rfl) ?_
            refine RG.step (Op1.quo (by rfl) (by rfl) (by decide) (by omega)) (by rfl) ?_
            refine RG.step (Op1.assign (by rfl)) (by rfl) ?_
            refine RG.done ?_
            refine W.region ?_
            refine RG.step (Op1.move (by rfl)) (by rfl) ?_
            refine RG.step (Op1.add (by rfl) (by rfl) (by omega)) (by rfl) ?_
            refine RG.step (Op1.assign (by rfl)) (by rfl) ?_
            refine RG.done ?_
            exact loopQ_next (j + 1) (by omega) ⟨_, St_has _ ⟨rfl, rfl, rfl, rfl, rfl, rfl, rfl, rfl, trivial⟩, by omega, a19x, K20⟩
        · refine W.condF (by rfl) ?_
          refine W.exit ?_
          refine W.rs ?_
          obtain rfl : m = j := by omega
          refine RG.step (Op1.move (by rfl)) (by rfl) ?_
          refine RG.step (Op1.move (by rfl)) (by rfl) ?_
          refine RG.step (Op1.add (by rfl) (by rfl) (by omega)) (by rfl) ?_
          refine RG.call (by rfl) (by exact pansW_walk (hI5.keepN hK3) (by rw [l3_len]; omega) (by omega)) (by rfl) ?_
          rintro _ hQ ⟨gQ, sv2, e2, rfl, hR2⟩
          obtain rfl : e2 = 5 := by
            rcases hR2 with ⟨h0, _⟩ | ⟨_, _, _, he⟩ | ⟨_, z, hz, _⟩
            · exact absurd (tot3 (by omega) (by omega) (by omega)) h0
            · exact he
            · rw [tern_none] at hz; cases hz
          have K21 := hK3.trans (gQ.keepN hK3.next)
          
          refine RG.step (Op1.move (by rfl)) (by rfl) ?_
          refine RG.step (Op1.extract (by rfl) (by rfl)) (by rfl) ?_
          refine RG.step (Op1.extract (by rfl) (by rfl)) (by rfl) ?_
          refine RG.step (Op1.assign (by rfl)) (by rfl) ?_
          refine RG.step (Op1.assign (by rfl)) (by rfl) ?_
          refine RG.done ?_
          refine W.rs ?_
          refine RG.step (Op1.move (by rfl)) (by rfl) ?_
          refine RG.step (Op1.eql (by rfl) (by rfl)) (by rfl) ?_
          refine RG.step (Op1.move (by rfl)) (by rfl) ?_
          refine RG.yes 77 (by rfl) (decide_eq_true rfl) ?_
          refine RG.gd (by rfl) (by rfl) (Op1.move (by rfl)) (by rfl) ?_
          refine RG.gd (by rfl) (by rfl) (Op1.move (by rfl)) (by rfl) ?_
          refine RG.callPG (by rfl) (by rfl) (by rfl) (by exact same_walk (hPI.keepN K21) (hTI.grow gQ) (by rw [(wl_wg ht0 m).1]; omega) (by rw [(wl_wg ht0 m).1]; omega)) (by rfl) ?_
          refine RG.step (Op1.pickT (by rfl) (by rfl)) (by rfl) ?_
          refine RG.step (Op1.move (by rfl)) (by rfl) ?_
          refine RG.yes 82 (by rfl) (decide_eq_true rfl) ?_
          refine RG.gd (by rfl) (by rfl) (Op1.move (by rfl)) (by rfl) ?_
          refine RG.gd (by rfl) (by rfl) (Op1.eql (by rfl) (by rfl)) (by rfl) ?_
          refine RG.step (Op1.pickT (by rfl) (by rfl)) (by rfl) ?_
          refine RG.step (Op1.move (by rfl)) (by rfl) ?_
          refine RG.yes 86 (by rfl) (decide_eq_true rfl) ?_
          refine RG.callPG (by rfl) (by rfl) (by rfl) (by exact lives_cw _) (by rfl) ?_
          refine RG.step (Op1.pickT (by rfl) (by rfl)) (by rfl) ?_
          refine RG.step (Op1.assign (by rfl)) (by rfl) ?_
          refine RG.done ?_
          refine W.ret ?_
          exact leaf1 rfl (by rfl) ⟨rfl, K8.grow.trans K21.grow⟩
      · exact ⟨_, St_has _ ⟨rfl, rfl, rfl, rfl, rfl, rfl, rfl, rfl, trivial⟩, Nat.zero_le _, Acc.lit0 (Nat.le_refl _) e9, g9.keepN (Nat.le_refl _)⟩
  · exact ⟨_, St_has _ ⟨rfl, rfl, rfl, rfl, rfl, rfl, trivial⟩, Nat.zero_le _, Acc.lit0 (Nat.le_refl _) e1, K2⟩
end Go.Proofs.Ytekhhjcbjaegeaa
