/- Walks: pans, its generator, what is left. -/
import Derived.Test.YtekhhjcbjaegeaaSubset
import Derived.Test.YtekhhjcbjaegeaaAM38
set_option linter.all false
set_option maxRecDepth 100000
set_option maxHeartbeats 4000000
namespace Go.Proofs.Ytekhhjcbjaegeaa
open Go Go.AM
/-- All weighings that go on with one, in falling lexicographic order. -/
def pansE : Nat → List Int → List (List Int)
  | 0, l => [l]
  | k + 1, l => pansE k (l ++ [1]) ++ (pansE k (l ++ [0]) ++ (pansE k (l ++ [-1]) ++ []))
/-- Those from the j-th pan on. -/
def pansR (k : Nat) (l : List Int) : Nat → List (List Int)
  | 0 => pansE k (l ++ [1]) ++ (pansE k (l ++ [0]) ++ (pansE k (l ++ [-1]) ++ []))
  | 1 => pansE k (l ++ [0]) ++ (pansE k (l ++ [-1]) ++ [])
  | 2 => pansE k (l ++ [-1]) ++ []
  | _ => []
theorem pansR_step {k j : Nat} {l : List Int} (hj : j < 3) : pansR k l j = pansE k (l ++ [1 - (j : Int)]) ++ pansR k l (j + 1) := by
  match j, hj with
  | 0, _ => rfl
  | 1, _ => rfl
  | 2, _ => rfl
theorem pansE_pos {k : Nat} {l : List Int} (hk : 0 < k) : pansE k l = pansR (k - 1) l 0 := by
  cases k with
  | zero => omega
  | succ k => rfl
/-- A weighing. -/
def Wg (n : Nat) (l : List Int) : Prop := l.length = n ∧ ∀ v ∈ l, -1 ≤ v ∧ v ≤ 1
theorem pansE_wg : ∀ (k : Nat) (l : List Int), (∀ v ∈ l, -1 ≤ v ∧ v ≤ 1) → ∀ y ∈ pansE k l, Wg (l.length + k) y
  | 0, l, h, y, hy => by
    have hy : y ∈ [l] := hy
    rw [List.mem_singleton] at hy; subst hy; exact ⟨rfl, h⟩
  | k + 1, l, h, y, hy => by
    have e : ∀ v : Int, -1 ≤ v ∧ v ≤ 1 → y ∈ pansE k (l ++ [v]) → Wg (l.length + (k + 1)) y := fun v hv hm => by
      have := pansE_wg k (l ++ [v]) (fun u hu => by rcases List.mem_append.1 hu with hu | hu; exact h u hu; rw [List.mem_singleton] at hu; subst hu; exact hv) y hm
      rw [List.length_append, List.length_singleton, Nat.add_assoc, Nat.add_comm 1 k] at this
      exact this
    simp only [pansE, List.mem_append, List.not_mem_nil, or_false] at hy
    rcases hy with hy | hy | hy <;> exact e _ (by omega) hy
theorem pans_walk {σ : Type} {M : Nat → Prop} {N n c : Nat} {Y : Value} {f : σ → List Int → σ × Bool} {I : Bool → σ → Heap → Prop} {ok : σ → Prop} (F : Feeds Try.prog primW (RepP (Wg n)) σ M N Y f I ok) {ad : Option Addr} (hn : n ≤ 1000) :
    ∀ (k : Nat) (x : List Int) (st : σ) (h : Heap) (s : Value), x.length + k = n → (∀ v ∈ x, -1 ≤ v ∧ v ≤ 1) → N ≤ h.next → Acc N h s (ivs x) → I true st h → AllOk f ok (pansE k x) st →
    CW Try.prog primW 58 [.slice ad n c, s, Y] h fun v h' => v = .bool (foldS f (pansE k x) st).2 ∧ I (foldS f (pansE k x) st).2 (foldS f (pansE k x) st).1 h' ∧ GrowBut M h h' := by
  intro k
  induction k using Nat.strongRecOn with
  | ind k ih =>
    intro x st h s hk hxv hN hA hI hok
    obtain ⟨ad2, rfl, hS, hSN⟩ := hA.nums
    have hAc : Acc N h (.slice ad2 x.length x.length) (ivs x) := hA
    refine CW.intro (l := [(2, Y), (1, .slice ad2 x.length x.length), (0, .slice ad n c)]) rfl Try.func58 rfl (by rfl) ?_
    refine W.rs ?_
    refine RG.step (Op1.assign (by rfl)) (by rfl) ?_
    refine RG.done ?_
    refine W.seq ?_
    refine W.rs ?_
    refine RG.step (Op1.move (by rfl)) (by rfl) ?_
    refine RG.step (Op1.len Try.underlying22 (by rfl) (by rfl)) (by rfl) ?_
    refine RG.step (Op1.move (by rfl)) (by rfl) ?_
    refine RG.step (Op1.len Try.underlying22 (by rfl) (by rfl)) (by rfl) ?_
    refine RG.step (Op1.eql (by rfl) (by rfl)) (by rfl) ?_
    refine RG.done ?_
    refine W.cases 12 (by rfl) (fun c1 => ?_) (fun c1 => ?_)
    · refine W.condT (by rfl) ?_
      refine W.rs ?_
      have hk0 : k = 0 := by omega
      subst hk0
      have hE : pansE 0 x = [x] := rfl
      rw [hE] at hok
      refine RG.step (Op1.move (by rfl)) (by rfl) ?_
      refine RG.step (Op1.move (by rfl)) (by rfl) ?_
      refine RG.callV (by rfl) (by rfl) (F.call st h _ x hok.1 hI hN ⟨⟨by omega, hxv⟩, hAc⟩) (by rfl) ?_
      rintro _ h2 ⟨rfl, hI2, hG2⟩
      refine RG.step (Op1.assign (by rfl)) (by rfl) ?_
      refine RG.done ?_
      refine W.ret ?_
      refine leaf1 rfl (by rfl) ?_
      rw [hE, show foldS f [x] st = ((f st x).1, (f st x).2) from by simp only [foldS]; cases (f st x).2 <;> rfl]
      exact ⟨rfl, hI2, hG2⟩
    · refine W.condF (by rfl) ?_
      refine W.skip ?_
      refine W.seq ?_
      refine W.rs ?_
      refine RG.step (Op1.assign (by rfl)) (by rfl) ?_
      refine RG.done ?_
      refine W.block ?_
      refine W.loop (σ := Nat) (fun j a h3 => ∃ sj, Has 29 [] [(0, .slice ad n c), (1, .slice ad2 x.length x.length), (2, Y), (7, .int .i64 (1 - (j : Int)))] a ∧ j ≤ 3 ∧ I true sj h3 ∧ GrowBut M h h3 ∧ foldS f (pansE k x) st = foldS f (pansR (k - 1) x j) sj ∧ AllOk f ok (pansR (k - 1) x j) sj) (fun j => 3 - j) ?_ (0) ?_
      · rintro j _ h3 ⟨sj, ⟨base, rfl⟩, hj3, hI3, hT3, hfo, hok3⟩
        have hA3 := hAc.keepB F.low hT3
        refine W.seq ?_
        refine W.rs ?_
        refine RG.step (Op1.move (by rfl)) (by rfl) ?_
        refine RG.step (Op1.geq (by rfl) (by rfl)) (by rfl) ?_
        refine RG.done ?_
        refine W.cases 17 (by rfl) (fun c2 => ?_) (fun c2 => ?_)
        · refine W.condT (by rfl) ?_
          refine W.skip ?_
          refine W.seq ?_
          refine W.block ?_
          refine W.rs ?_
          refine RG.step (Op1.move (by rfl)) (by rfl) ?_
          refine RG.step (Op1.move (by rfl)) (by rfl) ?_
          refine RG.callP (by rfl) (by exact clip_walk hA3) (by rfl) ?_
          refine RG.step (Op1.move (by rfl)) (by rfl) ?_
          refine RG.step (Op1.lit1 Try.underlying22 sz3 zero3 rfl rfl (by rfl) rfl) (by rfl) ?_
          refine RG.abs fun h4 n4 e4 g4 => ?_
          have hA4 := hA3.grow g4
          refine RG.step (Op1.appC Try.underlying22 Try.underlying22 one3 (us := [.int .i64 (1 - (j : Int))]) (by rfl) hA4.clip (by rfl) (rd_of e4) (fun q _ => by rw [Nat.zero_add]) (by simp) (by rw [ivs_len]; simp; omega)) (by rfl) ?_
          refine RG.abs fun h5 n5 e5 g5 => ?_
          have hI5 := F.grow _ _ _ _ hI3 (g4.trans g5)
          have hok4 := hok3
          rw [pansR_step (by omega)] at hok4
          have hA5 := acc_snoc (N := N) (by have := hT3.next; omega) e5
          refine RG.step (Op1.move (by rfl)) (by rfl) ?_
          refine RG.call (by rfl) (by exact ih (k - 1) (by omega) (x ++ [1 - (j : Int)]) sj _ _ (by simp; omega) (fun u hu => by rcases List.mem_append.1 hu with hu | hu; exact hxv u hu; rw [List.mem_singleton] at hu; subst hu; omega) (by have := hT3.next; omega) hA5 hI5 (AllOk_append hok4).1) (by rfl) ?_
          rintro _ h6 ⟨rfl, hI6, hG6⟩
          refine RG.step (Op1.notB (by rfl)) (by rfl) ?_
          refine RG.done ?_
          refine W.casesB 28 (by rfl) (fun c3 => ?_) (fun c3 => ?_)
          · refine W.condT (by rfl) ?_
            refine W.rs ?_
            refine RG.step (Op1.assign (by rfl)) (by rfl) ?_
            refine RG.done ?_
            refine W.ret ?_
            refine leaf1 rfl (by rfl) ?_
            have hb : (foldS f (pansE (k - 1) (x ++ [1 - (j : Int)])) sj).2 = false := by simpa using c3
            have hf : foldS f (pansE k x) st = foldS f (pansE (k - 1) (x ++ [1 - (j : Int)])) sj := by rw [hfo, pansR_step (by omega), foldS_append, hb]
            rw [hf, hb]
            rw [hb] at hI6
            exact ⟨rfl, hI6, hT3.trans ((g4.trans g5).but.trans hG6)⟩
          · refine W.condF (by rfl) ?_
            refine W.skip ?_
            refine W.region ?_
            refine RG.step (Op1.move (by rfl)) (by rfl) ?_
            refine RG.step (Op1.sub (by rfl) (by rfl) (by omega)) (by rfl) ?_
            refine RG.tell (v := .int .i64 (1 - ((j + 1 : Nat) : Int))) 19 (by rfl) (congrArg _ (by omega)) ?_
            refine RG.step (Op1.assign (by rfl)) (by rfl) ?_
            refine RG.done ?_
            have hb : (foldS f (pansE (k - 1) (x ++ [1 - (j : Int)])) sj).2 = true := by simpa using c3
            have hf : foldS f (pansE k x) st = foldS f (pansR (k - 1) x (j + 1)) (foldS f (pansE (k - 1) (x ++ [1 - (j : Int)])) sj).1 := by rw [hfo, pansR_step (by omega), foldS_append, hb]
            have hok6 := (AllOk_append hok4).2 hb
            rw [hb] at hI6
            exact loopQ_next (j + 1) (by omega) ⟨_, St_has _ ⟨rfl, rfl, rfl, rfl, trivial⟩, by omega, hI6, hT3.trans ((g4.trans g5).but.trans hG6), hf, hok6⟩
        · refine W.condF (by rfl) ?_
          refine W.exit ?_
          refine W.rs ?_
          refine RG.step (Op1.assign (by rfl)) (by rfl) ?_
          refine RG.done ?_
          refine W.ret ?_
          refine leaf1 rfl (by rfl) ?_
          obtain rfl : j = 3 := by omega
          rw [hfo]
          exact ⟨rfl, hI3, hT3⟩
      · have hE := pansE_pos (l := x) (show 0 < k by omega)
        exact ⟨_, St_has _ ⟨rfl, rfl, rfl, rfl, trivial⟩, by omega, hI, GrowBut.refl _ _, by rw [hE], by rw [← hE]; exact hok⟩
theorem pans_gen {b n c : Nat} {ad : Option Addr} (hn : n ≤ 1000) : GenOK Try.prog primW (RepP (Wg n)) 57 #[] #[.pointer (some ⟨b, 0, none⟩)] (pansE n []) (fun _ h => h.get b = some (.cells [.slice ad n c])) := by
  intro σ M N Y f I ok F st h hN hb hI hok
  show CW Try.prog primW 57 [Y, .pointer (some ⟨b, 0, none⟩)] h _
  refine CW.intro (l := [(1, .pointer (some ⟨b, 0, none⟩)), (0, Y)]) rfl Try.func57 rfl (by rfl) ?_
  refine W.region ?_
  refine RG.step (Op1.load agg22 (by rfl) (cellAt_of hb (by rfl))) (by rfl) ?_
  refine RG.step (Op1.move (by rfl)) (by rfl) ?_
  refine RG.call (by rfl) (by exact pans_walk F hn n [] st h (.slice none 0 0) (by simp) (fun v hv => by cases hv) hN (Acc.nil _ _) hI hok) (by rfl) ?_
  rintro _ h2 ⟨rfl, hI2, hG2⟩
  refine RG.done ?_
  exact leaf0n rfl ⟨hI2, hG2⟩
/-- What a weighing weighs. -/
def dot : List Int → List Int → Int
  | v :: l, w :: ws => v * w + dot l ws
  | _, _ => 0
theorem dot_nil (l : List Int) : dot l [] = 0 := by cases l <;> rfl
theorem dot_take : ∀ (l ws : List Int) (i : Nat), i < l.length → i < ws.length → dot (l.take (i + 1)) ws = dot (l.take i) ws + l.getD i 0 * ws.getD i 0
  | [], _, i, h, _ => by simp at h
  | _ :: _, [], i, _, h => by simp at h
  | v :: l, w :: ws, 0, _, _ => by simp [dot]
  | v :: l, w :: ws, i + 1, h, h2 => by
    simp only [List.length_cons] at h h2
    have := dot_take l ws i (by omega) (by omega)
    simp only [List.take_succ_cons, dot, List.getD_cons_succ]
    omega
theorem dot_bound : ∀ (l ws : List Int), (∀ v ∈ l, -1 ≤ v ∧ v ≤ 1) → (∀ y ∈ ws, 0 ≤ y ∧ y ≤ 100000) → -(100000 * (l.length : Int)) ≤ dot l ws ∧ dot l ws ≤ 100000 * l.length
  | [], _, _, _ => by simp [dot]
  | v :: l, [], _, _ => by simp only [dot, List.length_cons]; omega
  | v :: l, w :: ws, h1, h2 => by
    have ih := dot_bound l ws (fun v hv => h1 v (List.mem_cons_of_mem _ hv)) (fun y hy => h2 y (List.mem_cons_of_mem _ hy))
    have hv := h1 v (List.mem_cons_self ..)
    have hw := h2 w (List.mem_cons_self ..)
    simp only [dot, List.length_cons]
    rcases (show v = -1 ∨ v = 0 ∨ v = 1 by omega) with rfl | rfl | rfl <;> omega
theorem wrap_zero {z a : Int} (hz : z = IntKind.wrap .i64 a) : ∃ q : Int, a = z + 18446744073709551616 * q ∧ -9223372036854775808 ≤ z ∧ z < 9223372036854775808 := by
  have h : z = if 9223372036854775808 ≤ a % 18446744073709551616 then a % 18446744073709551616 - 18446744073709551616 else a % 18446744073709551616 := by
    rw [hz]; simp [IntKind.wrap, IntKind.signed, IntKind.bits]
  split at h
  · exact ⟨a / 18446744073709551616 + 1, by omega, by omega, by omega⟩
  · exact ⟨a / 18446744073709551616, by omega, by omega, by omega⟩
/-- Whether a weighing weighs what it should. -/
theorem left_walk {N1 N2 b1 b2 : Nat} {h : Heap} {ad adl : Option Addr} {ws l : List Int} {c c2 : Nat} {sum : Int} (hb1 : h.get b1 = some (.cells [.int .i64 sum])) (hb2 : h.get b2 = some (.cells [.slice ad ws.length c])) (hW : IntsA N1 h ad ws) (hL : IntsA N2 h adl l) (hlen : l.length = ws.length) (hn : ws.length ≤ 1000) (hv : ∀ v ∈ l, -1 ≤ v ∧ v ≤ 1) (hw : ∀ y ∈ ws, 0 ≤ y ∧ y ≤ 100000) (hs : 0 ≤ sum ∧ sum < 9223372036854775808) :
    CW Try.prog primW 60 [.slice adl l.length c2, .pointer (some ⟨b1, 0, none⟩), .pointer (some ⟨b2, 0, none⟩)] h fun v h' => v = .bool (decide (dot l ws = sum)) ∧ h' = h := by
  refine CW.intro (l := [(2, .pointer (some ⟨b2, 0, none⟩)), (1, .pointer (some ⟨b1, 0, none⟩)), (0, .slice adl l.length c2)]) rfl Try.func60 rfl (by rfl) ?_
  refine W.rs ?_
  refine RG.step (Op1.assign (by rfl)) (by rfl) ?_
  refine RG.done ?_
  refine W.rs ?_
  refine RG.step (Op1.load agg3 (by rfl) (cellAt_of hb1 (by rfl))) (by rfl) ?_
  refine RG.step (Op1.assign (by rfl)) (by rfl) ?_
  refine RG.done ?_
  refine W.seq ?_
  refine W.rs ?_
  refine RG.step (Op1.move (by rfl)) (by rfl) ?_
  refine RG.step (Op1.len Try.underlying22 (by rfl) (by rfl)) (by rfl) ?_
  refine RG.step (Op1.move (by rfl)) (by rfl) ?_
  refine RG.done ?_
  refine W.block ?_
  refine W.loop (σ := Nat) (fun i a h2 => ∃ z q : Int, Has 29 [] [(1, .pointer (some ⟨b1, 0, none⟩)), (2, .pointer (some ⟨b2, 0, none⟩)), (5, .int .i64 z), (9, .slice adl l.length c2), (10, .int .i64 (l.length : Int)), (11, .int .i64 (i : Int))] a ∧ i ≤ l.length ∧ h2 = h ∧ sum - dot (l.take i) ws = z + 18446744073709551616 * q ∧ -9223372036854775808 ≤ z ∧ z < 9223372036854775808) (fun i => l.length - i) ?_ (0) ?_
  · rintro i _ _ ⟨z, q, ⟨base, rfl⟩, hi, rfl, hz, hz3, hz4⟩
    refine W.rs ?_
    refine RG.step (Op1.lss (by rfl) (by rfl)) (by rfl) ?_
    refine RG.done ?_
    refine W.seq ?_
    refine W.cases 12 (by rfl) (fun c1 => ?_) (fun c1 => ?_)
    · refine W.condT (by rfl) ?_
      refine W.skip ?_
      refine W.seq ?_
      refine W.block ?_
      refine W.rs ?_
      refine RG.step (Op1.move (by rfl)) (by rfl) ?_
      refine RG.step (Op1.idxI hL Try.underlying22 sz3 (by rfl) (by rfl) (by omega) (by omega)) (by rfl) ?_
      refine RG.step (Op1.load agg3 (by rfl) (hL.at (by omega) (by omega))) (by rfl) ?_
      refine RG.step (Op1.assign (by rfl)) (by rfl) ?_
      refine RG.step (Op1.assign (by rfl)) (by rfl) ?_
      refine RG.done ?_
      refine W.rs ?_
      refine RG.step (Op1.move (by rfl)) (by rfl) ?_
      refine RG.step (Op1.neq (by rfl) (by rfl)) (by rfl) ?_
      refine RG.done ?_
      refine W.cases 17 (by rfl) (fun c2 => ?_) (fun c2 => ?_)
      · refine W.condT (by rfl) ?_
        refine W.region ?_
        refine RG.step (Op1.move (by rfl)) (by rfl) ?_
        refine RG.step (Op1.move (by rfl)) (by rfl) ?_
        refine RG.step (Op1.load agg22 (by rfl) (cellAt_of hb2 (by rfl))) (by rfl) ?_
        
        refine RG.step (Op1.move (by rfl)) (by rfl) ?_
        refine RG.step (Op1.idxI hW Try.underlying22 sz3 (by rfl) (by rfl) (by omega) (by omega)) (by rfl) ?_
        refine RG.step (Op1.load agg3 (by rfl) (hW.at (by omega) (by omega))) (by rfl) ?_
        refine RG.tell (v := .int .i64 (l.getD i 0)) 7 (by rfl) (by simp) ?_
        refine RG.tell (v := .int .i64 (l.getD i 0)) 19 (by rfl) (by simp) ?_
        refine RG.tell (v := .int .i64 (ws.getD i 0)) 23 (by rfl) (by simp) ?_
        have hv1 : -1 ≤ l.getD i 0 ∧ l.getD i 0 ≤ 1 := by rw [gD (by omega)]; exact hv _ (List.getElem_mem (by omega))
        have hw1 := getD_bounds hw (show i < ws.length by omega)
        refine RG.step (Op1.mul (by rfl) (by rfl) (by rcases (show l.getD i 0 = -1 ∨ l.getD i 0 = 0 ∨ l.getD i 0 = 1 by omega) with e | e | e <;> rw [e] <;> omega)) (by rfl) ?_
        refine RG.step (Op1.subW (by rfl) (by rfl)) (by rfl) ?_
        refine RG.step (Op1.assign (by rfl)) (by rfl) ?_
        refine RG.done ?_
        refine W.region ?_
        refine RG.step (Op1.add (by rfl) (by rfl) (by omega)) (by rfl) ?_
        refine RG.step (Op1.move (by rfl)) (by rfl) ?_
        refine RG.done ?_
        obtain ⟨q2, hz2, hz3, hz4⟩ := wrap_zero (z := IntKind.wrap .i64 (z - l.getD i 0 * ws.getD i 0)) rfl
        exact loopQ_next (i + 1) (by omega) ⟨_, q + q2, St_has _ ⟨rfl, rfl, rfl, rfl, rfl, rfl, trivial⟩, by omega, rfl, by rw [dot_take l ws i (by omega) (by omega)]; omega, hz3, hz4⟩
      · refine W.condF (by rfl) ?_
        refine W.skip ?_
        refine W.region ?_
        refine RG.step (Op1.add (by rfl) (by rfl) (by omega)) (by rfl) ?_
        refine RG.step (Op1.move (by rfl)) (by rfl) ?_
        refine RG.done ?_
        have h0 : l.getD i 0 = 0 := by have := c2; simpa using this
        exact loopQ_next (i + 1) (by omega) ⟨z, q, St_has _ ⟨rfl, rfl, rfl, rfl, rfl, rfl, trivial⟩, by omega, rfl, by rw [dot_take l ws i (by omega) (by omega), h0]; omega, hz3, hz4⟩
    · refine W.condF (by rfl) ?_
      refine W.exit ?_
      refine W.rs ?_
      refine RG.step (Op1.move (by rfl)) (by rfl) ?_
      refine RG.step (Op1.eql (by rfl) (by rfl)) (by rfl) ?_
      refine RG.step (Op1.assign (by rfl)) (by rfl) ?_
      refine RG.done ?_
      refine W.ret ?_
      obtain rfl : i = l.length := by omega
      rw [List.take_length] at hz
      have hd := dot_bound l ws hv hw
      refine leaf1 rfl (by rfl) ⟨congrArg Value.bool ?_, rfl⟩
      have : (z = 0) = (dot l ws = sum) := propext ⟨fun e => by omega, fun e => by omega⟩
      simp only [this]
  · exact ⟨sum, 0, St_has _ ⟨rfl, rfl, rfl, rfl, rfl, rfl, trivial⟩, Nat.zero_le _, rfl, by simp [dot], by omega, by omega⟩
def pansP (xs : List Int) (sum : Int) (l : List Int) : Bool := decide (dot l xs = sum)
def pansG (xs : List Int) (sum : Int) (_ : Unit) (l : List Int) : Unit × Bool := ((), decide (dot l xs = sum))
def PansR (xs : List Int) (sum : Int) (N : Nat) (h : Heap) (sv : Value) (e : Int) : Prop :=
  (totalV xs 9 sum ≠ 0 ∧ sv = .slice none 0 0 ∧ e = totalV xs 9 sum) ∨ (totalV xs 9 sum = 0 ∧ (pansE xs.length []).find? (pansP xs sum) = none ∧ sv = .slice none 0 0 ∧ e = 5) ∨
  (totalV xs 9 sum = 0 ∧ ∃ x, (pansE xs.length []).find? (pansP xs sum) = some x ∧ Acc N h sv (ivs x) ∧ e = 0)
theorem totalV_sum {xs : List Int} {most sum : Int} (h : totalV xs most sum = 0) : 0 ≤ sum := by
  have hc := checkV_len (totalV_check h)
  unfold totalV at h
  split at h
  · cases h
  · omega
theorem pansW_walk {N : Nat} {h : Heap} {ad : Option Addr} {xs : List Int} {c : Nat} {sum : Int} (hA : IntsA N h ad xs) (hl : xs.length < 4611686018427387904) (hs : sum < 9223372036854775808) :
    CW Try.prog primW 25 [.slice ad xs.length c, .int .i64 sum] h fun v h' => Grow h h' ∧ ∃ sv e, v = .tuple #[sv, .int .i64 e] ∧ PansR xs sum h.next h' sv e := by
  have hA' := hA.top
  have K0 := KeepN.refl h.next h
  refine CW.intro (l := [(1, .int .i64 sum), (0, .slice ad xs.length c)]) rfl Try.func25 rfl (by rfl) ?_
  refine W.rs ?_
  refine RG.step (Op1.box (by rfl)) (by rfl) ?_
  refine RG.abs fun h1 n1 e1 g1 => ?_
  have K2 := K0.trans (g1.keepN K0.next)
  have lte1 := Heap.get_lt e1
  
  refine RG.step (Op1.box (by rfl)) (by rfl) ?_
  refine RG.abs fun h3 n3 e3 g3 => ?_
  have e4 := g3.get e1
  have K5 := K2.trans (g3.keepN K2.next)
  have lte3 := Heap.get_lt e3
  
  refine RG.step (Op1.assign (by rfl)) (by rfl) ?_
  refine RG.step (Op1.assign (by rfl)) (by rfl) ?_
  refine RG.done ?_
  refine W.seq ?_
  refine W.rs ?_
  refine RG.step (Op1.load agg22 (by rfl) (cellAt_of e4 (by rfl))) (by rfl) ?_
  refine RG.step (Op1.load agg3 (by rfl) (cellAt_of e3 (by rfl))) (by rfl) ?_
  refine RG.callP (by rfl) (by exact total_walk (hA'.keepN K5) hl) (by rfl) ?_
  refine RG.step (Op1.assign (by rfl)) (by rfl) ?_
  refine RG.done ?_
  refine W.rs ?_
  refine RG.step (Op1.move (by rfl)) (by rfl) ?_
  refine RG.step (Op1.neq (by rfl) (by rfl)) (by rfl) ?_
  refine RG.done ?_
  refine W.cases 14 (by rfl) (fun c6 => ?_) (fun c6 => ?_)
  · refine W.condT (by rfl) ?_
    refine W.rs ?_
    refine RG.step (Op1.move (by rfl)) (by rfl) ?_
    refine RG.step (Op1.assign (by rfl)) (by rfl) ?_
    refine RG.step (Op1.assign (by rfl)) (by rfl) ?_
    refine RG.done ?_
    refine W.ret ?_
    exact leaf2 rfl (by rfl) (by rfl) ⟨K5.grow, _, _, rfl, .inl ⟨c6, rfl, rfl⟩⟩
  · refine W.condF (by rfl) ?_
    refine W.skip ?_
    refine W.rs ?_
    have hz : totalV xs 9 sum = 0 := Decidable.not_not.1 c6
    have hx := checkV_range (totalV_check hz)
    have hsum := totalV_sum hz
    have hlen : xs.length ≤ 9 := by have := checkV_len (totalV_check hz); omega
    refine RG.step (Op1.makeFunc (by rfl) (by rfl)) (by rfl) ?_
    refine RG.step (Op1.assign (by rfl)) (by rfl) ?_
    refine RG.done ?_
    refine W.rs ?_
    refine RG.step (Op1.move (by rfl)) (by rfl) ?_
    refine RG.step (Op1.makeFunc (by rfl) (by rfl)) (by rfl) ?_
    have hc59 := firstL_walk (pans_gen (b := h.next) (n := xs.length) (ad := ad) (c := c) (by omega)) (h := h3) (good := .func (.func 60) #[] #[.pointer (some ⟨h1.next, 0, none⟩), .pointer (some ⟨h.next, 0, none⟩)]) rfl (pansG xs sum) (fun _ => True)
      (fun _ h' => h'.get h.next = some (.cells [.slice ad xs.length c]) ∧ h'.get h1.next = some (.cells [.int .i64 sum]) ∧ IntsA h.next h' ad xs) (fun _ => False) () (fun b hb => hb.elim)
      (fun h2 M hM g => g.get e4)
      (fun st h1 h2 hJ hn g => ⟨(g.old _ (Heap.get_lt hJ.1) (by omega)).trans hJ.1, (g.old _ (Heap.get_lt hJ.2.1) (by omega)).trans hJ.2.1, hJ.2.2.keepB (fun hne hb => by have := hA'.blk hne; omega) g⟩)
      (fun h2 g => ⟨g.get e4, g.get e3, (hA'.keepN K5).grow g⟩)
      (fun st h1 v x _ hJ hn hR => by
        obtain ⟨⟨hxl, hxv⟩, hS⟩ := hR
        obtain ⟨ad2, rfl, hI, _⟩ := hS.nums
        exact CWV.func (CW.mono (left_walk hJ.2.1 hJ.1 hJ.2.2 hI hxl (by omega) hxv hx ⟨hsum, hs⟩) (fun v h' r => by obtain ⟨r1, rfl⟩ := r; exact ⟨r1, hJ, GrowBut.refl _ _⟩)))
      (AllOk_true _ _ (fun _ => trivial) _ _)
    refine RG.call (by rfl) (by exact hc59) (by rfl) ?_
    rintro v59 h9 ⟨hJ9, hG9, hv9⟩
    have g9 : Grow h3 h9 := ⟨hG9.next, fun b hb => hG9.old b hb (fun e => e)⟩
    have nx9 := hG9.next
    have e7 := g9.get e4
    have e8 := g9.get e3
    have K9 := K5.trans (g9.keepN K5.next)
    rw [show (foldS (firstF (pansG xs sum)) (pansE xs.length []) ((), none)).1.2 = (pansE xs.length []).find? (pansP xs sum) from firstF_find (pansP xs sum) _] at hv9
    rcases hq : (pansE xs.length []).find? (pansP xs sum) with _ | x
    · rw [hq] at hv9
      subst hv9
      refine RG.step (Op1.move (by rfl)) (by rfl) ?_
      refine RG.step (Op1.extract (by rfl) (by rfl)) (by rfl) ?_
      refine RG.step (Op1.extract (by rfl) (by rfl)) (by rfl) ?_
      refine RG.step (Op1.assign (by rfl)) (by rfl) ?_
      refine RG.step (Op1.assign (by rfl)) (by rfl) ?_
      refine RG.done ?_
      refine W.seq ?_
      refine W.rs ?_
      refine RG.step (Op1.move (by rfl)) (by rfl) ?_
      refine RG.step (Op1.notB (by rfl)) (by rfl) ?_
      refine RG.done ?_
      refine W.condT (by rfl) ?_
      refine W.rs ?_
      refine RG.step (Op1.assign (by rfl)) (by rfl) ?_
      refine RG.step (Op1.assign (by rfl)) (by rfl) ?_
      refine RG.done ?_
      refine W.ret ?_
      exact leaf2 rfl (by rfl) (by rfl) ⟨K5.grow.trans g9, _, _, rfl, .inr (.inl ⟨hz, hq, rfl, rfl⟩)⟩
    · rw [hq] at hv9
      obtain ⟨vv, rfl, hS⟩ := hv9
      have hS : Acc _ _ _ _ := hS
      obtain ⟨ad2, rfl, _, _⟩ := hS.nums
      refine RG.step (Op1.move (by rfl)) (by rfl) ?_
      refine RG.step (Op1.extract (by rfl) (by rfl)) (by rfl) ?_
      refine RG.step (Op1.extract (by rfl) (by rfl)) (by rfl) ?_
      refine RG.step (Op1.assign (by rfl)) (by rfl) ?_
      refine RG.step (Op1.assign (by rfl)) (by rfl) ?_
      refine RG.done ?_
      refine W.seq ?_
      refine W.rs ?_
      refine RG.step (Op1.move (by rfl)) (by rfl) ?_
      refine RG.step (Op1.notB (by rfl)) (by rfl) ?_
      refine RG.done ?_
      refine W.condF (by rfl) ?_
      refine W.skip ?_
      refine W.rs ?_
      refine RG.step (Op1.move (by rfl)) (by rfl) ?_
      refine RG.step (Op1.assign (by rfl)) (by rfl) ?_
      refine RG.step (Op1.assign (by rfl)) (by rfl) ?_
      refine RG.done ?_
      refine W.ret ?_
      exact leaf2 rfl (by rfl) (by rfl) ⟨K5.grow.trans g9, _, _, rfl, .inr (.inr ⟨hz, x, hq, hS.less (by omega), rfl⟩)⟩
end Go.Proofs.Ytekhhjcbjaegeaa
