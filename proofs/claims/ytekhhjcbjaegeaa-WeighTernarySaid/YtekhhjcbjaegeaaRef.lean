/- Walks: cut, Sums, Indices, the reference's Subset. -/
import Derived.Test.YtekhhjcbjaegeaaSubset
import Derived.Test.YtekhhjcbjaegeaaAM38
set_option linter.all false
set_option maxRecDepth 100000
set_option maxHeartbeats 4000000
namespace Go.Proofs.Ytekhhjcbjaegeaa
open Go Go.AM
theorem cut_walk {h : Heap} {ad : Option Addr} {xs : List Int} {c : Nat} (hA : SlA h.next h ad xs c) (hl : xs.length < 9223372036854775808) :
    CW Try.prog primW 15 [.slice ad xs.length c] h fun v h' => Acc h.next h' v (ivs (xs.take 13)) ∧ Grow h h' := by
  have K0 := KeepN.refl h.next h
  have hmin : (if (13 : Int) < (xs.length : Int) then (13 : Int) else (xs.length : Int)) = ((min xs.length 13 : Nat) : Int) := by split <;> omega
  have htk : xs.take (min xs.length 13) = xs.take 13 := by
    rcases Nat.le_total xs.length 13 with h | h
    · rw [Nat.min_eq_left h, List.take_length, List.take_of_length_le h]
    · rw [Nat.min_eq_right h]
  refine CW.intro (l := [(0, .slice ad xs.length c)]) rfl Try.func15 rfl (by rfl) ?_
  refine W.rs ?_
  refine RG.step (Op1.assign (by rfl)) (by rfl) ?_
  refine RG.done ?_
  refine W.rs ?_
  refine RG.step (Op1.lit0 Try.underlying22 sz3 zero3 rfl rfl) (by rfl) ?_
  refine RG.abs fun h1 n1 e1 g1 => ?_
  have K2 := K0.trans (g1.keepN K0.next)
  have lte1 := Heap.get_lt e1
  refine RG.step (Op1.move (by rfl)) (by rfl) ?_
  refine RG.step (Op1.move (by rfl)) (by rfl) ?_
  refine RG.step (Op1.len Try.underlying22 (by rfl) (by rfl)) (by rfl) ?_
  refine RG.step (Op1.min2 (by rfl) (by rfl)) (by rfl) ?_
  refine RG.step (Op1.slTo Try.underlying22 sz3 (by rfl) (by rfl) hmin (by have := hA.cap; omega) hA.form) (by rfl) ?_
  refine RG.app Try.underlying22 Try.underlying22 one3 (by rfl) (Acc.lit0 (Nat.le_refl h.next) e1) (by rfl) ((hA.keepN K2).src (Nat.min_le_left _ _)) (ivs_all _) (by omega) (by rw [ivs_len, List.length_take]; simp; omega) (by rfl) fun s3 h3 a3 k3 n3 => ?_
  have nx3 := k3.next
  have K4 := K2.trans (k3.less (by omega))
  refine RG.step (Op1.assign (by rfl)) (by rfl) ?_
  refine RG.done ?_
  refine W.ret ?_
  exact leaf1 rfl (by rfl) ⟨by rw [← htk]; exact a3, K4.grow⟩
/-- The sums of all subsets, by their numbers. -/
def sumsL (xs : List Int) : List Int := xs.foldl (fun out x => out ++ out.map (· + x)) [0]
theorem sumsL_snoc (xs : List Int) (x : Int) : sumsL (xs ++ [x]) = sumsL xs ++ (sumsL xs).map (· + x) := by simp [sumsL]
theorem sumsL_take {xs : List Int} {i : Nat} (hi : i < xs.length) : sumsL (xs.take (i + 1)) = sumsL (xs.take i) ++ (sumsL (xs.take i)).map (· + xs.getD i 0) := by
  rw [List.take_succ, List.getElem?_eq_getElem hi, Option.toList_some, sumsL_snoc, gD hi]
theorem sumsL_len : ∀ n (xs : List Int), xs.length = n → (sumsL xs).length = 2 ^ n := by
  intro n
  induction n with
  | zero => intro xs h; rw [List.length_eq_zero_iff.1 h]; rfl
  | succ n ih =>
    intro xs h
    have hne : xs ≠ [] := fun e => by rw [e] at h; cases h
    rw [← List.dropLast_concat_getLast hne, sumsL_snoc, List.length_append, List.length_map, ih _ (by rw [List.length_dropLast, h]; rfl), Nat.pow_succ]; omega
theorem sumsL_range {xs : List Int} (hx : ∀ y ∈ xs, 0 ≤ y ∧ y ≤ 100000) : ∀ n, n ≤ xs.length → ∀ y ∈ sumsL (xs.take n), 0 ≤ y ∧ y ≤ 100000 * n := by
  intro n
  induction n with
  | zero => intro _ y hy; simp [sumsL] at hy; omega
  | succ n ih =>
    intro hn y hy
    rw [sumsL_take (by omega)] at hy
    have hb := getD_bounds hx (show n < xs.length by omega)
    rcases List.mem_append.1 hy with hy | hy
    · have := ih (by omega) y hy; omega
    · obtain ⟨z, hz, rfl⟩ := List.mem_map.1 hy
      have := ih (by omega) z hz; omega
theorem getD_app_left {xs ys : List Int} {k : Nat} (h : k < xs.length) : (xs ++ ys).getD k 0 = xs.getD k 0 := by
  rw [List.getD_eq_getElem?_getD, List.getD_eq_getElem?_getD, List.getElem?_append_left h]
theorem take_map_succ {S : List Int} {k : Nat} {x : Int} (h : k < S.length) : S ++ ((S.take (k + 1)).map (· + x)) = (S ++ (S.take k).map (· + x)) ++ [S.getD k 0 + x] := by
  rw [List.take_succ, List.getElem?_eq_getElem h, Option.toList_some, List.map_append, gD h, List.append_assoc]; rfl
theorem sums_walk {N : Nat} {h : Heap} {ad : Option Addr} {xs : List Int} {c : Nat} (hA : IntsA N h ad xs) (hl : xs.length ≤ 12) (hx : ∀ y ∈ xs, 0 ≤ y ∧ y ≤ 100000) :
    CW Try.prog primW 53 [.slice ad xs.length c] h fun v h' => Acc h.next h' v (ivs (sumsL xs)) ∧ Grow h h' := by
  have hA' := hA.top
  have K0 := KeepN.refl h.next h
  refine CW.intro (l := [(0, .slice ad xs.length c)]) rfl Try.func53 rfl (by rfl) ?_
  refine W.rs ?_
  refine RG.step (Op1.assign (by rfl)) (by rfl) ?_
  refine RG.done ?_
  refine W.rs ?_
  refine RG.step (Op1.lit1 Try.underlying22 sz3 zero3 rfl rfl (by rfl) rfl) (by rfl) ?_
  refine RG.abs fun h1 n1 e1 g1 => ?_
  have K2 := K0.trans (g1.keepN K0.next)
  have lte1 := Heap.get_lt e1
  refine RG.step (Op1.assign (by rfl)) (by rfl) ?_
  refine RG.done ?_
  refine W.seq ?_
  refine W.rs ?_
  refine RG.step (Op1.assign (by rfl)) (by rfl) ?_
  refine RG.done ?_
  refine W.block ?_
  refine W.loop (σ := Nat) (fun i a h2 => ∃ so, Has 34 [] [(0, .slice ad xs.length c), (3, so), (4, .int .i64 (i : Int))] a ∧ i ≤ xs.length ∧ Acc h.next h2 so (ivs (sumsL (xs.take i))) ∧ KeepN h.next h h2) (fun i => xs.length - i) ?_ (0) ?_
  · rintro i _ h2 ⟨so, ⟨base, rfl⟩, hi, hS, hK⟩
    obtain ⟨ado, rfl, hSI, _⟩ := hS.nums
    have nK := hK.next
    have hSl := sumsL_len i (xs.take i) (by rw [List.length_take]; omega)
    have hp := Nat.pow_le_pow_right (show 0 < 2 by omega) (show i ≤ 12 by omega)
    refine W.seq ?_
    refine W.rs ?_
    refine RG.step (Op1.move (by rfl)) (by rfl) ?_
    refine RG.step (Op1.move (by rfl)) (by rfl) ?_
    refine RG.step (Op1.len Try.underlying22 (by rfl) (by rfl)) (by rfl) ?_
    refine RG.step (Op1.lss (by rfl) (by rfl)) (by rfl) ?_
    refine RG.done ?_
    refine W.cases 11 (by rfl) (fun c3 => ?_) (fun c3 => ?_)
    · refine W.condT (by rfl) ?_
      refine W.skip ?_
      refine W.seq ?_
      refine W.block ?_
      refine W.rs ?_
      refine RG.step (Op1.move (by rfl)) (by rfl) ?_
      refine RG.step (Op1.len Try.underlying22 (by rfl) (by rfl)) (by rfl) ?_
      refine RG.step (Op1.assign (by rfl)) (by rfl) ?_
      refine RG.done ?_
      refine W.rs ?_
      refine RG.step (Op1.assign (by rfl)) (by rfl) ?_
      refine RG.done ?_
      refine W.block ?_
      refine W.loop (σ := Nat) (fun k a h3 => ∃ so, Has 34 [] [(0, .slice ad xs.length c), (3, so), (4, .int .i64 (i : Int)), (5, .int .i64 ((sumsL (xs.take i)).length : Int)), (6, .int .i64 (k : Int))] a ∧ k ≤ (sumsL (xs.take i)).length ∧ Acc h.next h3 so (ivs (sumsL (xs.take i) ++ ((sumsL (xs.take i)).take k).map (· + xs.getD i 0))) ∧ KeepN h.next h h3) (fun k => (sumsL (xs.take i)).length - k) ?_ (0) ?_
      · rintro k _ h3 ⟨so, ⟨base, rfl⟩, hk, hT, hK3⟩
        obtain ⟨ado2, rfl, hTI, _⟩ := hT.nums
        have nK3 := hK3.next
        have hTl : (sumsL (xs.take i) ++ ((sumsL (xs.take i)).take k).map (· + xs.getD i 0)).length = (sumsL (xs.take i)).length + k := by rw [List.length_append, List.length_map, List.length_take]; omega
        refine W.seq ?_
        refine W.rs ?_
        refine RG.step (Op1.move (by rfl)) (by rfl) ?_
        refine RG.step (Op1.move (by rfl)) (by rfl) ?_
        refine RG.step (Op1.lss (by rfl) (by rfl)) (by rfl) ?_
        refine RG.done ?_
        refine W.cases 18 (by rfl) (fun c4 => ?_) (fun c4 => ?_)
        · refine W.condT (by rfl) ?_
          refine W.skip ?_
          refine W.seq ?_
          refine W.block ?_
          refine W.drawn (σ := [0, 1, 2, 3, 4, 5, 6, 7, 8, 9, 10, 11, 12]) (by kernel_rfl) (by kernel_rfl) ?_
          refine RD.pure (by rfl) (by rfl) GOK.no (Op1.move (by rfl)) (by rfl) ?_
          refine RD.pure (by rfl) (by rfl) GOK.no (Op1.move (by rfl)) (by rfl) ?_
          refine RD.pure (by rfl) (by rfl) GOK.no (Op1.move (by rfl)) (by rfl) ?_
          refine RD.pure (by rfl) (by rfl) GOK.no (Op1.idxI hTI Try.underlying22 sz3 (by rfl) (by rfl) (by omega) (by omega)) (by rfl) ?_
          refine RD.read (C := fun h => cellAt h _ _ = some _) (by rfl) (by rfl) (by rfl) GOK.no (fun _ hC => Op1.load agg3 (by rfl) hC) (hTI.at (by omega) (by omega)) (simple_of (by rfl)) (by rfl) ?_
          refine RD.pure (by rfl) (by rfl) GOK.no (Op1.move (by rfl)) (by rfl) ?_
          refine RD.pure (by rfl) (by rfl) GOK.no (Op1.move (by rfl)) (by rfl) ?_
          refine RD.pure (by rfl) (by rfl) GOK.no (Op1.idxI (hA'.keepN hK3) Try.underlying22 sz3 (by rfl) (by rfl) (by omega) (by omega)) (by rfl) ?_
          refine RD.read (C := fun h => cellAt h _ _ = some _) (by rfl) (by rfl) (by rfl) GOK.no (fun _ hC => Op1.load agg3 (by rfl) hC) ((hA'.keepN hK3).at (by omega) (by omega)) (simple_of (by rfl)) (by rfl) ?_
          have b1 := sumsL_range hx i (by omega) ((sumsL (xs.take i)).getD k 0) (mem_getD.2 ⟨k, by omega, rfl⟩)
          have b2 := getD_bounds hx (show i < xs.length by omega)
          have b3 : (sumsL (xs.take i) ++ ((sumsL (xs.take i)).take k).map (· + xs.getD i 0)).getD (k : Int).toNat 0 = (sumsL (xs.take i)).getD k 0 := by rw [Int.toNat_natCast, getD_app_left (by omega)]
          have b4 : xs.getD (i : Int).toNat 0 = xs.getD i 0 := rfl
          refine RD.pure (by rfl) (by rfl) GOK.no (Op1.add (by rfl) (by rfl) (by rw [b3, b4]; omega)) (by rfl) ?_
          refine RD.make (by rfl) (by rfl) (by rfl) GOK.no (Op1.lit1 Try.underlying22 sz3 zero3 rfl rfl (by rfl) rfl) (by rfl) ?_
          refine RD.abs fun h5 n5 e5 g5 => ?_
          have K6 := hK3.trans (g5.keepN hK3.next)
          have lte5 := Heap.get_lt e5
          have hT4 := hT.grow g5
          refine RD.app (m := 2047) (pend2 := []) (by rfl) (by rfl) GOK.no (by kernel_rfl) (by rfl) (fun _ => by rfl) Try.underlying22 Try.underlying22 one3 (by rfl) (hT4) (by rfl) (Src.one e5) (rfl) (by omega) (by rw [ivs_len, hTl]; simp; omega) (fun h1 kk => by exact True.intro) fun s7 h7 a7 k7 n7 => ?_
          have nx7 := k7.next
          have K8 := K6.trans (k7.less (by omega))
          have a7x : Acc h.next h7 s7 (ivs (sumsL (xs.take i) ++ ((sumsL (xs.take i)).take (k + 1)).map (· + xs.getD i 0))) := by
            rw [take_map_succ (by omega), ivs_app]
            rw [Int.toNat_natCast, Int.toNat_natCast, getD_app_left (by omega)] at a7
            exact a7
          refine RD.pure (by rfl) (by rfl) GOK.no (Op1.assign (by rfl)) (by rfl) ?_
          refine RD.done ?_
          refine W.region ?_
          refine RG.step (Op1.move (by rfl)) (by rfl) ?_
          refine RG.step (Op1.add (by rfl) (by rfl) (by omega)) (by rfl) ?_
          refine RG.step (Op1.assign (by rfl)) (by rfl) ?_
          refine RG.done ?_
          exact loopQ_next (k + 1) (by omega) ⟨_, St_has _ ⟨rfl, rfl, rfl, rfl, rfl, trivial⟩, by omega, a7x, K8⟩
        · refine W.condF (by rfl) ?_
          refine W.exit ?_
          refine W.region ?_
          refine RG.step (Op1.move (by rfl)) (by rfl) ?_
          refine RG.step (Op1.add (by rfl) (by rfl) (by omega)) (by rfl) ?_
          refine RG.step (Op1.assign (by rfl)) (by rfl) ?_
          refine RG.done ?_
          exact loopQ_next (i + 1) (by omega) ⟨_, St_has _ ⟨rfl, rfl, rfl, trivial⟩, by omega, by rw [sumsL_take (by omega)]; rw [show ivs (sumsL (xs.take i) ++ ((sumsL (xs.take i)).take k).map (· + xs.getD i 0)) = ivs (sumsL (xs.take i) ++ (sumsL (xs.take i)).map (· + xs.getD i 0)) from by rw [List.take_of_length_le (show (sumsL (xs.take i)).length ≤ k by omega)]] at hT; exact hT, hK3⟩
      · exact ⟨_, St_has _ ⟨rfl, rfl, rfl, rfl, rfl, trivial⟩, Nat.zero_le _, by simpa using hS, hK⟩
    · refine W.condF (by rfl) ?_
      refine W.exit ?_
      refine W.rs ?_
      refine RG.step (Op1.move (by rfl)) (by rfl) ?_
      refine RG.step (Op1.assign (by rfl)) (by rfl) ?_
      refine RG.done ?_
      refine W.ret ?_
      exact leaf1 rfl (by rfl) ⟨by rw [show ivs (sumsL (xs.take i)) = ivs (sumsL xs) from by rw [List.take_of_length_le (by omega)]] at hS; exact hS, hK.grow⟩
  · exact ⟨_, St_has _ ⟨rfl, rfl, rfl, trivial⟩, Nat.zero_le _, .inr ⟨_, _, rfl, Nat.le_refl _, e1, .inl rfl⟩, K2⟩
/-- The places of the ones of a number. -/
def idxN (A n : Nat) : List Int := ((List.range n).filter fun j => A.testBit j).map (Nat.cast : Nat → Int)
theorem idxN_succ (A n : Nat) : idxN A (n + 1) = if A.testBit n then idxN A n ++ [(n : Int)] else idxN A n := by
  unfold idxN
  rw [List.range_succ, List.filter_append, List.map_append]
  cases h : A.testBit n <;> simp [h]
theorem idxN_stop {A i : Nat} (h : A < 2 ^ i) : ∀ k, idxN A (i + k) = idxN A i
  | 0 => rfl
  | k + 1 => by
    rw [← Nat.add_assoc, idxN_succ, Nat.testBit_lt_two_pow (Nat.lt_of_lt_of_le h (Nat.pow_le_pow_right (by omega) (by omega)))]
    exact idxN_stop h k
theorem idxN_len (A n : Nat) : (idxN A n).length ≤ n := by
  unfold idxN
  rw [List.length_map]
  exact Nat.le_trans (List.length_filter_le _ _) (by simp)
theorem bit_and (A i : Nat) : ((A / 2 ^ i &&& 1 : Nat) : Int) = 1 ↔ A.testBit i = true := by
  rw [Nat.and_one_is_mod, Nat.testBit_eq_decide_div_mod_eq]
  simp only [decide_eq_true_eq]
  omega
theorem indices_walk {h : Heap} {A : Nat} (hA : A < 4611686018427387904) :
    CW Try.prog primW 54 [.int .i64 (A : Int)] h fun v h' => (∃ a0, v = .slice (some a0) (idxN A 62).length (idxN A 62).length) ∧ Acc h.next h' v (ivs (idxN A 62)) ∧ Grow h h' := by
  have K0 := KeepN.refl h.next h
  refine CW.intro (l := [(0, .int .i64 (A : Int))]) rfl Try.func54 rfl (by rfl) ?_
  refine W.rs ?_
  refine RG.step (Op1.assign (by rfl)) (by rfl) ?_
  refine RG.done ?_
  refine W.rs ?_
  refine RG.step (Op1.lit0 Try.underlying22 sz3 zero3 rfl rfl) (by rfl) ?_
  refine RG.abs fun h1 n1 e1 g1 => ?_
  have K2 := K0.trans (g1.keepN K0.next)
  have lte1 := Heap.get_lt e1
  refine RG.step (Op1.assign (by rfl)) (by rfl) ?_
  refine RG.done ?_
  refine W.seq ?_
  refine W.rs ?_
  refine RG.step (Op1.assign (by rfl)) (by rfl) ?_
  refine RG.done ?_
  refine W.block ?_
  refine W.loop (σ := Nat) (fun i a h2 => ∃ a0, Has 22 [] [(0, .int .i64 (A : Int)), (3, .slice (some a0) (idxN A i).length (idxN A i).length), (4, .int .i64 (i : Int))] a ∧ i ≤ 62 ∧ Acc h.next h2 (.slice (some a0) (idxN A i).length (idxN A i).length) (ivs (idxN A i)) ∧ KeepN h.next h h2) (fun i => 63 - i) ?_ (0) ?_
  · rintro i _ h2 ⟨a0, ⟨base, rfl⟩, hi, hS, hK⟩
    have nK := hK.next
    have hd := Nat.div_le_self A (2 ^ i)
    have hil := idxN_len A i
    refine W.seq ?_
    refine W.rs ?_
    refine RG.step (Op1.move (by rfl)) (by rfl) ?_
    refine RG.step (Op1.move (by rfl)) (by rfl) ?_
    refine RG.step (Op1.shrN (by rfl) (by rfl) rfl rfl (by omega)) (by rfl) ?_
    refine RG.step (Op1.gtr (by rfl) (by rfl)) (by rfl) ?_
    refine RG.done ?_
    refine W.cases 9 (by rfl) (fun c3 => ?_) (fun c3 => ?_)
    · refine W.condT (by rfl) ?_
      refine W.skip ?_
      refine W.seq ?_
      refine W.block ?_
      refine W.rs ?_
      refine RG.step (Op1.move (by rfl)) (by rfl) ?_
      refine RG.step (Op1.move (by rfl)) (by rfl) ?_
      refine RG.step (Op1.shrN (by rfl) (by rfl) rfl rfl (by omega)) (by rfl) ?_
      refine RG.step (Op1.andN (B := 1) (by rfl) (by rfl) rfl rfl (by omega) (by omega)) (by rfl) ?_
      refine RG.step (Op1.eql (by rfl) (by rfl)) (by rfl) ?_
      refine RG.done ?_
      refine W.cases 16 (by rfl) (fun c4 => ?_) (fun c4 => ?_)
      · refine W.condT (by rfl) ?_
        refine W.region ?_
        refine RG.step (Op1.move (by rfl)) (by rfl) ?_
        refine RG.step (Op1.move (by rfl)) (by rfl) ?_
        refine RG.step (Op1.lit1 Try.underlying22 sz3 zero3 rfl rfl (by rfl) rfl) (by rfl) ?_
        refine RG.abs fun h5 n5 e5 g5 => ?_
        have K6 := hK.trans (g5.keepN hK.next)
        have lte5 := Heap.get_lt e5
        have hS4 := hS.grow g5
        refine RG.app Try.underlying22 Try.underlying22 one3 (by rfl) (hS4) (by rfl) (Src.one e5) (rfl) (by omega) (by rw [ivs_len]; simp; omega) (by rfl) fun s7 h7 a7 k7 n7 => ?_
        have nx7 := k7.next
        have K8 := K6.trans (k7.less (by omega))
        refine RG.step (Op1.assign (by rfl)) (by rfl) ?_
        refine RG.done ?_
        refine W.region ?_
        refine RG.step (Op1.move (by rfl)) (by rfl) ?_
        refine RG.step (Op1.add (by rfl) (by rfl) (by omega)) (by rfl) ?_
        refine RG.step (Op1.assign (by rfl)) (by rfl) ?_
        refine RG.done ?_
        have hb : A.testBit i = true := (bit_and A i).1 c4
        have hn := idxN_succ A i
        rw [hb, if_pos rfl] at hn
        have hi62 : i < 62 := by
          rcases Nat.lt_or_ge i 62 with h | h
          · exact h
          · have : A / 2 ^ i = 0 := Nat.div_eq_of_lt (Nat.lt_of_lt_of_le (show A < 2 ^ 62 by omega) (Nat.pow_le_pow_right (by omega) h))
            omega
        rw [← show ivs (idxN A i ++ [(i : Int)]) = ivs (idxN A i) ++ [.int .i64 (i : Int)] from ivs_app _ _, ← hn] at a7
        obtain ⟨a5, e5⟩ := a7.some (by rw [hn]; simp [ivs])
        rw [ivs_len] at e5
        subst e5
        exact loopQ_next (i + 1) (by omega) ⟨_, St_has _ ⟨rfl, rfl, rfl, trivial⟩, by omega, a7, K8⟩
      · refine W.condF (by rfl) ?_
        refine W.skip ?_
        refine W.region ?_
        refine RG.step (Op1.move (by rfl)) (by rfl) ?_
        refine RG.step (Op1.add (by rfl) (by rfl) (by omega)) (by rfl) ?_
        refine RG.step (Op1.assign (by rfl)) (by rfl) ?_
        refine RG.done ?_
        have hb : A.testBit i = false := by
          cases hb : A.testBit i with
          | false => rfl
          | true => exact absurd ((bit_and A i).2 hb) c4
        have hn := idxN_succ A i
        rw [hb, if_neg (by simp)] at hn
        have hi62 : i < 62 := by
          rcases Nat.lt_or_ge i 62 with h | h
          · exact h
          · have : A / 2 ^ i = 0 := Nat.div_eq_of_lt (Nat.lt_of_lt_of_le (show A < 2 ^ 62 by omega) (Nat.pow_le_pow_right (by omega) h))
            omega
        rw [← hn] at hS
        exact loopQ_next (i + 1) (by omega) ⟨_, St_has _ ⟨rfl, by rw [hn]; rfl, rfl, trivial⟩, by omega, hS, hK⟩
    · refine W.condF (by rfl) ?_
      refine W.exit ?_
      refine W.rs ?_
      refine RG.step (Op1.move (by rfl)) (by rfl) ?_
      refine RG.step (Op1.assign (by rfl)) (by rfl) ?_
      refine RG.done ?_
      refine W.ret ?_
      have h0 : A / 2 ^ i = 0 := by
        rcases Nat.eq_zero_or_pos (A / 2 ^ i) with h | h
        · exact h
        · exact absurd (Int.natCast_pos.2 h) c3
      have hlt : A < 2 ^ i := by
        rcases Nat.lt_or_ge A (2 ^ i) with h | h
        · exact h
        · have := Nat.div_pos h (Nat.two_pow_pos i); omega
      have e := idxN_stop hlt (62 - i)
      rw [show i + (62 - i) = 62 from by omega] at e
      refine leaf1 rfl (by rfl) ?_
      rw [e]
      exact ⟨⟨_, rfl⟩, hS, hK.grow⟩
  · exact ⟨_, St_has _ ⟨rfl, rfl, rfl, trivial⟩, by omega, (show Acc h.next h1 (.slice (some ⟨h.next, 0, none⟩) 0 0) [] from Acc.lit0 (Nat.le_refl _) e1), K2⟩
/-- The reference's Subset, one number of a set after the other. -/
def refStep (S : List Int) (total : Int) (st : Option (List Int) × Nat) (j : Nat) : Option (List Int) × Nat :=
  if S.getD j 0 = total then ((match st.1 with | none => some (idxN j 62) | some b => if lexB (idxN j 62) b then some (idxN j 62) else some b), st.2 + 1) else st
def refSt (S : List Int) (total : Int) (j : Nat) : Option (List Int) × Nat := (List.range j).foldl (refStep S total) (none, 0)
theorem refSt_succ (S : List Int) (total : Int) (j : Nat) : refSt S total (j + 1) = refStep S total (refSt S total j) j := by unfold refSt; rw [List.range_succ, List.foldl_append]; rfl
theorem refSt_le (S : List Int) (total : Int) : ∀ j, (refSt S total j).2 ≤ j
  | 0 => Nat.le_refl _
  | j + 1 => by
    have := refSt_le S total j
    rw [refSt_succ]
    unfold refStep
    split
    · exact Nat.succ_le_succ this
    · exact Nat.le_succ_of_le this
def BestR (N : Nat) (h : Heap) (sb : Value) : Option (List Int) → Prop
  | none => sb = .slice none 0 0
  | some l => (∃ a0, sb = .slice (some a0) l.length l.length) ∧ l.length ≤ 62 ∧ Acc N h sb (ivs l)
theorem BestR.grow {N : Nat} {h h' : Heap} {sb : Value} {l : Option (List Int)} (b : BestR N h sb l) (g : Grow h h') : BestR N h' sb l := by
  cases l with
  | none => exact b
  | some l => exact ⟨b.1, b.2.1, b.2.2.grow g⟩
theorem refsub_walk {N : Nat} {h : Heap} {ad : Option Addr} {xs : List Int} {c : Nat} {total : Int} (hA : IntsA N h ad xs) (hl : xs.length ≤ 12) (hx : ∀ y ∈ xs, 0 ≤ y ∧ y ≤ 100000) :
    CW Try.prog primW 24 [.slice ad xs.length c, .int .i64 total] h fun v h' => ∃ sb, v = .tuple #[sb, .int .i64 ((refSt (sumsL xs) total (sumsL xs).length).2 : Int)] ∧ BestR h.next h' sb (refSt (sumsL xs) total (sumsL xs).length).1 ∧ Grow h h' := by
  have hSl := sumsL_len xs.length xs rfl
  have hp := Nat.pow_le_pow_right (show 0 < 2 by omega) hl
  refine CW.intro (l := [(1, .int .i64 total), (0, .slice ad xs.length c)]) rfl Try.func24 rfl (by rfl) ?_
  refine W.rs ?_
  refine RG.step (Op1.assign (by rfl)) (by rfl) ?_
  refine RG.step (Op1.assign (by rfl)) (by rfl) ?_
  refine RG.done ?_
  refine W.rs ?_
  refine RG.step (Op1.move (by rfl)) (by rfl) ?_
  refine RG.call (by rfl) (by exact sums_walk hA hl hx) (by rfl) ?_
  rintro sS h2 ⟨hSS, gS⟩
  obtain ⟨ads, rfl, _, _⟩ := hSS.nums
  refine RG.step (Op1.assign (by rfl)) (by rfl) ?_
  refine RG.step (Op1.assign (by rfl)) (by rfl) ?_
  refine RG.done ?_
  refine W.rs ?_
  refine RG.step (Op1.assign (by rfl)) (by rfl) ?_
  refine RG.done ?_
  refine W.seq ?_
  refine W.rs ?_
  refine RG.step (Op1.assign (by rfl)) (by rfl) ?_
  refine RG.done ?_
  refine W.block ?_
  refine W.loop (σ := Nat) (fun j a h3 => ∃ sb, Has 39 [] [(1, .int .i64 total), (6, .slice ads (sumsL xs).length (sumsL xs).length), (7, .int .i64 ((refSt (sumsL xs) total j).2 : Int)), (8, sb), (9, .int .i64 (j : Int))] a ∧ j ≤ (sumsL xs).length ∧ Acc h.next h3 (.slice ads (sumsL xs).length (sumsL xs).length) (ivs (sumsL xs)) ∧ BestR h.next h3 sb (refSt (sumsL xs) total j).1 ∧ Grow h h3) (fun j => (sumsL xs).length - j) ?_ (0) ?_
  · rintro j _ h3 ⟨sb, ⟨base, rfl⟩, hj, hS3, hB, hG3⟩
    have hrl := refSt_le (sumsL xs) total j
    have hB0 := hB
    rcases hbest : (refSt (sumsL xs) total j).1 with _ | b
    · rw [hbest] at hB hB0
      obtain rfl : sb = .slice none 0 0 := hB
      refine W.seq ?_
      refine W.rs ?_
      refine RG.step (Op1.move (by rfl)) (by rfl) ?_
      refine RG.step (Op1.move (by rfl)) (by rfl) ?_
      refine RG.step (Op1.len Try.underlying22 (by rfl) (by rfl)) (by rfl) ?_
      refine RG.step (Op1.lss (by rfl) (by rfl)) (by rfl) ?_
      refine RG.done ?_
      refine W.cases 16 (by rfl) (fun c1 => ?_) (fun c1 => ?_)
      · refine W.condT (by rfl) ?_
        refine W.skip ?_
        refine W.seq ?_
        refine W.block ?_
        refine W.seq ?_
        refine W.rs ?_
        refine RG.step (Op1.move (by rfl)) (by rfl) ?_
        refine RG.step (Op1.move (by rfl)) (by rfl) ?_
        refine RG.step (Op1.idxI hS3.ia Try.underlying22 sz3 (by rfl) (by rfl) (by omega) (by omega)) (by rfl) ?_
        refine RG.step (Op1.load agg3 (by rfl) (hS3.ia.at (by omega) (by omega))) (by rfl) ?_
        refine RG.step (Op1.move (by rfl)) (by rfl) ?_
        refine RG.step (Op1.neq (by rfl) (by rfl)) (by rfl) ?_
        refine RG.done ?_
        refine W.cases 24 (by rfl) (fun c2 => ?_) (fun c2 => ?_)
        · refine W.condT (by rfl) ?_
          refine W.exit ?_
          refine W.region ?_
          refine RG.step (Op1.move (by rfl)) (by rfl) ?_
          refine RG.step (Op1.add (by rfl) (by rfl) (by omega)) (by rfl) ?_
          refine RG.step (Op1.assign (by rfl)) (by rfl) ?_
          refine RG.done ?_
          have k24 := c2
          rw [Int.toNat_natCast] at k24
          have e := refSt_succ (sumsL xs) total j
          rw [refStep, if_neg k24] at e
          rw [← hbest] at hB0
          exact loopQ_next (j + 1) (by omega) ⟨_, St_has _ ⟨rfl, rfl, by rw [e]; rfl, rfl, rfl, trivial⟩, by omega, hS3, by rw [e]; exact hB0, hG3⟩
        · refine W.condF (by rfl) ?_
          refine W.skip ?_
          refine W.rs ?_
          refine RG.step (Op1.move (by rfl)) (by rfl) ?_
          refine RG.step (Op1.add (by rfl) (by rfl) (by omega)) (by rfl) ?_
          refine RG.step (Op1.assign (by rfl)) (by rfl) ?_
          refine RG.done ?_
          refine W.rs ?_
          refine RG.step (Op1.move (by rfl)) (by rfl) ?_
          refine RG.call (by rfl) (by exact indices_walk (by omega)) (by rfl) ?_
          rintro _ h8 ⟨⟨a8, rfl⟩, hI8, g8⟩
          refine RG.step (Op1.assign (by rfl)) (by rfl) ?_
          refine RG.done ?_
          refine W.rs ?_
          refine RG.step (Op1.move (by rfl)) (by rfl) ?_
          refine RG.step (Op1.eqNil Try.underlying22 (by rfl) (by rfl)) (by rfl) ?_
          refine RG.step (Op1.move (by rfl)) (by rfl) ?_
          refine RG.not (by rfl) (by rfl) (by rfl) (by rfl) ?_
          refine RG.not (by rfl) (by rfl) (by rfl) (by rfl) ?_
          refine RG.not (by rfl) (by rfl) (by rfl) (by rfl) ?_
          refine RG.step (Op1.pickT (by rfl) (by rfl)) (by rfl) ?_
          refine RG.done ?_
          refine W.condT (by rfl) ?_
          refine W.region ?_
          refine RG.step (Op1.move (by rfl)) (by rfl) ?_
          refine RG.step (Op1.assign (by rfl)) (by rfl) ?_
          refine RG.done ?_
          refine W.region ?_
          refine RG.step (Op1.move (by rfl)) (by rfl) ?_
          refine RG.step (Op1.add (by rfl) (by rfl) (by omega)) (by rfl) ?_
          refine RG.step (Op1.assign (by rfl)) (by rfl) ?_
          refine RG.done ?_
          have k24 := c2
          rw [Int.toNat_natCast] at k24
          have e := refSt_succ (sumsL xs) total j
          rw [refStep, if_pos (Decidable.not_not.1 k24), hbest] at e
          simp only at e
          exact loopQ_next (j + 1) (by omega) ⟨_, St_has _ ⟨rfl, rfl, by rw [e]; rfl, rfl, rfl, trivial⟩, by omega, hS3.grow g8, by rw [e]; exact ⟨⟨_, rfl⟩, idxN_len _ _, hI8.less hG3.next⟩, hG3.trans g8⟩
      · refine W.condF (by rfl) ?_
        refine W.exit ?_
        refine W.rs ?_
        refine RG.step (Op1.move (by rfl)) (by rfl) ?_
        refine RG.step (Op1.move (by rfl)) (by rfl) ?_
        refine RG.step (Op1.assign (by rfl)) (by rfl) ?_
        refine RG.step (Op1.assign (by rfl)) (by rfl) ?_
        refine RG.done ?_
        refine W.ret ?_
        have hjj : j = (sumsL xs).length := by omega
        rw [← hbest] at hB0
        subst hjj
        exact leaf2 rfl (by rfl) (by rfl) ⟨_, rfl, hB0, hG3⟩
    · rw [hbest] at hB hB0
      obtain ⟨⟨a0, rfl⟩, hbl, hbA⟩ := hB
      refine W.seq ?_
      refine W.rs ?_
      refine RG.step (Op1.move (by rfl)) (by rfl) ?_
      refine RG.step (Op1.move (by rfl)) (by rfl) ?_
      refine RG.step (Op1.len Try.underlying22 (by rfl) (by rfl)) (by rfl) ?_
      refine RG.step (Op1.lss (by rfl) (by rfl)) (by rfl) ?_
      refine RG.done ?_
      refine W.cases 16 (by rfl) (fun c3 => ?_) (fun c3 => ?_)
      · refine W.condT (by rfl) ?_
        refine W.skip ?_
        refine W.seq ?_
        refine W.block ?_
        refine W.seq ?_
        refine W.rs ?_
        refine RG.step (Op1.move (by rfl)) (by rfl) ?_
        refine RG.step (Op1.move (by rfl)) (by rfl) ?_
        refine RG.step (Op1.idxI hS3.ia Try.underlying22 sz3 (by rfl) (by rfl) (by omega) (by omega)) (by rfl) ?_
        refine RG.step (Op1.load agg3 (by rfl) (hS3.ia.at (by omega) (by omega))) (by rfl) ?_
        refine RG.step (Op1.move (by rfl)) (by rfl) ?_
        refine RG.step (Op1.neq (by rfl) (by rfl)) (by rfl) ?_
        refine RG.done ?_
        refine W.cases 24 (by rfl) (fun c4 => ?_) (fun c4 => ?_)
        · refine W.condT (by rfl) ?_
          refine W.exit ?_
          refine W.region ?_
          refine RG.step (Op1.move (by rfl)) (by rfl) ?_
          refine RG.step (Op1.add (by rfl) (by rfl) (by omega)) (by rfl) ?_
          refine RG.step (Op1.assign (by rfl)) (by rfl) ?_
          refine RG.done ?_
          have k24 := c4
          rw [Int.toNat_natCast] at k24
          have e := refSt_succ (sumsL xs) total j
          rw [refStep, if_neg k24] at e
          rw [← hbest] at hB0
          exact loopQ_next (j + 1) (by omega) ⟨_, St_has _ ⟨rfl, rfl, by rw [e]; rfl, rfl, rfl, trivial⟩, by omega, hS3, by rw [e]; exact hB0, hG3⟩
        · refine W.condF (by rfl) ?_
          refine W.skip ?_
          refine W.rs ?_
          refine RG.step (Op1.move (by rfl)) (by rfl) ?_
          refine RG.step (Op1.add (by rfl) (by rfl) (by omega)) (by rfl) ?_
          refine RG.step (Op1.assign (by rfl)) (by rfl) ?_
          refine RG.done ?_
          refine W.rs ?_
          refine RG.step (Op1.move (by rfl)) (by rfl) ?_
          refine RG.call (by rfl) (by exact indices_walk (by omega)) (by rfl) ?_
          rintro _ h8 ⟨⟨a8, rfl⟩, hI8, g8⟩
          refine RG.step (Op1.assign (by rfl)) (by rfl) ?_
          refine RG.done ?_
          refine W.rs ?_
          refine RG.step (Op1.move (by rfl)) (by rfl) ?_
          refine RG.step (Op1.eqNil Try.underlying22 (by rfl) (by rfl)) (by rfl) ?_
          refine RG.step (Op1.move (by rfl)) (by rfl) ?_
          refine RG.gd (by rfl) (by rfl) (Op1.move (by rfl)) (by rfl) ?_
          refine RG.gd (by rfl) (by rfl) (Op1.move (by rfl)) (by rfl) ?_
          refine RG.callPG (by rfl) (by rfl) (by rfl) (by exact before_walk hI8.ia (hbA.grow g8).ia (by have := idxN_len j 62; omega) (by omega)) (by rfl) ?_
          refine RG.step (Op1.pickF (by rfl) (by rfl)) (by rfl) ?_
          refine RG.done ?_
          refine W.casesB 35 (by rfl) (fun c5 => ?_) (fun c5 => ?_)
          · refine W.condT (by rfl) ?_
            refine W.region ?_
            refine RG.step (Op1.move (by rfl)) (by rfl) ?_
            refine RG.step (Op1.assign (by rfl)) (by rfl) ?_
            refine RG.done ?_
            refine W.region ?_
            refine RG.step (Op1.move (by rfl)) (by rfl) ?_
            refine RG.step (Op1.add (by rfl) (by rfl) (by omega)) (by rfl) ?_
            refine RG.step (Op1.assign (by rfl)) (by rfl) ?_
            refine RG.done ?_
            have k24 := c4
            rw [Int.toNat_natCast] at k24
            have e := refSt_succ (sumsL xs) total j
            rw [refStep, if_pos (Decidable.not_not.1 k24), hbest] at e
            simp only at e
            rw [if_pos c5] at e
            exact loopQ_next (j + 1) (by omega) ⟨_, St_has _ ⟨rfl, rfl, by rw [e]; rfl, rfl, rfl, trivial⟩, by omega, hS3.grow g8, by rw [e]; exact ⟨⟨_, rfl⟩, idxN_len _ _, hI8.less hG3.next⟩, hG3.trans g8⟩
          · refine W.condF (by rfl) ?_
            refine W.skip ?_
            refine W.region ?_
            refine RG.step (Op1.move (by rfl)) (by rfl) ?_
            refine RG.step (Op1.add (by rfl) (by rfl) (by omega)) (by rfl) ?_
            refine RG.step (Op1.assign (by rfl)) (by rfl) ?_
            refine RG.done ?_
            have k24 := c4
            rw [Int.toNat_natCast] at k24
            have e := refSt_succ (sumsL xs) total j
            rw [refStep, if_pos (Decidable.not_not.1 k24), hbest] at e
            simp only at e
            rw [if_neg (by rw [c5]; simp)] at e
            exact loopQ_next (j + 1) (by omega) ⟨_, St_has _ ⟨rfl, rfl, by rw [e]; rfl, rfl, rfl, trivial⟩, by omega, hS3.grow g8, by rw [e]; exact hB0.grow g8, hG3.trans g8⟩
      · refine W.condF (by rfl) ?_
        refine W.exit ?_
        refine W.rs ?_
        refine RG.step (Op1.move (by rfl)) (by rfl) ?_
        refine RG.step (Op1.move (by rfl)) (by rfl) ?_
        refine RG.step (Op1.assign (by rfl)) (by rfl) ?_
        refine RG.step (Op1.assign (by rfl)) (by rfl) ?_
        refine RG.done ?_
        refine W.ret ?_
        have hjj : j = (sumsL xs).length := by omega
        rw [← hbest] at hB0
        subst hjj
        exact leaf2 rfl (by rfl) (by rfl) ⟨_, rfl, hB0, hG3⟩
  · exact ⟨_, St_has _ ⟨rfl, rfl, rfl, rfl, rfl, trivial⟩, Nat.zero_le _, hSS, rfl, gS⟩
end Go.Proofs.Ytekhhjcbjaegeaa
