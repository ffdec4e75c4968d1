/- Walks: subsets, Ways. -/
import Derived.Test.YtekhhjcbjaegeaaExtend
set_option linter.all false
set_option maxRecDepth 100000
set_option maxHeartbeats 4000000
namespace Go.Proofs.Ytekhhjcbjaegeaa
open Go Go.AM
/-- All subsets of some weights. -/
def subs (w : List Int) : List Item := subsE w 0 ([], 0)
theorem abuild0 : abuild Try.prog 68 [] = some (.agg #[.slice none 0 0, .int .i64 0]) := by kernel_rfl
theorem Op1.build0 {base : Tr Value} {n : Nat} {ms : List Nat} {l : Env} {h : Heap} {d : Option Tmp} {ty : TypeId} {pos : String} {after : Array Edge} {g : Option (Nat × Bool)} :
    Op1 Try.prog primW ⟨d, .build 68 #[], ty, pos, after, g⟩ (St base n ms l) h (.agg #[.slice none 0 0, .int .i64 0]) h :=
  .of (by simp only [AM.aop, aparts, Option.bind_some, Option.map_some, abuild0])
/-- What the subsets' generator needs. -/
def SubsPre (N1 b : Nat) (ad : Option Addr) (w : List Int) (c : Nat) (M : Nat → Prop) (h : Heap) : Prop := h.get b = some (.cells [.slice ad w.length c]) ∧ IntsA N1 h ad w ∧ (w ≠ [] → ¬ M (blkA ad))
theorem subs_gen {N1 b : Nat} {ad : Option Addr} {w : List Int} {c : Nat} (hwl : w.length ≤ 4000000) (hw0 : ∀ y ∈ w, 0 ≤ y ∧ y ≤ 100000) : GenOK Try.prog primW RepS 66 #[] #[.pointer (some ⟨b, 0, none⟩)] (subs w) (SubsPre N1 b ad w c) := by
  intro σ M N Y f I ok F st h hN hP hI hok
  obtain ⟨hb, hw, hM⟩ := hP
  show CW Try.prog primW 66 [Y, .pointer (some ⟨b, 0, none⟩)] h _
  refine CW.intro (l := [(1, .pointer (some ⟨b, 0, none⟩)), (0, Y)]) rfl Try.func66 rfl (by rfl) ?_
  refine W.region ?_
  refine RG.step (Op1.load agg22 (by rfl) (cellAt_of hb (by rfl))) (by rfl) ?_
  refine RG.step (Op1.build0) (by rfl) ?_
  refine RG.step (Op1.move (by rfl)) (by rfl) ?_
  refine RG.call (by rfl) (by exact extend_walk F hwl hw0 hM w.length 0 (by omega) ([], 0) st h (.slice none 0 0) hw hN (Acc.nil _ _) (fun _ => rfl) (fun y e => by cases e) (Nat.zero_le _) (by simp) hI hok) (by rfl) ?_
  rintro _ h2 ⟨rfl, hI2, hG2⟩
  refine RG.done ?_
  exact leaf0n rfl ⟨hI2, hG2⟩
theorem subsets_walk {h : Heap} {s : Value} (hs : s.cells = #[s]) : CW Try.prog primW 42 [s] h fun v h' => v = .func (.func 66) #[] #[.pointer (some ⟨h.next, 0, none⟩)] ∧ h'.next = h.next + 1 ∧ h'.get h.next = some (.cells [s]) ∧ Grow h h' := by
  refine CW.intro (l := [(0, s)]) rfl Try.func42 rfl (by rfl) ?_
  refine W.rs ?_
  refine RG.step (Op1.box (by rfl)) (by rfl) ?_
  refine RG.abs fun h1 n1 e1 g1 => ?_
  rw [hs] at e1
  refine RG.step (Op1.assign (by rfl)) (by rfl) ?_
  refine RG.done ?_
  refine W.rs ?_
  refine RG.step (Op1.makeFunc (by rfl) (by rfl)) (by rfl) ?_
  refine RG.step (Op1.assign (by rfl)) (by rfl) ?_
  refine RG.done ?_
  refine W.ret ?_
  exact leaf1 rfl (by rfl) ⟨rfl, n1, e1, g1⟩
/-- How many subsets have a sum. -/
def waysN (w : List Int) (sum : Int) : Nat := (subs w).countP fun x => decide (x.2 = sum)
def waysF (sum : Int) (st : Nat) (x : Item) : Nat × Bool := (if x.2 = sum then st + 1 else st, true)
theorem waysF_fold (sum : Int) : ∀ (l : List Item) (st : Nat), foldS (waysF sum) l st = (st + l.countP fun x => decide (x.2 = sum), true)
  | [], st => rfl
  | x :: l, st => by
    simp only [foldS, waysF, List.countP_cons]
    rw [waysF_fold sum l]
    by_cases h : x.2 = sum <;> simp [h] <;> omega
theorem waysF_ok (sum : Int) : ∀ (l : List Item) (st : Nat), st + l.length ≤ 4611686018427387904 → AllOk (waysF sum) (fun st => st < 4611686018427387904) l st
  | [], st, _ => trivial
  | x :: l, st, h => by
    simp only [List.length_cons] at h
    refine ⟨by omega, fun _ => waysF_ok sum l _ ?_⟩
    simp only [waysF]
    split <;> omega
theorem subsF_len : ∀ (w : List Int) (i : Int) (x : Item), (subsF w i x).length + 1 = 2 ^ w.length
  | [], i, x => rfl
  | y :: w, i, x => by
    have h1 := subsF_len w (i + 1) (x.1 ++ [i], x.2 + y)
    have h2 := subsF_len w (i + 1) x
    simp only [subsF, List.length_cons, List.length_append, Nat.pow_succ]
    omega
theorem subs_len (w : List Int) : (subs w).length = 2 ^ w.length := by
  have := subsF_len w 0 ([], 0)
  simp only [subs, subsE, List.length_cons]
  omega
theorem checkV_len {xs : List Int} {most : Int} (h : checkV xs most = 0) : xs.length ≤ most := by
  unfold checkV at h
  split at h
  · cases h
  · omega
theorem totalV_check {xs : List Int} {most sum : Int} (h : totalV xs most sum = 0) : checkV xs most = 0 := by
  unfold totalV at h
  split at h
  · cases h
  · exact h
/-- Weights that 'check' lets through are in their range. -/
theorem checkV_range {xs : List Int} {most : Int} (h : checkV xs most = 0) : ∀ y ∈ xs, 0 ≤ y ∧ y ≤ 100000 := by
  unfold checkV at h
  split at h
  · cases h
  split at h
  · cases h
  next h1 =>
  split at h
  next h2 =>
    have hne : xs ≠ [] := fun e => h1 (.inl e)
    have hf : ¬ xs.getD 0 0 < 1 := fun e => h1 (.inr (.inl e))
    have hl : ¬ 100000 < xs.getD (xs.length - 1) 0 := fun e => h1 (.inr (.inr e))
    have up : ∀ i, i < xs.length → xs.getD 0 0 ≤ xs.getD i 0 := by
      intro i
      induction i with
      | zero => intro _; omega
      | succ i ih => intro hi; have := h2 i (by omega); have := ih (by omega); omega
    have dn : ∀ k i, i + k + 1 = xs.length → xs.getD i 0 ≤ xs.getD (xs.length - 1) 0 := by
      intro k
      induction k with
      | zero => intro i hi; rw [show i = xs.length - 1 from by omega]; omega
      | succ k ih => intro i hi; have := h2 i (by omega); have := ih (i + 1) (by omega); omega
    intro y hy
    obtain ⟨i, hi, rfl⟩ := mem_getD.1 hy
    have := up i hi
    have := dn (xs.length - 1 - i) i (by omega)
    omega
  · cases h
theorem ways_walk {N : Nat} {h : Heap} {ad : Option Addr} {xs : List Int} {c : Nat} {sum : Int} (hA : IntsA N h ad xs) (hl : xs.length < 4611686018427387904) :
    CW Try.prog primW 23 [.slice ad xs.length c, .int .i64 sum] h fun v h' => v = .tuple #[.int .i64 (if totalV xs 12 sum = 0 then (waysN xs sum : Int) else 0), .int .i64 (totalV xs 12 sum)] ∧ Grow h h' := by
  have hA' := hA.top
  have K0 := KeepN.refl h.next h
  refine CW.intro (l := [(1, .int .i64 sum), (0, .slice ad xs.length c)]) rfl Try.func23 rfl (by rfl) ?_
  refine W.rs ?_
  refine RG.step (Op1.box (by rfl)) (by rfl) ?_
  refine RG.abs fun h1 n1 e1 g1 => ?_
  have K2 := K0.trans (g1.keepN K0.next)
  have lte1 := Heap.get_lt e1
  
  refine RG.step (Op1.assign (by rfl)) (by rfl) ?_
  refine RG.step (Op1.assign (by rfl)) (by rfl) ?_
  refine RG.done ?_
  refine W.seq ?_
  refine W.rs ?_
  refine RG.step (Op1.move (by rfl)) (by rfl) ?_
  refine RG.step (Op1.load agg3 (by rfl) (cellAt_of e1 (by rfl))) (by rfl) ?_
  refine RG.callP (by rfl) (by exact total_walk (hA'.keepN K2) hl) (by rfl) ?_
  refine RG.step (Op1.assign (by rfl)) (by rfl) ?_
  refine RG.done ?_
  refine W.rs ?_
  refine RG.step (Op1.move (by rfl)) (by rfl) ?_
  refine RG.step (Op1.neq (by rfl) (by rfl)) (by rfl) ?_
  refine RG.done ?_
  refine W.cases 13 (by rfl) (fun c3 => ?_) (fun c3 => ?_)
  · refine W.condT (by rfl) ?_
    refine W.rs ?_
    refine RG.step (Op1.move (by rfl)) (by rfl) ?_
    refine RG.step (Op1.assign (by rfl)) (by rfl) ?_
    refine RG.step (Op1.assign (by rfl)) (by rfl) ?_
    refine RG.done ?_
    refine W.ret ?_
    refine leaf2 rfl (by rfl) (by rfl) ⟨?_, K2.grow⟩
    rw [if_neg c3]
  · refine W.condF (by rfl) ?_
    refine W.skip ?_
    refine W.rs ?_
    refine RG.step (Op1.alloc zero3 (by kernel_rfl)) (by rfl) ?_
    refine RG.abs fun h4 n4 e4 g4 => ?_
    have e5 := g4.get e1
    have K6 := K2.trans (g4.keepN K2.next)
    have lte4 := Heap.get_lt e4
    
    refine RG.step0 (Op1.store sz3 (by rfl) (by rfl) e4 (by rfl) (Nat.le_refl _)) ?_
    refine RG.absPut e4 fun h7 n7 e7 o7 => ?_
    have e8 := (o7 _ (by omega)).trans e5
    have K9 := K6.trans (KeepN.put n7 o7 (by omega))
    refine RG.done ?_
    refine W.seq ?_
    refine W.rs ?_
    refine RG.step (Op1.move (by rfl)) (by rfl) ?_
    refine RG.call (by rfl) (by exact subsets_walk rfl) (by rfl) ?_
    rintro _ h8 ⟨rfl, nS, eS, gS⟩
    have e10 := gS.get e8
    have e11 := gS.get e7
    have K12 := K9.trans (gS.keepN K9.next)
    have lteS := Heap.get_lt eS
    
    refine RG.done ?_
    refine W.block ?_
    have hz : totalV xs 12 sum = 0 := Decidable.not_not.1 c3
    have hx := checkV_range (totalV_check hz)
    have hlen : xs.length ≤ 12 := by have := checkV_len (totalV_check hz); omega
    refine W.rangeG (subs_gen (N1 := h.next) (b := h7.next) (ad := ad) (w := xs) (c := c) (by omega) hx) (0) (waysF sum) (fun st => st < 4611686018427387904) (fun q (st : Nat) h' => q = true ∧ h'.get h.next = some (.cells [.int .i64 sum]) ∧ h'.get h1.next = some (.cells [.int .i64 (st : Int)])) (fun b => b = h1.next) (by rfl) (by rfl) (fun b hb => by subst hb; omega) (fun h2 M hM g => ⟨g.get eS, (hA'.keepN K12).grow g, fun hne hb => by have := hA'.blk hne; rcases hM _ hb with hb | hb | hb <;> omega⟩) (fun h2 g => ⟨rfl, g.get e10, g.get e11⟩) (fun q st h1 h2 hJ b2 => ⟨hJ.1, (b2.old _ (Heap.get_lt hJ.2.1) (by omega) (by omega)).trans hJ.2.1, (b2.old _ (Heap.get_lt hJ.2.2) (by omega) (by omega)).trans hJ.2.2⟩) ?_ (waysF_ok sum _ _ (by rw [subs_len]; have := Nat.pow_le_pow_right (show 0 < 2 by omega) hlen; omega)) ?_
    · intro st hb1 v item hk hJ hn hR
      obtain ⟨s, rfl, hS⟩ := hR
      obtain ⟨ad2, rfl, _, _⟩ := hS.nums
      obtain ⟨_, j3, j7⟩ := hJ
      have lj3 := Heap.get_lt j3
      have lj7 := Heap.get_lt j7
      have Ka := KeepN.refl hb1.next hb1
      refine W.region ?_
      refine RG.step (Op1.alloc zero68 (by kernel_rfl)) (by rfl) ?_
      refine RG.abs fun h13 n13 e13 g13 => ?_
      have e14 := g13.get j3
      have e15 := g13.get j7
      have K16 := Ka.trans (g13.keepN Ka.next)
      have lte13 := Heap.get_lt e13
      refine RG.step0 (Op1.store sz68 (by rfl) (by rfl) e13 (by rfl) (Nat.le_refl _)) ?_
      refine RG.absPut e13 fun h17 n17 e17 o17 => ?_
      have e18 := (o17 _ (by omega)).trans e14
      have e19 := (o17 _ (by omega)).trans e15
      have K20 := K16.trans (KeepN.put n17 o17 (by omega))
      refine RG.done ?_
      refine ⟨rfl, K20.grow.but, fun hb9 nb9 ob9 => ?_⟩
      have e21 := (ob9 _ (by omega)).trans e18
      have e22 := (ob9 _ (by omega)).trans e19
      have e23 := (ob9 _ (by omega)).trans e17
      have Gb := GrowBut.refl (fun b => b = h1.next) hb9
      refine W.block ?_
      refine W.rs ?_
      refine RG.step (Op1.field Try.underlying68 (by rfl) (by rfl) (by rfl) (by rfl)) (by rfl) ?_
      refine RG.step (Op1.load agg3 (by rfl) (cellAt_of e23 (by rfl))) (by rfl) ?_
      refine RG.step (Op1.load agg3 (by rfl) (cellAt_of e21 (by rfl))) (by rfl) ?_
      refine RG.step (Op1.eql (by rfl) (by rfl)) (by rfl) ?_
      refine RG.done ?_
      refine W.cases 21 (by rfl) (fun c24 => ?_) (fun c24 => ?_)
      · refine W.condT (by rfl) ?_
        refine W.region ?_
        refine RG.step (Op1.load agg3 (by rfl) (cellAt_of e22 (by rfl))) (by rfl) ?_
        refine RG.step (Op1.add (by rfl) (by rfl) (by omega)) (by rfl) ?_
        refine RG.step0 (Op1.store sz3 (by rfl) (by rfl) e22 (by rfl) (Nat.le_refl _)) ?_
        refine RG.absPut e22 fun h25 n25 e25 o25 => ?_
        have e26 := (o25 _ (by omega)).trans e21
        have e27 := (o25 _ (by omega)).trans e23
        have G28 := Gb.trans (GrowBut.put n25 o25 (rfl))
        refine RG.done ?_
        refine ⟨rfl, G28, rfl, e26, ?_⟩
        rw [waysF, if_pos c24]
        exact e25
      · refine W.condF (by rfl) ?_
        refine W.skip ?_
        refine ⟨rfl, Gb, rfl, e21, ?_⟩
        rw [waysF, if_neg c24]
        exact e22
      
    · intro hx4 hJ4 hG4 hm4 hn4
      obtain ⟨_, j3, j7⟩ := hJ4
      have K4 := K12.trans (hG4.keepN K12.next (fun b hb => by subst hb; omega))
      refine ⟨fun hend => ?_, fun hend => ?_⟩
      · refine W.rs ?_
        refine RG.step (Op1.load agg3 (by rfl) (cellAt_of j7 (by rfl))) (by rfl) ?_
        refine RG.step (Op1.assign (by rfl)) (by rfl) ?_
        refine RG.step (Op1.assign (by rfl)) (by rfl) ?_
        refine RG.done ?_
        refine W.ret ?_
        refine leafM2 (.inr rfl) hm4 rfl (by rfl) (by rfl) fun h5 T5 => ⟨?_, (K4.trans (T5.keepN (by omega))).grow⟩
        rw [hz, if_pos rfl, waysF_fold, Nat.zero_add]; rfl
      · rw [waysF_fold] at hend; cases hend
end Go.Proofs.Ytekhhjcbjaegeaa
