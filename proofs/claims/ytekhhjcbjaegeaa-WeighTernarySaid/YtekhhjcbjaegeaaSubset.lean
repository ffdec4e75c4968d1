/- Walks: Subset. -/
import Derived.Test.YtekhhjcbjaegeaaFirst
set_option linter.all false
set_option maxRecDepth 100000
set_option maxHeartbeats 4000000
namespace Go.Proofs.Ytekhhjcbjaegeaa
open Go Go.AM
theorem subset1_walk {h : Heap} {ad : Option Addr} {k b : Nat} {m sum : Int} (hb : h.get b = some (.cells [.int .i64 sum])) :
    CW Try.prog primW 56 [.agg #[.slice ad k k, .int .i64 m], .pointer (some ⟨b, 0, none⟩)] h fun v h' => v = .bool (decide (m = sum)) ∧ Grow h h' := by
  have K0 := KeepN.refl h.next h
  have lb := Heap.get_lt hb
  refine CW.intro (l := [(1, .pointer (some ⟨b, 0, none⟩)), (0, .agg #[.slice ad k k, .int .i64 m])]) rfl Try.func56 rfl (by rfl) ?_
  refine W.rs ?_
  refine RG.step (Op1.box (by rfl)) (by rfl) ?_
  refine RG.abs fun h1 n1 e1 g1 => ?_
  have e2 := g1.get hb
  have K3 := K0.trans (g1.keepN K0.next)
  have lte1 := Heap.get_lt e1
  refine RG.step (Op1.assign (by rfl)) (by rfl) ?_
  refine RG.done ?_
  refine W.rs ?_
  refine RG.step (Op1.field Try.underlying68 (by rfl) (by rfl) (by rfl) (by rfl)) (by rfl) ?_
  refine RG.step (Op1.load agg3 (by rfl) (cellAt_of e1 (by rfl))) (by rfl) ?_
  refine RG.step (Op1.load agg3 (by rfl) (cellAt_of e2 (by rfl))) (by rfl) ?_
  refine RG.step (Op1.eql (by rfl) (by rfl)) (by rfl) ?_
  refine RG.step (Op1.assign (by rfl)) (by rfl) ?_
  refine RG.done ?_
  refine W.ret ?_
  exact leaf1 rfl (by rfl) ⟨rfl, K3.grow⟩
def subsetP (sum : Int) (x : Item) : Bool := decide (x.2 = sum)
def subsetG (sum : Int) (st : Unit) (x : Item) : Unit × Bool := ((), decide (x.2 = sum))
theorem firstF_find {α : Type} (p : α → Bool) : ∀ l : List α, (foldS (firstF fun (_ : Unit) x => ((), p x)) l ((), none)).1.2 = l.find? p
  | [] => rfl
  | x :: l => by
    simp only [foldS, firstF, List.find?_cons]
    cases h : p x with
    | true => rfl
    | false => exact firstF_find p l
theorem AllOk_true {σ α : Type} (f : σ → α → σ × Bool) (ok : σ → Prop) (h : ∀ s, ok s) : ∀ (l : List α) (st : σ), AllOk f ok l st
  | [], _ => trivial
  | x :: l, st => ⟨h st, fun _ => AllOk_true f ok h l _⟩
def SubsetR (xs : List Int) (sum : Int) (N : Nat) (h : Heap) (sv : Value) (e : Int) : Prop :=
  (totalV xs 12 sum ≠ 0 ∧ sv = .slice none 0 0 ∧ e = totalV xs 12 sum) ∨ (totalV xs 12 sum = 0 ∧ (subs xs).find? (subsetP sum) = none ∧ sv = .slice none 0 0 ∧ e = 5) ∨
  (totalV xs 12 sum = 0 ∧ ∃ x, (subs xs).find? (subsetP sum) = some x ∧ Acc N h sv (ivs x.1) ∧ e = 0)
theorem subset_walk {N : Nat} {h : Heap} {ad : Option Addr} {xs : List Int} {c : Nat} {sum : Int} (hA : IntsA N h ad xs) (hl : xs.length < 4611686018427387904) :
    CW Try.prog primW 22 [.slice ad xs.length c, .int .i64 sum] h fun v h' => Grow h h' ∧ ∃ sv e, v = .tuple #[sv, .int .i64 e] ∧ SubsetR xs sum h.next h' sv e := by
  have hA' := hA.top
  have K0 := KeepN.refl h.next h
  refine CW.intro (l := [(1, .int .i64 sum), (0, .slice ad xs.length c)]) rfl Try.func22 rfl (by rfl) ?_
  refine W.rs ?_
  refine RG.step (Op1.box (by rfl)) (by rfl) ?_
  refine RG.abs fun h1 n1 e1 g1 => ?_
  have K2 := K0.trans (g1.keepN K0.next)
  have lte1 := Heap.get_lt e1
  
  refine RG.step (Op1.assign (by rfl)) (by rfl) ?_
  refine RG.step (Op1.assign (by rfl)) (by rfl) ?_
  refine RG.done ?_
  refine W.seq ?_
  refine W.rs ?_
  refine RG.step (Op1.move (by rfl)) (by rfl) ?_
  refine RG.step (Op1.load agg3 (by rfl) (cellAt_of e1 (by rfl))) (by rfl) ?_
  refine RG.callP (by rfl) (by exact total_walk (hA'.keepN K2) hl) (by rfl) ?_
  refine RG.step (Op1.assign (by rfl)) (by rfl) ?_
  refine RG.done ?_
  refine W.rs ?_
  refine RG.step (Op1.move (by rfl)) (by rfl) ?_
  refine RG.step (Op1.neq (by rfl) (by rfl)) (by rfl) ?_
  refine RG.done ?_
  refine W.cases 13 (by rfl) (fun c3 => ?_) (fun c3 => ?_)
  · refine W.condT (by rfl) ?_
    refine W.rs ?_
    refine RG.step (Op1.move (by rfl)) (by rfl) ?_
    refine RG.step (Op1.assign (by rfl)) (by rfl) ?_
    refine RG.step (Op1.assign (by rfl)) (by rfl) ?_
    refine RG.done ?_
    refine W.ret ?_
    exact leaf2 rfl (by rfl) (by rfl) ⟨K2.grow, _, _, rfl, .inl ⟨c3, rfl, rfl⟩⟩
  · refine W.condF (by rfl) ?_
    refine W.skip ?_
    refine W.rs ?_
    have hz : totalV xs 12 sum = 0 := Decidable.not_not.1 c3
    have hx := checkV_range (totalV_check hz)
    have hlen : xs.length ≤ 12 := by have := checkV_len (totalV_check hz); omega
    refine RG.step (Op1.move (by rfl)) (by rfl) ?_
    refine RG.call (by rfl) (by exact subsets_walk rfl) (by rfl) ?_
    rintro _ h8 ⟨rfl, nS, eS, gS⟩
    have e4 := gS.get e1
    have K5 := K2.trans (gS.keepN K2.next)
    have lteS := Heap.get_lt eS
    
    refine RG.step (Op1.makeFunc (by rfl) (by rfl)) (by rfl) ?_
    have hc48 := firstS_walk (subs_gen (N1 := h.next) (b := h1.next) (ad := ad) (w := xs) (c := c) (by omega) hx) (h := h8) (good := .func (.func 56) #[] #[.pointer (some ⟨h.next, 0, none⟩)]) rfl (subsetG sum) (fun _ => True) (fun _ h' => h'.get h.next = some (.cells [.int .i64 sum])) (fun _ => False) () (fun b hb => hb.elim)
      (fun h2 M hM g => ⟨g.get eS, (hA'.keepN K5).grow g, fun hne hb => by have := hA'.blk hne; rcases hM _ hb with hb | hb <;> first | exact hb | omega⟩)
      (fun st h1 h2 hJ hn g => (g.old _ (Heap.get_lt hJ) (by omega)).trans hJ) (fun h2 g => g.get e4)
      (fun st h1 v x _ hJ hn hR => by
        obtain ⟨s, rfl, hS⟩ := hR
        obtain ⟨ad2, rfl, _, _⟩ := hS.nums
        exact CWV.func (CW.mono (subset1_walk hJ) (fun v h' r => ⟨r.1, r.2.get hJ, r.2.but⟩)))
      (AllOk_true _ _ (fun _ => trivial) _ _)
    refine RG.call (by rfl) (by exact hc48) (by rfl) ?_
    rintro v48 h9 ⟨hJ9, hG9, hv9⟩
    have g9 : Grow h8 h9 := ⟨hG9.next, fun b hb => hG9.old b hb (fun e => e)⟩
    have nx9 := hG9.next
    have e6 := g9.get e4
    have e7 := g9.get eS
    have K8 := K5.trans (g9.keepN K5.next)
    rw [show (foldS (firstF (subsetG sum)) (subs xs) ((), none)).1.2 = (subs xs).find? (subsetP sum) from firstF_find (subsetP sum) (subs xs)] at hv9
    rcases hq : (subs xs).find? (subsetP sum) with _ | x
    · rw [hq] at hv9
      subst hv9
      refine RG.step (Op1.move (by rfl)) (by rfl) ?_
      refine RG.step (Op1.extract (by rfl) (by rfl)) (by rfl) ?_
      refine RG.step (Op1.extract (by rfl) (by rfl)) (by rfl) ?_
      refine RG.step (Op1.alloc zero68 (by kernel_rfl)) (by rfl) ?_
      refine RG.abs fun h9 n9 e9 g9 => ?_
      have e10 := g9.get e6
      have e11 := g9.get e7
      have K12 := K8.trans (g9.keepN K8.next)
      have lte9 := Heap.get_lt e9
      
      refine RG.step0 (Op1.store sz68 (by rfl) (by rfl) e9 (by rfl) (Nat.le_refl _)) ?_
      refine RG.absPut e9 fun h13 n13 e13 o13 => ?_
      have e14 := (o13 _ (by omega)).trans e10
      have e15 := (o13 _ (by omega)).trans e11
      have K16 := K12.trans (KeepN.put n13 o13 (by omega))
      refine RG.step (Op1.assign (by rfl)) (by rfl) ?_
      refine RG.done ?_
      refine W.seq ?_
      refine W.rs ?_
      refine RG.step (Op1.move (by rfl)) (by rfl) ?_
      refine RG.step (Op1.notB (by rfl)) (by rfl) ?_
      refine RG.done ?_
      refine W.condT (by rfl) ?_
      refine W.rs ?_
      refine RG.step (Op1.assign (by rfl)) (by rfl) ?_
      refine RG.step (Op1.assign (by rfl)) (by rfl) ?_
      refine RG.done ?_
      refine W.ret ?_
      exact leaf2 rfl (by rfl) (by rfl) ⟨K16.grow, _, _, rfl, .inr (.inl ⟨hz, hq, rfl, rfl⟩)⟩
    · rw [hq] at hv9
      obtain ⟨vv, rfl, s, rfl, hS⟩ := hv9
      obtain ⟨ad2, rfl, _, _⟩ := hS.nums
      refine RG.step (Op1.move (by rfl)) (by rfl) ?_
      refine RG.step (Op1.extract (by rfl) (by rfl)) (by rfl) ?_
      refine RG.step (Op1.extract (by rfl) (by rfl)) (by rfl) ?_
      refine RG.step (Op1.alloc zero68 (by kernel_rfl)) (by rfl) ?_
      refine RG.abs fun h17 n17 e17 g17 => ?_
      have e18 := g17.get e6
      have e19 := g17.get e7
      have K20 := K8.trans (g17.keepN K8.next)
      have lte17 := Heap.get_lt e17
      
      refine RG.step0 (Op1.store sz68 (by rfl) (by rfl) e17 (by rfl) (Nat.le_refl _)) ?_
      refine RG.absPut e17 fun h21 n21 e21 o21 => ?_
      have e22 := (o21 _ (by omega)).trans e18
      have e23 := (o21 _ (by omega)).trans e19
      have K24 := K20.trans (KeepN.put n21 o21 (by omega))
      refine RG.step (Op1.assign (by rfl)) (by rfl) ?_
      refine RG.done ?_
      refine W.seq ?_
      refine W.rs ?_
      refine RG.step (Op1.move (by rfl)) (by rfl) ?_
      refine RG.step (Op1.notB (by rfl)) (by rfl) ?_
      refine RG.done ?_
      refine W.condF (by rfl) ?_
      refine W.skip ?_
      refine W.rs ?_
      refine RG.step (Op1.field Try.underlying68 (by rfl) (by rfl) (by rfl) (by rfl)) (by rfl) ?_
      refine RG.step (Op1.load agg22 (by rfl) (cellAt_of e21 (by rfl))) (by rfl) ?_
      
      refine RG.step (Op1.assign (by rfl)) (by rfl) ?_
      refine RG.step (Op1.assign (by rfl)) (by rfl) ?_
      refine RG.done ?_
      refine W.ret ?_
      exact leaf2 rfl (by rfl) (by rfl) ⟨K24.grow, _, _, rfl, .inr (.inr ⟨hz, x, hq, (Acc.old hS (fun b hb hl => (o21 b (by omega)).trans (g17.old b hl))).less (by omega), rfl⟩)⟩
end Go.Proofs.Ytekhhjcbjaegeaa
