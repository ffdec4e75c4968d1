/- Walks: first. -/
import Derived.Test.YtekhhjcbjaegeaaWays
set_option linter.all false
set_option maxRecDepth 100000
set_option maxHeartbeats 4000000
namespace Go.Proofs.Ytekhhjcbjaegeaa
open Go Go.AM
def firstF {σ α : Type} (gd : σ → α → σ × Bool) (s : σ × Option α) (x : α) : (σ × Option α) × Bool :=
  match (gd s.1 x).2 with
  | true => (((gd s.1 x).1, some x), false)
  | false => (((gd s.1 x).1, none), true)
theorem firstF_end {σ α : Type} (gd : σ → α → σ × Bool) : ∀ (l : List α) (st : σ), ((foldS (firstF gd) l (st, none)).2 = true ∧ (foldS (firstF gd) l (st, none)).1.2 = none) ∨ ((foldS (firstF gd) l (st, none)).2 = false ∧ ∃ x, (foldS (firstF gd) l (st, none)).1.2 = some x)
  | [], st => .inl ⟨rfl, rfl⟩
  | x :: l, st => by
    simp only [foldS, firstF]
    cases h : (gd st x).2 with
    | true => exact .inr ⟨rfl, x, rfl⟩
    | false => exact firstF_end gd l _
/-- A list as a value. -/
def RepL (N : Nat) (h : Heap) (v : Value) (x : List Int) : Prop := Acc N h v (ivs x)
/-- A list of which something is known. -/
def RepP (pp : List Int → Prop) (N : Nat) (h : Heap) (v : Value) (x : List Int) : Prop := pp x ∧ Acc N h v (ivs x)
/-- What lies in the cells of the answer. -/
def AnsS (N b1 b2 : Nat) (h : Heap) (q : Bool) : Option Item → Prop
  | none => q = true ∧ h.get b1 = some (.cells [.slice none 0 0, .int .i64 0]) ∧ h.get b2 = some (.cells [.bool false])
  | some x => q = false ∧ ∃ s, h.get b1 = some (.cells [s, .int .i64 x.2]) ∧ Acc N h s (ivs x.1) ∧ h.get b2 = some (.cells [.bool true])
def AnsL (N b1 b2 : Nat) (h : Heap) (q : Bool) : Option (List Int) → Prop
  | none => q = true ∧ h.get b1 = some (.cells [.slice none 0 0]) ∧ h.get b2 = some (.cells [.bool false])
  | some x => q = false ∧ ∃ s, h.get b1 = some (.cells [s]) ∧ Acc N h s (ivs x) ∧ h.get b2 = some (.cells [.bool true])
theorem Acc.old {N : Nat} {h h' : Heap} {s : Value} {vs : List Value} (a : Acc N h s vs) (g : ∀ b, N ≤ b → b < h.next → h'.get b = h.get b) : Acc N h' s vs := by
  rcases a with a | ⟨b, f, e, hb, hg, hf⟩
  · exact .inl a
  · exact .inr ⟨b, f, e, hb, (g b hb (Heap.get_lt hg)).trans hg, hf⟩
theorem AnsS.old {N b1 b2 : Nat} {h h' : Heap} {q : Bool} {x : Option Item} (a : AnsS N b1 b2 h q x) (g1 : h'.get b1 = h.get b1) (g2 : h'.get b2 = h.get b2) (g : ∀ b, N ≤ b → b < h.next → h'.get b = h.get b) : AnsS N b1 b2 h' q x := by
  cases x with
  | none => exact ⟨a.1, g1.trans a.2.1, g2.trans a.2.2⟩
  | some x => obtain ⟨hq, s, e1, e2, e3⟩ := a; exact ⟨hq, s, g1.trans e1, Acc.old e2 g, g2.trans e3⟩
theorem AnsL.old {N b1 b2 : Nat} {h h' : Heap} {q : Bool} {x : Option (List Int)} (a : AnsL N b1 b2 h q x) (g1 : h'.get b1 = h.get b1) (g2 : h'.get b2 = h.get b2) (g : ∀ b, N ≤ b → b < h.next → h'.get b = h.get b) : AnsL N b1 b2 h' q x := by
  cases x with
  | none => exact ⟨a.1, g1.trans a.2.1, g2.trans a.2.2⟩
  | some x => obtain ⟨hq, s, e1, e2, e3⟩ := a; exact ⟨hq, s, g1.trans e1, Acc.old e2 g, g2.trans e3⟩
theorem AnsS.lt1 {N b1 b2 : Nat} {h : Heap} {q : Bool} {x : Option Item} (a : AnsS N b1 b2 h q x) : b1 < h.next := by
  cases x with
  | none => exact Heap.get_lt a.2.1
  | some x => obtain ⟨hq, s, e1, e2, e3⟩ := a; exact Heap.get_lt e1
theorem AnsS.lt2 {N b1 b2 : Nat} {h : Heap} {q : Bool} {x : Option Item} (a : AnsS N b1 b2 h q x) : b2 < h.next := by
  cases x with
  | none => exact Heap.get_lt a.2.2
  | some x => obtain ⟨hq, s, e1, e2, e3⟩ := a; exact Heap.get_lt e3
theorem AnsL.lt1 {N b1 b2 : Nat} {h : Heap} {q : Bool} {x : Option (List Int)} (a : AnsL N b1 b2 h q x) : b1 < h.next := by
  cases x with
  | none => exact Heap.get_lt a.2.1
  | some x => obtain ⟨hq, s, e1, e2, e3⟩ := a; exact Heap.get_lt e1
theorem AnsL.lt2 {N b1 b2 : Nat} {h : Heap} {q : Bool} {x : Option (List Int)} (a : AnsL N b1 b2 h q x) : b2 < h.next := by
  cases x with
  | none => exact Heap.get_lt a.2.2
  | some x => obtain ⟨hq, s, e1, e2, e3⟩ := a; exact Heap.get_lt e3
theorem aload68 {h : Heap} {b : Nat} {u v : Value} (e : h.get b = some (.cells [u, v])) : aload Try.prog 68 (.pointer (some ⟨b, 0, none⟩)) h = some (.agg #[u, v]) := by
  unfold aload
  simp only [asPtr, Option.bind_some, rd_of e, agg68, cond_true, sz68]; rfl
theorem aload22 {h : Heap} {b : Nat} {u : Value} (e : h.get b = some (.cells [u])) : aload Try.prog 22 (.pointer (some ⟨b, 0, none⟩)) h = some u := by
  unfold aload
  simp only [asPtr, Option.bind_some, rd_of e, agg22, cond_false]; rfl
theorem aload4 {h : Heap} {b : Nat} {u : Value} (e : h.get b = some (.cells [u])) : aload Try.prog 4 (.pointer (some ⟨b, 0, none⟩)) h = some u := by
  unfold aload
  simp only [asPtr, Option.bind_some, rd_of e, agg4, cond_false]; rfl
theorem firstS_walk {σ : Type} {items : List Item} {fn : Nat} {y1 y2 : Array Value} {Pre : (Nat → Prop) → Heap → Prop} (G : GenOK Try.prog primW RepS fn y1 y2 items Pre) {h : Heap} {good : Value} (hgood : good.cells = #[good]) (gd : σ → Item → σ × Bool) (okg : σ → Prop) (J : σ → Heap → Prop) (Mg : Nat → Prop) (st0 : σ)
    (hMg : ∀ b, Mg b → b < h.next) (hPre : ∀ h2 M, (∀ b, M b → Mg b ∨ h.next ≤ b) → Grow h h2 → Pre M h2)
    (hJs : ∀ st h1 h2, J st h1 → h.next + 3 ≤ h1.next → GrowBut (fun b => h.next ≤ b ∧ b < h.next + 5) h1 h2 → J st h2) (hJ0 : ∀ h2, Grow h h2 → J st0 h2)
    (hcall : ∀ st h1 v x, okg st → J st h1 → h.next + 5 ≤ h1.next → RepS (h.next + 5) h1 v x → CWV Try.prog primW good [v] h1 fun r h' => r = .bool (gd st x).2 ∧ J (gd st x).1 h' ∧ GrowBut Mg h1 h')
    (hok : AllOk (firstF gd) (fun s => okg s.1) items (st0, none)) :
    CW Try.prog primW 48 [.func (.func fn) y1 y2, good] h fun v h' => J (foldS (firstF gd) items (st0, none)).1.1 h' ∧ GrowBut Mg h h' ∧ (match (foldS (firstF gd) items (st0, none)).1.2 with
      | some x => ∃ vv, v = .tuple #[vv, .bool true] ∧ RepS (h.next + 5) h' vv x
      | none => v = .tuple #[.agg #[.slice none 0 0, .int .i64 0], .bool false]) := by
  have K0 := KeepN.refl h.next h
  refine CW.intro (l := [(1, good), (0, .func (.func fn) y1 y2)]) rfl Try.func48 rfl (by rfl) ?_
  refine W.rs ?_
  refine RG.step (Op1.box (by rfl)) (by rfl) ?_
  refine RG.abs fun h1 n1 e1 g1 => ?_
  have K2 := K0.trans (g1.keepN K0.next)
  have lte1 := Heap.get_lt e1
  
  refine RG.step (Op1.alloc zero68 (by kernel_rfl)) (by rfl) ?_
  refine RG.abs fun h3 n3 e3 g3 => ?_
  have e4 := g3.get e1
  have K5 := K2.trans (g3.keepN K2.next)
  have lte3 := Heap.get_lt e3
  
  refine RG.step (Op1.alloc zero4 (by kernel_rfl)) (by rfl) ?_
  refine RG.abs fun h6 n6 e6 g6 => ?_
  have e7 := g6.get e4
  have e8 := g6.get e3
  have K9 := K5.trans (g6.keepN K5.next)
  have lte6 := Heap.get_lt e6
  rw [hgood] at e7
  refine RG.done ?_
  refine W.seq ?_
  refine W.rs ?_
  refine RG.step (Op1.move (by rfl)) (by rfl) ?_
  refine RG.done ?_
  refine W.block ?_
  
  refine W.rangeG (G) ((st0, none)) (firstF gd) (fun s => okg s.1) (fun q s h' => J s.1 h' ∧ h'.get h.next = some (.cells [good]) ∧ AnsS (h.next + 5) h1.next h3.next h' q s.2) (fun b => b = h1.next ∨ b = h3.next ∨ Mg b) (by rfl) (by rfl) (fun b hb => by rcases hb with hb | hb | hb <;> first | omega | (have := hMg b hb; omega)) (fun h2 M hM g => hPre h2 M (fun b hb => by rcases hM b hb with (hb | hb | hb) | hb | hb <;> first | exact .inl hb | exact .inr (by omega)) (K9.grow.trans g)) (fun h2 g => ⟨hJ0 h2 (K9.grow.trans g), g.get e7, rfl, g.get e8, g.get e6⟩) (fun q s h1 h2 hJ b2 => ⟨hJs _ _ _ hJ.1 (by have := hJ.2.2.lt2; omega) ⟨b2.next, fun b hb hM => b2.old b hb (by omega) (by omega)⟩, (b2.old _ (Heap.get_lt hJ.2.1) (by omega) (by omega)).trans hJ.2.1, hJ.2.2.old (b2.old _ hJ.2.2.lt1 (by omega) (by omega)) (b2.old _ hJ.2.2.lt2 (by omega) (by omega)) (fun b hb hl => b2.old b hl (by omega) (by omega))⟩) ?_ (hok) ?_
  · rintro st hb1 v item hk ⟨hJ, j3, hA⟩ hn hR
    obtain ⟨st, oa⟩ := st
    have hoa : oa = none := by cases oa with | none => rfl | some y => exact absurd hA.1 (by simp)
    subst hoa
    simp only at hk hJ
    obtain ⟨_, j4, j5⟩ := hA
    have lj3 := Heap.get_lt j3
    have lj4 := Heap.get_lt j4
    have lj5 := Heap.get_lt j5
    obtain ⟨s, rfl, hS⟩ := hR
    obtain ⟨ad2, rfl, _, _⟩ := hS.nums
    have Ka := KeepN.refl hb1.next hb1
    refine W.region ?_
    
    refine RG.step (Op1.alloc zero68 (by kernel_rfl)) (by rfl) ?_
    refine RG.abs fun h10 n10 e10 g10 => ?_
    have e11 := g10.get j3
    have e12 := g10.get j4
    have e13 := g10.get j5
    have K14 := Ka.trans (g10.keepN Ka.next)
    have lte10 := Heap.get_lt e10
    
    refine RG.step0 (Op1.store sz68 (by rfl) (by rfl) e10 (by rfl) (Nat.le_refl _)) ?_
    refine RG.absPut e10 fun h15 n15 e15 o15 => ?_
    have e16 := (o15 _ (by omega)).trans e11
    have e17 := (o15 _ (by omega)).trans e12
    have e18 := (o15 _ (by omega)).trans e13
    have K19 := K14.trans (KeepN.put n15 o15 (by omega))
    
    refine RG.done ?_
    refine ⟨rfl, K19.grow.but, fun hb9 nb9 ob9 => ?_⟩
    have e20 := (ob9 _ (by omega)).trans e16
    have e21 := (ob9 _ (by omega)).trans e17
    have e22 := (ob9 _ (by omega)).trans e18
    have e23 := (ob9 _ (by omega)).trans e15
    have Gb := GrowBut.refl (fun b => b = h1.next ∨ b = h3.next ∨ Mg b) hb9
    refine W.block ?_
    refine W.rs ?_
    refine RG.step (Op1.load agg74 (by rfl) (cellAt_of e20 (by rfl))) (by rfl) ?_
    refine RG.step (Op1.loadAgg agg68 sz68 (by rfl) e23 (by rfl)) (by rfl) ?_
    have hJ9 : J st hb9 := hJs _ _ _ hJ (by omega) ⟨by omega, fun b hb hM => (ob9 b (by omega)).trans (K19.grow.old b hb)⟩
    have hS9 : Acc (h.next + 5) hb9 (.slice ad2 item.1.length item.1.length) (ivs item.1) := (Acc.old (hS.grow K19.grow) (fun b hb _ => ob9 b (by omega))).less (by omega)
    refine RG.callV (by rfl) (by rfl) (hcall st hb9 _ item hk hJ9 (by omega) ⟨_, rfl, hS9⟩) (by rfl) ?_
    rintro _ hc1 ⟨rfl, hJc, hGc⟩
    have e24 := hGc.get (fun hMb => by have := hMg _ hMb; omega) e20
    have e25 := hGc.get (fun hMb => by have := hMg _ hMb; omega) e21
    have e26 := hGc.get (fun hMb => by have := hMg _ hMb; omega) e22
    have e27 := hGc.get (fun hMb => by have := hMg _ hMb; omega) e23
    have G28 := Gb.trans (hGc.mono (fun b hb => .inr (.inr hb)))
    have hSc := Acc.keepB hS9 (fun b hb => by have := hMg b hb; omega) hGc
    
    refine RG.done ?_
    refine W.casesB 12 (by rfl) (fun c29 => ?_) (fun c29 => ?_)
    · refine W.condT (by rfl) ?_
      refine W.rs ?_
      refine RG.step (Op1.loadAgg agg68 sz68 (by rfl) e27 (by rfl)) (by rfl) ?_
      refine RG.step0 (Op1.store sz68 (by rfl) (by rfl) e25 (by rfl) (Nat.le_refl _)) ?_
      refine RG.absPut e25 fun h30 n30 e30 o30 => ?_
      have e31 := (o30 _ (by omega)).trans e24
      have e32 := (o30 _ (by omega)).trans e26
      have e33 := (o30 _ (by omega)).trans e27
      have G34 := G28.trans (GrowBut.put n30 o30 (.inl rfl))
      
      refine RG.step0 (Op1.store sz4 (by rfl) (by rfl) e32 (by rfl) (Nat.le_refl _)) ?_
      refine RG.absPut e32 fun h35 n35 e35 o35 => ?_
      have e36 := (o35 _ (by omega)).trans e31
      have e37 := (o35 _ (by omega)).trans e30
      have e38 := (o35 _ (by omega)).trans e33
      have G39 := G34.trans (GrowBut.put n35 o35 (.inr (.inl rfl)))
      
      refine RG.done ?_
      refine W.ret ?_
      have hb : (gd st item).2 = true := c29
      refine ⟨by simp only [firstF, hb]; rfl, G39, ?_⟩
      simp only [firstF, hb]
      refine ⟨hJs _ _ _ hJc (by have := hGc.next; omega) ⟨by omega, fun b hb hM => ?_⟩, e36, rfl, _, e37, Acc.old hSc (fun b hb _ => ?_), e35⟩
      · rw [o35 b (by omega), o30 b (by omega)]
      · rw [o35 b (by omega), o30 b (by omega)]
    · refine W.condF (by rfl) ?_
      refine W.skip ?_
      have hb : (gd st item).2 = false := c29
      refine ⟨by simp only [firstF, hb]; rfl, G28, ?_⟩
      simp only [firstF, hb]
      exact ⟨hJc, e24, rfl, e25, e26⟩
    
  · intro hx4 hJ4 hG4 hm4 hn4
    obtain ⟨hJx, x3, hAx⟩ := hJ4
    have lx3 := Heap.get_lt x3
    refine ⟨fun hend => ?_, fun hend => ?_⟩
    · refine W.rs ?_
      rcases firstF_end gd items st0 with hf | hf
      rotate_left
      · rw [hf.1] at hend; cases hend
      rw [hf.2] at hAx
      obtain ⟨_, x4, x5⟩ := hAx
      have lx4 := Heap.get_lt x4
      have lx5 := Heap.get_lt x5
      have Kz := KeepN.refl hx4.next hx4
      have lmk := Heap.get_lt hm4
      
      refine RG.step (Op1.alloc zero68 (by kernel_rfl)) (by rfl) ?_
      refine RG.abs fun h40 n40 e40 g40 => ?_
      have e41 := g40.get x3
      have e42 := g40.get x4
      have e43 := g40.get x5
      have e44 := g40.get hm4
      have lte40 := Heap.get_lt e40
      
      refine RG.done ?_
      refine W.rs ?_
      refine RG.step (Op1.loadAgg agg68 sz68 (by rfl) e40 (by rfl)) (by rfl) ?_
      refine RG.step0 (Op1.store sz68 (by rfl) (by rfl) e42 (by rfl) (Nat.le_refl _)) ?_
      refine RG.absPut e42 fun h45 n45 e45 o45 => ?_
      have e46 := (o45 _ (by omega)).trans e41
      have e47 := (o45 _ (by omega)).trans e43
      have e48 := (o45 _ (by omega)).trans e44
      have e49 := (o45 _ (by omega)).trans e40
      
      refine RG.step0 (Op1.store sz4 (by rfl) (by rfl) e47 (by rfl) (Nat.le_refl _)) ?_
      refine RG.absPut e47 fun h50 n50 e50 o50 => ?_
      have e51 := (o50 _ (by omega)).trans e46
      have e52 := (o50 _ (by omega)).trans e45
      have e53 := (o50 _ (by omega)).trans e48
      have e54 := (o50 _ (by omega)).trans e49
      
      refine RG.done ?_
      refine W.ret ?_
      have hlt : hx4.next ≤ h50.next := by omega
      refine leafC2 (.inr rfl) e53 rfl (by rfl) (by rfl) (fun h2 e => aload68 (e.trans e52)) (fun h2 e => aload4 (e.trans e50)) (by omega) (by omega) fun h2 T => ⟨hJs _ _ _ hJx (by omega) ⟨by rw [T.next]; omega, fun b hb hM => ?_⟩, ⟨by rw [T.next]; omega, fun b hb hM => ?_⟩, ?_⟩
      · rw [T.oth b (by omega), o50 b (by omega), o45 b (by omega), g40.old b (by omega)]
      · rw [T.oth b (by omega), o50 b (by omega), o45 b (by omega), g40.old b (by omega), hG4.old b (by omega) (fun e => e.elim (fun e => by omega) (fun e => e.elim (fun e => by omega) hM)), K9.old b hb]
      · rw [hf.2]
    · rcases firstF_end gd items st0 with hf | hf
      · rw [hf.1] at hend; cases hend
      obtain ⟨x, hx⟩ := hf.2
      rw [hx] at hAx
      obtain ⟨_, s, x4, hSx, x5⟩ := hAx
      refine leafC2 (.inr rfl) hm4 rfl (by rfl) (by rfl) (fun h2 e => aload68 (e.trans x4)) (fun h2 e => aload4 (e.trans x5)) (by omega) (by omega) fun h2 T => ⟨hJs _ _ _ hJx (by omega) ⟨by rw [T.next]; omega, fun b hb hM => T.oth b (by omega)⟩, ⟨by rw [T.next]; omega, fun b hb hM => ?_⟩, ?_⟩
      · rw [T.oth b (by omega), hG4.old b (by omega) (fun e => e.elim (fun e => by omega) (fun e => e.elim (fun e => by omega) hM)), K9.old b hb]
      · rw [hx]
        exact ⟨_, rfl, ⟨_, rfl, Acc.old hSx (fun b hb _ => T.oth b (by omega))⟩⟩
theorem firstL_walk {σ : Type} {pp : List Int → Prop} {items : List (List Int)} {fn : Nat} {y1 y2 : Array Value} {Pre : (Nat → Prop) → Heap → Prop} (G : GenOK Try.prog primW (RepP pp) fn y1 y2 items Pre) {h : Heap} {good : Value} (hgood : good.cells = #[good]) (gd : σ → (List Int) → σ × Bool) (okg : σ → Prop) (J : σ → Heap → Prop) (Mg : Nat → Prop) (st0 : σ)
    (hMg : ∀ b, Mg b → b < h.next) (hPre : ∀ h2 M, (∀ b, M b → Mg b ∨ h.next ≤ b) → Grow h h2 → Pre M h2)
    (hJs : ∀ st h1 h2, J st h1 → h.next + 3 ≤ h1.next → GrowBut (fun b => h.next ≤ b ∧ b < h.next + 5) h1 h2 → J st h2) (hJ0 : ∀ h2, Grow h h2 → J st0 h2)
    (hcall : ∀ st h1 v x, okg st → J st h1 → h.next + 5 ≤ h1.next → (RepP pp) (h.next + 5) h1 v x → CWV Try.prog primW good [v] h1 fun r h' => r = .bool (gd st x).2 ∧ J (gd st x).1 h' ∧ GrowBut Mg h1 h')
    (hok : AllOk (firstF gd) (fun s => okg s.1) items (st0, none)) :
    CW Try.prog primW 59 [.func (.func fn) y1 y2, good] h fun v h' => J (foldS (firstF gd) items (st0, none)).1.1 h' ∧ GrowBut Mg h h' ∧ (match (foldS (firstF gd) items (st0, none)).1.2 with
      | some x => ∃ vv, v = .tuple #[vv, .bool true] ∧ RepL (h.next + 5) h' vv x
      | none => v = .tuple #[.slice none 0 0, .bool false]) := by
  have K0 := KeepN.refl h.next h
  refine CW.intro (l := [(1, good), (0, .func (.func fn) y1 y2)]) rfl Try.func59 rfl (by rfl) ?_
  refine W.rs ?_
  refine RG.step (Op1.box (by rfl)) (by rfl) ?_
  refine RG.abs fun h1 n1 e1 g1 => ?_
  have K2 := K0.trans (g1.keepN K0.next)
  have lte1 := Heap.get_lt e1
  
  refine RG.step (Op1.alloc zero22 (by kernel_rfl)) (by rfl) ?_
  refine RG.abs fun h3 n3 e3 g3 => ?_
  have e4 := g3.get e1
  have K5 := K2.trans (g3.keepN K2.next)
  have lte3 := Heap.get_lt e3
  
  refine RG.step (Op1.alloc zero4 (by kernel_rfl)) (by rfl) ?_
  refine RG.abs fun h6 n6 e6 g6 => ?_
  have e7 := g6.get e4
  have e8 := g6.get e3
  have K9 := K5.trans (g6.keepN K5.next)
  have lte6 := Heap.get_lt e6
  rw [hgood] at e7
  refine RG.done ?_
  refine W.seq ?_
  refine W.rs ?_
  refine RG.step (Op1.move (by rfl)) (by rfl) ?_
  refine RG.done ?_
  refine W.block ?_
  
  refine W.rangeG (G) ((st0, none)) (firstF gd) (fun s => okg s.1) (fun q s h' => J s.1 h' ∧ h'.get h.next = some (.cells [good]) ∧ AnsL (h.next + 5) h1.next h3.next h' q s.2) (fun b => b = h1.next ∨ b = h3.next ∨ Mg b) (by rfl) (by rfl) (fun b hb => by rcases hb with hb | hb | hb <;> first | omega | (have := hMg b hb; omega)) (fun h2 M hM g => hPre h2 M (fun b hb => by rcases hM b hb with (hb | hb | hb) | hb | hb <;> first | exact .inl hb | exact .inr (by omega)) (K9.grow.trans g)) (fun h2 g => ⟨hJ0 h2 (K9.grow.trans g), g.get e7, rfl, g.get e8, g.get e6⟩) (fun q s h1 h2 hJ b2 => ⟨hJs _ _ _ hJ.1 (by have := hJ.2.2.lt2; omega) ⟨b2.next, fun b hb hM => b2.old b hb (by omega) (by omega)⟩, (b2.old _ (Heap.get_lt hJ.2.1) (by omega) (by omega)).trans hJ.2.1, hJ.2.2.old (b2.old _ hJ.2.2.lt1 (by omega) (by omega)) (b2.old _ hJ.2.2.lt2 (by omega) (by omega)) (fun b hb hl => b2.old b hl (by omega) (by omega))⟩) ?_ (hok) ?_
  · rintro st hb1 v item hk ⟨hJ, j3, hA⟩ hn hR
    obtain ⟨st, oa⟩ := st
    have hoa : oa = none := by cases oa with | none => rfl | some y => exact absurd hA.1 (by simp)
    subst hoa
    simp only at hk hJ
    obtain ⟨_, j4, j5⟩ := hA
    have lj3 := Heap.get_lt j3
    have lj4 := Heap.get_lt j4
    have lj5 := Heap.get_lt j5
    obtain ⟨hpx, hS⟩ := hR
    have hS : Acc _ _ _ _ := hS
    obtain ⟨ad2, rfl, _, _⟩ := hS.nums
    have Ka := KeepN.refl hb1.next hb1
    refine W.region ?_
    
    refine RG.step (Op1.assign (by rfl)) (by rfl) ?_
    refine RG.done ?_
    refine ⟨rfl, Ka.grow.but, fun hb9 nb9 ob9 => ?_⟩
    have e10 := (ob9 _ (by omega)).trans j3
    have e11 := (ob9 _ (by omega)).trans j4
    have e12 := (ob9 _ (by omega)).trans j5
    have Gb := GrowBut.refl (fun b => b = h1.next ∨ b = h3.next ∨ Mg b) hb9
    refine W.block ?_
    refine W.rs ?_
    refine RG.step (Op1.load agg34 (by rfl) (cellAt_of e10 (by rfl))) (by rfl) ?_
    refine RG.step (Op1.move (by rfl)) (by rfl) ?_
    have hJ9 : J st hb9 := hJs _ _ _ hJ (by omega) ⟨by omega, fun b hb hM => (ob9 b (by omega)).trans (Ka.grow.old b hb)⟩
    have hS9 : Acc (h.next + 5) hb9 (.slice ad2 item.length item.length) (ivs item) := (Acc.old (hS.grow Ka.grow) (fun b hb _ => ob9 b (by omega))).less (by omega)
    refine RG.callV (by rfl) (by rfl) (hcall st hb9 _ item hk hJ9 (by omega) ⟨hpx, hS9⟩) (by rfl) ?_
    rintro _ hc1 ⟨rfl, hJc, hGc⟩
    have e13 := hGc.get (fun hMb => by have := hMg _ hMb; omega) e10
    have e14 := hGc.get (fun hMb => by have := hMg _ hMb; omega) e11
    have e15 := hGc.get (fun hMb => by have := hMg _ hMb; omega) e12
    have G16 := Gb.trans (hGc.mono (fun b hb => .inr (.inr hb)))
    have hSc := Acc.keepB hS9 (fun b hb => by have := hMg b hb; omega) hGc
    
    refine RG.done ?_
    refine W.casesB 12 (by rfl) (fun c17 => ?_) (fun c17 => ?_)
    · refine W.condT (by rfl) ?_
      refine W.rs ?_
      refine RG.step (Op1.move (by rfl)) (by rfl) ?_
      refine RG.step0 (Op1.store sz22 (by rfl) (by rfl) e14 (by rfl) (Nat.le_refl _)) ?_
      refine RG.absPut e14 fun h18 n18 e18 o18 => ?_
      have e19 := (o18 _ (by omega)).trans e13
      have e20 := (o18 _ (by omega)).trans e15
      have G21 := G16.trans (GrowBut.put n18 o18 (.inl rfl))
      
      refine RG.step0 (Op1.store sz4 (by rfl) (by rfl) e20 (by rfl) (Nat.le_refl _)) ?_
      refine RG.absPut e20 fun h22 n22 e22 o22 => ?_
      have e23 := (o22 _ (by omega)).trans e19
      have e24 := (o22 _ (by omega)).trans e18
      have G25 := G21.trans (GrowBut.put n22 o22 (.inr (.inl rfl)))
      
      refine RG.done ?_
      refine W.ret ?_
      have hb : (gd st item).2 = true := c17
      refine ⟨by simp only [firstF, hb]; rfl, G25, ?_⟩
      simp only [firstF, hb]
      refine ⟨hJs _ _ _ hJc (by have := hGc.next; omega) ⟨by omega, fun b hb hM => ?_⟩, e23, rfl, _, e24, Acc.old hSc (fun b hb _ => ?_), e22⟩
      · rw [o22 b (by omega), o18 b (by omega)]
      · rw [o22 b (by omega), o18 b (by omega)]
    · refine W.condF (by rfl) ?_
      refine W.skip ?_
      have hb : (gd st item).2 = false := c17
      refine ⟨by simp only [firstF, hb]; rfl, G16, ?_⟩
      simp only [firstF, hb]
      exact ⟨hJc, e13, rfl, e14, e15⟩
    
  · intro hx4 hJ4 hG4 hm4 hn4
    obtain ⟨hJx, x3, hAx⟩ := hJ4
    have lx3 := Heap.get_lt x3
    refine ⟨fun hend => ?_, fun hend => ?_⟩
    · refine W.rs ?_
      rcases firstF_end gd items st0 with hf | hf
      rotate_left
      · rw [hf.1] at hend; cases hend
      rw [hf.2] at hAx
      obtain ⟨_, x4, x5⟩ := hAx
      have lx4 := Heap.get_lt x4
      have lx5 := Heap.get_lt x5
      have Kz := KeepN.refl hx4.next hx4
      have lmk := Heap.get_lt hm4
      
      refine RG.step (Op1.assign (by rfl)) (by rfl) ?_
      refine RG.done ?_
      refine W.rs ?_
      refine RG.step (Op1.move (by rfl)) (by rfl) ?_
      refine RG.step0 (Op1.store sz22 (by rfl) (by rfl) x4 (by rfl) (Nat.le_refl _)) ?_
      refine RG.absPut x4 fun h26 n26 e26 o26 => ?_
      have e27 := (o26 _ (by omega)).trans x3
      have e28 := (o26 _ (by omega)).trans x5
      have e29 := (o26 _ (by omega)).trans hm4
      
      refine RG.step0 (Op1.store sz4 (by rfl) (by rfl) e28 (by rfl) (Nat.le_refl _)) ?_
      refine RG.absPut e28 fun h30 n30 e30 o30 => ?_
      have e31 := (o30 _ (by omega)).trans e27
      have e32 := (o30 _ (by omega)).trans e26
      have e33 := (o30 _ (by omega)).trans e29
      
      refine RG.done ?_
      refine W.ret ?_
      have hlt : hx4.next ≤ h30.next := by omega
      refine leafC2 (.inr rfl) e33 rfl (by rfl) (by rfl) (fun h2 e => aload22 (e.trans e32)) (fun h2 e => aload4 (e.trans e30)) (by omega) (by omega) fun h2 T => ⟨hJs _ _ _ hJx (by omega) ⟨by rw [T.next]; omega, fun b hb hM => ?_⟩, ⟨by rw [T.next]; omega, fun b hb hM => ?_⟩, ?_⟩
      · rw [T.oth b (by omega), o30 b (by omega), o26 b (by omega)]
      · rw [T.oth b (by omega), o30 b (by omega), o26 b (by omega), hG4.old b (by omega) (fun e => e.elim (fun e => by omega) (fun e => e.elim (fun e => by omega) hM)), K9.old b hb]
      · rw [hf.2]
    · rcases firstF_end gd items st0 with hf | hf
      · rw [hf.1] at hend; cases hend
      obtain ⟨x, hx⟩ := hf.2
      rw [hx] at hAx
      obtain ⟨_, s, x4, hSx, x5⟩ := hAx
      refine leafC2 (.inr rfl) hm4 rfl (by rfl) (by rfl) (fun h2 e => aload22 (e.trans x4)) (fun h2 e => aload4 (e.trans x5)) (by omega) (by omega) fun h2 T => ⟨hJs _ _ _ hJx (by omega) ⟨by rw [T.next]; omega, fun b hb hM => T.oth b (by omega)⟩, ⟨by rw [T.next]; omega, fun b hb hM => ?_⟩, ?_⟩
      · rw [T.oth b (by omega), hG4.old b (by omega) (fun e => e.elim (fun e => by omega) (fun e => e.elim (fun e => by omega) hM)), K9.old b hb]
      · rw [hx]
        exact ⟨_, rfl, Acc.old hSx (fun b hb _ => T.oth b (by omega))⟩
end Go.Proofs.Ytekhhjcbjaegeaa
