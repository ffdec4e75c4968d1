/- Walking with letters: folds with an end, functions that are fed items, generators. -/
import Derived.Test.YtekhhjcbjaegeaaAM35
set_option linter.all false
namespace Go.AM
open Go
variable {P : Program} {prim : Prim}
def foldS {σ α : Type} (f : σ → α → σ × Bool) : List α → σ → σ × Bool
  | [], st => (st, true)
  | x :: xs, st => match (f st x).2 with
    | true => foldS f xs (f st x).1
    | false => ((f st x).1, false)
theorem foldS_append {σ α : Type} (f : σ → α → σ × Bool) : ∀ (a b : List α) (st : σ), foldS f (a ++ b) st = match (foldS f a st).2 with
    | true => foldS f b (foldS f a st).1
    | false => foldS f a st
  | [], b, st => rfl
  | x :: a, b, st => by
    simp only [List.cons_append, foldS]
    cases hx : (f st x).2 with
    | true => simp only; exact foldS_append f a b _
    | false => rfl
def AllOk {σ α : Type} (f : σ → α → σ × Bool) (ok : σ → Prop) : List α → σ → Prop
  | [], _ => True
  | x :: xs, st => ok st ∧ ((f st x).2 = true → AllOk f ok xs (f st x).1)
theorem AllOk_append {σ α : Type} {f : σ → α → σ × Bool} {ok : σ → Prop} : ∀ {a b : List α} {st : σ}, AllOk f ok (a ++ b) st → AllOk f ok a st ∧ ((foldS f a st).2 = true → AllOk f ok b (foldS f a st).1)
  | [], b, st, h => ⟨trivial, fun _ => h⟩
  | x :: a, b, st, h => by
    obtain ⟨h1, h2⟩ := h
    refine ⟨⟨h1, fun hx => (AllOk_append (h2 hx)).1⟩, fun hx => ?_⟩
    simp only [foldS] at hx ⊢
    cases hf : (f st x).2 with
    | true => rw [hf] at hx; simp only at hx ⊢; exact (AllOk_append (h2 hf)).2 hx
    | false => rw [hf] at hx; simp at hx

/-- A function value that is fed items one after the other. -/
structure Feeds (P : Program) (prim : Prim) {α : Type} (Rep : Nat → Heap → Value → α → Prop) (σ : Type) (M : Nat → Prop) (N : Nat) (Y : Value) (f : σ → α → σ × Bool) (I : Bool → σ → Heap → Prop) (ok : σ → Prop) : Prop where
  low : ∀ b, M b → b < N
  call : ∀ st h v (x : α), ok st → I true st h → N ≤ h.next → Rep N h v x → CWV P prim Y [v] h fun r h' => r = .bool (f st x).2 ∧ I (f st x).2 (f st x).1 h' ∧ GrowBut M h h'
  grow : ∀ b st h h', I b st h → Grow h h' → I b st h'
/-- A generator: it feeds the items, in their order, until it is stopped. -/
def GenOK (P : Program) (prim : Prim) {α : Type} (Rep : Nat → Heap → Value → α → Prop) (fn : Nat) (y1 y2 : Array Value) (items : List α) (Pre : (Nat → Prop) → Heap → Prop) : Prop :=
  ∀ (σ : Type) (M : Nat → Prop) (N : Nat) (Y : Value) (f : σ → α → σ × Bool) (I : Bool → σ → Heap → Prop) (ok : σ → Prop), Feeds P prim Rep σ M N Y f I ok → ∀ st h, N ≤ h.next → Pre M h → I true st h → AllOk f ok items st →
    CW P prim fn (y1.toList ++ [Y] ++ y2.toList) h fun _ h' => I (foldS f items st).2 (foldS f items st).1 h' ∧ GrowBut M h h'
def bodyEnd (b : Bool) (e : AX) : Prop := match b with | true => e = .normal | false => e = .ret
/-- The same but for the loop's blocks. -/
structure But2 (N : Nat) (h h' : Heap) : Prop where
  next : h.next ≤ h'.next
  old : ∀ b, b < h.next → b ≠ N → b ≠ N + 1 → h'.get b = h.get b
/-- A range over a generator. -/
theorem W.rangeG {α σ : Type} {Rep : Nat → Heap → Value → α → Prop} {fn : Nat} {y1 y2 : Array Value} {items : List α} {Pre : (Nat → Prop) → Heap → Prop} (G : GenOK P prim Rep fn y1 y2 items Pre)
    {base : Tr Value} {n : Nat} {ms : List Nat} {l : Env} {h : Heap} {Q : AX → A → Heap → Prop} {x : Operand} {t : Nat} {asg body : Code} (st0 : σ) (f : σ → α → σ × Bool) (ok : σ → Prop) (J : Bool → σ → Heap → Prop) (Mu : Nat → Prop)
    (hx : ev l x = some (.func (.func fn) y1 y2)) (ht : Nat.blt t n = true) (hMu : ∀ b, Mu b → b < h.next)
    (hPre : ∀ h2 M, (∀ b, M b → Mu b ∨ b = h.next ∨ b = h.next + 1) → Grow h h2 → Pre M h2)
    (hJ0 : ∀ h2, Grow h h2 → J true st0 h2) (hJs : ∀ q st h1 h2, J q st h1 → But2 h.next h1 h2 → J q st h2)
    (hbody : ∀ st h1 v item, ok st → J true st h1 → h.next + 2 ≤ h1.next → Rep (h.next + 2) h1 v item →
      W P prim (some (h.next + 1)) asg (St base n [] ((t, v) :: l)) h1 fun e a h2 => e = .normal ∧ GrowBut Mu h1 h2 ∧ ∀ h2', h2'.next = h2.next → (∀ b, b ≠ h.next + 1 → h2'.get b = h2.get b) →
        W P prim (some (h.next + 1)) body a h2' fun e2 _ h3 => bodyEnd (f st item).2 e2 ∧ GrowBut Mu h2' h3 ∧ J (f st item).2 (f st item).1 h3)
    (hok : AllOk f ok items st0)
    (k : ∀ h4, J (foldS f items st0).2 (foldS f items st0).1 h4 → GrowBut Mu h h4 → h4.get h.next = some .mark → h.next + 2 ≤ h4.next → ((foldS f items st0).2 = true → Q .normal (St base n (h.next :: ms) l) h4) ∧ ((foldS f items st0).2 = false → Q .ret (St base n (h.next :: ms) l) h4)) :
    W P prim none (.rangeFunc x #[t] asg body) (St base n ms l) h Q := by
  let pj : Bool → Option Code := fun b => match b with | true => none | false => some .ret
  let sj : Bool → LoopState := fun b => match b with | true => .ready | false => .done
  let I : Bool → σ → Heap → Prop := fun b st h' => h'.get (h.next + 1) = some (LB base n l #[t] asg body h.next (sj b) (pj b)) ∧ h'.get h.next = some .mark ∧ h.next + 2 ≤ h'.next ∧ J b st h'
  have F : Feeds P prim Rep σ (fun b => b = h.next + 1 ∨ Mu b) (h.next + 2) (.func (.yield (h.next + 1)) #[] #[]) f I ok := by
    refine ⟨?_, ?_, ?_⟩
    · rintro b (rfl | hb)
      · omega
      · have := hMu b hb; omega
    · intro st h1 v item hk hI hN hR
      obtain ⟨hL, hm, hn, hJ⟩ := hI
      have hset : setL (over base l) n ((#[t] : Array Tmp).toList.zip [v]) = some (over base ((t, v) :: l)) := by
        simp only [List.zip_cons_cons, List.zip_nil_right, setL, ht, cond_true, over]
      refine CWV.yieldL hL rfl hset (W.mono (hbody st h1 v item hk hJ hn hR) ?_)
      rintro e a h2 ⟨he, hg, hw⟩
      have hL2 := hg.get (b := h.next + 1) (fun hM => by have := hMu _ hM; omega) hL
      have hm2 := hg.get (b := h.next) (fun hM => by have := hMu _ hM; omega) hm
      refine ⟨he, hL2, fun h2' q => W.mono (hw h2' q.next q.oth) ?_⟩
      rintro e2 a2 h3 ⟨he2, hg3, hJ3⟩
      have hL3 := hg3.get (b := h.next + 1) (fun hM => by have := hMu _ hM; omega) q.get
      have hm3 := hg3.get (b := h.next) (fun hM => by have := hMu _ hM; omega) ((q.oth _ (by omega)).trans hm2)
      refine ⟨hL3, fun h4 q4 => ?_⟩
      have hn4 : h.next + 2 ≤ h4.next := by have := hg.next; have := hg3.next; have := q.next; have := q4.next; omega
      have hG : GrowBut (fun b => b = h.next + 1 ∨ Mu b) h1 h4 :=
        ((hg.mono (fun b hb => .inr hb)).trans (q.but (.inl rfl))).trans ((hg3.mono (fun b hb => .inr hb)).trans (q4.but (.inl rfl)))
      have hJ4 : J (f st item).2 (f st item).1 h4 := hJs _ _ _ _ hJ3 ⟨by rw [q4.next]; exact Nat.le_refl _, fun b _ _ hb => q4.oth b hb⟩
      have hm4 : h4.get h.next = some .mark := (q4.oth _ (by omega)).trans hm3
      cases hf : (f st item).2 with
      | true =>
        rw [hf] at he2 hJ4
        obtain rfl : e2 = .normal := he2
        exact ⟨rfl, ⟨q4.get, hm4, hn4, hJ4⟩, hG⟩
      | false =>
        rw [hf] at he2 hJ4
        obtain rfl : e2 = .ret := he2
        exact ⟨rfl, ⟨q4.get, hm4, hn4, hJ4⟩, hG⟩
    · rintro b st h1 h2 ⟨hL, hm, hn, hJ⟩ g
      exact ⟨g.get hL, g.get hm, by have := g.next; omega, hJs _ _ _ _ hJ ⟨g.next, fun b hb _ _ => g.old b hb⟩⟩
  refine W.rangeL (R' := fun _ h' => ∃ h2, Begun base n l #[t] asg body h h2 ∧ I (foldS f items st0).2 (foldS f items st0).1 h' ∧ GrowBut (fun b => b = h.next + 1 ∨ Mu b) h2 h') hx (fun h2 hB => CW.mono (G σ _ _ _ f I ok F st0 h2 (by rw [hB.next]; exact Nat.le_refl _) (hPre h2 _ (fun b hb => by rcases hb with rfl | hb; exact .inr (.inr rfl); exact .inl hb) hB.grow) ⟨hB.loop, hB.mark, by rw [hB.next]; exact Nat.le_refl _, hJ0 h2 hB.grow⟩ hok) (fun _ _ r => ⟨h2, hB, r.1, r.2⟩)) ?_
  rintro r h3 ⟨h2, hB, hI3, hG3⟩
  obtain ⟨hL, hm, hn, hJ⟩ := hI3
  refine ⟨_, _, hL, ?_, fun h4 hn4 ho4 => ?_⟩
  · cases (foldS f items st0).2 <;> simp [sj]
  · have hJ4 : J (foldS f items st0).2 (foldS f items st0).1 h4 := hJs _ _ _ _ hJ ⟨by rw [hn4]; exact Nat.le_refl _, fun b _ _ hb => ho4 b hb⟩
    have hb2 : ∀ b, b < h.next → ¬ Mu b → h4.get b = h.get b := by
      intro b hb hM
      have hn2 := hB.next
      rw [ho4 b (by omega), hG3.old b (by omega) (fun e => e.elim (fun e => by omega) hM), hB.grow.old b hb]
    have kk := k h4 hJ4 ⟨by have := hB.next; have := hG3.next; omega, hb2⟩ ((ho4 _ (by omega)).trans hm) (by omega)
    cases hf : (foldS f items st0).2 with
    | true => exact kk.1 hf
    | false => exact ⟨_, _, _, Runs.ret, kk.2 hf⟩
end Go.AM
namespace Go.AM
open Go
theorem GrowBut.put {M : Nat → Prop} {h h' : Heap} {b0 : Nat} (hn : h'.next = h.next) (ho : ∀ b, b ≠ b0 → h'.get b = h.get b) (hm : M b0) : GrowBut M h h' := ⟨by omega, fun b _ hb => ho b (fun e => hb (e ▸ hm))⟩
theorem GrowBut.putN {M : Nat → Prop} {h h1 h' : Heap} {b0 : Nat} (g : GrowBut M h h1) (hn : h'.next = h1.next) (ho : ∀ b, b ≠ b0 → h'.get b = h1.get b) (hm : h.next ≤ b0) : GrowBut M h h' := ⟨by have := g.next; omega, fun b hb hM => (ho b (by omega)).trans (g.old b hb hM)⟩
end Go.AM
namespace Go.AM
open Go
theorem IntsA.blk {N : Nat} {h : Heap} {ad : Option Addr} {xs : List Int} (i : IntsA N h ad xs) (hne : xs ≠ []) : blkA ad < N := by
  obtain ⟨a, rfl, e2, _⟩ := i hne; exact e2
end Go.AM
