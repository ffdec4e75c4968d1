/- Walking with letters: ranges over functions, with heaps by letters. -/
import Derived.Test.YtekhhjcbjaegeaaAM34
set_option linter.all false
namespace Go.AM
open Go
variable {P : Program} {prim : Prim}
/-- One block is written. -/
structure Put1 (L : Nat) (x : Blk) (h h' : Heap) : Prop where
  next : h'.next = h.next
  get : h'.get L = some x
  oth : ∀ b, b ≠ L → h'.get b = h.get b
theorem Put1.of {h : Heap} {L : Nat} {x y : Blk} (g : h.get L = some y) : Put1 L x h (h.put L (some x)) :=
  ⟨Heap.put_next h L _, by rw [Heap.get_put _ _ _ _ (Heap.get_lt g), if_pos rfl], fun b hb => by rw [Heap.get_put _ _ _ _ (Heap.get_lt g), if_neg hb]⟩
theorem Put1.but {h h' : Heap} {L : Nat} {x : Blk} {M : Nat → Prop} (p : Put1 L x h h') (hm : M L) : GrowBut M h h' := ⟨by rw [p.next]; exact Nat.le_refl _, fun b _ hb => p.oth b (fun e => hb (e ▸ hm))⟩
theorem Put1.keepN {h h' : Heap} {L N : Nat} {x : Blk} (p : Put1 L x h h') (hm : N ≤ L) : KeepN N h h' := ⟨by rw [p.next]; exact Nat.le_refl _, fun b hb => p.oth b (by omega)⟩
theorem GrowBut.keepN {M : Nat → Prop} {N : Nat} {h h' : Heap} (g : GrowBut M h h') (hn : N ≤ h.next) (hm : ∀ b, M b → N ≤ b) : KeepN N h h' := ⟨g.next, fun b hb => g.old b (by omega) (fun k => by have := hm b k; omega)⟩
section rf
variable {base : Tr Value} {n : Nat} {ms : List Nat} {l : Env} {h : Heap} {Q : AX → A → Heap → Prop} {x : Operand} {ps : Array Tmp} {asg body : Code} {f : Nat} {y1 y2 : Array Value}
/-- The heap in which a loop begins. -/
structure Begun (base : Tr Value) (n : Nat) (l : Env) (ps : Array Tmp) (asg body : Code) (h h' : Heap) : Prop where
  next : h'.next = h.next + 2
  mark : h'.get h.next = some .mark
  loop : h'.get (h.next + 1) = some (LB base n l ps asg body h.next .ready none)
  grow : Grow h h'
theorem begun : Begun base n l ps asg body h ((h.push .mark).push (LB base n l ps asg body h.next .ready none)) := by
  have e1 : (h.push Blk.mark).next = h.next + 1 := Heap.push_next _ _
  refine ⟨by rw [Heap.push_next, e1], ?_, ?_, (Grow.push _ _).trans (Grow.push _ _)⟩
  · rw [Heap.get_push, e1, if_neg (by omega), Heap.get_push, if_pos rfl]
  · rw [Heap.get_push, e1, if_pos rfl]
theorem W.rangeL {R' : Value → Heap → Prop} (hx : ev l x = some (.func (.func f) y1 y2))
    (hc : ∀ h2, Begun base n l ps asg body h h2 → CW P prim f (y1.toList ++ [.func (.yield (h.next + 1)) #[] #[]] ++ y2.toList) h2 R')
    (k : ∀ r h3, R' r h3 → ∃ st p, h3.get (h.next + 1) = some (LB base n l ps asg body h.next st p) ∧ st ≠ .busy ∧ ∀ h4, h4.next = h3.next → (∀ b, b ≠ h.next + 1 → h4.get b = h3.get b) → (match p with
      | none => Q .normal (St base n (h.next :: ms) l) h4
      | some c => W P prim none c (St base n (h.next :: ms) l) h4 Q)) :
    W P prim none (.rangeFunc x ps asg body) (St base n ms l) h Q := by
  refine W.range hx (hc _ begun) fun r h3 hr => ?_
  obtain ⟨st, p, hL, hst, k⟩ := k r h3 hr
  refine ⟨st, p, hL, hst, ?_⟩
  cases p with
  | none => have q := Put1.of (x := LB base n l ps asg body h.next .exhausted none) hL; exact k _ q.next q.oth
  | some c => have q := Put1.of (x := LB base n l ps asg body h.next .exhausted (some c)) hL; exact k _ q.next q.oth
theorem CWV.yieldL {L : Nat} {mk : Nat} {args : List Value} {p : Option Code} {l2 : Env} {R : Value → Heap → Prop} (hL : h.get L = some (LB base n l ps asg body mk .ready p)) (hlen : Nat.beq args.length ps.size = true) (hset : setL (over base l) n (ps.toList.zip args) = some (over base l2))
    (k : W P prim (some L) asg (St base n [] l2) h fun e a1 h1 => e = .normal ∧ h1.get L = some (LB base n l ps asg body mk .ready p) ∧
      ∀ h1', Put1 L (LB base n l ps asg body mk .busy p) h1 h1' → W P prim (some L) body a1 h1' fun e2 a2 h2 => h2.get L = some (LB base n l ps asg body mk .busy p) ∧
        ∀ h3, Put1 L (LB base n l ps asg body mk (bif (jumpOf e2).isNone then .ready else .done) (jumpOf e2)) h2 h3 → R (.bool (jumpOf e2).isNone) h3) :
    CWV P prim (.func (.yield L) #[] #[]) args h R := by
  refine CWV.yield hL hlen hset (W.mono k ?_)
  rintro e a1 h1 ⟨he, hL1, k⟩
  refine ⟨he, hL1, W.mono (k _ (Put1.of hL1)) ?_⟩
  rintro e2 a2 h2 ⟨hL2, k⟩
  exact ⟨hL2, k _ (Put1.of hL2)⟩
end rf
section leaves
variable {fn : Func} {R : Value → Heap → Prop} {base : Tr Value} {n : Nat} {l : Env} {h h2 : Heap} {t t2 t3 mk : Nat} {v v2 v3 : Value} {e : AX}
theorem marks1 (hm : h.get mk = some .mark) : takeMarks [mk] h = some (h.put mk none) := by simp only [takeMarks, hm]
/-- The heap behind a mark that is taken. -/
structure Taken (mk : Nat) (h h' : Heap) : Prop where
  next : h'.next = h.next
  oth : ∀ b, b ≠ mk → h'.get b = h.get b
theorem taken (hm : h.get mk = some .mark) : Taken mk h (h.put mk none) := ⟨Heap.put_next _ _ _, fun b hb => by rw [Heap.get_put _ _ _ _ (Heap.get_lt hm), if_neg hb]⟩
theorem Taken.keepN {N : Nat} (t : Taken mk h h2) (hN : N ≤ mk) : KeepN N h h2 := ⟨by rw [t.next]; exact Nat.le_refl _, fun b hb => t.oth b (by omega)⟩
theorem leafM1 (he : e = .normal ∨ e = .ret) (hm : h.get mk = some .mark) (hr : fn.results = #[.tmp t]) (h1 : lkS l t = some v) (k : ∀ h2, Taken mk h h2 → R v h2) : fnQ P fn R e (St base n [mk] l) h := by
  refine fnQ_of he (marks1 hm) ?_ (k _ (taken hm))
  unfold ares; rw [hr]
  simp only [resL, St_get h1, Option.map_some, oneOf]
theorem leafM2 (he : e = .normal ∨ e = .ret) (hm : h.get mk = some .mark) (hr : fn.results = #[.tmp t, .tmp t2]) (h1 : lkS l t = some v) (h2 : lkS l t2 = some v2) (k : ∀ h2, Taken mk h h2 → R (.tuple #[v, v2]) h2) : fnQ P fn R e (St base n [mk] l) h := by
  refine fnQ_of he (marks1 hm) ?_ (k _ (taken hm))
  unfold ares; rw [hr]
  simp only [resL, St_get h1, St_get h2, Option.map_some, oneOf]
theorem leafM3 (he : e = .normal ∨ e = .ret) (hm : h.get mk = some .mark) (hr : fn.results = #[.tmp t, .tmp t2, .tmp t3]) (h1 : lkS l t = some v) (h2 : lkS l t2 = some v2) (h3 : lkS l t3 = some v3) (k : ∀ h2, Taken mk h h2 → R (.tuple #[v, v2, v3]) h2) : fnQ P fn R e (St base n [mk] l) h := by
  refine fnQ_of he (marks1 hm) ?_ (k _ (taken hm))
  unfold ares; rw [hr]
  simp only [resL, St_get h1, St_get h2, St_get h3, Option.map_some, oneOf]
/-- Results in cells. -/
theorem leafC2 {a b : Nat} {ty ty2 : TypeId} (he : e = .normal ∨ e = .ret) (hm : h.get mk = some .mark) (hr : fn.results = #[.cell t ty, .cell t2 ty2]) (h1 : lkS l t = some (.pointer (some ⟨a, 0, none⟩))) (h2 : lkS l t2 = some (.pointer (some ⟨b, 0, none⟩)))
    (l1 : ∀ h2, h2.get a = h.get a → aload P ty (.pointer (some ⟨a, 0, none⟩)) h2 = some v) (l2 : ∀ h2, h2.get b = h.get b → aload P ty2 (.pointer (some ⟨b, 0, none⟩)) h2 = some v2) (na : a ≠ mk) (nb : b ≠ mk) (k : ∀ h2, Taken mk h h2 → R (.tuple #[v, v2]) h2) : fnQ P fn R e (St base n [mk] l) h := by
  have t := taken hm
  refine fnQ_of he (marks1 hm) ?_ (k _ t)
  unfold ares; rw [hr]
  simp only [resL, St_get h1, St_get h2, l1 _ (t.oth a na), l2 _ (t.oth b nb), Option.bind_some, Option.map_some, oneOf]
end leaves
end Go.AM
