/- Walking with letters: appending to a literal. -/
import Derived.Test.YtekhhjcbjaegeaaAM38
set_option linter.all false
namespace Go.AM
open Go
variable {P : Program} {prim : Prim}
section app
variable {ops : Array Oper} {rest : List Oper} {base : Tr Value} {n : Nat} {ms : List Nat} {l : Env} {h h1 : Heap} {R : A → Heap → Prop} {d j m : Nat} {ty : TypeId} {pos : String} {after : Array Edge} {x y : Operand} {t tx e : TypeId} {N : Nat} {s u : Value} {vs us : List Value} {σ : List Nat} {last : Option Nat} {pend pend2 : Pend} {g : Option (Nat × Bool)}
/-- Appending to a slice in whose place nobody appends: all blocks are as they were. -/
theorem Op1.appG {d : Option Tmp} (hu : P.underlying t = some (.slice e)) (hx' : P.underlying tx = some (.slice e)) (h1 : OneCell P e) (hx : ev l x = some s) (hA : Acc N h s vs) (hC : AccC h s vs) (hy : ev l y = some u) (hS : Src h u us) (hf : us.all (·.oneCell') = true) (hN : N ≤ h.next) (hl : vs.length + us.length ≤ 1000000000) :
    ∃ s' h1, Op1 P prim ⟨d, .call ⟨.builtin .append, #[x, y], #[t, tx]⟩, ty, pos, after, g⟩ (St base n ms l) h s' h1 ∧ Acc N h1 s' (vs ++ us) ∧ Grow h h1 ∧ h1.next ≤ h.next + 1 := by
  by_cases h0 : us = []
  · obtain ⟨s', h2, a1, a2, a3, a4, a5⟩ := Op1.appS (prim := prim) (d := d) (ty := ty) (pos := pos) (after := after) (g := g) (base := base) (n := n) (ms := ms) hu hx' h1 hx hA hy hS hf hN hl
    obtain ⟨rfl, rfl⟩ := a5 h0
    exact ⟨_, _, a1, a2, Grow.refl _, a4⟩
  · rcases hS with ⟨rfl, e0⟩ | ⟨b, o, f, c, cs, rfl, hb, hc⟩
    · exact absurd e0 h0
    · have hp : 0 < us.length := List.length_pos_iff.2 h0
      refine ⟨_, _, Op1.appC hu hx' h1 hx hC hy hb hc hp hl, .inr ⟨h.next, some 1, by rw [List.length_append], hN, by rw [Heap.get_push, if_pos rfl], .inr rfl⟩, Grow.push h _, by rw [Heap.push_next]; exact Nat.le_refl _⟩
theorem RD.appG {dst : Option Tmp} (ho : ops[j]? = some ⟨dst, .call ⟨.builtin .append, #[x, y], #[t, tx]⟩, ty, pos, after, g⟩) (hl' : okLast (masks ops.toList) last j = true) (hg : GOK ops l true g) (hm : (masks ops.toList).getD j 0 = m) (hf' : pfil m pend = pend2) {l' : Value → Env} (hd : ∀ v, nxt n l v dst = some (l' v))
    (hu : P.underlying t = some (.slice e)) (hx' : P.underlying tx = some (.slice e)) (h1 : OneCell P e) (hx : ev l x = some s) (hA : Acc N h s vs) (hC : AccC h s vs) (hy : ev l y = some u) (hS : Src h u us) (hf : us.all (·.oneCell') = true) (hN : N ≤ h.next) (hl : vs.length + us.length ≤ 1000000000)
    (hp : ∀ h1, Grow h h1 → PAll pend2 h1)
    (k : ∀ s' h1, Acc N h1 s' (vs ++ us) → Grow h h1 → h1.next ≤ h.next + 1 → RD P prim ops σ (St base n ms (l' s')) h1 (some j) pend2 R) :
    RD P prim ops (j :: σ) (St base n ms l) h last pend R := by
  obtain ⟨s', h1, a1, a2, a3, a4⟩ := Op1.appG (prim := prim) (d := dst) (ty := ty) (pos := pos) (after := after) (g := g) (base := base) (n := n) (ms := ms) hu hx' h1 hx hA hC hy hS hf hN hl
  exact RD.eff ho rfl hl' hg a1 a3.next hm hf' (hp h1 a3) (hd s') (k s' h1 a2 a3 a4)
theorem RG.appG (hu : P.underlying t = some (.slice e)) (hx' : P.underlying tx = some (.slice e)) (h1 : OneCell P e) (hx : ev l x = some s) (hA : Acc N h s vs) (hC : AccC h s vs) (hy : ev l y = some u) (hS : Src h u us) (hf : us.all (·.oneCell') = true) (hN : N ≤ h.next) (hl : vs.length + us.length ≤ 1000000000) (hd : Nat.blt d n = true)
    (k : ∀ s' h1, Acc N h1 s' (vs ++ us) → Grow h h1 → h1.next ≤ h.next + 1 → RG P prim ops rest (St base n ms ((d, s') :: l)) h1 R) :
    RG P prim ops (⟨some d, .call ⟨.builtin .append, #[x, y], #[t, tx]⟩, ty, pos, after, none⟩ :: rest) (St base n ms l) h R := by
  obtain ⟨s', h1, a1, a2, a3, a4⟩ := Op1.appG (prim := prim) (d := some d) (ty := ty) (pos := pos) (after := after) (g := none) (base := base) (n := n) (ms := ms) hu hx' h1 hx hA hC hy hS hf hN hl
  exact RG.step a1 hd (k s' h1 a2 a3 a4)
end app
theorem AccC.lit0 {b : Nat} {h : Heap} (hg : h.get b = some (.cells [])) : AccC h (.slice (some ⟨b, 0, none⟩) 0 0) [] := .inr ⟨b, rfl, hg⟩
end Go.AM
