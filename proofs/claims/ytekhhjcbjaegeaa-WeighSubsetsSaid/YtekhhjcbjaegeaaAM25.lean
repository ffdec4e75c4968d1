/- What a call has left that nobody can reach may be forgotten. -/
import Derived.Test.YtekhhjcbjaegeaaAM24
set_option linter.all false
namespace Go.AM
open Go
variable {P : Program}

/-- What a value leads to under the less relation, it leads to there. -/
theorem VR.back {ρ ρ' : Rho} (hle : Le ρ ρ') {v v' : Value} (h : VR ρ' v v') : ∀ {u : Value}, VR ρ v u → VR ρ v v' := by
  have get : ∀ {b : Nat} {x y : Nat × Nat}, ρ b = some x → ρ' b = some y → x = y := by
    intro b x y h1 h2
    have := hle.m _ _ h1
    rw [h2] at this; injection this with this; exact this.symm
  induction h with
  | fl e => exact fun _ => .fl e
  | ptr e =>
    intro u hu
    cases hu with
    | ptr e' => have := get e' e; rw [this] at e'; exact .ptr e'
    | fl e' => simp [flat1] at e'
  | sl e =>
    intro u hu
    cases hu with
    | sl e' => have := get e' e; rw [this] at e'; exact .sl e'
    | fl e' => simp [flat1] at e'
  | @slu b o l c c' z B base e h1 h2 =>
    intro u hu
    cases hu with
    | slu e' _ _ => have := get e' e; rw [this] at e'; exact .slu e' h1 (by rw [← hle.n _ _ _ e']; exact h2)
    | fl e' => simp [flat1] at e'
  | map e =>
    intro u hu
    cases hu with
    | map e' => have := get e' e; rw [this] at e'; exact .map e'
    | fl e' => simp [flat1] at e'
  | fn h1 _ h3 _ ih1 ih2 =>
    intro u hu
    cases hu with
    | fn g1 g2 g3 g4 => exact .fn h1 (fun i a b => ih1 i a b (g2 i a (by omega))) h3 (fun i a b => ih2 i a b (g4 i a (by omega)))
    | fl e' => simp [flat1] at e'
  | yield e =>
    intro u hu
    cases hu with
    | yield e' => have := get e' e; rw [this] at e'; exact .yield e'
    | fl e' => simp [flat1] at e'
  | iface _ ih =>
    intro u hu
    cases hu with
    | iface g => exact .iface (ih g)
    | fl e' => simp [flat1] at e'
  | agg h1 _ ih =>
    intro u hu
    cases hu with
    | agg g1 g2 => exact .agg h1 (fun i a b => ih i a b (g2 i a (by omega)))
    | fl e' => simp [flat1] at e'
  | tuple h1 _ ih =>
    intro u hu
    cases hu with
    | tuple g1 g2 => exact .tuple h1 (fun i a b => ih i a b (g2 i a (by omega)))
    | fl e' => simp [flat1] at e'
theorem BR.back {ρ ρ' : Rho} (hle : Le ρ ρ') {N N0 base base0 : Nat} {o o0 : Option Obj} {x : Blk} (h : BR ρ' N base o x) (h0 : BR ρ N0 base0 o0 x) : BR ρ N base o x := by
  cases x with
  | cells cs =>
    obtain ⟨C, t, fr, e, hN, hf, hs, hv⟩ := h
    obtain ⟨C0, t0, fr0, e0, hN0, hf0, hs0, hv0⟩ := h0
    exact ⟨C, t, fr, e, hN, hf, hs, fun i v hi => let ⟨v', a, b⟩ := hv i v hi; let ⟨v0, _, b0⟩ := hv0 i v hi; ⟨v', a, b.back hle b0⟩⟩
  | map es clock =>
    obtain ⟨e0, ES, e, hl, hm⟩ := h
    obtain ⟨_, ES0, _, _, hm0⟩ := h0
    refine ⟨e0, ES, e, hl, fun i en hi => ?_⟩
    obtain ⟨E, a, b, c, d⟩ := hm i en hi
    obtain ⟨E0, _, b0, c0, _⟩ := hm0 i en hi
    exact ⟨E, a, b.back hle b0, c.back hle c0, d⟩
  | loop st pend tr sz ps asg body mk =>
    obtain ⟨e0, r, e, a1, a2, a3, a4, a5, a6, a7, a8⟩ := h
    obtain ⟨_, r0, _, _, _, _, b4, _, _, _, b8⟩ := h0
    refine ⟨e0, r, e, a1, a2, a3, fun i => (a4 i).back hle (b4 i), a5, a6, a7, ?_⟩
    have := hle.m _ _ b8
    rw [a8] at this; injection this with this; rw [this]; exact b8
  | mark => exact h
  | ro obj cs =>
    obtain ⟨e, C, t, fr, e2, hs, hv⟩ := h
    obtain ⟨_, C0, t0, fr0, _, _, hv0⟩ := h0
    exact ⟨e, C, t, fr, e2, hs, fun i v hi => let ⟨v', a, b⟩ := hv i v hi; let ⟨v0, _, b0⟩ := hv0 i v hi; ⟨v', a, b.back hle b0⟩⟩

/-! ### New blocks in the place of others -/
def pushes (h : Heap) (ls : List (List Value)) : Heap := ls.foldl (fun h l => h.push (.cells l)) h
theorem pushes_next : ∀ (ls : List (List Value)) (h : Heap), (pushes h ls).next = h.next + ls.length
  | [], h => rfl
  | l :: ls, h => by
    show (pushes (h.push (.cells l)) ls).next = _
    rw [pushes_next ls, Heap.push_next, List.length_cons]; omega
theorem pushes_old : ∀ (ls : List (List Value)) (h : Heap) (b : Nat), b < h.next → (pushes h ls).get b = h.get b
  | [], h, b, _ => rfl
  | l :: ls, h, b, hb => by
    show (pushes (h.push (.cells l)) ls).get b = _
    rw [pushes_old ls _ b (by rw [Heap.push_next]; omega), Heap.get_push, if_neg (by omega)]
theorem pushes_new : ∀ (ls : List (List Value)) (h : Heap) (i : Nat) (l : List Value), ls[i]? = some l → (pushes h ls).get (h.next + i) = some (.cells l)
  | [], h, i, l, e => by simp at e
  | l0 :: ls, h, 0, l, e => by
    simp at e; subst e
    show (pushes (h.push (.cells l0)) ls).get (h.next + 0) = _
    rw [pushes_old ls _ _ (by rw [Heap.push_next]; omega), Heap.get_push, if_pos (by omega)]
  | l0 :: ls, h, i + 1, l, e => by
    show (pushes (h.push (.cells l0)) ls).get (h.next + (i + 1)) = _
    have := pushes_new ls (h.push (.cells l0)) i l (by simpa using e)
    rw [Heap.push_next] at this
    rw [show h.next + (i + 1) = h.next + 1 + i from by omega]; exact this
/-- The value, with the blocks by their new numbers. -/
def ren1 (g : Nat → Option Nat) : Value → Option Value
  | .slice (some ⟨b, o, s⟩) l c => (g b).map fun d => .slice (some ⟨d, o, s⟩) l c
  | .pointer (some ⟨b, o, none⟩) => (g b).map fun d => .pointer (some ⟨d, o, none⟩)
  | v => bif flat1 v then some v else none
def renL (g : Nat → Option Nat) : List Value → Option (List Value)
  | [] => some []
  | v :: l => (ren1 g v).bind fun u => (renL g l).map (u :: ·)
def renV (g : Nat → Option Nat) : Value → Option Value
  | .tuple vs => (renL g vs.toList).map fun l => .tuple l.toArray
  | v => ren1 g v
theorem ren1_VR {ρ ρ2 : Rho} {g : Nat → Option Nat} (hg : ∀ b d x, g b = some d → ρ b = some x → ρ2 d = some x) (hn : ρ2.n = ρ.n) {v u v' : Value} (e : ren1 g v = some u) (h : VR ρ v v') : VR ρ2 u v' := by
  cases h with
  | fl hf =>
    have : ren1 g v = some v := by
      cases v with
      | pointer a => cases a with | none => rfl | some a => simp [flat1] at hf
      | slice a l c => cases a with | none => rfl | some a => simp [flat1] at hf
      | map a => cases a with | none => rfl | some a => simp [flat1] at hf
      | chan a => cases a with | none => rfl | some a => simp [flat1] at hf
      | func a b c => simp [flat1] at hf
      | iface a b => simp [flat1] at hf
      | agg a => simp [flat1] at hf
      | tuple a => simp [flat1] at hf
      | _ => rfl
    rw [this] at e; injection e with e; subst e; exact .fl hf
  | @ptr b o B base hρ =>
    simp only [ren1, Option.map_eq_some_iff] at e
    obtain ⟨d, hd, rfl⟩ := e
    exact .ptr (hg _ _ _ hd hρ)
  | @sl b o l c B base hρ =>
    simp only [ren1, Option.map_eq_some_iff] at e
    obtain ⟨d, hd, rfl⟩ := e
    exact .sl (hg _ _ _ hd hρ)
  | @slu b o l c c' z B base hρ h1 h2 =>
    simp only [ren1, Option.map_eq_some_iff] at e
    obtain ⟨d, hd, rfl⟩ := e
    exact .slu (hg _ _ _ hd hρ) h1 (by rw [hn]; exact h2)
  | map _ => simp [ren1, flat1] at e
  | fn _ _ _ _ => simp [ren1, flat1] at e
  | yield _ => simp [ren1, flat1] at e
  | iface _ => simp [ren1, flat1] at e
  | agg _ _ => simp [ren1, flat1] at e
  | tuple _ _ => simp [ren1, flat1] at e
theorem renL_VR {ρ ρ2 : Rho} {g : Nat → Option Nat} (hg : ∀ b d x, g b = some d → ρ b = some x → ρ2 d = some x) (hn : ρ2.n = ρ.n) : ∀ {l u l' : List Value}, renL g l = some u → VRl ρ l l' → VRl ρ2 u l'
  | [], u, l', e, h => by
    simp only [renL, Option.some.injEq] at e
    subst e
    exact ⟨h.1, fun i v hv => by simp at hv⟩
  | v :: l, u, l', e, h => by
    simp only [renL, Option.bind_eq_some_iff, Option.map_eq_some_iff] at e
    obtain ⟨w, hw, r, hr, rfl⟩ := e
    cases l' with
    | nil => have := h.1; simp at this
    | cons v' l' =>
      obtain ⟨x, hx, hv⟩ := h.2 0 v rfl
      simp at hx; subst hx
      refine .cons (ren1_VR hg hn hw hv) (renL_VR hg hn hr ⟨by simpa using h.1, fun i y hy => ?_⟩)
      simpa using h.2 (i + 1) y (by simpa using hy)
theorem renV_VR {ρ ρ2 : Rho} {g : Nat → Option Nat} (hg : ∀ b d x, g b = some d → ρ b = some x → ρ2 d = some x) (hn : ρ2.n = ρ.n) {v u v' : Value} (e : renV g v = some u) (h : VR ρ v v') : VR ρ2 u v' := by
  cases v with
  | tuple vs =>
    simp only [renV, Option.map_eq_some_iff] at e
    obtain ⟨l, hl, rfl⟩ := e
    obtain ⟨vs', rfl, hh⟩ := h.tuple_inv
    have := renL_VR hg hn hl hh.toList
    have := VR.tuple' (VRl.toArray this)
    simpa using this
  | _ => simp only [renV] at e; exact ren1_VR hg hn e h
/-- Where an old block stands among the new ones. -/
def place (next : Nat) (ids : List Nat) (b : Nat) : Option Nat := match ids.findIdx? (Nat.beq b) with | some i => some (next + i) | none => bif Nat.blt b next then some b else none
theorem place_some {next : Nat} {ids : List Nat} {b d : Nat} (e : place next ids b = some d) : (∃ i, ids[i]? = some b ∧ d = next + i) ∨ (d = b ∧ b < next) := by
  unfold place at e
  split at e
  · next i hi =>
    injection e with e
    obtain ⟨h1, h2, _⟩ := List.findIdx?_eq_some_iff_getElem.1 hi
    have h3 : b = ids[i] := Nat.eq_of_beq_eq_true h2
    exact .inl ⟨i, by rw [List.getElem?_eq_getElem h1, ← h3], e.symm⟩
  · cases hb : Nat.blt b next with
    | false => rw [hb] at e; cases e
    | true => rw [hb] at e; injection e with e; rw [Nat.blt_eq] at hb; exact .inr ⟨e.symm, hb⟩

/-- A call's heap may be told anew: the old blocks as they were, and some plain new ones, in whatever order. -/
theorem CallOK.tidy {f : Nat} {args : List Value} {h h2 : Heap} {v u : Value} (hc : CallOK P f args h v h2) (ids : List Nat) (ls : List (List Value)) (hlen : ids.length = ls.length) (hnd : ids.Nodup)
    (hkeep : ∀ b, b < h.next → h2.get b = h.get b) (hnew : ∀ (i : Nat) (c : Nat) (l : List Value), ids[i]? = some c → ls[i]? = some l → h.next ≤ c ∧ h2.get c = some (.cells l) ∧ l.all flat1 = true) (hv : renV (place h.next ids) v = some u) :
    CallOK P f args h u (pushes h ls) := by
  intro ρ w args' H hargs
  refine (hc ρ w args' H hargs).mono ?_
  rintro e w' ⟨ρ', v', rfl, hvv, H', E⟩
  -- the relation of the new heap
  let ρ2 : Rho := ⟨fun b => if b < h.next then ρ b else (ids[b - h.next]?).bind fun c => ρ' c, ρ'.n⟩
  have old : ∀ b, b < h.next → ρ2 b = ρ b := fun b hb => if_pos hb
  have new : ∀ b, ¬ b < h.next → ρ2 b = (ids[b - h.next]?).bind fun c => ρ' c := fun b hb => if_neg hb
  have hin : ∀ b x, ρ b = some x → b < h.next := by
    intro b x e
    by_cases hb : b < h.next
    · exact hb
    · rw [H.fresh b (by omega)] at e; cases e
  have hle : Le ρ ρ2 := ⟨fun b x e => by rw [old b (hin b x e)]; exact e, fun b B base e => E.le.n b B base e⟩
  have hnone : ∀ b, b < h.next → ρ b = none → ρ' b = none := by
    intro b hb e
    cases hx : ρ' b with
    | none => rfl
    | some x => have := E.fresh _ _ _ hx e; omega
  have hsame : ∀ b, b < h.next → ρ' b = ρ b := by
    intro b hb
    cases e : ρ b with
    | none => exact hnone b hb e
    | some x => exact E.le.m _ _ e
  have hget : ∀ b x, (pushes h ls).get b = some x → ¬ b < h.next → ∃ c l, ids[b - h.next]? = some c ∧ ls[b - h.next]? = some l ∧ x = .cells l := by
    intro b x hx hb
    have hlt := Heap.get_lt hx
    rw [pushes_next] at hlt
    have h1 : b - h.next < ls.length := by omega
    have := pushes_new ls h (b - h.next) _ (List.getElem?_eq_getElem h1)
    rw [show h.next + (b - h.next) = b from by omega, hx] at this
    injection this with this
    exact ⟨_, _, List.getElem?_eq_getElem (by omega), List.getElem?_eq_getElem h1, this⟩
  refine ⟨ρ2, v', rfl, ?_, ⟨?_, ?_, ?_, ?_⟩, ?_⟩
  · refine renV_VR (ρ := ρ') (ρ2 := ρ2) ?_ rfl hv hvv
    intro b d x hp hx
    rcases place_some hp with ⟨i, hi, rfl⟩ | ⟨rfl, hb⟩
    · rw [new _ (by omega), show h.next + i - h.next = i from by omega, hi]; exact hx
    · rw [old _ hb, ← hsame _ hb]; exact hx
  · intro b B base x hx e
    by_cases hb : b < h.next
    · rw [old b hb] at e
      rw [pushes_old ls h b hb] at hx
      have h1 := H'.blk b B base x (by rw [hkeep b hb]; exact hx) (E.le.m _ _ e)
      exact (BR.back E.le h1 (H.blk b B base x hx e)).mono hle
    · obtain ⟨c, l, hi, hl, rfl⟩ := hget b x hx hb
      rw [new b hb, hi] at e
      obtain ⟨hc1, hc2, hc3⟩ := hnew _ c l hi hl
      obtain ⟨C, t, fr, a1, a2, a3, a3', a4⟩ := H'.blk c B base _ hc2 e
      refine ⟨C, t, fr, a1, a2, a3, a3', fun i v hiv => ?_⟩
      obtain ⟨v0, b1, b2⟩ := a4 i v hiv
      have hf : flat1 v = true := List.all_eq_true.1 hc3 v (List.mem_of_getElem? hiv)
      exact ⟨v0, b1, by rw [b2.eq_of_flat1 hf]; exact .fl hf⟩
  · intro b b' B base base' g1 g2 e1 e2
    have live : ∀ b, (pushes h ls).get b ≠ none → ∀ x, ρ2 b = some x → ∃ c, h2.get c ≠ none ∧ ρ' c = some x ∧ ((b < h.next ∧ c = b) ∨ (¬ b < h.next ∧ ids[b - h.next]? = some c ∧ h.next ≤ c)) := by
      intro b hg x hx
      by_cases hb : b < h.next
      · rw [pushes_old ls h b hb] at hg
        rw [old b hb] at hx
        exact ⟨b, by rw [hkeep b hb]; exact hg, E.le.m _ _ hx, .inl ⟨hb, rfl⟩⟩
      · cases hgx : (pushes h ls).get b with
        | none => exact absurd hgx hg
        | some y =>
          obtain ⟨c, l, hi, hl, rfl⟩ := hget b y hgx hb
          rw [new b hb, hi] at hx
          obtain ⟨hc1, hc2, _⟩ := hnew _ c l hi hl
          exact ⟨c, by rw [hc2]; simp, hx, .inr ⟨hb, hi, hc1⟩⟩
    obtain ⟨c, k1, k2, k3⟩ := live b g1 _ e1
    obtain ⟨c', k1', k2', k3'⟩ := live b' g2 _ e2
    have hcc := H'.inj c c' B base base' k1 k1' k2 k2'
    subst hcc
    rcases k3 with ⟨p1, p2⟩ | ⟨p1, p2, p3⟩ <;> rcases k3' with ⟨q1, q2⟩ | ⟨q1, q2, q3⟩
    · omega
    · omega
    · omega
    · have h1 := (List.getElem?_eq_some_iff.1 p2)
      have h2 := (List.getElem?_eq_some_iff.1 q2)
      obtain ⟨l1, m1⟩ := h1
      obtain ⟨l2, m2⟩ := h2
      have hp := List.pairwise_iff_getElem.1 hnd
      rcases Nat.lt_trichotomy (b - h.next) (b' - h.next) with hlt | heq | hgt
      · exact absurd (m1.trans m2.symm) (hp _ _ l1 l2 hlt)
      · omega
      · exact absurd (m2.trans m1.symm) (hp _ _ l2 l1 hgt)
  · intro b hb
    rw [pushes_next] at hb
    rw [new b (by omega), List.getElem?_eq_none (by omega)]; rfl
  · intro b B base e
    by_cases hb : b < h.next
    · rw [old b hb] at e; exact Nat.lt_of_lt_of_le (H.lt b B base e) E.size
    · rw [new b hb] at e
      obtain ⟨c, _, hc⟩ := Option.bind_eq_some_iff.1 e
      exact H'.lt c B base hc
  · exact {
      le := hle
      km := fun b x e g => by have hb := hin b x e; rw [pushes_old ls h b hb] at g; exact g
      frame := E.frame
      size := E.size
      os := E.os
      tape := E.tape
      output := E.output
      new := fun b B base e1 e2 => by
        by_cases hb : b < h.next
        · rw [old b hb, e2] at e1; cases e1
        · rw [new b hb] at e1
          obtain ⟨c, hi, hc⟩ := Option.bind_eq_some_iff.1 e1
          have hlt : b - h.next < ls.length := by have := (List.getElem?_eq_some_iff.1 hi).1; omega
          obtain ⟨hc1, _, _⟩ := hnew _ c _ hi (List.getElem?_eq_getElem hlt)
          exact E.new c B base hc (H.fresh c hc1)
      next := by rw [pushes_next]; omega
      fresh := fun b B base e1 e2 => by
        by_cases hb : b < h.next
        · rw [old b hb, e2] at e1; cases e1
        · omega
      ghost := fun b hb _ => pushes_old ls h b hb
      fro := E.fro }
theorem CallOK.forget {f : Nat} {args : List Value} {h h2 : Heap} {v : Value} (hc : CallOK P f args h v h2) (hkeep : ∀ b, b < h.next → h2.get b = h.get b) (hv : renV (place h.next []) v = some v) : CallOK P f args h v h :=
  CallOK.tidy hc [] [] rfl List.nodup_nil hkeep (fun i c l e => by simp at e) hv
end Go.AM
