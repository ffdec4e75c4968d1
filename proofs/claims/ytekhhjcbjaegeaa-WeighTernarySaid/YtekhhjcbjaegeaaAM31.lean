/- Walking with letters: heaps by letters, appending. -/
import Derived.Test.YtekhhjcbjaegeaaAM30
set_option linter.all false
namespace Go.AM
open Go
variable {P : Program} {prim : Prim}

section rg
variable {ops : Array Oper} {rest : List Oper} {h : Heap} {R : A → Heap → Prop} {a : A} {x y : Blk} {b0 : Nat}
theorem RG.abs (k : ∀ h1, h1.next = h.next + 1 → h1.get h.next = some x → Grow h h1 → RG P prim ops rest a h1 R) : RG P prim ops rest a (h.push x) R :=
  k _ (Heap.push_next h x) (by rw [Heap.get_push, if_pos rfl]) (Grow.push h x)
theorem RG.absPut (g : h.get b0 = some y) (k : ∀ h1, h1.next = h.next → h1.get b0 = some x → (∀ b, b ≠ b0 → h1.get b = h.get b) → RG P prim ops rest a h1 R) : RG P prim ops rest a (h.put b0 (some x)) R :=
  k _ (Heap.put_next h b0 _) (by rw [Heap.get_put _ _ _ _ (Heap.get_lt g), if_pos rfl]) (fun b hb => by rw [Heap.get_put _ _ _ _ (Heap.get_lt g), if_neg hb])
end rg
/-- What lies in the first blocks lies there still. -/
structure KeepN (N : Nat) (h h' : Heap) : Prop where
  next : h.next ≤ h'.next
  old : ∀ b, b < N → h'.get b = h.get b
theorem KeepN.refl (N : Nat) (h : Heap) : KeepN N h h := ⟨Nat.le_refl _, fun _ _ => rfl⟩
theorem KeepN.trans {N : Nat} {a b c : Heap} (x : KeepN N a b) (y : KeepN N b c) : KeepN N a c := ⟨Nat.le_trans x.next y.next, fun d hd => (y.old d hd).trans (x.old d hd)⟩
theorem KeepN.grow {h h' : Heap} (k : KeepN h.next h h') : Grow h h' := ⟨k.next, k.old⟩
theorem Grow.keepN {N : Nat} {h h' : Heap} (k : Grow h h') (hN : N ≤ h.next) : KeepN N h h' := ⟨k.next, fun b hb => k.old b (by omega)⟩
theorem KeepN.get {N : Nat} {h h' : Heap} (k : KeepN N h h') {b : Nat} {x : Blk} (hb : b < N) (e : h.get b = some x) : h'.get b = some x := (k.old b hb).trans e
theorem KeepN.rd {N : Nat} {h h' : Heap} (k : KeepN N h h') {b : Nat} {cs : List Value} (hb : b < N) (e : h.rd b = some cs) : h'.rd b = some cs := rd_same e (k.old b hb)
theorem KeepN.put {N : Nat} {h h' : Heap} {b0 : Nat} (hn : h'.next = h.next) (ho : ∀ b, b ≠ b0 → h'.get b = h.get b) (hb : N ≤ b0) : KeepN N h h' := ⟨by omega, fun b h1 => ho b (by omega)⟩
theorem KeepN.less {N M : Nat} {h h' : Heap} (k : KeepN N h h') (hM : M ≤ N) : KeepN M h h' := ⟨k.next, fun b hb => k.old b (by omega)⟩
theorem Ints.keepN {N : Nat} {h h' : Heap} {b o : Nat} {xs : List Int} (i : Ints h b o xs) (hb : b < N) (k : KeepN N h h') : Ints h' b o xs := i.same (k.old b hb)

/-- A slice that is being appended to, in blocks from N on. -/
def Acc (N : Nat) (h : Heap) (s : Value) (vs : List Value) : Prop :=
  (s = .slice none 0 0 ∧ vs = []) ∨ ∃ b f, s = .slice (some ⟨b, 0, f⟩) vs.length vs.length ∧ N ≤ b ∧ h.get b = some (.cells vs) ∧ (f = none ∨ f = some 1)
theorem Acc.nil (N : Nat) (h : Heap) : Acc N h (.slice none 0 0) [] := .inl ⟨rfl, rfl⟩
theorem Acc.less {N M : Nat} {h : Heap} {s : Value} {vs : List Value} (a : Acc N h s vs) (hM : M ≤ N) : Acc M h s vs := by
  rcases a with a | ⟨b, f, e, hb, hg, hf⟩
  · exact .inl a
  · exact .inr ⟨b, f, e, by omega, hg, hf⟩
theorem Acc.val {N : Nat} {h : Heap} {s : Value} {vs : List Value} (a : Acc N h s vs) : ∃ ad, s = .slice ad vs.length vs.length := by
  rcases a with ⟨rfl, rfl⟩ | ⟨b, f, rfl, _⟩
  · exact ⟨_, rfl⟩
  · exact ⟨_, rfl⟩
theorem Acc.grow {N : Nat} {h h' : Heap} {s : Value} {vs : List Value} (a : Acc N h s vs) (g : Grow h h') : Acc N h' s vs := by
  rcases a with a | ⟨b, f, e, hb, hg, hf⟩
  · exact .inl a
  · exact .inr ⟨b, f, e, hb, g.get hg, hf⟩
theorem all_one {vs : List Value} (h : vs.all flat1 = true) : vs.all (·.oneCell') = true := by
  rw [List.all_eq_true] at h ⊢
  intro v hv
  have := h v hv
  cases v <;> first | rfl | (simp [flat1] at this)
/-- A type of one cell. -/
structure OneCell (P : Program) (e : TypeId) : Prop where
  ex : ∃ i z, P.info? e = some i ∧ i.zero = some z ∧ (Nat.beq z.cells.size i.size && Nat.blt 0 i.bytes && Nat.ble i.bytes 65536) = true ∧ i.size = 1
def oneCellB (P : Program) (e : TypeId) : Bool :=
  match P.info? e with
  | some i => match i.zero with
    | some z => Nat.beq z.cells.size i.size && Nat.blt 0 i.bytes && Nat.ble i.bytes 65536 && Nat.beq i.size 1
    | none => false
  | none => false
theorem oneCell_of {e : TypeId} (h : oneCellB P e = true) : OneCell P e := by
  unfold oneCellB at h
  cases hi : P.info? e with
  | none => rw [hi] at h; cases h
  | some i =>
    rw [hi] at h
    simp only at h
    cases hz : i.zero with
    | none => rw [hz] at h; cases h
    | some z =>
      rw [hz] at h
      simp only [Bool.and_eq_true] at h
      exact ⟨i, z, hi, hz, by simp only [Bool.and_eq_true]; exact h.1, Nat.eq_of_beq_eq_true h.2⟩
theorem cut_all {cs l : List Value} {o n : Nat} (h1 : l.length = n) (h2 : ∀ j, j < n → cs[o + j]? = l[j]?) : cut cs o n = some l := by
  have e : (cs.drop o).take n = l := by
    apply List.ext_getElem?
    intro j
    rw [List.getElem?_take]
    split
    · next hj => rw [List.getElem?_drop]; exact h2 j hj
    · next hj => rw [List.getElem?_eq_none (by omega)]
  unfold cut
  simp only [e, h1, Nat.beq_refl, cond_true]
theorem cut_whole {cs : List Value} : cut cs 0 cs.length = some cs := cut_all rfl (fun j _ => by rw [Nat.zero_add])
section app
variable {base : Tr Value} {n : Nat} {ms : List Nat} {l : Env} {h : Heap} {d : Option Tmp} {ty : TypeId} {pos : String} {after : Array Edge} {g : Option (Nat × Bool)} {x y : Operand} {t tx e : TypeId}
/-- Appending some values. -/
theorem Op1.app {N : Nat} {s : Value} {vs us : List Value} {b o c : Nat} {f : Option Nat} {cs : List Value} (hu : P.underlying t = some (.slice e)) (hx' : P.underlying tx = some (.slice e)) (h1 : OneCell P e) (hx : ev l x = some s) (hA : Acc N h s vs) (hy : ev l y = some (.slice (some ⟨b, o, f⟩) us.length c))
    (hb : h.rd b = some cs) (hc : ∀ j, j < us.length → cs[o + j]? = us[j]?) (hf : us.all (·.oneCell') = true) (hN : N ≤ h.next) (hl : vs.length + us.length ≤ 1000000000) :
    ∃ s' h1, Op1 P prim ⟨d, .call ⟨.builtin .append, #[x, y], #[t, tx]⟩, ty, pos, after, g⟩ (St base n ms l) h s' h1 ∧ Acc N h1 s' (vs ++ us) ∧ KeepN N h h1 ∧ (us = [] → h1 = h) ∧ (h1.next ≤ h.next + 1) := by
  obtain ⟨i, z, hi, hz, hok, hsz⟩ := h1.ex
  have hel : elemOfSlice P t = some e := by unfold elemOfSlice; rw [hu]
  have hni : notInt P tx = true := by unfold notInt; rw [hx']
  have hcut : cut cs o us.length = some us := cut_all rfl hc
  have hsrc : source (.slice (some ⟨b, o, f⟩) us.length c) i.size id h = some (us.length, us) := by
    simp only [source, hb, Option.bind_some, id, hsz, Nat.mul_one, hcut, Option.map_some]
  have key : ∀ r, aappend P #[t, tx] s (.slice (some ⟨b, o, f⟩) us.length c) h = some r → Op1 P prim ⟨d, .call ⟨.builtin .append, #[x, y], #[t, tx]⟩, ty, pos, after, g⟩ (St base n ms l) h r.1 r.2 := by
    intro r hr
    exact .of (by simp only [aop, aevs, ev_eval hx, ev_eval hy, Option.bind_some, Option.map_some, abuiltin, hr])
  have hop : ∀ r, (match s with
      | .slice none 0 0 => bif Nat.beq us.length 0 then some (.slice none 0 0, h) else bif Nat.ble us.length 1000000000 then some (.slice (some ⟨h.next, 0, some i.size⟩) us.length us.length, h.push (.cells us)) else none
      | .slice (some ⟨b, o, f⟩) l c =>
              bif Nat.ble (l + us.length) c then
                (bif Nat.beq us.length 0 then some (s, h)
                else (h.cs b).bind fun cs => bif us.all (·.oneCell') && Nat.ble (o + l * i.size + us.length) cs.length then some (.slice (some ⟨b, o, f⟩) (l + us.length) c, h.put b (some (.cells (splice cs (o + l * i.size) us)))) else none)
              else bif Nat.ble (l + us.length) 1000000000 then
                (h.cs b).bind fun cs => (cut cs o (l * i.size)).bind fun olds =>
                  match f with
                  | none => some (.slice (some ⟨h.next, 0, some i.size⟩) (l + us.length) (l + us.length), h.push (.cells (olds ++ us)))
                  | some zz => bif Nat.beq zz i.size && us.all (·.oneCell') then some (.slice (some ⟨h.next, 0, some i.size⟩) (l + us.length) (l + us.length), (h.put b none).push (.cells (olds ++ us))) else none
              else none
      | _ => none) = some r → aappend P #[t, tx] s (.slice (some ⟨b, o, f⟩) us.length c) h = some r := by
    intro r hr
    unfold aappend
    simp only [show (#[t, tx] : Array TypeId)[0]? = some t from rfl, show (#[t, tx] : Array TypeId)[1]? = some tx from rfl, Option.bind_some, hni, cond_true, hel, hi, hz, hok, hsrc]
    exact hr
  rcases hA with ⟨rfl, rfl⟩ | ⟨b1, f1, rfl, hb1, hg1, hf1⟩
  · by_cases h0 : us = []
    · subst h0
      exact ⟨_, _, key _ (hop (.slice none 0 0, h) rfl), .inl ⟨rfl, rfl⟩, KeepN.refl _ _, fun _ => rfl, Nat.le_succ _⟩
    · have hne : Nat.beq us.length 0 = false := by
        cases hb0 : Nat.beq us.length 0 with
        | false => rfl
        | true => exact absurd (List.length_eq_zero_iff.1 (Nat.eq_of_beq_eq_true hb0)) h0
      have hle : Nat.ble us.length 1000000000 = true := by rw [Nat.ble_eq]; simp at hl; omega
      refine ⟨_, _, key _ (hop (.slice (some ⟨h.next, 0, some i.size⟩) us.length us.length, h.push (.cells us)) (by simp only [hne, hle, cond_true, cond_false])), .inr ⟨h.next, some 1, by rw [hsz]; simp, hN, by rw [Heap.get_push, if_pos rfl]; simp, .inr rfl⟩, (Grow.push h _).keepN hN, fun e => absurd e h0, by rw [Heap.push_next]; omega⟩
  · by_cases h0 : us = []
    · subst h0
      refine ⟨_, _, key _ (hop (.slice (some ⟨b1, 0, f1⟩) vs.length vs.length, h) ?_), .inr ⟨b1, f1, by simp, hb1, by simpa using hg1, hf1⟩, KeepN.refl _ _, fun _ => rfl, Nat.le_succ _⟩
      have : Nat.ble (vs.length + ([] : List Value).length) vs.length = true := by rw [Nat.ble_eq]; simp
      simp only [this, cond_true]; rfl
    · have hpos : 0 < us.length := List.length_pos_iff.2 h0
      have hle : Nat.ble (vs.length + us.length) vs.length = false := by
        cases hb0 : Nat.ble (vs.length + us.length) vs.length with
        | false => rfl
        | true => rw [Nat.ble_eq] at hb0; omega
      have hle2 : Nat.ble (vs.length + us.length) 1000000000 = true := by rw [Nat.ble_eq]; exact hl
      have hlt := Heap.get_lt hg1
      rcases hf1 with rfl | rfl
      · refine ⟨_, _, key _ (hop (.slice (some ⟨h.next, 0, some i.size⟩) (vs.length + us.length) (vs.length + us.length), h.push (.cells (vs ++ us))) ?_), .inr ⟨h.next, some 1, by rw [hsz]; simp, hN, by rw [Heap.get_push, if_pos rfl], .inr rfl⟩, (Grow.push h _).keepN hN, fun e => absurd e h0, by rw [Heap.push_next]; omega⟩
        simp only [hle, cond_false, hle2, cond_true, cs_of hg1, Option.bind_some, hsz, Nat.mul_one, cut_whole]
      · refine ⟨_, _, key _ (hop (.slice (some ⟨h.next, 0, some i.size⟩) (vs.length + us.length) (vs.length + us.length), (h.put b1 none).push (.cells (vs ++ us))) ?_), .inr ⟨h.next, some 1, by rw [hsz]; simp, hN, ?_, .inr rfl⟩, ⟨by rw [Heap.push_next, Heap.put_next]; omega, fun b hb => ?_⟩, fun e => absurd e h0, by rw [Heap.push_next, Heap.put_next]; omega⟩
        · simp only [hle, cond_false, hle2, cond_true, cs_of hg1, Option.bind_some, hsz, Nat.mul_one, cut_whole, Nat.beq_refl, hf, Bool.and_self]
        · have : (h.put b1 none).next = h.next := Heap.put_next _ _ _
          rw [Heap.get_push, this, if_pos rfl]
        · rw [Heap.get_push, Heap.put_next, if_neg (by omega), Heap.get_put _ _ _ _ hlt, if_neg (by omega)]
end app
end Go.AM
namespace Go.AM
open Go
variable {P : Program} {prim : Prim}
def blkA : Option Addr → Nat
  | some a => a.block
  | none => 0
def offA : Option Addr → Nat
  | some a => a.off
  | none => 0
/-- The numbers of a slice, in a block below N. -/
def IntsA (N : Nat) (h : Heap) (ad : Option Addr) (xs : List Int) : Prop := xs ≠ [] → ∃ a, ad = some a ∧ a.block < N ∧ Ints h a.block a.off xs
section ia
variable {N : Nat} {h h' : Heap} {ad : Option Addr} {xs : List Int} {j : Int}
theorem IntsA.nil : IntsA N h ad [] := fun e => absurd rfl e
theorem IntsA.keepN (i : IntsA N h ad xs) (k : KeepN N h h') : IntsA N h' ad xs := fun e => let ⟨a, e1, e2, e3⟩ := i e; ⟨a, e1, e2, e3.keepN e2 k⟩
theorem IntsA.more {M : Nat} (i : IntsA N h ad xs) (k : N ≤ M) : IntsA M h ad xs := fun e => let ⟨a, e1, e2, e3⟩ := i e; ⟨a, e1, by omega, e3⟩
theorem IntsA.grow (i : IntsA N h ad xs) (g : Grow h h') : IntsA N h' ad xs := fun e => let ⟨a, e1, e2, e3⟩ := i e; ⟨a, e1, e2, e3.keep g⟩
theorem IntsA.top (i : IntsA N h ad xs) : IntsA h.next h ad xs := fun e => let ⟨a, e1, e2, e3⟩ := i e; ⟨a, e1, e3.lt, e3⟩
theorem ne_of_lt (h0 : 0 ≤ j) (h1 : j < xs.length) : xs ≠ [] := by intro e; subst e; simp at h1; omega
theorem IntsA.at (i : IntsA N h ad xs) (h0 : 0 ≤ j) (h1 : j < xs.length) : cellAt h (blkA ad) (offA ad + j.toNat) = some (.int .i64 (xs.getD j.toNat 0)) := by
  obtain ⟨a, rfl, _, e3⟩ := i (ne_of_lt h0 h1)
  exact e3.at h0 h1
theorem IntsA.ne (i : IntsA N h ad xs) (h0 : 0 ≤ j) (h1 : j < xs.length) : ad.isSome = true := by
  obtain ⟨a, rfl, _, e3⟩ := i (ne_of_lt h0 h1); rfl
end ia
section ops
variable {base : Tr Value} {n : Nat} {ms : List Nat} {l : Env} {h : Heap} {v : Value} {d : Option Tmp} {ty : TypeId} {pos : String} {after : Array Edge} {g : Option (Nat × Bool)} {x y z : Operand} {t t' : TypeId}
theorem Op1.idxA {e : TypeId} {ad : Option Addr} {m c : Nat} {k : IntKind} {i : Int} (hu : P.underlying t = some (.slice e)) (hz : szOf P e = some 1) (hx : ev l x = some (.slice ad m c)) (hy : ev l y = some (.int k i)) (hs : ad.isSome = true) (h0 : 0 ≤ i) (h1 : i < (m : Int)) :
    Op1 P prim ⟨d, .indexAddr t x y, ty, pos, after, g⟩ (St base n ms l) h (.pointer (some ⟨blkA ad, offA ad + i.toNat, none⟩)) h := by
  cases ad with
  | none => cases hs
  | some a => obtain ⟨b, o, f⟩ := a; exact Op1.idx hu hz hx hy h0 h1
end ops
end Go.AM
namespace Go.AM
open Go
theorem Op1.idxI {P : Program} {prim : Prim} {N : Nat} {h0' : Heap} {base : Tr Value} {n : Nat} {ms : List Nat} {l : Env} {h : Heap} {d : Option Tmp} {ty : TypeId} {pos : String} {after : Array Edge} {g : Option (Nat × Bool)} {x y : Operand} {t e : TypeId} {ad : Option Addr} {xs : List Int} {c : Nat} {k : IntKind} {i : Int}
    (hA : IntsA N h0' ad xs) (hu : P.underlying t = some (.slice e)) (hz : szOf P e = some 1) (hx : ev l x = some (.slice ad xs.length c)) (hy : ev l y = some (.int k i)) (h0 : 0 ≤ i) (h1 : i < (xs.length : Int)) :
    Op1 P prim ⟨d, .indexAddr t x y, ty, pos, after, g⟩ (St base n ms l) h (.pointer (some ⟨blkA ad, offA ad + i.toNat, none⟩)) h := Op1.idxA hu hz hx hy (hA.ne h0 h1) h0 h1
end Go.AM
