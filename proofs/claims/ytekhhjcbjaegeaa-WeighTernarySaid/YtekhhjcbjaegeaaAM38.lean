/- Walking with letters: appending, by rules of a region. -/
import Derived.Test.YtekhhjcbjaegeaaAM37
set_option linter.all false
namespace Go.AM
open Go
variable {P : Program} {prim : Prim}
/-- A slice whose values are appended. -/
def Src (h : Heap) (s : Value) (us : List Value) : Prop :=
  (s = .slice none 0 0 ∧ us = []) ∨ ∃ b o f c cs, s = .slice (some ⟨b, o, f⟩) us.length c ∧ h.rd b = some cs ∧ ∀ j, j < us.length → cs[o + j]? = us[j]?
/-- An argument: a slice of numbers. -/
def SlA (N : Nat) (h : Heap) (ad : Option Addr) (xs : List Int) (c : Nat) : Prop :=
  (ad = none ∧ xs = [] ∧ c = 0) ∨ ∃ b o cs, ad = some ⟨b, o, none⟩ ∧ b < N ∧ xs.length ≤ c ∧ h.rd b = some cs ∧ ∀ j x, xs[j]? = some x → cs[o + j]? = some (.int .i64 x)
theorem SlA.ints {N : Nat} {h : Heap} {ad : Option Addr} {xs : List Int} {c : Nat} (s : SlA N h ad xs c) : IntsA N h ad xs := by
  intro hne
  rcases s with ⟨_, e, _⟩ | ⟨b, o, cs, rfl, hb, _, hg, hx⟩
  · exact absurd e hne
  · exact ⟨_, rfl, hb, cs, hg, hx⟩
theorem SlA.keepN {N : Nat} {h h' : Heap} {ad : Option Addr} {xs : List Int} {c : Nat} (s : SlA N h ad xs c) (k : KeepN N h h') : SlA N h' ad xs c := by
  rcases s with s | ⟨b, o, cs, rfl, hb, hl, hg, hx⟩
  · exact .inl s
  · exact .inr ⟨b, o, cs, rfl, hb, hl, k.rd hb hg, hx⟩
theorem SlA.src {N : Nat} {h : Heap} {ad : Option Addr} {xs : List Int} {c k : Nat} (s : SlA N h ad xs c) (hk : k ≤ xs.length) : Src h (.slice ad k c) (ivs (xs.take k)) := by
  have hl : (ivs (xs.take k)).length = k := by rw [ivs_len, List.length_take]; omega
  rcases s with ⟨rfl, rfl, rfl⟩ | ⟨b, o, cs, rfl, _, _, hg, hx⟩
  · obtain rfl : k = 0 := by simpa using hk
    exact .inl ⟨rfl, rfl⟩
  · refine .inr ⟨b, o, none, c, cs, by rw [hl], hg, fun j hj => ?_⟩
    rw [hl] at hj
    have hj2 : j < xs.length := by omega
    rw [hx j _ (List.getElem?_eq_getElem hj2)]
    simp [ivs, List.getElem?_take, hj, List.getElem?_eq_getElem hj2]
theorem Src.one {h : Heap} {b c : Nat} {v : Value} {f : Option Nat} (hg : h.get b = some (.cells [v])) : Src h (.slice (some ⟨b, 0, f⟩) 1 c) [v] := .inr ⟨b, 0, f, c, _, rfl, rd_of hg, fun j _ => by rw [Nat.zero_add]⟩
theorem Acc.src {N : Nat} {h : Heap} {s : Value} {vs : List Value} (a : Acc N h s vs) : Src h s vs := by
  rcases a with a | ⟨b, f, e, _, hg, _⟩
  · exact .inl a
  · exact .inr ⟨b, 0, f, _, vs, e, rd_of hg, fun j _ => by rw [Nat.zero_add]⟩
theorem Src.keepN {N : Nat} {h h' : Heap} {s : Value} {us : List Value} (a : Src h s us) (k : KeepN N h h') (hN : ∀ b o f m c, s = .slice (some ⟨b, o, f⟩) m c → b < N) : Src h' s us := by
  rcases a with a | ⟨b, o, f, c, cs, e, hg, hc⟩
  · exact .inl a
  · exact .inr ⟨b, o, f, c, cs, e, k.rd (hN _ _ _ _ _ e) hg, hc⟩
theorem Src.grow {h h' : Heap} {s : Value} {us : List Value} (a : Src h s us) (g : Grow h h') : Src h' s us := by
  rcases a with a | ⟨b, o, f, c, cs, e, hg, hc⟩
  · exact .inl a
  · exact .inr ⟨b, o, f, c, cs, e, g.rd hg, hc⟩
theorem Acc.lit0 {N b : Nat} {h : Heap} (hN : N ≤ b) (hg : h.get b = some (.cells [])) : Acc N h (.slice (some ⟨b, 0, none⟩) 0 0) [] := .inr ⟨b, none, rfl, hN, hg, .inl rfl⟩
theorem ivs_all (xs : List Int) : (ivs xs).all (·.oneCell') = true := by
  rw [List.all_eq_true]
  intro v hv
  obtain ⟨x, _, rfl⟩ := List.mem_map.1 hv
  rfl
theorem ivs_app (xs ys : List Int) : ivs (xs ++ ys) = ivs xs ++ ivs ys := by simp [ivs]
section app
variable {ops : Array Oper} {rest : List Oper} {base : Tr Value} {n : Nat} {ms : List Nat} {l : Env} {h h1 : Heap} {R : A → Heap → Prop} {d j m : Nat} {ty : TypeId} {pos : String} {after : Array Edge} {x y : Operand} {t tx e : TypeId} {N : Nat} {s u : Value} {vs us : List Value} {σ : List Nat} {last : Option Nat} {pend pend2 : Pend} {g : Option (Nat × Bool)}
theorem Op1.appS {d : Option Tmp} (hu : P.underlying t = some (.slice e)) (hx' : P.underlying tx = some (.slice e)) (h1 : OneCell P e) (hx : ev l x = some s) (hA : Acc N h s vs) (hy : ev l y = some u) (hS : Src h u us) (hf : us.all (·.oneCell') = true) (hN : N ≤ h.next) (hl : vs.length + us.length ≤ 1000000000) :
    ∃ s' h1, Op1 P prim ⟨d, .call ⟨.builtin .append, #[x, y], #[t, tx]⟩, ty, pos, after, g⟩ (St base n ms l) h s' h1 ∧ Acc N h1 s' (vs ++ us) ∧ KeepN N h h1 ∧ h1.next ≤ h.next + 1 ∧ (us = [] → h1 = h ∧ s' = s) := by
  rcases hS with ⟨rfl, rfl⟩ | ⟨b, o, f, c, cs, rfl, hb, hc⟩
  · refine ⟨s, h, ?_, by rw [List.append_nil]; exact hA, KeepN.refl _ _, by omega, fun _ => ⟨rfl, rfl⟩⟩
    obtain ⟨i, z, hi, hz, hok, hsz⟩ := h1.ex
    have hel : elemOfSlice P t = some e := by unfold elemOfSlice; rw [hu]
    have hni : notInt P tx = true := by unfold notInt; rw [hx']
    have key : aappend P #[t, tx] s (.slice none 0 0) h = some (s, h) := by
      unfold aappend
      simp only [show (#[t, tx] : Array TypeId)[0]? = some t from rfl, show (#[t, tx] : Array TypeId)[1]? = some tx from rfl, Option.bind_some, hni, cond_true, hel, hi, hz, hok, source, id]
      rcases hA with ⟨rfl, rfl⟩ | ⟨b1, f1, rfl, _, _, _⟩
      · rfl
      · have : Nat.ble (vs.length + 0) vs.length = true := by rw [Nat.ble_eq]; simp
        simp only [this, cond_true]; rfl
    exact .of (by simp only [AM.aop, aevs, ev_eval hx, ev_eval hy, Option.bind_some, Option.map_some, abuiltin, key])
  · by_cases h0 : us = []
    · subst h0
      obtain ⟨i, z, hi, hz, hok, hsz⟩ := h1.ex
      have hel : elemOfSlice P t = some e := by unfold elemOfSlice; rw [hu]
      have hni : notInt P tx = true := by unfold notInt; rw [hx']
      have hcut : cut cs o 0 = some [] := cut_all rfl (fun j hj => by omega)
      have key : aappend P #[t, tx] s (.slice (some ⟨b, o, f⟩) ([] : List Value).length c) h = some (s, h) := by
        unfold aappend
        simp only [show (#[t, tx] : Array TypeId)[0]? = some t from rfl, show (#[t, tx] : Array TypeId)[1]? = some tx from rfl, Option.bind_some, hni, cond_true, hel, hi, hz, hok, source, id, hb, List.length_nil, Nat.zero_mul, hcut, Option.map_some]
        rcases hA with ⟨rfl, rfl⟩ | ⟨b1, f1, rfl, _, _, _⟩
        · rfl
        · have : Nat.ble (vs.length + 0) vs.length = true := by rw [Nat.ble_eq]; simp
          simp only [this, cond_true]; rfl
      exact ⟨s, h, .of (by simp only [AM.aop, aevs, ev_eval hx, ev_eval hy, Option.bind_some, Option.map_some, abuiltin, key]), by rw [List.append_nil]; exact hA, KeepN.refl _ _, by omega, fun _ => ⟨rfl, rfl⟩⟩
    · obtain ⟨s', h1, a1, a2, a3, a4, a5⟩ := Op1.app (prim := prim) (d := d) (ty := ty) (pos := pos) (after := after) (g := g) (base := base) (n := n) (ms := ms) hu hx' h1 hx hA hy hb hc hf hN hl
      exact ⟨s', h1, a1, a2, a3, a5, fun e => absurd e h0⟩
theorem RG.app (hu : P.underlying t = some (.slice e)) (hx' : P.underlying tx = some (.slice e)) (h1 : OneCell P e) (hx : ev l x = some s) (hA : Acc N h s vs) (hy : ev l y = some u) (hS : Src h u us) (hf : us.all (·.oneCell') = true) (hN : N ≤ h.next) (hl : vs.length + us.length ≤ 1000000000) (hd : Nat.blt d n = true)
    (k : ∀ s' h1, Acc N h1 s' (vs ++ us) → KeepN N h h1 → h1.next ≤ h.next + 1 → RG P prim ops rest (St base n ms ((d, s') :: l)) h1 R) :
    RG P prim ops (⟨some d, .call ⟨.builtin .append, #[x, y], #[t, tx]⟩, ty, pos, after, none⟩ :: rest) (St base n ms l) h R := by
  obtain ⟨s', h1, a1, a2, a3, a4, _⟩ := Op1.appS (prim := prim) (d := some d) (ty := ty) (pos := pos) (after := after) (g := none) (base := base) (n := n) (ms := ms) hu hx' h1 hx hA hy hS hf hN hl
  exact RG.step a1 hd (k s' h1 a2 a3 a4)
theorem RD.app {dst : Option Tmp} (ho : ops[j]? = some ⟨dst, .call ⟨.builtin .append, #[x, y], #[t, tx]⟩, ty, pos, after, g⟩) (hl' : okLast (masks ops.toList) last j = true) (hg : GOK ops l true g) (hm : (masks ops.toList).getD j 0 = m) (hf' : pfil m pend = pend2) {l' : Value → Env} (hd : ∀ v, nxt n l v dst = some (l' v))
    (hu : P.underlying t = some (.slice e)) (hx' : P.underlying tx = some (.slice e)) (h1 : OneCell P e) (hx : ev l x = some s) (hA : Acc N h s vs) (hy : ev l y = some u) (hS : Src h u us) (hf : us.all (·.oneCell') = true) (hN : N ≤ h.next) (hl : vs.length + us.length ≤ 1000000000)
    (hp : ∀ h1, KeepN N h h1 → PAll pend2 h1)
    (k : ∀ s' h1, Acc N h1 s' (vs ++ us) → KeepN N h h1 → h1.next ≤ h.next + 1 → RD P prim ops σ (St base n ms (l' s')) h1 (some j) pend2 R) :
    RD P prim ops (j :: σ) (St base n ms l) h last pend R := by
  obtain ⟨s', h1, a1, a2, a3, a4, _⟩ := Op1.appS (prim := prim) (d := dst) (ty := ty) (pos := pos) (after := after) (g := g) (base := base) (n := n) (ms := ms) hu hx' h1 hx hA hy hS hf hN hl
  exact RD.eff ho rfl hl' hg a1 a3.next hm hf' (hp h1 a3) (hd s') (k s' h1 a2 a3 a4)
end app
end Go.AM
namespace Go.AM
open Go
theorem SlA.cap {N : Nat} {h : Heap} {ad : Option Addr} {xs : List Int} {c : Nat} (s : SlA N h ad xs c) : xs.length ≤ c := by
  rcases s with ⟨rfl, rfl, rfl⟩ | ⟨b, o, cs, rfl, _, h1, _⟩
  · exact Nat.le_refl _
  · exact h1
theorem SlA.form {N : Nat} {h : Heap} {ad : Option Addr} {xs : List Int} {c : Nat} (s : SlA N h ad xs c) : (∃ b o, ad = some ⟨b, o, none⟩) ∨ (∃ b o, ad = some ⟨b, o, some 1⟩) ∨ (ad = none ∧ xs.length = 0 ∧ c = 0) := by
  rcases s with ⟨rfl, rfl, rfl⟩ | ⟨b, o, cs, rfl, _, h1, _⟩
  · exact .inr (.inr ⟨rfl, rfl, rfl⟩)
  · exact .inl ⟨b, o, rfl⟩
end Go.AM
namespace Go.AM
open Go
theorem Acc.ia {N : Nat} {h : Heap} {ad : Option Addr} {xs : List Int} {m c : Nat} (a : Acc N h (.slice ad m c) (ivs xs)) : IntsA h.next h ad xs := by
  obtain ⟨ad2, e, hi, _⟩ := a.nums
  injection e with e1 _ _
  rw [e1]; exact hi
theorem Acc.some {N : Nat} {h : Heap} {s : Value} {vs : List Value} (a : Acc N h s vs) (hne : vs ≠ []) : ∃ a0, s = .slice (some a0) vs.length vs.length := by
  rcases a with ⟨_, e⟩ | ⟨b, f, rfl, _⟩
  · exact absurd e hne
  · exact ⟨_, rfl⟩
end Go.AM
