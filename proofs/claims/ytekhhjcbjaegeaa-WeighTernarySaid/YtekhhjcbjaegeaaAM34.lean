/- Walking with letters: clipped slices, literals, ranges over functions. -/
import Derived.Test.YtekhhjcbjaegeaaAM33
set_option linter.all false
namespace Go.AM
open Go
variable {P : Program} {prim : Prim}

theorem zeros_one {e : TypeId} {z : Value} (hs : szOf P e = some 1) (hz : zeroOf P e = some z) (hf : flat1 z = true) (hc : z.cells = #[z]) (n : Nat) : zerosOf P e n = some (List.replicate n [z]).flatten := by
  unfold zerosOf
  simp only [hs, hz, Option.bind_some, hc]
  simp [hf]
/-- A slice that nobody else appends to in its place. -/
def AccC (h : Heap) (s : Value) (vs : List Value) : Prop :=
  (s = .slice none 0 0 ∧ vs = []) ∨ ∃ b, s = .slice (some ⟨b, 0, none⟩) vs.length vs.length ∧ h.get b = some (.cells vs)
def clipV : Value → Value
  | .slice (some ⟨b, o, _⟩) m _ => .slice (some ⟨b, o, none⟩) m m
  | v => v
theorem Acc.clip {N : Nat} {h : Heap} {s : Value} {vs : List Value} (a : Acc N h s vs) : AccC h (clipV s) vs := by
  rcases a with ⟨rfl, rfl⟩ | ⟨b, f, rfl, _, hg, _⟩
  · exact .inl ⟨rfl, rfl⟩
  · exact .inr ⟨b, rfl, hg⟩
theorem AccC.grow {h h' : Heap} {s : Value} {vs : List Value} (a : AccC h s vs) (g : Grow h h') : AccC h' s vs := by
  rcases a with a | ⟨b, e, hg⟩
  · exact .inl a
  · exact .inr ⟨b, e, g.get hg⟩
theorem Acc.cells {N : Nat} {h : Heap} {s : Value} {vs : List Value} (a : Acc N h s vs) : s.cells = #[s] := by
  rcases a with ⟨rfl, rfl⟩ | ⟨b, f, rfl, _⟩ <;> rfl
section ops
variable {base : Tr Value} {n : Nat} {ms : List Nat} {l : Env} {h : Heap} {v : Value} {d : Option Tmp} {ty : TypeId} {pos : String} {after : Array Edge} {g : Option (Nat × Bool)} {x y z : Operand} {t tx t' e : TypeId}
/-- A slice of one value. -/
theorem Op1.lit1 {zv : Value} (hu : P.underlying t = some (.slice e)) (hs : szOf P e = some 1) (hz : zeroOf P e = some zv) (hf : flat1 zv = true) (hc : zv.cells = #[zv]) (hx : ev l x = some v) (hv : v.cells = #[v]) :
    Op1 P prim ⟨d, .buildSlice t 1 #[(0, x)], ty, pos, after, g⟩ (St base n ms l) h (.slice (some ⟨h.next, 0, none⟩) 1 1) (h.push (.cells [v])) := by
  refine .of ?_
  have hel : elemOfSlice P t = some e := by unfold elemOfSlice; rw [hu]
  have h1 : zerosOf P e 1 = some [zv] := by rw [zeros_one hs hz hf hc]; rfl
  have h2 : fillL (fun i => some (i * 1, 1)) [zv] [(0, v)] = some [v] := by
    simp only [fillL, Option.bind_some, hv]; rfl
  simp only [aop, aparts, ev_eval hx, Option.bind_some, Option.map_some, abuildSlice, hel, hs, h1, h2, show Nat.ble (1 * 1) 16777216 = true from rfl, cond_true]
theorem Op1.lit0 {zv : Value} (hu : P.underlying t = some (.slice e)) (hs : szOf P e = some 1) (hz : zeroOf P e = some zv) (hf : flat1 zv = true) (hc : zv.cells = #[zv]) :
    Op1 P prim ⟨d, .buildSlice t 0 #[], ty, pos, after, g⟩ (St base n ms l) h (.slice (some ⟨h.next, 0, none⟩) 0 0) (h.push (.cells [])) := by
  refine .of ?_
  have hel : elemOfSlice P t = some e := by unfold elemOfSlice; rw [hu]
  have h1 : zerosOf P e 0 = some [] := by rw [zeros_one hs hz hf hc]; rfl
  simp only [aop, aparts, Option.bind_some, Option.map_some, abuildSlice, hel, hs, h1, fillL, show Nat.ble (0 * 1) 16777216 = true from rfl, cond_true]
/-- s[:len(s):len(s)]. -/
theorem Op1.clip {s : Value} {vs : List Value} {N : Nat} {m1 m2 : Int} (hu : P.underlying t = some (.slice e)) (hs : szOf P e = some 1) (hx : ev l x = some s) (hA : Acc N h s vs) (hy : ev l y = some (.int .i64 m1)) (hz : ev l z = some (.int .i64 m2)) (h1 : m1 = vs.length) (h2 : m2 = vs.length) :
    Op1 P prim ⟨d, .slice t x none (some y) (some z), ty, pos, after, g⟩ (St base n ms l) h (clipV s) h := by
  subst h1; subst h2
  refine .of ?_
  have e1 : decide ((0 : Int) ≤ (vs.length : Int)) = true := by simp
  rcases hA with ⟨rfl, rfl⟩ | ⟨b, f, rfl, _, hg, hf⟩
  · simp only [aop, ev_eval hx, ev_eval hy, ev_eval hz, Option.bind_some, aevO, Option.map_some, aslice, bnd, List.length_nil, hu, hs]
    rfl
  · have e2 : okB 0 vs.length vs.length vs.length = true := by unfold okB; simp
    have e3 : ∀ q : Nat, (bif Nat.beq q 0 then 0 else 0 + 0 * 1) = 0 := fun q => by cases Nat.beq q 0 <;> rfl
    rcases hf with rfl | rfl
    · simp only [aop, ev_eval hx, ev_eval hy, ev_eval hz, Option.bind_some, aevO, Option.map_some, aslice, bnd, hu, hs, e1, cond_true, Int.toNat_natCast, imp, Option.isSome_some, Bool.not_true, Bool.or_true, Option.getD_none, Option.getD_some, e2, e3, clipV, Nat.sub_zero]
    · simp only [aop, ev_eval hx, ev_eval hy, ev_eval hz, Option.bind_some, aevO, Option.map_some, aslice, bnd, hu, hs, e1, cond_true, Int.toNat_natCast, imp, Option.isSome_some, Bool.not_true, Bool.or_true, Option.getD_none, Option.getD_some, e2, e3, clipV, Nat.sub_zero, Nat.beq_refl, Bool.and_self]
/-- Appending to a clipped slice. -/
theorem Op1.appC {s : Value} {vs us : List Value} {b o c : Nat} {f : Option Nat} {cs : List Value} (hu : P.underlying t = some (.slice e)) (hx' : P.underlying tx = some (.slice e)) (h1 : OneCell P e) (hx : ev l x = some s) (hA : AccC h s vs) (hy : ev l y = some (.slice (some ⟨b, o, f⟩) us.length c))
    (hb : h.rd b = some cs) (hc : ∀ j, j < us.length → cs[o + j]? = us[j]?) (hp : 0 < us.length) (hl : vs.length + us.length ≤ 1000000000) :
    Op1 P prim ⟨d, .call ⟨.builtin .append, #[x, y], #[t, tx]⟩, ty, pos, after, g⟩ (St base n ms l) h (.slice (some ⟨h.next, 0, some 1⟩) (vs.length + us.length) (vs.length + us.length)) (h.push (.cells (vs ++ us))) := by
  obtain ⟨i, z, hi, hz, hok, hsz⟩ := h1.ex
  have hel : elemOfSlice P t = some e := by unfold elemOfSlice; rw [hu]
  have hni : notInt P tx = true := by unfold notInt; rw [hx']
  have hcut : cut cs o us.length = some us := cut_all rfl hc
  have hsrc : source (.slice (some ⟨b, o, f⟩) us.length c) i.size id h = some (us.length, us) := by
    simp only [source, hb, Option.bind_some, id, hsz, Nat.mul_one, hcut, Option.map_some]
  have h0 : Nat.beq us.length 0 = false := by
    cases hb0 : Nat.beq us.length 0 with
    | false => rfl
    | true => rw [Nat.eq_of_beq_eq_true hb0] at hp; omega
  refine .of ?_
  have hap : aappend P #[t, tx] s (.slice (some ⟨b, o, f⟩) us.length c) h = some (.slice (some ⟨h.next, 0, some 1⟩) (vs.length + us.length) (vs.length + us.length), h.push (.cells (vs ++ us))) := by
    unfold aappend
    simp only [show (#[t, tx] : Array TypeId)[0]? = some t from rfl, show (#[t, tx] : Array TypeId)[1]? = some tx from rfl, Option.bind_some, hni, cond_true, hel, hi, hz, hok, hsrc]
    rcases hA with ⟨rfl, rfl⟩ | ⟨b1, rfl, hg1⟩
    · have hle : Nat.ble us.length 1000000000 = true := by rw [Nat.ble_eq]; simp at hl; omega
      simp only [h0, hle, cond_true, cond_false, hsz, List.length_nil, Nat.zero_add, List.nil_append]
    · have hle : Nat.ble (vs.length + us.length) vs.length = false := by
        cases hb0 : Nat.ble (vs.length + us.length) vs.length with
        | false => rfl
        | true => rw [Nat.ble_eq] at hb0; omega
      have hle2 : Nat.ble (vs.length + us.length) 1000000000 = true := by rw [Nat.ble_eq]; exact hl
      simp only [hle, cond_false, hle2, cond_true, cs_of hg1, Option.bind_some, hsz, Nat.mul_one, cut_whole]
  simp only [aop, aevs, ev_eval hx, ev_eval hy, Option.bind_some, Option.map_some, abuiltin, hap]
end ops

/-! ### Ranges over functions -/
/-- The block of a loop. -/
def LB (base : Tr Value) (n : Nat) (l : Env) (ps : Array Tmp) (asg body : Code) (mk : Nat) (st : LoopState) (p : Option Code) : Blk := .loop st p (over base l) n ps asg body mk
theorem run_rangeFunc (k : Nat) (ro : Option Nat) (x : Operand) (ps : Array Tmp) (asg body : Code) (a : A) (h : Heap) : AM.run P prim (k + 1) ro (.rangeFunc x ps asg body) a h = rangeF P prim (AM.run P prim k) ro x ps asg body a h := rfl
section rf
variable {base : Tr Value} {n : Nat} {ms : List Nat} {l : Env} {h : Heap} {Q : AX → A → Heap → Prop} {x : Operand} {ps : Array Tmp} {asg body : Code} {f : Nat} {y1 y2 : Array Value}
/-- A range over a function, outside of any other. -/
theorem W.range {R' : Value → Heap → Prop} (hx : ev l x = some (.func (.func f) y1 y2))
    (hc : CW P prim f (y1.toList ++ [.func (.yield (h.next + 1)) #[] #[]] ++ y2.toList) ((h.push .mark).push (LB base n l ps asg body h.next .ready none)) R')
    (k : ∀ r h3, R' r h3 → ∃ st p, h3.get (h.next + 1) = some (LB base n l ps asg body h.next st p) ∧ st ≠ .busy ∧ (match p with
      | none => Q .normal (St base n (h.next :: ms) l) (h3.put (h.next + 1) (some (LB base n l ps asg body h.next .exhausted none)))
      | some c => W P prim none c (St base n (h.next :: ms) l) (h3.put (h.next + 1) (some (LB base n l ps asg body h.next .exhausted (some c)))) Q)) :
    W P prim none (.rangeFunc x ps asg body) (St base n ms l) h Q := by
  obtain ⟨v, h3, ⟨m, hm⟩, r⟩ := hc
  obtain ⟨st, p, hL, hst, k⟩ := k v h3 r
  have hbusy : (match st with | .busy => none | _ => some ()) = some () := by cases st <;> first | rfl | exact absurd rfl hst
  have step : ∀ m', m ≤ m' → rangeF P prim (AM.run P prim m') none x ps asg body (St base n ms l) h = (match p with
      | none => some (.normal, St base n (h.next :: ms) l, h3.put (h.next + 1) (some (LB base n l ps asg body h.next .exhausted none)))
      | some c => AM.run P prim m' none c (St base n (h.next :: ms) l) (h3.put (h.next + 1) (some (LB base n l ps asg body h.next .exhausted (some c))))) := by
    intro m' hm'
    unfold rangeF
    simp only [ev_eval hx, Option.bind_some]
    have hcall := callF_mono (run_mono hm') hm
    have e1 : (h.push Blk.mark).next = h.next + 1 := Heap.push_next _ _
    simp only [e1]
    unfold LB at hcall
    unfold St
    simp only [hcall, Option.bind_some, hL, LB, hbusy]
    cases p <;> rfl
  cases p with
  | none => exact ⟨_, _, _, ⟨m + 1, by rw [run_rangeFunc, step m (Nat.le_refl _)]⟩, k⟩
  | some c =>
    obtain ⟨e, a', h', ⟨m2, hr⟩, q⟩ := k
    refine ⟨e, a', h', ⟨max m m2 + 1, ?_⟩, q⟩
    rw [run_rangeFunc, step _ (Nat.le_max_left _ _)]
    exact run_mono (Nat.le_max_right _ _) _ _ _ _ _ hr
/-- A round. -/
theorem CWV.yield {L : Nat} {mk : Nat} {args : List Value} {p : Option Code} {l2 : Env} {R : Value → Heap → Prop} (hL : h.get L = some (LB base n l ps asg body mk .ready p)) (hlen : Nat.beq args.length ps.size = true) (hset : setL (over base l) n (ps.toList.zip args) = some (over base l2))
    (k : W P prim (some L) asg (St base n [] l2) h fun e a1 h1 => e = .normal ∧ h1.get L = some (LB base n l ps asg body mk .ready p) ∧
      W P prim (some L) body a1 (h1.put L (some (LB base n l ps asg body mk .busy p))) fun e2 a2 h2 => h2.get L = some (LB base n l ps asg body mk .busy p) ∧
        R (.bool (jumpOf e2).isNone) (h2.put L (some (LB base n l ps asg body mk (bif (jumpOf e2).isNone then .ready else .done) (jumpOf e2))))) :
    CWV P prim (.func (.yield L) #[] #[]) args h R := by
  obtain ⟨e, a1, h1, ⟨m1, r1⟩, rfl, hL1, e2, a2, h2, ⟨m2, r2⟩, hL2, hR⟩ := k
  refine ⟨_, _, ⟨rfl, max m1 m2, ?_⟩, hR⟩
  unfold yieldF
  simp only [hL, LB, hlen, cond_true, hset, Option.bind_some]
  have r1' := run_mono (Nat.le_max_left m1 m2) _ _ _ _ _ r1
  have r2' := run_mono (Nat.le_max_right m1 m2) _ _ _ _ _ r2
  unfold St at r1'
  simp only [r1', Option.bind_some, hL1, LB]
  unfold LB at r2'
  simp only [r2', Option.bind_some, hL2, LB]
end rf
end Go.AM
namespace Go.AM
open Go
def ivs (xs : List Int) : List Value := xs.map (Value.int .i64)
theorem ivs_len (xs : List Int) : (ivs xs).length = xs.length := by simp [ivs]
theorem Acc.nums {N : Nat} {h : Heap} {s : Value} {xs : List Int} (a : Acc N h s (ivs xs)) : ∃ ad, s = .slice ad xs.length xs.length ∧ IntsA h.next h ad xs ∧ (xs ≠ [] → N ≤ blkA ad) := by
  rcases a with ⟨rfl, he⟩ | ⟨b, f, rfl, hb, hg, _⟩
  · have : xs = [] := by simpa [ivs] using he
    subst this
    exact ⟨none, rfl, IntsA.nil, fun e => absurd rfl e⟩
  · rw [ivs_len]
    refine ⟨_, rfl, fun _ => ⟨_, rfl, Heap.get_lt hg, _, rd_of hg, fun j x hx => ?_⟩, fun _ => hb⟩
    simp [ivs, hx]
theorem IntsA.keepB {N : Nat} {h h' : Heap} {ad : Option Addr} {xs : List Int} {M : Nat → Prop} (i : IntsA N h ad xs) (hm : xs ≠ [] → ¬ M (blkA ad)) (g : GrowBut M h h') : IntsA N h' ad xs := fun e => by
  have hm := hm e
  obtain ⟨a, rfl, e2, e3⟩ := i e
  exact ⟨a, rfl, e2, e3.keepB hm g⟩
theorem Acc.keepB {N : Nat} {h h' : Heap} {s : Value} {vs : List Value} {M : Nat → Prop} (a : Acc N h s vs) (hm : ∀ b, M b → b < N) (g : GrowBut M h h') : Acc N h' s vs := by
  rcases a with a | ⟨b, f, e, hb, hg, hf⟩
  · exact .inl a
  · exact .inr ⟨b, f, e, hb, g.get (fun hM => by have := hm b hM; omega) hg, hf⟩
end Go.AM
