/- Walking with letters: what each operation comes to. -/
import Derived.Test.YtekhhjcbjaegeaaAM29
set_option linter.all false
namespace Go.AM
open Go
variable {P : Program} {prim : Prim}

/-! ### Heaps by letters -/
structure Grow (h h' : Heap) : Prop where
  next : h.next ≤ h'.next
  old : ∀ b, b < h.next → h'.get b = h.get b
theorem Grow.refl (h : Heap) : Grow h h := ⟨Nat.le_refl _, fun _ _ => rfl⟩
theorem Grow.trans {a b c : Heap} (x : Grow a b) (y : Grow b c) : Grow a c := ⟨Nat.le_trans x.next y.next, fun d hd => (y.old d (Nat.lt_of_lt_of_le hd x.next)).trans (x.old d hd)⟩
theorem Grow.push (h : Heap) (x : Blk) : Grow h (h.push x) := ⟨by rw [Heap.push_next]; omega, fun b hb => by rw [Heap.get_push, if_neg (by omega)]⟩
theorem Grow.get {h h' : Heap} (g : Grow h h') {b : Nat} {x : Blk} (e : h.get b = some x) : h'.get b = some x := (g.old b (Heap.get_lt e)).trans e
/-- Like 'Grow', but for some old blocks. -/
structure GrowBut (M : Nat → Prop) (h h' : Heap) : Prop where
  next : h.next ≤ h'.next
  old : ∀ b, b < h.next → ¬ M b → h'.get b = h.get b
theorem GrowBut.refl (M : Nat → Prop) (h : Heap) : GrowBut M h h := ⟨Nat.le_refl _, fun _ _ _ => rfl⟩
theorem GrowBut.trans {M : Nat → Prop} {a b c : Heap} (x : GrowBut M a b) (y : GrowBut M b c) : GrowBut M a c := ⟨Nat.le_trans x.next y.next, fun d hd hm => (y.old d (Nat.lt_of_lt_of_le hd x.next) hm).trans (x.old d hd hm)⟩
theorem Grow.but {M : Nat → Prop} {h h' : Heap} (g : Grow h h') : GrowBut M h h' := ⟨g.next, fun b hb _ => g.old b hb⟩
theorem GrowBut.get {M : Nat → Prop} {h h' : Heap} (g : GrowBut M h h') {b : Nat} {x : Blk} (hm : ¬ M b) (e : h.get b = some x) : h'.get b = some x := (g.old b (Heap.get_lt e) hm).trans e
theorem GrowBut.mono {M M' : Nat → Prop} {h h' : Heap} (g : GrowBut M h h') (k : ∀ b, M b → M' b) : GrowBut M' h h' := ⟨g.next, fun b hb hm => g.old b hb (fun hM => hm (k b hM))⟩
def cellAt (h : Heap) (b q : Nat) : Option Value := (h.rd b).bind (·[q]?)
theorem cs_of {h : Heap} {b : Nat} {cs : List Value} (e : h.get b = some (.cells cs)) : h.cs b = some cs := by unfold Heap.cs; rw [e]
theorem rd_of {h : Heap} {b : Nat} {cs : List Value} (e : h.get b = some (.cells cs)) : h.rd b = some cs := Heap.rd_of e rfl
theorem rd_lt {h : Heap} {b : Nat} {cs : List Value} (e : h.rd b = some cs) : b < h.next := let ⟨_, hg, _⟩ := Heap.rd_some e; Heap.get_lt hg
theorem rd_same {h h' : Heap} {b : Nat} {cs : List Value} (e : h.rd b = some cs) (g : h'.get b = h.get b) : h'.rd b = some cs := let ⟨_, hg, hx⟩ := Heap.rd_some e; Heap.rd_of (g.trans hg) hx
theorem Grow.rd {h h' : Heap} (g : Grow h h') {b : Nat} {cs : List Value} (e : h.rd b = some cs) : h'.rd b = some cs := rd_same e (g.old b (rd_lt e))
theorem GrowBut.rd {M : Nat → Prop} {h h' : Heap} (g : GrowBut M h h') {b : Nat} {cs : List Value} (hm : ¬ M b) (e : h.rd b = some cs) : h'.rd b = some cs := rd_same e (g.old b (rd_lt e) hm)
theorem cellAt_of {h : Heap} {b q : Nat} {cs : List Value} {v : Value} (e : h.get b = some (.cells cs)) (hv : cs[q]? = some v) : cellAt h b q = some v := by unfold cellAt; rw [rd_of e]; exact hv
theorem cellAt_rd {h : Heap} {b q : Nat} {cs : List Value} {v : Value} (e : h.rd b = some cs) (hv : cs[q]? = some v) : cellAt h b q = some v := by unfold cellAt; rw [e]; exact hv
/-- Whole numbers from a place on. -/
def Ints (h : Heap) (b o : Nat) (xs : List Int) : Prop := ∃ cs, h.rd b = some cs ∧ ∀ (j : Nat) (x : Int), xs[j]? = some x → cs[o + j]? = some (.int .i64 x)
theorem Ints.keep {h h' : Heap} {b o : Nat} {xs : List Int} (i : Ints h b o xs) (g : Grow h h') : Ints h' b o xs := let ⟨cs, e, k⟩ := i; ⟨cs, g.rd e, k⟩
theorem Ints.lt {h : Heap} {b o : Nat} {xs : List Int} (i : Ints h b o xs) : b < h.next := let ⟨cs, e, k⟩ := i; rd_lt e
theorem Ints.keepB {M : Nat → Prop} {h h' : Heap} {b o : Nat} {xs : List Int} (i : Ints h b o xs) (hm : ¬ M b) (g : GrowBut M h h') : Ints h' b o xs := let ⟨cs, e, k⟩ := i; ⟨cs, g.rd hm e, k⟩
theorem Ints.same {h h' : Heap} {b o : Nat} {xs : List Int} (i : Ints h b o xs) (g : h'.get b = h.get b) : Ints h' b o xs := let ⟨cs, e, k⟩ := i; ⟨cs, rd_same e g, k⟩
theorem Ints.at {h : Heap} {b o : Nat} {xs : List Int} (i : Ints h b o xs) {j : Int} (h0 : 0 ≤ j) (h1 : j < xs.length) : cellAt h b (o + j.toNat) = some (.int .i64 (xs.getD j.toNat 0)) := by
  obtain ⟨cs, e, k⟩ := i
  refine cellAt_rd e (k _ _ ?_)
  rw [List.getD_eq_getElem?_getD, List.getElem?_eq_getElem (show j.toNat < xs.length by omega)]; rfl
theorem Ints.nat {h : Heap} {b o : Nat} {xs : List Int} (i : Ints h b o xs) {j : Nat} (h1 : j < xs.length) : cellAt h b (o + j) = some (.int .i64 (xs.getD j 0)) := by
  have := i.at (j := (j : Int)) (by omega) (by omega)
  rwa [Int.toNat_natCast] at this

section ops
variable {base : Tr Value} {n : Nat} {ms : List Nat} {l : Env} {h : Heap} {v : Value} {d : Option Tmp} {ty : TypeId} {pos : String} {after : Array Edge} {g : Option (Nat × Bool)} {x y z : Operand} {t t' : TypeId}
theorem Op1.move (hx : ev l x = some v) : Op1 P prim ⟨d, .move x, ty, pos, after, g⟩ (St base n ms l) h v h := .of (by simp only [aop, ev_eval hx, Option.map_some])
theorem Op1.assign (hx : ev l x = some v) : Op1 P prim ⟨d, .assign x, ty, pos, after, g⟩ (St base n ms l) h v h := .of (by simp only [aop, ev_eval hx, Option.map_some])
theorem Op1.pickT (hz : ev l z = some (.bool true)) (hx : ev l x = some v) : Op1 P prim ⟨d, .pick z x y, ty, pos, after, g⟩ (St base n ms l) h v h := .of (by simp only [aop, ev_eval hz, ev_eval hx, Option.bind_some, cond_true, Option.map_some])
theorem Op1.pickF (hz : ev l z = some (.bool false)) (hx : ev l y = some v) : Op1 P prim ⟨d, .pick z x y, ty, pos, after, g⟩ (St base n ms l) h v h := .of (by simp only [aop, ev_eval hz, ev_eval hx, Option.bind_some, cond_false, Option.map_some])

/-! Numbers -/
theorem wrap64 {m : Int} (h : -9223372036854775808 ≤ m ∧ m < 9223372036854775808) : IntKind.wrap .i64 m = m := by
  have hb : IntKind.bits .i64 = 64 := rfl
  have hg : IntKind.signed .i64 = true := rfl
  unfold IntKind.wrap
  simp only [hb, hg, Bool.true_and]
  have e1 : (2 ^ 64 : Int) = 18446744073709551616 := by decide
  have e2 : (2 ^ (64 - 1) : Int) = 9223372036854775808 := by decide
  rw [e1, e2]
  split
  · next h => simp only [decide_eq_true_eq] at h; omega
  · next h => simp only [decide_eq_true_eq] at h; omega
theorem Op1.bin {op : BinOp} {a b : Int} {k : IntKind} (hx : ev l x = some (.int k a)) (hy : ev l y = some (.int k b)) (hb : (binC P op t x y).run (.int k a) (.int k b) = some v) : Op1 P prim ⟨d, .binOp op t x y t', ty, pos, after, g⟩ (St base n ms l) h v h := by
  refine ⟨0, fun m _ => ?_⟩
  rw [ostep_binOp]
  simp only [ev_eval hx, ev_eval hy, Option.bind_some, hb, Option.map_some]
variable {a b : Int}
theorem Op1.add (hx : ev l x = some (.int .i64 a)) (hy : ev l y = some (.int .i64 b)) (hr : -9223372036854775808 ≤ a + b ∧ a + b < 9223372036854775808) : Op1 P prim ⟨d, .binOp .add t x y t', ty, pos, after, g⟩ (St base n ms l) h (.int .i64 (a + b)) h :=
  Op1.bin hx hy (by simp only [binC, ints_int, wrapF_eq, wrap64 hr])
theorem Op1.sub (hx : ev l x = some (.int .i64 a)) (hy : ev l y = some (.int .i64 b)) (hr : -9223372036854775808 ≤ a - b ∧ a - b < 9223372036854775808) : Op1 P prim ⟨d, .binOp .sub t x y t', ty, pos, after, g⟩ (St base n ms l) h (.int .i64 (a - b)) h :=
  Op1.bin hx hy (by simp only [binC, ints_int, wrapF_eq, wrap64 hr])
theorem Op1.mul (hx : ev l x = some (.int .i64 a)) (hy : ev l y = some (.int .i64 b)) (hr : -9223372036854775808 ≤ a * b ∧ a * b < 9223372036854775808) : Op1 P prim ⟨d, .binOp .mul t x y t', ty, pos, after, g⟩ (St base n ms l) h (.int .i64 (a * b)) h :=
  Op1.bin hx hy (by simp only [binC, ints_int, wrapF_eq, wrap64 hr])
theorem Op1.lss {k : IntKind} (hx : ev l x = some (.int k a)) (hy : ev l y = some (.int k b)) : Op1 P prim ⟨d, .binOp .lss t x y t', ty, pos, after, g⟩ (St base n ms l) h (.bool (decide (a < b))) h :=
  Op1.bin hx hy (by simp only [binC, ints_int, intLt_eq])
theorem Op1.gtr {k : IntKind} (hx : ev l x = some (.int k a)) (hy : ev l y = some (.int k b)) : Op1 P prim ⟨d, .binOp .gtr t x y t', ty, pos, after, g⟩ (St base n ms l) h (.bool (decide (b < a))) h :=
  Op1.bin hx hy (by simp only [binC, ints_int, intLt_eq])
theorem not_lt_dec (a b : Int) : (!decide (a < b)) = decide (b ≤ a) := by by_cases h : a < b <;> simp [h] <;> omega
theorem Op1.leq {k : IntKind} (hx : ev l x = some (.int k a)) (hy : ev l y = some (.int k b)) : Op1 P prim ⟨d, .binOp .leq t x y t', ty, pos, after, g⟩ (St base n ms l) h (.bool (decide (a ≤ b))) h :=
  Op1.bin hx hy (by simp only [binC, ints_int, intLt_eq, not_lt_dec])
theorem Op1.geq {k : IntKind} (hx : ev l x = some (.int k a)) (hy : ev l y = some (.int k b)) : Op1 P prim ⟨d, .binOp .geq t x y t', ty, pos, after, g⟩ (St base n ms l) h (.bool (decide (b ≤ a))) h :=
  Op1.bin hx hy (by simp only [binC, ints_int, intLt_eq, not_lt_dec])
theorem intEq_dec (a b : Int) : intEq a b = decide (a = b) := by rw [intEq_eq]; by_cases h : a = b <;> simp [h]
theorem Op1.eql {k : IntKind} (hx : ev l x = some (.int k a)) (hy : ev l y = some (.int k b)) : Op1 P prim ⟨d, .binOp .eql t x y t', ty, pos, after, g⟩ (St base n ms l) h (.bool (decide (a = b))) h :=
  Op1.bin hx hy (by simp only [binC, ints_int, intEq_dec])
theorem Op1.neq {k : IntKind} (hx : ev l x = some (.int k a)) (hy : ev l y = some (.int k b)) : Op1 P prim ⟨d, .binOp .neq t x y t', ty, pos, after, g⟩ (St base n ms l) h (.bool (decide (¬ a = b))) h :=
  Op1.bin hx hy (by simp only [binC, ints_int, intEq_dec, decide_not])

/-! Tests -/
theorem Op1.notB {q : Bool} (hx : ev l x = some (.bool q)) : Op1 P prim ⟨d, .unOp .not t x, ty, pos, after, g⟩ (St base n ms l) h (.bool (!q)) h :=
  .of (by simp only [aop, ev_eval hx, Option.bind_some]; rfl)
theorem Op1.notD {p : Prop} [Decidable p] (hx : ev l x = some (.bool (decide p))) : Op1 P prim ⟨d, .unOp .not t x, ty, pos, after, g⟩ (St base n ms l) h (.bool (decide (¬ p))) h := by
  have := Op1.notB (P := P) (prim := prim) (d := d) (t := t) (ty := ty) (pos := pos) (after := after) (g := g) (base := base) (n := n) (ms := ms) (h := h) hx
  rwa [← decide_not] at this

/-! Slices and cells -/
theorem Op1.len {e : TypeId} {ad : Option Addr} {m c : Nat} {ats : Array TypeId} (hu : P.underlying t = some (.slice e)) (hx : ev l x = some (.slice ad m c)) (ha : ats[0]? = some t) :
    Op1 P prim ⟨d, .call ⟨.builtin .len, #[x], ats⟩, ty, pos, after, g⟩ (St base n ms l) h (.int .i64 (m : Int)) h :=
  .of (by simp only [aop, aevs, ev_eval hx, Option.bind_some, Option.map_some, abuiltin, alen, ha, hu, goInt])
theorem Op1.idx {e : TypeId} {b0 o m c : Nat} {s : Option Nat} {k : IntKind} {i : Int} (hu : P.underlying t = some (.slice e)) (hz : szOf P e = some 1) (hx : ev l x = some (.slice (some ⟨b0, o, s⟩) m c)) (hy : ev l y = some (.int k i)) (h0 : 0 ≤ i) (h1 : i < (m : Int)) :
    Op1 P prim ⟨d, .indexAddr t x y, ty, pos, after, g⟩ (St base n ms l) h (.pointer (some ⟨b0, o + i.toNat, none⟩)) h :=
  .of (by simp only [aop, ev_eval hx, ev_eval hy, Option.bind_some, aindexAddr, hu, hz, asSlice, h0, h1, decide_true, Bool.and_self, cond_true, Nat.mul_one, Option.map_some])
theorem Op1.load {b0 q : Nat} (hT : aggT P t = some false) (hx : ev l x = some (.pointer (some ⟨b0, q, none⟩))) (hc : cellAt h b0 q = some v) :
    Op1 P prim ⟨d, .load t x, ty, pos, after, g⟩ (St base n ms l) h v h := by
  unfold cellAt at hc
  obtain ⟨cs, hcs, hv⟩ := Option.bind_eq_some_iff.1 hc
  exact .of (by simp only [aop, ev_eval hx, Option.bind_some, aload, asPtr, hcs, hT, cond_false, hv, Option.map_some])
theorem Op1.loadAgg {b0 q m : Nat} {cs cs' : List Value} (hT : aggT P t = some true) (hz : szOf P t = some m) (hx : ev l x = some (.pointer (some ⟨b0, q, none⟩))) (hg : h.get b0 = some (.cells cs)) (hc : cut cs q m = some cs') :
    Op1 P prim ⟨d, .load t x, ty, pos, after, g⟩ (St base n ms l) h (.agg cs'.toArray) h :=
  .of (by simp only [aop, ev_eval hx, Option.bind_some, aload, asPtr, rd_of hg, hT, cond_true, hz, hc, Option.map_some])
theorem Op1.store {b0 q : Nat} {cs : List Value} {m : Nat} {u : Value} (hz : szOf P t = some m) (hx : ev l x = some (.pointer (some ⟨b0, q, none⟩))) (hy : ev l y = some u) (hg : h.get b0 = some (.cells cs))
    (hu : (Nat.beq u.cells.toList.length m && u.cells.toList.all (·.oneCell')) = true) (hl : q + u.cells.toList.length ≤ cs.length) :
    Op1 P prim ⟨d, .store t x y, ty, pos, after, g⟩ (St base n ms l) h undef (h.put b0 (some (.cells (splice cs q u.cells.toList)))) := by
  have hl' : Nat.ble (q + u.cells.toList.length) cs.length = true := by rw [Nat.ble_eq]; exact hl
  simp only [Bool.and_eq_true] at hu
  exact .of (by simp only [aop, ev_eval hx, ev_eval hy, Option.bind_some, astore, asPtr, cs_of hg, hz, hu.1, hu.2, hl', Bool.and_self, cond_true, Option.map_some])
theorem Op1.box {u : Value} (hx : ev l x = some u) : Op1 P prim ⟨d, .box t x, ty, pos, after, g⟩ (St base n ms l) h (.pointer (some ⟨h.next, 0, none⟩)) (h.push (.cells u.cells.toList)) :=
  .of (by simp only [aop, ev_eval hx, Option.map_some, abox, anew])
theorem Op1.alloc {u : Value} (hz : zeroOf P t = some u) (hf : flat u = true) : Op1 P prim ⟨d, .alloc t, ty, pos, after, g⟩ (St base n ms l) h (.pointer (some ⟨h.next, 0, none⟩)) (h.push (.cells u.cells.toList)) :=
  .of (by simp only [aop, aalloc, hz, Option.bind_some, hf, cond_true, anew])
theorem Op1.field {b0 q : Nat} {fs : Array Field} {f m : Nat} {fd : Field} (hu : P.underlying t = some (.struct fs)) (hf : fs[f]? = some fd) (hz : szOf P fd.type = some m) (hm : Nat.blt 0 m = true) (hx : ev l x = some (.pointer (some ⟨b0, q, none⟩))) :
    Op1 P prim ⟨d, .fieldAddr t x f, ty, pos, after, g⟩ (St base n ms l) h (.pointer (some ⟨b0, q + fd.offset, none⟩)) h :=
  .of (by simp only [aop, ev_eval hx, Option.bind_some, afieldAddr, asPtr, hu, hf, hz, hm, cond_true, Option.map_some])
theorem Op1.extract {vs : Array Value} {i : Nat} (hx : ev l x = some (.tuple vs)) (hi : vs[i]? = some v) : Op1 P prim ⟨d, .extract x i, ty, pos, after, g⟩ (St base n ms l) h v h :=
  .of (by simp only [aop, ev_eval hx, Option.bind_some, aextract, hi, Option.map_some])
theorem Op1.makeFunc {f : Nat} {xs ys : Array Operand} {a1 a2 : List Value} (hx : evs l xs.toList = some a1) (hy : evs l ys.toList = some a2) : Op1 P prim ⟨d, .makeFunc (.func f) xs ys, ty, pos, after, g⟩ (St base n ms l) h (.func (.func f) a1.toArray a2.toArray) h :=
  .of (by simp only [aop, evs_eval hx, evs_eval hy, Option.bind_some, Option.map_some])
theorem Op1.makeMap : Op1 P prim ⟨d, .makeMap t none, ty, pos, after, g⟩ (St base n ms l) h (.map (some h.next)) (h.push (.map [] 0)) := .of (by simp only [aop, amakeMap])
/-- Any operation that is no call, by what it reckons. -/
theorem Op1.raw {o : Oper} {h1 : Heap} (e : aop P o (St base n ms l) h = some (v, h1)) : Op1 P prim o (St base n ms l) h v h1 := .of e

/-! Calls -/
def CallV (P : Program) (prim : Prim) (Y : Value) (args : List Value) (h : Heap) (v : Value) (h1 : Heap) : Prop :=
  match Y with
  | .func (.func f) x y => Comes P prim f (x.toList ++ args ++ y.toList) h v h1
  | .func (.yield k) x y => (x.isEmpty && y.isEmpty) = true ∧ ∃ n, yieldF (AM.run P prim n) k args h = some (v, h1)
  | _ => False
theorem Op1.callV {h1 : Heap} {Y : Value} {vs : List Value} {args : Array Operand} {ats : Array TypeId} (hx : ev l x = some Y) (ha : evs l args.toList = some vs) (hc : CallV P prim Y vs h v h1) :
    Op1 P prim ⟨d, .call ⟨.value x, args, ats⟩, ty, pos, after, g⟩ (St base n ms l) h v h1 := by
  have key : ∀ m, ostep P prim (AM.run P prim m) ⟨d, .call ⟨.value x, args, ats⟩, ty, pos, after, g⟩ (St base n ms l) h = ocall P prim (AM.run P prim m) ⟨d, .call ⟨.value x, args, ats⟩, ty, pos, after, g⟩ (St base n ms l) h := by
    intro m; unfold ostep aop; rfl
  cases Y with
  | func fn a1 a2 =>
    cases fn with
    | func f =>
      obtain ⟨k, hk⟩ := hc
      refine ⟨k, fun m hm => ?_⟩
      rw [key]
      simp only [ocall, ev_eval hx, evs_eval ha, Option.bind_some]
      exact callF_mono (run_mono hm) hk
    | yield k0 =>
      obtain ⟨he, k, hk⟩ := hc
      refine ⟨k, fun m hm => ?_⟩
      rw [key]
      simp only [ocall, ev_eval hx, evs_eval ha, Option.bind_some, he, cond_true]
      exact yieldF_mono (run_mono hm) hk
    | _ => exact hc.elim
  | _ => exact hc.elim
theorem Op1.call {h1 : Heap} {f : Nat} {vs : List Value} {args : Array Operand} {ats : Array TypeId} (ha : evs l args.toList = some vs) (hc : Comes P prim f vs h v h1) :
    Op1 P prim ⟨d, .call ⟨.value (.func f), args, ats⟩, ty, pos, after, g⟩ (St base n ms l) h v h1 :=
  Op1.callV (Y := .func (.func f) #[] #[]) rfl ha (by simpa [CallV] using hc)
end ops
end Go.AM
