/- An abstract machine for Go programs of the model: maps on numbers, heaps, values and their relation to the model's worlds. -/
import Derived.RangeFuncLeaves
import Derived.RangeFuncSeq
import Derived.RangeFuncCalls
import Derived.Laws.Cells
import Derived.Laws.CopyRow
import Derived.WalkKit
set_option linter.all false
namespace Go.AM
open Go

/-! ### Maps on numbers -/
inductive Tr (α : Type) where
  | nil
  | node (v : Option α) (l r : Tr α)

namespace Tr
variable {α : Type}
def get : Tr α → Nat → Option α
  | .nil, _ => none
  | .node v l r, k => match k with
    | 0 => v
    | k + 1 => bif k % 2 == 0 then l.get (k / 2) else r.get (k / 2)
def setF : Nat → Tr α → Nat → Option α → Tr α
  | 0, t, _, _ => t
  | n + 1, .nil, k, x => match k with
    | 0 => .node x .nil .nil
    | k + 1 => bif k % 2 == 0 then .node none (setF n .nil (k / 2) x) .nil else .node none .nil (setF n .nil (k / 2) x)
  | n + 1, .node v l r, k, x => match k with
    | 0 => .node x l r
    | k + 1 => bif k % 2 == 0 then .node v (setF n l (k / 2) x) r else .node v l (setF n r (k / 2) x)
def set (t : Tr α) (k : Nat) (x : Option α) : Tr α := setF (k + 1) t k x
theorem get_nil (k : Nat) : (Tr.nil : Tr α).get k = none := rfl
theorem setF_same : ∀ (n : Nat) (t : Tr α) (k : Nat) (x : Option α), k < n → (setF n t k x).get k = x := by
  intro n
  induction n with
  | zero => intro t k x h; omega
  | succ n ih =>
    intro t k x h
    cases t with
    | nil =>
      cases k with
      | zero => rfl
      | succ k =>
        cases hk : (k % 2 == 0) with
        | true => simp only [setF, get, hk, cond_true]; exact ih _ _ _ (by omega)
        | false => simp only [setF, get, hk, cond_false]; exact ih _ _ _ (by omega)
    | node v l r =>
      cases k with
      | zero => rfl
      | succ k =>
        cases hk : (k % 2 == 0) with
        | true => simp only [setF, get, hk, cond_true]; exact ih _ _ _ (by omega)
        | false => simp only [setF, get, hk, cond_false]; exact ih _ _ _ (by omega)
theorem par {j k : Nat} (h : j ≠ k) (e : (j % 2 == 0) = (k % 2 == 0)) : j / 2 ≠ k / 2 := by
  intro hd
  have : j % 2 = k % 2 := by
    rcases Nat.mod_two_eq_zero_or_one j with h1 | h1 <;> rcases Nat.mod_two_eq_zero_or_one k with h2 | h2 <;> simp [h1, h2] at e ⊢
  omega
theorem setF_ne : ∀ (n : Nat) (t : Tr α) (k j : Nat) (x : Option α), j ≠ k → (setF n t k x).get j = t.get j := by
  intro n
  induction n with
  | zero => intro t k j x h; rfl
  | succ n ih =>
    intro t k j x h
    cases t with
    | nil =>
      cases k with
      | zero =>
        cases j with
        | zero => omega
        | succ j => cases hj : (j % 2 == 0) <;> simp only [setF, get, hj, cond_true, cond_false]
      | succ k =>
        cases j with
        | zero => cases hk : (k % 2 == 0) <;> simp only [setF, get, hk, cond_true, cond_false]
        | succ j =>
          cases hk : (k % 2 == 0) <;> cases hj : (j % 2 == 0) <;> simp only [setF, get, hk, hj, cond_true, cond_false]
          · exact ih _ _ _ _ (par (by omega) (by rw [hk, hj]))
          · exact ih _ _ _ _ (par (by omega) (by rw [hk, hj]))
    | node v l r =>
      cases k with
      | zero =>
        cases j with
        | zero => omega
        | succ j => cases hj : (j % 2 == 0) <;> simp only [setF, get, hj, cond_true, cond_false]
      | succ k =>
        cases j with
        | zero => cases hk : (k % 2 == 0) <;> simp only [setF, get, hk, cond_true, cond_false]
        | succ j =>
          cases hk : (k % 2 == 0) <;> cases hj : (j % 2 == 0) <;> simp only [setF, get, hk, hj, cond_true, cond_false]
          · exact ih _ _ _ _ (par (by omega) (by rw [hk, hj]))
          · exact ih _ _ _ _ (par (by omega) (by rw [hk, hj]))
theorem get_set_same (t : Tr α) (k : Nat) (x : Option α) : (t.set k x).get k = x := setF_same _ _ _ _ (by omega)
theorem get_set_ne (t : Tr α) {k j : Nat} (x : Option α) (h : j ≠ k) : (t.set k x).get j = t.get j := setF_ne _ _ _ _ _ h
theorem get_set (t : Tr α) (k j : Nat) (x : Option α) : (t.set k x).get j = if j = k then x else t.get j := by
  split
  · next h => subst h; exact get_set_same _ _ _
  · next h => exact get_set_ne _ _ h
end Tr

/-! ### Heaps -/
inductive Blk where
  | cells (cs : List Value)
  | map (es : List MapEntry) (clock : Nat)
  | loop (st : LoopState) (pend : Option Code) (tmps : Tr Value) (size : Nat) (params : Array Tmp) (assign body : Code) (mark : Nat)
  | mark
  | ro (obj : Obj) (cs : List Value)

structure Heap where
  next : Nat
  tr : Tr Blk
def Heap.get (h : Heap) (b : Nat) : Option Blk := bif Nat.blt b h.next then h.tr.get b else none
def Heap.push (h : Heap) (x : Blk) : Heap := match h with | ⟨n, t⟩ => ⟨n + 1, t.set n (some x)⟩
def Heap.put (h : Heap) (b : Nat) (x : Option Blk) : Heap := match h with | ⟨n, t⟩ => ⟨n, t.set b x⟩
theorem Heap.push_eq (h : Heap) (x : Blk) : h.push x = ⟨h.next + 1, h.tr.set h.next (some x)⟩ := rfl
theorem Heap.put_eq (h : Heap) (b : Nat) (x : Option Blk) : h.put b x = ⟨h.next, h.tr.set b x⟩ := rfl
theorem Heap.get_lt {h : Heap} {b : Nat} {x : Blk} (e : h.get b = some x) : b < h.next := by
  unfold Heap.get at e
  cases hb : Nat.blt b h.next with
  | true => simpa [Nat.blt_eq] using hb
  | false => rw [hb] at e; cases e
theorem Heap.get_push (h : Heap) (x : Blk) (b : Nat) : (h.push x).get b = if b = h.next then some x else h.get b := by
  simp only [Heap.get, Heap.push_eq, Tr.get_set]
  by_cases hb : b = h.next
  · subst hb
    have : Nat.blt h.next (h.next + 1) = true := by rw [Nat.blt_eq]; omega
    simp [this]
  · by_cases h1 : b < h.next
    · have e1 : Nat.blt b (h.next + 1) = true := by rw [Nat.blt_eq]; omega
      have e2 : Nat.blt b h.next = true := by rw [Nat.blt_eq]; omega
      simp [e1, e2, hb]
    · have e1 : Nat.blt b (h.next + 1) = false := by
        cases e : Nat.blt b (h.next + 1) with
        | false => rfl
        | true => rw [Nat.blt_eq] at e; omega
      have e2 : Nat.blt b h.next = false := by
        cases e : Nat.blt b h.next with
        | false => rfl
        | true => rw [Nat.blt_eq] at e; omega
      simp [e1, e2, hb]
theorem Heap.get_put (h : Heap) (c : Nat) (x : Option Blk) (b : Nat) (hc : c < h.next) : (h.put c x).get b = if b = c then x else h.get b := by
  simp only [Heap.get, Heap.put_eq, Tr.get_set]
  by_cases hb : b = c
  · subst hb
    have e2 : Nat.blt b h.next = true := by rw [Nat.blt_eq]; omega
    simp [e2]
  · simp [hb]
theorem Heap.push_next (h : Heap) (x : Blk) : (h.push x).next = h.next + 1 := rfl
theorem Heap.put_next (h : Heap) (c : Nat) (x : Option Blk) : (h.put c x).next = h.next := rfl
theorem Heap.get_next (h : Heap) : h.get h.next = none := by
  unfold Heap.get
  have : Nat.blt h.next h.next = false := by
    cases e : Nat.blt h.next h.next with
    | false => rfl
    | true => rw [Nat.blt_eq] at e; omega
  simp [this]
theorem Heap.get_ge (h : Heap) {b : Nat} (hb : h.next ≤ b) : h.get b = none := by
  cases e : h.get b with
  | none => rfl
  | some x => have := Heap.get_lt e; omega

/-! ### Values -/
def flat1 : Value → Bool
  | .bool _ | .int _ _ | .float _ _ | .complex _ _ _ | .string _ | .pointer none | .slice none _ _ | .map none | .chan none | .nilFunc | .nilIface => true
  | _ => false
def flat : Value → Bool
  | .agg cs => cs.all flat1
  | .tuple cs => cs.all flat1
  | v => flat1 v

/-- Where a block lies in the model's world (a block of it, and where in it), and how many cells the model's blocks have. -/
structure Rho where
  m : Nat → Option (Nat × Nat)
  n : Nat → Nat
instance : CoeFun Rho fun _ => Nat → Option (Nat × Nat) := ⟨Rho.m⟩
structure Le (ρ ρ' : Rho) : Prop where
  m : ∀ b x, ρ b = some x → ρ' b = some x
  n : ∀ b B base, ρ b = some (B, base) → ρ'.n B = ρ.n B
theorem Le.refl (ρ : Rho) : Le ρ ρ := ⟨fun _ _ e => e, fun _ _ _ _ => rfl⟩
theorem Le.trans {a b c : Rho} (h : Le a b) (k : Le b c) : Le a c := ⟨fun d x e => k.m d x (h.m d x e), fun d B base e => (k.n d B base (h.m d _ e)).trans (h.n d B base e)⟩
/-- A value of the machine here, and one of the model's: the blocks by ρ (a block and where in it); a slice whose capacity is not known bears a spot. -/
inductive VR (ρ : Rho) : Value → Value → Prop
  | fl {v : Value} : flat1 v = true → VR ρ v v
  | ptr {b o B base : Nat} : ρ b = some (B, base) → VR ρ (.pointer (some ⟨b, o, none⟩)) (.pointer (some ⟨B, base + o, none⟩))
  | sl {b o l c B base : Nat} : ρ b = some (B, base) → VR ρ (.slice (some ⟨b, o, none⟩) l c) (.slice (some ⟨B, base + o, none⟩) l c)
  | slu {b o l c c' z B base : Nat} : ρ b = some (B, base) → c ≤ c' → base + o + c' * z ≤ ρ.n B → VR ρ (.slice (some ⟨b, o, some z⟩) l c) (.slice (some ⟨B, base + o, none⟩) l c')
  | map {r R : Nat} : ρ r = some (R, 0) → VR ρ (.map (some r)) (.map (some R))
  | fn {f : FuncId} {x y x' y' : Array Value} : x.size = x'.size → (∀ i (h : i < x.size) (h' : i < x'.size), VR ρ x[i] x'[i]) → y.size = y'.size → (∀ i (h : i < y.size) (h' : i < y'.size), VR ρ y[i] y'[i]) →
      VR ρ (.func (.func f) x y) (.func (.func f) x' y')
  | yield {l L : Nat} : ρ l = some (L, 0) → VR ρ (.func (.yield l) #[] #[]) (.func (.yield L) #[] #[])
  | iface {t : TypeId} {v v' : Value} : VR ρ v v' → VR ρ (.iface t v) (.iface t v')
  | agg {x x' : Array Value} : x.size = x'.size → (∀ i (h : i < x.size) (h' : i < x'.size), VR ρ x[i] x'[i]) → VR ρ (.agg x) (.agg x')
  | tuple {x x' : Array Value} : x.size = x'.size → (∀ i (h : i < x.size) (h' : i < x'.size), VR ρ x[i] x'[i]) → VR ρ (.tuple x) (.tuple x')

/-- Values one by one. -/
def VRs (ρ : Rho) (x x' : Array Value) : Prop := x.size = x'.size ∧ ∀ i (h : i < x.size) (h' : i < x'.size), VR ρ x[i] x'[i]
def VRl (ρ : Rho) (x x' : List Value) : Prop := x.length = x'.length ∧ ∀ (i : Nat) (v : Value), x[i]? = some v → ∃ v', x'[i]? = some v' ∧ VR ρ v v'

theorem VR.mono {ρ ρ' : Rho} (h : Le ρ ρ') {v v' : Value} (hv : VR ρ v v') : VR ρ' v v' := by
  induction hv with
  | fl e => exact .fl e
  | ptr e => exact .ptr (h.m _ _ e)
  | sl e => exact .sl (h.m _ _ e)
  | slu e hc hn => exact .slu (h.m _ _ e) hc (by rw [h.n _ _ _ e]; exact hn)
  | map e => exact .map (h.m _ _ e)
  | fn h1 _ h2 _ ih1 ih2 => exact .fn h1 ih1 h2 ih2
  | yield e => exact .yield (h.m _ _ e)
  | iface _ ih => exact .iface ih
  | agg h1 _ ih => exact .agg h1 ih
  | tuple h1 _ ih => exact .tuple h1 ih
theorem VRs.mono {ρ ρ' : Rho} (h : Le ρ ρ') {v v' : Array Value} (hv : VRs ρ v v') : VRs ρ' v v' := ⟨hv.1, fun i a b => (hv.2 i a b).mono h⟩
theorem VRl.mono {ρ ρ' : Rho} (h : Le ρ ρ') {v v' : List Value} (hv : VRl ρ v v') : VRl ρ' v v' :=
  ⟨hv.1, fun i a e => let ⟨v', e', r⟩ := hv.2 i a e; ⟨v', e', r.mono h⟩⟩
theorem VRl.nil (ρ : Rho) : VRl ρ [] [] := ⟨rfl, fun i v e => by simp at e⟩
theorem VRl.cons {ρ : Rho} {v v' : Value} {x x' : List Value} (h : VR ρ v v') (k : VRl ρ x x') : VRl ρ (v :: x) (v' :: x') :=
  ⟨by simp [k.1], fun i u e => by
    cases i with
    | zero => simp at e; subst e; exact ⟨v', rfl, h⟩
    | succ i => simp at e; simpa using k.2 i u e⟩
theorem VRl.get {ρ : Rho} {x x' : List Value} (h : VRl ρ x x') {i : Nat} {v : Value} (e : x[i]? = some v) : ∃ v', x'[i]? = some v' ∧ VR ρ v v' := h.2 i v e
theorem VRl.append {ρ : Rho} {x x' y y' : List Value} (h : VRl ρ x x') (k : VRl ρ y y') : VRl ρ (x ++ y) (x' ++ y') :=
  ⟨by simp [h.1, k.1], fun i v e => by
    by_cases hi : i < x.length
    · rw [List.getElem?_append_left hi] at e
      rw [List.getElem?_append_left (by rw [← h.1]; exact hi)]
      exact h.2 i v e
    · rw [List.getElem?_append_right (by omega)] at e
      rw [List.getElem?_append_right (by rw [← h.1]; omega), ← h.1]
      exact k.2 _ v e⟩
theorem VRl.drop {ρ : Rho} {x x' : List Value} (h : VRl ρ x x') (n : Nat) : VRl ρ (x.drop n) (x'.drop n) :=
  ⟨by simp [h.1], fun i v e => by rw [List.getElem?_drop] at e ⊢; exact h.2 _ v e⟩
theorem VRl.take {ρ : Rho} {x x' : List Value} (h : VRl ρ x x') (n : Nat) : VRl ρ (x.take n) (x'.take n) :=
  ⟨by simp [h.1], fun i v e => by
    rw [List.getElem?_take] at e ⊢
    split at e
    · next hi => rw [if_pos hi]; exact h.2 _ v e
    · cases e⟩
theorem VRs.toList {ρ : Rho} {x x' : Array Value} (h : VRs ρ x x') : VRl ρ x.toList x'.toList :=
  ⟨by simp [h.1], fun i v e => by
    have hi : i < x.size := by
      have := (List.getElem?_eq_some_iff.1 e).1; simpa using this
    have hi' : i < x'.size := by rw [← h.1]; exact hi
    refine ⟨x'[i], by simp [hi'], ?_⟩
    have : x[i] = v := by simpa [hi] using e
    rw [← this]; exact h.2 i hi hi'⟩
theorem VRl.toArray {ρ : Rho} {x x' : List Value} (h : VRl ρ x x') : VRs ρ x.toArray x'.toArray :=
  ⟨by simp [h.1], fun i a b => by
    obtain ⟨v', e, r⟩ := h.2 i x[i] (by simpa using (List.getElem?_eq_getElem (by simpa using a)))
    have hb : i < x'.length := by simpa using b
    rw [List.getElem?_eq_getElem hb] at e
    simp only [List.getElem_toArray]
    injection e with e; rw [e]; exact r⟩
theorem VRs.of_toList {ρ : Rho} {x x' : Array Value} (h : VRl ρ x.toList x'.toList) : VRs ρ x x' := by
  have := VRl.toArray h; simpa using this
theorem VR.agg' {ρ : Rho} {x x' : Array Value} (h : VRs ρ x x') : VR ρ (.agg x) (.agg x') := .agg h.1 h.2
theorem VR.tuple' {ρ : Rho} {x x' : Array Value} (h : VRs ρ x x') : VR ρ (.tuple x) (.tuple x') := .tuple h.1 h.2
theorem VR.fn' {ρ : Rho} {f : FuncId} {x x' y y' : Array Value} (h : VRs ρ x x') (k : VRs ρ y y') : VR ρ (.func (.func f) x y) (.func (.func f) x' y') := .fn h.1 h.2 k.1 k.2
theorem VRs.nil (ρ : Rho) : VRs ρ #[] #[] := ⟨rfl, fun i h => by simp at h⟩
theorem VRs_refl_flat {ρ : Rho} {x : Array Value} (h : x.all flat1 = true) : VRs ρ x x := ⟨rfl, fun i a _ => .fl (by
  rw [Array.all_eq_true] at h; exact h i a)⟩
theorem VR_refl_flat {ρ : Rho} {v : Value} (h : flat v = true) : VR ρ v v := by
  cases v with
  | agg cs => exact .agg' (VRs_refl_flat h)
  | tuple cs => exact .tuple' (VRs_refl_flat h)
  | _ => exact .fl h
theorem VR_undef (ρ : Rho) : VR ρ undef undef := .tuple' (VRs.nil ρ)
/-- What is related to a flat value is that value. -/
theorem VR.eq_of_flat1 {ρ : Rho} {v v' : Value} (h : VR ρ v v') (hf : flat1 v = true) : v' = v := by
  cases h <;> first | rfl | (simp [flat1] at hf)
theorem VRs.eq_of_flat {ρ : Rho} {x x' : Array Value} (h : VRs ρ x x') (hf : x.all flat1 = true) : x' = x := by
  apply Array.ext h.1.symm
  intro i h1 h2
  rw [Array.all_eq_true] at hf
  exact (h.2 i h2 h1).eq_of_flat1 (hf i h2)
theorem VR.eq_of_flat {ρ : Rho} {v v' : Value} (h : VR ρ v v') (hf : flat v = true) : v' = v := by
  cases h with
  | agg h1 h2 => rw [VRs.eq_of_flat ⟨h1, h2⟩ hf]
  | tuple h1 h2 => rw [VRs.eq_of_flat ⟨h1, h2⟩ hf]
  | fl e => rfl
  | ptr e => simp [AM.flat, flat1] at hf
  | sl e => simp [AM.flat, flat1] at hf
  | slu e _ _ => simp [AM.flat, flat1] at hf
  | map e => simp [AM.flat, flat1] at hf
  | fn _ _ _ _ => simp [AM.flat, flat1] at hf
  | yield e => simp [AM.flat, flat1] at hf
  | iface e => simp [AM.flat, flat1] at hf
end Go.AM
