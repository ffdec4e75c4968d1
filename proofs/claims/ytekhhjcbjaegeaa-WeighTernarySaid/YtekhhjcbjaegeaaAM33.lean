/- Walking with letters: calls by contracts. -/
import Derived.Test.YtekhhjcbjaegeaaAM32
set_option linter.all false
namespace Go.AM
open Go
variable {P : Program} {prim : Prim}
/-- What a function value comes to. -/
def CWV (P : Program) (prim : Prim) (Y : Value) (args : List Value) (h : Heap) (R : Value → Heap → Prop) : Prop := ∃ v h', CallV P prim Y args h v h' ∧ R v h'
theorem CWV.func {f : Nat} {x y : Array Value} {args : List Value} {h : Heap} {R : Value → Heap → Prop} (c : CW P prim f (x.toList ++ args ++ y.toList) h R) : CWV P prim (.func (.func f) x y) args h R := c
theorem CWV.mono {Y : Value} {args : List Value} {h : Heap} {R R' : Value → Heap → Prop} (c : CWV P prim Y args h R) (k : ∀ v h, R v h → R' v h) : CWV P prim Y args h R' := by
  obtain ⟨v, h', c, r⟩ := c
  exact ⟨v, h', c, k _ _ r⟩
section rg
variable {ops : Array Oper} {rest : List Oper} {base : Tr Value} {n : Nat} {ms : List Nat} {l : Env} {h h1 : Heap} {R : A → Heap → Prop} {v : Value} {d j t f m : Nat} {ty : TypeId} {pos : String} {after : Array Edge} {want : Bool} {a : A} {R' : Value → Heap → Prop} {args : Array Operand} {ats : Array TypeId} {vs : List Value} {x : Operand} {Y : Value} {o : Oper} {σ : List Nat} {last : Option Nat} {pend : Pend}
theorem RG.call (ha : evs l args.toList = some vs) (hc : CW P prim f vs h R') (hd : Nat.blt d n = true) (k : ∀ v h1, R' v h1 → RG P prim ops rest (St base n ms ((d, v) :: l)) h1 R) :
    RG P prim ops (⟨some d, .call ⟨.value (.func f), args, ats⟩, ty, pos, after, none⟩ :: rest) (St base n ms l) h R := by
  obtain ⟨v, h1, c, r⟩ := hc
  exact RG.step (Op1.call ha c) hd (k v h1 r)
theorem RG.callG (ht : (ops[j]?).bind (·.dst) = some t) (hy : lkS l t = some (.bool want)) (ha : evs l args.toList = some vs) (hc : CW P prim f vs h R') (hd : Nat.blt d n = true) (k : ∀ v h1, R' v h1 → RG P prim ops rest (St base n ms ((d, v) :: l)) h1 R) :
    RG P prim ops (⟨some d, .call ⟨.value (.func f), args, ats⟩, ty, pos, after, some (j, want)⟩ :: rest) (St base n ms l) h R := by
  obtain ⟨v, h1, c, r⟩ := hc
  exact RG.gd ht hy (Op1.call ha c) hd (k v h1 r)
theorem RG.callV (hx : ev l x = some Y) (ha : evs l args.toList = some vs) (hc : CWV P prim Y vs h R') (hd : Nat.blt d n = true) (k : ∀ v h1, R' v h1 → RG P prim ops rest (St base n ms ((d, v) :: l)) h1 R) :
    RG P prim ops (⟨some d, .call ⟨.value x, args, ats⟩, ty, pos, after, none⟩ :: rest) (St base n ms l) h R := by
  obtain ⟨v, h1, c, r⟩ := hc
  exact RG.step (Op1.callV hx ha c) hd (k v h1 r)
theorem RD.call {dst : Option Tmp} {g : Option (Nat × Bool)} (ho : ops[j]? = some ⟨dst, .call ⟨.value (.func f), args, ats⟩, ty, pos, after, g⟩) (hl : okLast (masks ops.toList) last j = true) (hg : GOK ops l true g) (hm : (masks ops.toList).getD j 0 = m) {pend2 : Pend} (hf : pfil m pend = pend2) {l' : Value → Env}
    (hd : ∀ v, nxt n l v dst = some (l' v)) (ha : evs l args.toList = some vs) (hc : CW P prim f vs h R') (hp : ∀ v h1, R' v h1 → h.next ≤ h1.next ∧ PAll pend2 h1) (k : ∀ v h1, R' v h1 → RD P prim ops σ (St base n ms (l' v)) h1 (some j) pend2 R) :
    RD P prim ops (j :: σ) (St base n ms l) h last pend R := by
  obtain ⟨v, h1, c, r⟩ := hc
  exact RD.eff ho rfl hl hg (Op1.call ha c) (hp v h1 r).1 hm hf (hp v h1 r).2 (hd v) (k v h1 r)
theorem RG.callP {v0 : Value} (ha : evs l args.toList = some vs) (hc : CW P prim f vs h fun v h' => v = v0 ∧ h' = h) (hd : Nat.blt d n = true) (k : RG P prim ops rest (St base n ms ((d, v0) :: l)) h R) :
    RG P prim ops (⟨some d, .call ⟨.value (.func f), args, ats⟩, ty, pos, after, none⟩ :: rest) (St base n ms l) h R := RG.call ha hc hd (by rintro v h1 ⟨rfl, rfl⟩; exact k)
theorem RG.callPG {v0 : Value} (ht : (ops[j]?).bind (·.dst) = some t) (hy : lkS l t = some (.bool want)) (ha : evs l args.toList = some vs) (hc : CW P prim f vs h fun v h' => v = v0 ∧ h' = h) (hd : Nat.blt d n = true) (k : RG P prim ops rest (St base n ms ((d, v0) :: l)) h R) :
    RG P prim ops (⟨some d, .call ⟨.value (.func f), args, ats⟩, ty, pos, after, some (j, want)⟩ :: rest) (St base n ms l) h R := RG.callG ht hy ha hc hd (by rintro v h1 ⟨rfl, rfl⟩; exact k)
theorem RD.callP {v0 : Value} {dst : Option Tmp} {g : Option (Nat × Bool)} (ho : ops[j]? = some ⟨dst, .call ⟨.value (.func f), args, ats⟩, ty, pos, after, g⟩) (hl : okLast (masks ops.toList) last j = true) (hg : GOK ops l true g) (hm : (masks ops.toList).getD j 0 = m) {pend2 : Pend} (hf : pfil m pend = pend2) {l' : Env}
    (hd : nxt n l v0 dst = some l') (ha : evs l args.toList = some vs) (hc : CW P prim f vs h fun v h' => v = v0 ∧ h' = h) (hp : PAll pend2 h) (k : RD P prim ops σ (St base n ms l') h (some j) pend2 R) :
    RD P prim ops (j :: σ) (St base n ms l) h last pend R := by
  obtain ⟨v, h1, c, rfl, rfl⟩ := hc
  exact RD.eff ho rfl hl hg (Op1.call ha c) (Nat.le_refl _) hm hf hp hd k
end rg
end Go.AM
