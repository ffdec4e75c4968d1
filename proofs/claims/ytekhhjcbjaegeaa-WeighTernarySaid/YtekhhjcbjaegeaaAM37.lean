/- Walking with letters: bits, remainders, nil, the beginning of a slice. -/
import Derived.Test.YtekhhjcbjaegeaaAM36
set_option linter.all false
namespace Go.AM
open Go
variable {P : Program} {prim : Prim}

theorem abin_and (t : TypeId) (x y : Operand) (a b : Int) : abin P .and t x y (.int .i64 a) (.int .i64 b) = some (.int .i64 (IntKind.wrap .i64 ((BitVec.ofInt 64 a &&& BitVec.ofInt 64 b).toNat : Int))) := rfl
theorem abin_shr (t : TypeId) (x y : Operand) (a b : Int) : abin P .shr t x y (.int .i64 a) (.int .i64 b) = if b < 0 then none else some (.int .i64 (a.fdiv (2 ^ min b.toNat 64))) := by
  by_cases h : b < 0
  · rw [if_pos h]
    show flatRun P (Op.shift .shr .i64 a .i64 b) = none
    unfold Op.shift; rw [if_pos h]; rfl
  · rw [if_neg h]
    show flatRun P (Op.shift .shr .i64 a .i64 b) = _
    unfold Op.shift; rw [if_neg h]; rfl
theorem abin_shl (t : TypeId) (x y : Operand) (a b : Int) : abin P .shl t x y (.int .i64 a) (.int .i64 b) = if b < 0 then none else some (.int .i64 (IntKind.wrap .i64 (a * 2 ^ min b.toNat 64))) := by
  by_cases h : b < 0
  · rw [if_pos h]
    show flatRun P (Op.shift .shl .i64 a .i64 b) = none
    unfold Op.shift; rw [if_pos h]; rfl
  · rw [if_neg h]
    show flatRun P (Op.shift .shl .i64 a .i64 b) = _
    unfold Op.shift; rw [if_neg h]; rfl
theorem abin_rem (t : TypeId) (x y : Operand) (a b : Int) (hb : b ≠ 0) : abin P .rem t x y (.int .i64 a) (.int .i64 b) = some (.int .i64 (a.tmod b)) := by
  show flatRun P (Op.intDiv .rem .i64 a b) = _
  unfold Op.intDiv; rw [if_neg hb]; rfl
theorem abin_quo (t : TypeId) (x y : Operand) (a b : Int) (hb : b ≠ 0) : abin P .quo t x y (.int .i64 a) (.int .i64 b) = some (.int .i64 (IntKind.wrap .i64 (a.tdiv b))) := by
  show flatRun P (Op.intDiv .quo .i64 a b) = _
  unfold Op.intDiv; rw [if_neg hb]; rfl
theorem und_run {t : TypeId} {D : TypeDesc} {α : Type} (hu : P.underlying t = some D) (k : TypeDesc → Sem α) : pureRun P (underlying t >>= k) = pureRun P (k D) := by
  have : pureRun P (underlying t >>= k) = pureRun P ((match P.underlying t with | some d => pure d | none => stuck "no such type") >>= k) := rfl
  rw [this, hu]; rfl
theorem pureRun_bind {α β : Type} {k : α → Sem β} : ∀ {s : Sem α} {a : α}, pureRun P s = some a → pureRun P (s >>= k) = pureRun P (k a)
  | .pure b, a, h => by simp only [pureRun, Option.some.injEq] at h; subst h; rfl
  | .program f, a, h => by
    simp only [pureRun] at h
    have := pureRun_bind (k := k) h
    exact this
  | .load _ _ _, a, h => by cases h
  | .store _ _ _ _, a, h => by cases h
  | .new _ _, a, h => by cases h
  | .shape _ _, a, h => by cases h
  | .freeze _ _ _, a, h => by cases h
  | .frozen _ _, a, h => by cases h
  | .getObj _ _, a, h => by cases h
  | .setObj _ _ _, a, h => by cases h
  | .choose _ _, a, h => by cases h
  | .sys _ _, a, h => by cases h
  | .mark _ _, a, h => by cases h
  | .halt _, a, h => by cases h
theorem abin_eq {t : TypeId} {x y : Operand} {u w : Value} {r : Bool} (hf : (flat u && flat w) = true) (hg : eqGuard .eql t x y u w = pure ()) (hb : binOp .eql t u w = (do pure (.bool (← Op.equal t u w)) : Sem Value)) (h : pureRun P (Op.equalIn (9999 + 1) t u w) = some r) : abin P .eql t x y u w = some (.bool r) := by
  unfold abin
  rw [hf, hg, hb]
  have : pureRun P (do pure (.bool (← Op.equal t u w)) : Sem Value) = some (.bool r) := pureRun_bind (k := fun b => (pure (.bool b) : Sem Value)) h
  show flatRun P (do pure (.bool (← Op.equal t u w)) : Sem Value) = _
  unfold flatRun; rw [this]; rfl
theorem abin_ne {t : TypeId} {x y : Operand} {u w : Value} {r : Bool} (hf : (flat u && flat w) = true) (hg : eqGuard .neq t x y u w = pure ()) (hb : binOp .neq t u w = (do pure (.bool (!(← Op.equal t u w))) : Sem Value)) (h : pureRun P (Op.equalIn (9999 + 1) t u w) = some r) : abin P .neq t x y u w = some (.bool (!r)) := by
  unfold abin
  rw [hf, hg, hb]
  have : pureRun P (do pure (.bool (!(← Op.equal t u w))) : Sem Value) = some (.bool (!r)) := pureRun_bind (k := fun b => (pure (.bool (!b)) : Sem Value)) h
  show flatRun P (do pure (.bool (!(← Op.equal t u w))) : Sem Value) = _
  unfold flatRun; rw [this]; rfl
theorem equal_bool {t : TypeId} (hu : P.underlying t = some .bool) (p q : Bool) : pureRun P (Op.equalIn (9999 + 1) t (.bool p) (.bool q)) = some (p == q) := by
  unfold Op.equalIn
  rw [und_run hu]; rfl
theorem equal_nils {t e : TypeId} (hu : P.underlying t = some (.slice e)) (m c : Nat) : pureRun P (Op.equalIn (9999 + 1) t (.slice none m c) (.slice none 0 0)) = some true := by
  unfold Op.equalIn
  rw [und_run hu]; rfl
section ops
variable {base : Tr Value} {n : Nat} {ms : List Nat} {l : Env} {h : Heap} {v : Value} {d : Option Tmp} {ty : TypeId} {pos : String} {after : Array Edge} {g : Option (Nat × Bool)} {x y z : Operand} {t tx t' e : TypeId} {a b : Int}
theorem Op1.binV {op : BinOp} {u w : Value} (hx : ev l x = some u) (hy : ev l y = some w) (hb : abin P op t x y u w = some v) : Op1 P prim ⟨d, .binOp op t x y t', ty, pos, after, g⟩ (St base n ms l) h v h :=
  .of (by simp only [AM.aop, ev_eval hx, ev_eval hy, Option.bind_some, hb, Option.map_some])
theorem Op1.addW (hx : ev l x = some (.int .i64 a)) (hy : ev l y = some (.int .i64 b)) : Op1 P prim ⟨d, .binOp .add t x y t', ty, pos, after, g⟩ (St base n ms l) h (.int .i64 (IntKind.wrap .i64 (a + b))) h :=
  Op1.bin hx hy (by simp only [binC, ints_int, wrapF_eq])
theorem Op1.subW (hx : ev l x = some (.int .i64 a)) (hy : ev l y = some (.int .i64 b)) : Op1 P prim ⟨d, .binOp .sub t x y t', ty, pos, after, g⟩ (St base n ms l) h (.int .i64 (IntKind.wrap .i64 (a - b))) h :=
  Op1.bin hx hy (by simp only [binC, ints_int, wrapF_eq])
theorem Op1.mulW (hx : ev l x = some (.int .i64 a)) (hy : ev l y = some (.int .i64 b)) : Op1 P prim ⟨d, .binOp .mul t x y t', ty, pos, after, g⟩ (St base n ms l) h (.int .i64 (IntKind.wrap .i64 (a * b))) h :=
  Op1.bin hx hy (by simp only [binC, ints_int, wrapF_eq])
theorem Op1.andN {A B : Nat} (hx : ev l x = some (.int .i64 a)) (hy : ev l y = some (.int .i64 b)) (ha : a = A) (hb : b = B) (hA : A < 9223372036854775808) (hB : B < 9223372036854775808) :
    Op1 P prim ⟨d, .binOp .and t x y t', ty, pos, after, g⟩ (St base n ms l) h (.int .i64 ((A &&& B : Nat) : Int)) h := by
  refine Op1.binV hx hy ?_
  rw [abin_and]
  subst ha; subst hb
  have e1 : (BitVec.ofInt 64 (A : Int) &&& BitVec.ofInt 64 (B : Int)).toNat = A &&& B := by
    simp only [BitVec.ofInt_natCast, BitVec.toNat_and, BitVec.toNat_ofNat]
    rw [Nat.mod_eq_of_lt (by omega), Nat.mod_eq_of_lt (by omega)]
  rw [e1, wrap64]
  have : A &&& B ≤ A := Nat.and_le_left
  omega
theorem fdiv_nat (A n : Nat) : Int.fdiv (A : Int) (2 ^ n) = ((A / 2 ^ n : Nat) : Int) := by
  rw [Int.fdiv_eq_ediv_of_nonneg _ (Int.pow_nonneg (by decide))]
  rw [Int.natCast_ediv]; norm_cast
theorem Op1.shrN {A B : Nat} (hx : ev l x = some (.int .i64 a)) (hy : ev l y = some (.int .i64 b)) (ha : a = A) (hb : b = B) (hA : A < 9223372036854775808) :
    Op1 P prim ⟨d, .binOp .shr t x y t', ty, pos, after, g⟩ (St base n ms l) h (.int .i64 ((A / 2 ^ B : Nat) : Int)) h := by
  refine Op1.binV hx hy ?_
  rw [abin_shr]
  subst ha; subst hb
  rw [if_neg (by omega), Int.toNat_natCast, fdiv_nat]
  by_cases hB : B ≤ 64
  · rw [Nat.min_eq_left hB]
  · rw [Nat.min_eq_right (by omega)]
    have e1 : A / 2 ^ 64 = 0 := Nat.div_eq_of_lt (by omega)
    have e2 : A / 2 ^ B = 0 := Nat.div_eq_of_lt (Nat.lt_of_lt_of_le (show A < 2 ^ 64 by omega) (Nat.pow_le_pow_right (by omega) (by omega)))
    rw [e1, e2]
theorem Op1.shlN {B : Nat} (hx : ev l x = some (.int .i64 a)) (hy : ev l y = some (.int .i64 b)) (hb : b = B) (hB : B ≤ 62) (hr : -9223372036854775808 ≤ a * 2 ^ B ∧ a * 2 ^ B < 9223372036854775808) :
    Op1 P prim ⟨d, .binOp .shl t x y t', ty, pos, after, g⟩ (St base n ms l) h (.int .i64 (a * 2 ^ B)) h := by
  refine Op1.binV hx hy ?_
  rw [abin_shl]
  subst hb
  rw [if_neg (by omega), Int.toNat_natCast, Nat.min_eq_left (by omega), wrap64 hr]
theorem Op1.rem (hx : ev l x = some (.int .i64 a)) (hy : ev l y = some (.int .i64 b)) (hb : b ≠ 0) : Op1 P prim ⟨d, .binOp .rem t x y t', ty, pos, after, g⟩ (St base n ms l) h (.int .i64 (a.tmod b)) h := Op1.binV hx hy (abin_rem _ _ _ _ _ hb)
theorem Op1.quo (hx : ev l x = some (.int .i64 a)) (hy : ev l y = some (.int .i64 b)) (hb : b ≠ 0) (hr : -9223372036854775808 ≤ a.tdiv b ∧ a.tdiv b < 9223372036854775808) : Op1 P prim ⟨d, .binOp .quo t x y t', ty, pos, after, g⟩ (St base n ms l) h (.int .i64 (a.tdiv b)) h :=
  Op1.binV hx hy (by rw [abin_quo _ _ _ _ _ hb, wrap64 hr])
theorem Op1.neg (hx : ev l x = some (.int .i64 a)) (hr : -9223372036854775808 ≤ -a ∧ -a < 9223372036854775808) : Op1 P prim ⟨d, .unOp .neg t x, ty, pos, after, g⟩ (St base n ms l) h (.int .i64 (-a)) h := by
  refine .of ?_
  simp only [AM.aop, ev_eval hx, Option.bind_some]
  show (bif flat (.int .i64 a) then (flatRun P (Op.unary .neg (.int .i64 a))).map (·, h) else none) = _
  have : flatRun P (Op.unary .neg (.int .i64 a)) = some (.int .i64 (IntKind.wrap .i64 (0 - a))) := rfl
  rw [this, Int.zero_sub, wrap64 hr]; rfl
theorem Op1.min2 {ats : Array TypeId} {k : IntKind} (hx : ev l x = some (.int k a)) (hy : ev l y = some (.int k b)) : Op1 P prim ⟨d, .call ⟨.builtin .min, #[x, y], ats⟩, ty, pos, after, g⟩ (St base n ms l) h (.int k (if b < a then b else a)) h := by
  refine .of ?_
  simp only [AM.aop, aevs, ev_eval hx, ev_eval hy, Option.bind_some, Option.map_some, abuiltin]
  rfl
theorem Op1.max2 {ats : Array TypeId} {k : IntKind} (hx : ev l x = some (.int k a)) (hy : ev l y = some (.int k b)) : Op1 P prim ⟨d, .call ⟨.builtin .max, #[x, y], ats⟩, ty, pos, after, g⟩ (St base n ms l) h (.int k (if a < b then b else a)) h := by
  refine .of ?_
  simp only [AM.aop, aevs, ev_eval hx, ev_eval hy, Option.bind_some, Option.map_some, abuiltin]
  rfl
theorem Op1.eqB {p q : Bool} (hu : P.underlying t = some .bool) (hx : ev l x = some (.bool p)) (hy : ev l y = some (.bool q)) : Op1 P prim ⟨d, .binOp .eql t x y t', ty, pos, after, g⟩ (St base n ms l) h (.bool (p == q)) h := Op1.binV hx hy (abin_eq rfl rfl rfl (equal_bool hu p q))
theorem Op1.neB {p q : Bool} (hu : P.underlying t = some .bool) (hx : ev l x = some (.bool p)) (hy : ev l y = some (.bool q)) : Op1 P prim ⟨d, .binOp .neq t x y t', ty, pos, after, g⟩ (St base n ms l) h (.bool (!(p == q))) h := Op1.binV hx hy (abin_ne rfl rfl rfl (equal_bool hu p q))
/-- Whether a slice is nil. -/
theorem Op1.eqNil {ad : Option Addr} {m c : Nat} (hu : P.underlying t = some (.slice e)) (hx : ev l x = some (.slice ad m c)) (hy : ev l y = some (.slice none 0 0)) : Op1 P prim ⟨d, .binOp .eql t x y t', ty, pos, after, g⟩ (St base n ms l) h (.bool ad.isNone) h := by
  refine Op1.binV hx hy ?_
  cases ad with
  | none => exact abin_eq rfl rfl rfl (equal_nils hu m c)
  | some ad =>
    have : aeqNil P t (.slice (some ad) m c) (.slice none 0 0) = true := by
      unfold aeqNil kindOK tk vk nilness; rw [hu]; rfl
    unfold abin; rw [this]; rfl
theorem Op1.neNil {ad : Option Addr} {m c : Nat} (hu : P.underlying t = some (.slice e)) (hx : ev l x = some (.slice ad m c)) (hy : ev l y = some (.slice none 0 0)) : Op1 P prim ⟨d, .binOp .neq t x y t', ty, pos, after, g⟩ (St base n ms l) h (.bool ad.isSome) h := by
  refine Op1.binV hx hy ?_
  cases ad with
  | none => exact abin_ne rfl rfl rfl (equal_nils hu m c)
  | some ad =>
    have : aeqNil P t (.slice (some ad) m c) (.slice none 0 0) = true := by
      unfold aeqNil kindOK tk vk nilness; rw [hu]; rfl
    unfold abin; rw [this]; rfl
/-- s[:k]. -/
theorem Op1.slTo {ad : Option Addr} {m c k : Nat} {i : Int} (hu : P.underlying t = some (.slice e)) (hs : szOf P e = some 1) (hx : ev l x = some (.slice ad m c)) (hy : ev l y = some (.int .i64 i)) (hi : i = k) (hk : k ≤ c) (ha : (∃ b o, ad = some ⟨b, o, none⟩) ∨ (∃ b o, ad = some ⟨b, o, some 1⟩) ∨ (ad = none ∧ m = 0 ∧ c = 0)) :
    Op1 P prim ⟨d, .slice t x none (some y) none, ty, pos, after, g⟩ (St base n ms l) h (.slice ad k c) h := by
  subst hi
  refine .of ?_
  have e1 : decide ((0 : Int) ≤ (k : Int)) = true := by simp
  have e2 : okB 0 k c c = true := by unfold okB; simp [hk]
  have e3 : ∀ (q o : Nat), (bif Nat.beq q 0 then o else o + 0 * 1) = o := fun q o => by cases Nat.beq q 0 <;> simp
  rcases ha with ⟨b, o, rfl⟩ | ⟨b, o, rfl⟩ | ⟨rfl, rfl, rfl⟩
  · simp only [AM.aop, ev_eval hx, ev_eval hy, Option.bind_some, aevO, Option.map_some, aslice, bnd, hu, hs, e1, cond_true, Int.toNat_natCast, imp, Option.isSome_some, Option.isSome_none, Bool.not_false, Bool.true_or, Option.getD_none, Option.getD_some, e2, e3, Nat.sub_zero]
  · simp only [AM.aop, ev_eval hx, ev_eval hy, Option.bind_some, aevO, Option.map_some, aslice, bnd, hu, hs, e1, cond_true, Int.toNat_natCast, imp, Option.isSome_some, Option.isSome_none, Bool.not_false, Bool.true_or, Option.getD_none, Option.getD_some, e2, Nat.sub_zero, Nat.beq_refl, Bool.and_self, Nat.zero_mul, Nat.add_zero]
  · obtain rfl : k = 0 := by omega
    simp only [AM.aop, ev_eval hx, ev_eval hy, Option.bind_some, aevO, Option.map_some, aslice, bnd, hu, hs]
    rfl
end ops
end Go.AM
