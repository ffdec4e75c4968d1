/- Slices: made, indexed, cut, appended to, copied. -/
import Derived.Test.YtekhhjcbjaegeaaAM4
set_option linter.all false
namespace Go.AM
open Go
variable {P : Program}

def elemOfSlice (P : Program) (t : TypeId) : Option TypeId := match P.underlying t with | some (.slice e) => some e | _ => none
theorem elemOfSlice_some {t e : TypeId} (h : elemOfSlice P t = some e) : P.underlying t = some (.slice e) := by
  unfold elemOfSlice at h
  split at h
  · next e' hu => injection h with h; subst h; exact hu
  · cases h
theorem zerosOf_some {e : TypeId} {n : Nat} {l : List Value} (h : zerosOf P e n = some l) : ∃ sz z, szOf P e = some sz ∧ zeroOf P e = some z ∧ z.cells.size = sz ∧ l = (List.replicate n z.cells.toList).flatten ∧ l.all flat1 = true ∧ l.length = n * sz := by
  simp only [zerosOf, Option.bind_eq_some_iff] at h
  obtain ⟨sz, hsz, z, hz, h⟩ := h
  cases hb : (z.cells.toList.all flat1 && Nat.beq z.cells.toList.length sz) with
  | false => rw [hb] at h; cases h
  | true =>
    rw [hb] at h
    simp only [Bool.and_eq_true] at hb
    have hl := Nat.eq_of_beq_eq_true hb.2
    simp only [cond_true] at h
    injection h with h
    refine ⟨sz, z, hsz, hz, by simpa using hl, h.symm, ?_, ?_⟩
    · rw [← h, List.all_eq_true]
      intro v hv
      obtain ⟨a, ha, hva⟩ := List.mem_flatten.1 hv
      have := (List.mem_replicate.1 ha).2
      subst this
      exact (List.all_eq_true.1 hb.1) v hva
    · rw [← h]; simp at hl; simp [hl]
theorem zeros0 {n sz : Nat} {z : Array Value} (hs : z.size = sz) (h : n * sz = 0) (f : Nat → Value) : (Array.range (n * sz)).map f = (List.replicate n z.toList).flatten.toArray := by
  have : ((List.replicate n z.toList).flatten).length = 0 := by simp; rw [hs]; exact h
  rw [List.eq_nil_of_length_eq_zero this, h]; simp
theorem zeros1 {n sz : Nat} {z : Array Value} (hs : z.size = sz) : (Array.range (n * sz)).map (z[· % z.size]!) = (List.replicate n z.toList).flatten.toArray := by
  rw [← hs]; exact flatten_zeros z n

def abuildSlice (P : Program) (t : TypeId) (len : Nat) (parts : List (Nat × Value)) (h : Heap) : Option (Value × Heap) :=
  (elemOfSlice P t).bind fun e => (szOf P e).bind fun sz => (zerosOf P e len).bind fun zs =>
    bif Nat.ble (len * sz) 16777216 then (fillL (fun i => some (i * sz, sz)) zs parts).map fun l => (.slice (some ⟨h.next, 0, none⟩) len len, h.push (.cells l)) else none
theorem abuildSlice_sound {ρ : Rho} {h h' : Heap} {w : World} {t : TypeId} {len : Nat} {parts : List (Nat × Value)} {parts' : Array (Nat × Value)} {v : Value} (H : HR ρ h w) (hp : PRs ρ parts parts'.toList)
    (e : abuildSlice P t len parts h = some (v, h')) : Does P ρ h w v h' (Instr.buildSlice t len parts') := by
  simp only [abuildSlice, Option.bind_eq_some_iff] at e
  obtain ⟨el, hu, sz, hsz, zs, hzs, e⟩ := e
  have hu := elemOfSlice_some hu
  obtain ⟨sz', z, hsz', hz, hzc, rfl, hfl, hlen⟩ := zerosOf_some hzs
  rw [hsz] at hsz'; injection hsz' with hsz'; subst hsz'
  cases hb : Nat.ble (len * sz) 16777216 with
  | false => rw [hb] at e; cases e
  | true =>
    rw [hb] at e
    have hle := Nat.le_of_ble_eq_true hb
    simp only [cond_true, Option.map_eq_some_iff, Prod.mk.injEq] at e
    obtain ⟨l, hl, rfl, rfl⟩ := e
    obtain ⟨out', e', r⟩ := fillL_sound (cells' := (List.replicate len z.cells.toList).flatten.toArray) hp (by simpa using VRl_refl_flat (ρ := ρ) hfl) hl
    obtain ⟨ρ', a, b, c, d⟩ := new_row' H el r
    refine ⟨ρ', .slice (some ⟨w.heap.size, 0 + 0, none⟩) len len, _, ?_, .sl a, c, d⟩
    have hgt : ¬ (len * sz > 2 ^ 24) := by simp; omega
    simp only [Instr.buildSlice, Sem.run_bind, run_underlying hu, Result.andThen_ok, run_sizeOf' hsz, if_neg hgt]
    by_cases h0 : len * sz = 0
    · rw [if_pos h0]
      simp only [Sem.run_bind, Sem.run_pure, Result.andThen_ok, zeros0 hzc h0, e']
      simp [newRow]
    · rw [if_neg h0]
      simp only [Sem.run_bind, Sem.run_pure, Result.andThen_ok, run_zeroValue' hz, zeros1 hzc, e']
      simp [newRow]

def amakeSlice (P : Program) (t : TypeId) (x y : Value) (h : Heap) : Option (Value × Heap) :=
  match x, y with
  | .int _ l, .int _ c => (elemOfSlice P t).bind fun e => (P.info? e).bind fun i => (zerosOf P e c.toNat).bind fun zs =>
      bif decide (0 ≤ l) && decide (l ≤ c) && decide (c ≤ 1000000) && Nat.ble i.bytes 65536 then some (.slice (some ⟨h.next, 0, none⟩) l.toNat c.toNat, h.push (.cells zs)) else none
  | _, _ => none
theorem VR.int_inv {ρ : Rho} {k : IntKind} {n : Int} {x' : Value} (h : VR ρ (.int k n) x') : x' = .int k n := by cases h; rfl
theorem VR.bool_inv {ρ : Rho} {b : Bool} {x' : Value} (h : VR ρ (.bool b) x') : x' = .bool b := by cases h; rfl
theorem VR.string_inv {ρ : Rho} {b : ByteArray} {x' : Value} (h : VR ρ (.string b) x') : x' = .string b := by cases h; rfl
theorem wrap_small {n : Int} (h0 : 0 ≤ n) (h1 : n ≤ 1000000) : IntKind.i64.wrap n = n := IntWalk.i64_in n (by omega)
theorem amakeSlice_sound {ρ : Rho} {h h' : Heap} {w : World} {t : TypeId} {x y x' y' v : Value} (H : HR ρ h w) (hx : VR ρ x x') (hy : VR ρ y y') (e : amakeSlice P t x y h = some (v, h')) : Does P ρ h w v h' (Instr.makeSlice t x' y') := by
  unfold amakeSlice at e
  split at e
  · next k1 l k2 c =>
    simp only [Option.bind_eq_some_iff] at e
    obtain ⟨el, hu, i, hi, zs, hzs, e⟩ := e
    have hu := elemOfSlice_some hu
    obtain ⟨sz, z, hsz, hz, hzc, rfl, hfl, hlen⟩ := zerosOf_some hzs
    cases hb : (decide (0 ≤ l) && decide (l ≤ c) && decide (c ≤ 1000000) && Nat.ble i.bytes 65536) with
    | false => rw [hb] at e; cases e
    | true =>
      rw [hb] at e
      simp only [Bool.and_eq_true, decide_eq_true_eq] at hb
      obtain ⟨⟨⟨h0, h1⟩, h2⟩, h3⟩ := hb
      have h3 := Nat.le_of_ble_eq_true h3
      simp only [cond_true, Option.some.injEq, Prod.mk.injEq] at e
      obtain ⟨rfl, rfl⟩ := e
      obtain rfl := hx.int_inv
      obtain rfl := hy.int_inv
      obtain ⟨ρ', a, b, c', d⟩ := new_row' H el (VRl_refl_flat (ρ := ρ) hfl)
      refine ⟨ρ', .slice (some ⟨w.heap.size, 0 + 0, none⟩) l.toNat c.toNat, _, ?_, .sl a, c', d⟩
      have hwl := wrap_small h0 (by omega : l ≤ 1000000)
      have hwc := wrap_small (by omega : 0 ≤ c) h2
      have hm : (i.bytes : Int) * c ≤ 65536 * 1000000 := Int.mul_le_mul (by omega) h2 (by omega) (by omega)
      have hm2 : c.toNat * i.bytes ≤ 1000000 * 65536 := Nat.mul_le_mul (by omega) h3
      simp only [Instr.makeSlice, Sem.run_bind, run_underlying hu, Result.andThen_ok, asInt, asIntOf, Sem.run_pure, run_typeInfo' hi, hwl, hwc]
      have t1 : ¬ ((decide (c < 0) || decide ((i.bytes : Int) * c > 2 ^ 48) || decide (l < 0) || decide (l > c)) = true) := by
        simp; omega
      simp only [Bool.or_assoc] at t1 ⊢
      rw [if_neg t1]
      have hroom : (askRoom (c.toNat * i.bytes)).run P w = .ok () w := by
        unfold askRoom
        have : ¬ (c.toNat * i.bytes > roomBytes) := by unfold roomBytes; omega
        rw [if_neg this]; rfl
      simp only [Sem.run_bind, Sem.run_pure, Result.andThen_ok, hroom, run_sizeOf' hsz]
      by_cases h0 : c.toNat * sz = 0
      · rw [if_pos h0]
        simp only [Sem.run_bind, Sem.run_pure, Result.andThen_ok, zeros0 hzc h0]
        simp [newRow]
      · rw [if_neg h0]
        simp only [Sem.run_bind, Sem.run_pure, Result.andThen_ok, run_zeroValue' hz, zeros1 hzc]
        simp [newRow]
  · cases e

/-! ### Addresses -/
def afieldAddr (P : Program) (s : TypeId) (x : Value) (f : Nat) : Option Value :=
  (asPtr x).bind fun p =>
    match P.underlying s with
    | some (.struct fs) => (fs[f]?).bind fun fd => (szOf P fd.type).bind fun n => bif Nat.blt 0 n then some (.pointer (some ⟨p.1, p.2 + fd.offset, none⟩)) else none
    | _ => none
theorem afieldAddr_sound {ρ : Rho} {w : World} {s : TypeId} {x x' v : Value} {f : Nat} (hx : VR ρ x x') (e : afieldAddr P s x f = some v) : Quiet P ρ w v (Instr.fieldAt s x' f) := by
  simp only [afieldAddr, Option.bind_eq_some_iff] at e
  obtain ⟨⟨b, o⟩, hp, e⟩ := e
  obtain rfl := asPtr_some hp
  obtain ⟨B, base, hρ, rfl⟩ := hx.ptr_inv
  split at e
  · next fs hu =>
    simp only [Option.bind_eq_some_iff] at e
    obtain ⟨fd, hf, n, hn, e⟩ := e
    cases hb : Nat.blt 0 n with
    | false => rw [hb] at e; cases e
    | true =>
      rw [hb] at e
      rw [Nat.blt_eq] at hb
      injection e with e; subst e
      refine ⟨.pointer (some ⟨B, base + (o + fd.offset), none⟩), ?_, .ptr hρ⟩
      have hn0 : ¬ (n = 0) := by omega
      simp [Instr.fieldAt, run_underlying hu, hf, Instr.sureAddr, fieldPlace, run_sizeOf' hn, hn0, add_at', Nat.add_assoc]
  · cases e
def asSlice : Value → Option (Nat × Nat × Option Nat × Nat × Nat)
  | .slice (some ⟨b, o, f⟩) l c => some (b, o, f, l, c)
  | _ => none
theorem asSlice_some {x : Value} {b o l c : Nat} {f : Option Nat} (h : asSlice x = some (b, o, f, l, c)) : x = .slice (some ⟨b, o, f⟩) l c := by
  unfold asSlice at h
  split at h
  · injection h with h; injection h with h1 h; injection h with h2 h; injection h with h3 h; injection h with h4 h5; subst h1; subst h2; subst h3; subst h4; subst h5; rfl
  · cases h
theorem VR.slice_inv {ρ : Rho} {b o l c : Nat} {f : Option Nat} {x' : Value} (h : VR ρ (.slice (some ⟨b, o, f⟩) l c) x') :
    ∃ B base c', ρ b = some (B, base) ∧ x' = .slice (some ⟨B, base + o, none⟩) l c' ∧ c ≤ c' ∧ (f = none → c' = c) ∧ (∀ z, f = some z → base + o + c' * z ≤ ρ.n B) := by
  cases h with
  | sl e => exact ⟨_, _, _, e, rfl, Nat.le_refl _, fun _ => rfl, fun z hz => (by cases hz)⟩
  | slu e h1 h2 => exact ⟨_, _, _, e, rfl, h1, fun hn => (by cases hn), fun z hz => (by injection hz with hz; subst hz; exact h2)⟩
  | fl e => simp [flat1] at e
def aindexAddr (P : Program) (t : TypeId) (x ix : Value) : Option Value :=
  match ix with
  | .int _ i =>
    match P.underlying t with
    | some (.slice e) => (szOf P e).bind fun sz => (asSlice x).bind fun s => bif decide (0 ≤ i) && decide (i < (s.2.2.2.1 : Int)) then some (.pointer (some ⟨s.1, s.2.1 + i.toNat * sz, none⟩)) else none
    | some (.array n e) => (szOf P e).bind fun sz => (asPtr x).bind fun p => bif decide (0 ≤ i) && decide (i < (n : Int)) then some (.pointer (some ⟨p.1, p.2 + i.toNat * sz, none⟩)) else none
    | _ => none
  | _ => none
theorem aindexAddr_sound {ρ : Rho} {w : World} {t : TypeId} {x x' ix ix' v : Value} (hx : VR ρ x x') (hi : VR ρ ix ix') (e : aindexAddr P t x ix = some v) : Quiet P ρ w v (Instr.indexAt t x' ix') := by
  unfold aindexAddr at e
  split at e
  · next k i =>
    obtain rfl := hi.int_inv
    split at e
    · next el hu =>
      simp only [Option.bind_eq_some_iff] at e
      obtain ⟨sz, hsz, ⟨b, o, f, l, c⟩, hs, e⟩ := e
      obtain rfl := asSlice_some hs
      obtain ⟨B, base, c', hρ, rfl, _, _⟩ := hx.slice_inv
      cases hb : (decide (0 ≤ i) && decide (i < (l : Int))) with
      | false => simp only at e; rw [hb] at e; cases e
      | true =>
        simp only at e
        rw [hb] at e
        simp only [Bool.and_eq_true, decide_eq_true_eq] at hb
        injection e with e; subst e
        refine ⟨.pointer (some ⟨B, base + (o + i.toNat * sz), none⟩), ?_, .ptr hρ⟩
        simp [Instr.indexAt, asIntOf, run_underlying hu, hb, run_sizeOf' hsz, add_at', Nat.add_assoc]
    · next n el hu =>
      simp only [Option.bind_eq_some_iff] at e
      obtain ⟨sz, hsz, ⟨b, o⟩, hp, e⟩ := e
      obtain rfl := asPtr_some hp
      obtain ⟨B, base, hρ, rfl⟩ := hx.ptr_inv
      cases hb : (decide (0 ≤ i) && decide (i < (n : Int))) with
      | false => simp only at e; rw [hb] at e; cases e
      | true =>
        simp only at e
        rw [hb] at e
        simp only [Bool.and_eq_true, decide_eq_true_eq] at hb
        injection e with e; subst e
        refine ⟨.pointer (some ⟨B, base + (o + i.toNat * sz), none⟩), ?_, .ptr hρ⟩
        simp [Instr.indexAt, asIntOf, run_underlying hu, hb, run_sizeOf' hsz, add_at', Nat.add_assoc, Instr.sureAddr]
    · cases e
  · cases e
/-- A field, or an element, of a value. -/
def apart (P : Program) (t : TypeId) (cs : Array Value) (off : Nat) : Option Value :=
  (aggT P t).bind fun g => bif g then (szOf P t).bind fun n => (cut cs.toList off n).map fun l => .agg l.toArray else cs[off]?
theorem apart_sound {ρ : Rho} {w : World} {t : TypeId} {cs cs' : Array Value} {off : Nat} {v : Value} (h : VRs ρ cs cs') (e : apart P t cs off = some v) : Quiet P ρ w v (part t cs' off) := by
  simp only [apart, Option.bind_eq_some_iff] at e
  obtain ⟨g, hg, e⟩ := e
  cases g with
  | true =>
    simp only [cond_true, Option.bind_eq_some_iff, Option.map_eq_some_iff] at e
    obtain ⟨n, hn, l, hl, rfl⟩ := e
    obtain ⟨rfl, _, _⟩ := cut_some hl
    refine ⟨.agg ((cs'.toList.drop off).take n).toArray, ?_, .agg' ((h.toList.drop off).take n).toArray⟩
    have : cs'.extract off (off + n) = ((cs'.toList.drop off).take n).toArray := by
      apply Array.ext'
      simp
    simp [part, run_isAgg' hg, run_sizeOf' hn, this]
  | false =>
    simp only [cond_false] at e
    obtain ⟨v', e', r⟩ := h.toList.2 off v (by simpa using e)
    refine ⟨v', ?_, r⟩
    have : cs'[off]? = some v' := by simpa using e'
    simp [part, run_isAgg' hg, this]
def afield (P : Program) (t : TypeId) (x : Value) (f : Nat) : Option Value :=
  match P.underlying t, x with
  | some (.struct fs), .agg cs => (fs[f]?).bind fun fd => apart P fd.type cs fd.offset
  | _, _ => none
theorem VR.agg_inv {ρ : Rho} {cs : Array Value} {x' : Value} (h : VR ρ (.agg cs) x') : ∃ cs', x' = .agg cs' ∧ VRs ρ cs cs' := by
  cases h with
  | agg a b => exact ⟨_, rfl, a, b⟩
  | fl e => simp [flat1] at e
theorem VR.tuple_inv {ρ : Rho} {cs : Array Value} {x' : Value} (h : VR ρ (.tuple cs) x') : ∃ cs', x' = .tuple cs' ∧ VRs ρ cs cs' := by
  cases h with
  | tuple a b => exact ⟨_, rfl, a, b⟩
  | fl e => simp [flat1] at e
theorem afield_sound {ρ : Rho} {w : World} {t : TypeId} {x x' v : Value} {f : Nat} (hx : VR ρ x x') (e : afield P t x f = some v) : Quiet P ρ w v (Instr.field t x' f) := by
  unfold afield at e
  split at e
  · next fs cs hu =>
    obtain ⟨cs', rfl, hcs⟩ := hx.agg_inv
    simp only [Option.bind_eq_some_iff] at e
    obtain ⟨fd, hf, e⟩ := e
    obtain ⟨v', hr, hv⟩ := apart_sound (P := P) (w := w) hcs e
    exact ⟨v', by simp [Instr.field, run_underlying hu, hf, asAgg, hr], hv⟩
  · cases e
def aindex (P : Program) (t : TypeId) (x ix : Value) : Option Value :=
  match P.underlying t, x, ix with
  | some (.array n e), .agg cs, .int _ i => (szOf P e).bind fun sz => bif decide (0 ≤ i) && decide (i < (n : Int)) then apart P e cs (i.toNat * sz) else none
  | some .string, .string s, .int _ i => bif decide (0 ≤ i) then (s[i.toNat]?).map fun b => .int .u8 b.toNat else none
  | _, _, _ => none
theorem aindex_sound {ρ : Rho} {w : World} {t : TypeId} {x x' ix ix' v : Value} (hx : VR ρ x x') (hi : VR ρ ix ix') (e : aindex P t x ix = some v) : Quiet P ρ w v (Instr.index t x' ix') := by
  unfold aindex at e
  split at e
  · next n el cs k i hu =>
    obtain ⟨cs', rfl, hcs⟩ := hx.agg_inv
    obtain rfl := hi.int_inv
    simp only [Option.bind_eq_some_iff] at e
    obtain ⟨sz, hsz, e⟩ := e
    cases hb : (decide (0 ≤ i) && decide (i < (n : Int))) with
    | false => rw [hb] at e; cases e
    | true =>
      rw [hb] at e
      simp only [Bool.and_eq_true, decide_eq_true_eq] at hb
      obtain ⟨v', hr, hv⟩ := apart_sound (P := P) (w := w) hcs e
      exact ⟨v', by simp [Instr.index, asIntOf, run_underlying hu, hb, run_sizeOf' hsz, hr], hv⟩
  · next s k i hu =>
    obtain rfl := hx.string_inv
    obtain rfl := hi.int_inv
    cases hb : decide (0 ≤ i) with
    | false => rw [hb] at e; cases e
    | true =>
      rw [hb] at e
      simp only [decide_eq_true_eq] at hb
      simp only [cond_true, Option.map_eq_some_iff] at e
      obtain ⟨b, hb', rfl⟩ := e
      exact ⟨_, by simp [Instr.index, asIntOf, run_underlying hu, hb, hb'], .fl rfl⟩
  · cases e
end Go.AM
