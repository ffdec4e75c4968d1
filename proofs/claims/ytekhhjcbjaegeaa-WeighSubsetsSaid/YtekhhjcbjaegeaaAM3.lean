/- The operations of the abstract machine on memory, and that the model's come to the same. -/
import Derived.Test.YtekhhjcbjaegeaaAM2
set_option linter.all false
namespace Go.AM
open Go
variable {P : Program}

/-! ### Types -/
def aggT (P : Program) (t : TypeId) : Option Bool :=
  match P.underlying t with
  | some (.struct _) | some (.array _ _) => some true
  | some _ => some false
  | none => none
def szOf (P : Program) (t : TypeId) : Option Nat := (P.info? t).map (·.size)
def zeroOf (P : Program) (t : TypeId) : Option Value := (P.info? t).bind (·.zero)

theorem run_typeInfo' {t : TypeId} {i : TypeInfo} (h : P.info? t = some i) (w : World) : (typeInfo t).run P w = .ok i w := by
  simp [typeInfo, h]
theorem run_sizeOf' {t : TypeId} {n : Nat} (h : szOf P t = some n) (w : World) : (sizeOf t).run P w = .ok n w := by
  unfold szOf at h
  cases hi : P.info? t with
  | none => rw [hi] at h; cases h
  | some i => rw [hi] at h; injection h with h; subst h; simp [sizeOf, run_typeInfo' hi]
theorem run_zeroValue' {t : TypeId} {z : Value} (h : zeroOf P t = some z) (w : World) : (zeroValue t).run P w = .ok z w := by
  unfold zeroOf at h
  cases hi : P.info? t with
  | none => rw [hi] at h; cases h
  | some i =>
    rw [hi] at h
    have h' : i.zero = some z := h
    simp [zeroValue, run_typeInfo' hi, h']
theorem run_isAgg' {t : TypeId} {b : Bool} (h : aggT P t = some b) (w : World) : (isAgg t).run P w = .ok b w := by
  unfold aggT at h
  unfold isAgg
  split at h
  · next fs hu => injection h with h; subst h; simp [run_underlying hu]
  · next n e hu => injection h with h; subst h; simp [run_underlying hu]
  · next d h1 h2 hu =>
    injection h with h; subst h
    cases d with
    | struct fs => exact absurd rfl (h1 fs)
    | array n e => exact absurd rfl (h2 n e)
    | _ => simp [run_underlying hu]
  · cases h

/-! ### Cells of a value -/
def cellsOf (v : Value) : List Value := v.cells.toList
theorem VR.cells {ρ : Rho} {v v' : Value} (h : VR ρ v v') : VRl ρ v.cells.toList v'.cells.toList := by
  cases h with
  | agg h1 h2 => exact VRs.toList ⟨h1, h2⟩
  | fl e => cases v <;> first | (simp [flat1] at e; done) | exact .cons (.fl e) (.nil _)
  | ptr e => exact .cons (.ptr e) (.nil _)
  | sl e => exact .cons (.sl e) (.nil _)
  | slu e hc hn => exact .cons (.slu e hc hn) (.nil _)
  | map e => exact .cons (.map e) (.nil _)
  | fn a b c d => exact .cons (.fn a b c d) (.nil _)
  | yield e => exact .cons (.yield e) (.nil _)
  | iface e => exact .cons (.iface e) (.nil _)
  | tuple a b => exact .cons (.tuple a b) (.nil _)
theorem VR.oneCell {ρ : Rho} {v v' : Value} (h : VR ρ v v') : v'.oneCell' = v.oneCell' := by cases h <;> rfl
theorem VRl.oneCell {ρ : Rho} {x x' : List Value} (h : VRl ρ x x') (hx : x.all (·.oneCell') = true) : ∀ v ∈ x', v.oneCell' = true := by
  intro v hv
  obtain ⟨i, hi, e⟩ := List.mem_iff_getElem.1 hv
  have hi' : i < x.length := by rw [h.1]; exact hi
  obtain ⟨v', e', r⟩ := h.2 i x[i] (List.getElem?_eq_getElem hi')
  rw [List.getElem?_eq_getElem hi] at e'
  injection e' with e'
  rw [← e, e', r.oneCell]
  exact (List.all_eq_true.1 hx) _ (List.getElem_mem hi')

/-! ### A row of cells in the model's world -/
theorem BR.cell {ρ : Rho} {N base : Nat} {o : Option Obj} {cs : List Value} (h : BR ρ N base o (.cells cs)) : ∃ C t fr, o = some (.cells C t fr) ∧ N ≤ C.size ∧ (∀ j, base ≤ j → j < N → inFr fr j = false) ∧ base + cs.length ≤ N ∧ VRl ρ cs ((C.toList.drop base).take cs.length) := by
  obtain ⟨C, t, fr, e, hN, hf, hs, hv⟩ := h
  refine ⟨C, t, fr, e, hN, hf, hs, by simp; omega, fun i v hi => ?_⟩
  have hlt := (List.getElem?_eq_some_iff.1 hi).1
  obtain ⟨v', e', r⟩ := hv i v hi
  refine ⟨v', ?_, r⟩
  rw [List.getElem?_take, if_pos hlt, List.getElem?_drop]
  simpa using e'
theorem BR.of_cell {ρ : Rho} {N base : Nat} {cs : List Value} {C : Array Value} {t : TypeId} {fr : Nat × Nat} (hN : N ≤ C.size) (hf : ∀ j, base ≤ j → j < N → inFr fr j = false) (hs : base + cs.length ≤ N) (h : VRl ρ cs ((C.toList.drop base).take cs.length)) : BR ρ N base (some (.cells C t fr)) (.cells cs) := by
  refine ⟨C, t, fr, rfl, hN, hf, hs, fun i v hi => ?_⟩
  have hlt := (List.getElem?_eq_some_iff.1 hi).1
  obtain ⟨v', e', r⟩ := h.2 i v hi
  refine ⟨v', ?_, r⟩
  rw [List.getElem?_take, if_pos hlt, List.getElem?_drop] at e'
  simpa using e'
/-- Cells are stored one after the other, in no frozen part. -/
theorem run_storeCells_fr (P : Program) (g o : Nat) (t : TypeId) (fz : Nat × Nat) : ∀ (vs : List Value) (i : Nat) (cur : Array Value) (w : World), w.heap[g]? = some (.cells cur t fz) → (∀ k, k < vs.length → inFr fz (o + i + k) = false) → o + i + vs.length ≤ cur.size → (∀ v ∈ vs, v.oneCell' = true) →
    (storeCells ⟨g, o, none⟩ vs i).run P w = .ok () (w.setRow g (cur.toList.take (o + i) ++ vs ++ cur.toList.drop (o + i + vs.length)).toArray)
  | [], i, cur, w, hg, _, _, _ => by
    simp only [storeCells, List.append_nil, List.length_nil, Nat.add_zero, List.take_append_drop, Array.toArray_toList]
    rw [setRow_self w g cur t fz hg]
    rfl
  | v :: rest, i, cur, w, hg, hfz, hl, h1 => by
    have hi : o + i < cur.size := by simp at hl; omega
    have hadd : (⟨g, o, none⟩ : Addr).add i = ⟨g, o + i, none⟩ := by unfold Addr.add; split <;> simp_all
    have hcell : w.cell? ⟨g, o + i, none⟩ = some cur[o + i] := by simp [World.cell?, hg, hi]
    have hfro : w.frozen? ⟨g, o + i, none⟩ = false := by
      rw [frozen_frz]
      show frz w.heap[g]? (o + i) = false
      rw [hg]
      exact hfz 0 (by simp)
    have hst : (store ((⟨g, o, none⟩ : Addr).add i) v).run P w = .ok () (w.setRow g (cur.setIfInBounds (o + i) v)) := by
      rw [hadd, run_store P w _ v _ (h1 v (by simp)), hcell]
      simp [hfro, setCell_eq_setRow w g (o + i) cur t fz v hg]
    have ih := run_storeCells_fr P g o t fz rest (i + 1) (cur.setIfInBounds (o + i) v) (w.setRow g (cur.setIfInBounds (o + i) v)) (setRow_heap w g cur _ t _ hg) (fun k hk => by
      have := hfz (k + 1) (by simp; omega)
      rwa [show o + (i + 1) + k = o + i + (k + 1) from by omega]) (by simp at hl ⊢; omega) (fun x hx => h1 x (by simp [hx]))
    simp only [storeCells, Sem.run_bind, hst, Result.andThen_ok, ih, setRow_setRow]
    congr 3
    have e := list_seg_step cur.toList (o + i) v rest (by simp at hl ⊢; omega)
    simpa [Array.toList_setIfInBounds, Nat.add_assoc] using e
theorem frz_row {w : World} {B : Nat} {C D : Array Value} {t : TypeId} {fr : Nat × Nat} (h : w.heap[B]? = some (.cells C t fr)) (off : Nat) : frz (w.setRow B D).heap[B]? off = frz w.heap[B]? off := by
  rw [setRow_heap w B C D t fr h, h]; rfl
theorem cell_at {w : World} {B : Nat} {C : Array Value} {t : TypeId} {fr : Nat × Nat} (h : w.heap[B]? = some (.cells C t fr)) (j : Nat) : w.cell? ⟨B, j, none⟩ = C[j]? := by
  simp [World.cell?, h]
theorem add_at' (B o j : Nat) : (⟨B, o, none⟩ : Addr).add j = ⟨B, o + j, none⟩ := by unfold Addr.add; split <;> simp_all
/-- n cells from o on. -/
def cut (cs : List Value) (o n : Nat) : Option (List Value) :=
  let l := (cs.drop o).take n
  bif Nat.beq l.length n then some l else none
theorem cut_some {cs l : List Value} {o n : Nat} (h : cut cs o n = some l) : l = (cs.drop o).take n ∧ l.length = n ∧ (n = 0 ∨ o + n ≤ cs.length) := by
  simp only [cut] at h
  cases e : Nat.beq ((cs.drop o).take n).length n with
  | false => rw [e] at h; cases h
  | true =>
    rw [e] at h
    have h : (cs.drop o).take n = l := by injection h
    have e' := Nat.eq_of_beq_eq_true e
    refine ⟨h.symm, by rw [← h]; exact e', ?_⟩
    simp at e'
    omega

theorem row_VRl {ρ : Rho} {base : Nat} {cs : List Value} {C : Array Value} (hs : base + cs.length ≤ C.size) (hv : ∀ (i : Nat) (v : Value), cs[i]? = some v → ∃ v', C[base + i]? = some v' ∧ VR ρ v v') : VRl ρ cs ((C.toList.drop base).take cs.length) := by
  refine ⟨by simp; omega, fun i v hi => ?_⟩
  have hlt := (List.getElem?_eq_some_iff.1 hi).1
  obtain ⟨v', e', r⟩ := hv i v hi
  refine ⟨v', ?_, r⟩
  rw [List.getElem?_take, if_pos hlt, List.getElem?_drop]
  simpa using e'
theorem load_row {ρ : Rho} {w : World} {B base : Nat} {cs l : List Value} {o n : Nat} (hb : ∃ C t fr, w.heap[B]? = some (.cells C t fr) ∧ base + cs.length ≤ C.size ∧ ∀ (i : Nat) (v : Value), cs[i]? = some v → ∃ v', C[base + i]? = some v' ∧ VR ρ v v') (h : cut cs o n = some l) :
    ∃ l' : List Value, (∀ w', w'.heap = w.heap → (loadCells ⟨B, base + o, none⟩ n).run P w' = .ok l'.toArray w') ∧ VRl ρ l l' := by
  obtain ⟨C, t, fr, e, hs, hv⟩ := hb
  have hv := row_VRl hs hv
  obtain ⟨rfl, hlen, hn⟩ := cut_some h
  have hv' := (hv.drop o).take n
  refine ⟨_, fun w' hw' => ?_, hv'⟩
  rw [← hw'] at e
  have hl : (List.take n (List.drop o (List.take cs.length (List.drop base C.toList)))).length = n := by rw [← hv'.1]; exact hlen
  have := run_loadCells_list (P := P) (w := w') ⟨B, base + o, none⟩ (List.take n (List.drop o (List.take cs.length (List.drop base C.toList)))) (fun j v hj => by
    rw [add_at', cell_at e]
    rw [List.getElem?_take] at hj
    split at hj
    · rw [List.getElem?_drop, List.getElem?_take] at hj
      split at hj
      · rw [List.getElem?_drop] at hj
        rw [← hj]; simp [Nat.add_assoc]
      · cases hj
    · cases hj)
  rw [hl] at this
  exact this

theorem load_cells {ρ : Rho} {w : World} {B N base : Nat} {cs l : List Value} {o n : Nat} (hb : BR ρ N base w.heap[B]? (.cells cs)) (h : cut cs o n = some l) :
    ∃ l' : List Value, (∀ w', w'.heap = w.heap → (loadCells ⟨B, base + o, none⟩ n).run P w' = .ok l'.toArray w') ∧ VRl ρ l l' := by
  obtain ⟨C, t, fr, e, hN, _, hs, hv⟩ := hb
  exact load_row ⟨C, t, fr, e, by omega, hv⟩ h

/-! ### Loads and stores -/
def asPtr : Value → Option (Nat × Nat)
  | .pointer (some ⟨b, o, none⟩) => some (b, o)
  | _ => none
theorem asPtr_some {x : Value} {b o : Nat} (h : asPtr x = some (b, o)) : x = .pointer (some ⟨b, o, none⟩) := by
  unfold asPtr at h
  split at h
  · injection h with h; injection h with h1 h2; subst h1; subst h2; rfl
  · cases h
theorem VR.ptr_inv {ρ : Rho} {b o : Nat} {x' : Value} (h : VR ρ (.pointer (some ⟨b, o, none⟩)) x') : ∃ B base, ρ b = some (B, base) ∧ x' = .pointer (some ⟨B, base + o, none⟩) := by
  cases h with
  | ptr e => exact ⟨_, _, e, rfl⟩
  | fl e => simp [flat1] at e
def Heap.cs (h : Heap) (b : Nat) : Option (List Value) :=
  match h.get b with
  | some (.cells cs) => some cs
  | _ => none
theorem Heap.cs_some {h : Heap} {b : Nat} {cs : List Value} (e : h.cs b = some cs) : h.get b = some (.cells cs) := by
  unfold Heap.cs at e
  split at e
  · next hg => injection e with e; subst e; exact hg
  · cases e
/-- The cells that may be looked at. -/
def rows : Blk → Option (List Value)
  | .cells cs => some cs
  | .ro _ cs => some cs
  | _ => none
def Heap.rd (h : Heap) (b : Nat) : Option (List Value) := match h.get b with | some x => rows x | none => none
theorem Heap.rd_some {h : Heap} {b : Nat} {cs : List Value} (e : h.rd b = some cs) : ∃ x, h.get b = some x ∧ rows x = some cs := by
  unfold Heap.rd at e
  cases hg : h.get b with
  | none => rw [hg] at e; cases e
  | some x => rw [hg] at e; exact ⟨x, rfl, e⟩
theorem Heap.rd_of {h : Heap} {b : Nat} {cs : List Value} {x : Blk} (hg : h.get b = some x) (e : rows x = some cs) : h.rd b = some cs := by unfold Heap.rd; rw [hg]; exact e
theorem Heap.rd_blk {ρ : Rho} {h : Heap} {w : World} (H : HR ρ h w) {b B base : Nat} {cs : List Value} (e : h.rd b = some cs) (hρ : ρ b = some (B, base)) : ∃ C t fr, w.heap[B]? = some (.cells C t fr) ∧ base + cs.length ≤ C.size ∧ ∀ (i : Nat) (v : Value), cs[i]? = some v → ∃ v', C[base + i]? = some v' ∧ VR ρ v v' := by
  obtain ⟨x, hg, hx⟩ := Heap.rd_some e
  have hb := H.blk b B base _ hg hρ
  cases x with
  | cells ds =>
    simp only [rows, Option.some.injEq] at hx; subst hx
    obtain ⟨C, t, fr, e, hN, _, hs, hv⟩ := hb
    exact ⟨C, t, fr, e, by omega, hv⟩
  | ro obj ds =>
    simp only [rows, Option.some.injEq] at hx; subst hx
    obtain ⟨e, C, t, fr, rfl, hs, hv⟩ := hb
    exact ⟨C, t, fr, e, hs, hv⟩
  | map _ _ => cases hx
  | loop _ _ _ _ _ _ _ _ => cases hx
  | mark => cases hx
def aload (P : Program) (t : TypeId) (x : Value) (h : Heap) : Option Value :=
  (asPtr x).bind fun p => (h.rd p.1).bind fun cs => (aggT P t).bind fun g =>
    bif g then (szOf P t).bind fun n => (cut cs p.2 n).map fun l => .agg l.toArray else cs[p.2]?
theorem aload_sound {ρ : Rho} {h : Heap} {w : World} {t : TypeId} {x x' v : Value} (H : HR ρ h w) (hx : VR ρ x x') (e : aload P t x h = some v) :
    ∃ v', (Instr.loadAt t x').run P w = .ok v' w ∧ VR ρ v v' := by
  unfold aload at e
  obtain ⟨⟨b, o⟩, hp, e⟩ := Option.bind_eq_some_iff.1 e
  obtain ⟨cs, hc, e⟩ := Option.bind_eq_some_iff.1 e
  obtain ⟨g, ha, e⟩ := Option.bind_eq_some_iff.1 e
  obtain rfl := asPtr_some hp
  obtain ⟨B, base, hρ, rfl⟩ := hx.ptr_inv
  have hb := Heap.rd_blk H hc hρ
  cases g with
  | true =>
    simp only [cond_true] at e
    obtain ⟨n, hsz, e⟩ := Option.bind_eq_some_iff.1 e
    obtain ⟨l, hl, rfl⟩ := Option.map_eq_some_iff.1 e
    obtain ⟨l', hr, hv⟩ := load_row (P := P) hb hl
    exact ⟨.agg l'.toArray, by simp [Instr.loadAt, Instr.sureAddr, loadVar, run_isAgg' ha, run_sizeOf' hsz, hr w rfl], .agg' hv.toArray⟩
  | false =>
    simp only [cond_false] at e
    obtain ⟨C, t', fr, e1, hs, hv⟩ := hb
    obtain ⟨v', e2, r⟩ := hv o v e
    exact ⟨v', by simp [Instr.loadAt, Instr.sureAddr, loadVar, run_isAgg' ha, cell_at e1, e2], r⟩

def splice (cs : List Value) (o : Nat) (l : List Value) : List Value := cs.take o ++ l ++ cs.drop (o + l.length)
def astore (P : Program) (t : TypeId) (x v : Value) (h : Heap) : Option Heap :=
  (asPtr x).bind fun p => (h.cs p.1).bind fun cs => (szOf P t).bind fun n =>
    let l := v.cells.toList
    bif Nat.beq l.length n && l.all (·.oneCell') && Nat.ble (p.2 + l.length) cs.length then some (h.put p.1 (some (.cells (splice cs p.2 l)))) else none
theorem list_splice (L l' : List Value) (base n o : Nat) (h : base + n ≤ L.length) (ho : o + l'.length ≤ n) :
    ((L.take (base + o) ++ l' ++ L.drop (base + o + l'.length)).drop base).take n = ((L.drop base).take n).take o ++ l' ++ ((L.drop base).take n).drop (o + l'.length) := by
  apply List.ext_getElem?
  intro i
  by_cases hi : i < n
  · by_cases h2 : i < o
    · simp [List.getElem?_append, List.getElem?_take, List.getElem?_drop, show base + i < base + o by omega, show base + i < L.length by omega, hi, h2, show i < L.length - base by omega]
      rw [if_pos (by omega), if_pos (by omega)]
    · by_cases h3 : i < o + l'.length
      · simp [List.getElem?_append, List.getElem?_take, List.getElem?_drop, show ¬ (base + i < base + o) by omega, hi, h2, show min (base + o) L.length = base + o by omega, show min o (min n (L.length - base)) = o by omega, show base + i - (base + o) = i - o by omega, show i - o < l'.length by omega]
      · simp [List.getElem?_append, List.getElem?_take, List.getElem?_drop, show ¬ (base + i < base + o) by omega, hi, h2, show min (base + o) L.length = base + o by omega, show min o (min n (L.length - base)) = o by omega, show base + i - (base + o) = i - o by omega, show ¬ (i - o < l'.length) by omega]
        rw [if_pos (by omega)]
        congr 1
        omega
  · rw [List.getElem?_take, if_neg hi, List.getElem?_eq_none]
    simp; omega
theorem store_cells {ρ : Rho} {h : Heap} {w : World} (H : HR ρ h w) {b B base : Nat} {cs l l' : List Value} {o : Nat} (hg : h.get b = some (.cells cs)) (hρ : ρ b = some (B, base)) (hl : VRl ρ l l') (h1 : l.all (·.oneCell') = true) (ho : o + l.length ≤ cs.length) :
    ∃ w', (storeCells ⟨B, base + o, none⟩ l').run P w = .ok () w' ∧ HR ρ (h.put b (some (.cells (splice cs o l)))) w' ∧ Ext ρ h w ρ (h.put b (some (.cells (splice cs o l)))) w' := by
  have hb := H.blk b B base _ hg hρ
  obtain ⟨C, t, fr, e1, hN, hf, hs, hv⟩ := hb.cell
  have hll := hl.1
  have hsp : (splice cs o l).length = cs.length := by simp [splice]; omega
  refine ⟨_, run_storeCells_fr P B (base + o) t fr l' 0 C w e1 (fun k hk => hf _ (by omega) (by omega)) (by omega) (hl.oneCell h1), ?_⟩
  refine H.upd (by rw [hg]; simp) hρ (fun k hk => setRow_other w B k _ hk) (size_setRow w B _) rfl rfl rfl ?_ (frz_row e1)
  rw [setRow_heap w B C _ t fr e1]
  refine BR.of_cell ?_ hf ?_ ?_
  · simp; omega
  · rw [hsp]; exact hs
  · have hv2 : VRl ρ (cs.take o ++ l ++ cs.drop (o + l.length)) (((C.toList.drop base).take cs.length).take o ++ l' ++ ((C.toList.drop base).take cs.length).drop (o + l'.length)) := by
      rw [← hll]; exact ((hv.take o).append hl).append (hv.drop _)
    rw [hsp]
    have h3 := list_splice C.toList l' base cs.length o (by simp; omega) (by omega)
    rw [List.toList_toArray, Nat.add_zero, h3]
    exact hv2
theorem astore_sound {ρ : Rho} {h h' : Heap} {w : World} {t : TypeId} {x x' v v' : Value} (H : HR ρ h w) (hx : VR ρ x x') (hv : VR ρ v v') (e : astore P t x v h = some h') :
    ∃ w', (Instr.storeAt t x' v').run P w = .ok () w' ∧ HR ρ h' w' ∧ Ext ρ h w ρ h' w' := by
  simp only [astore, Option.bind_eq_some_iff] at e
  obtain ⟨⟨b, o⟩, hp, cs, hc, n, hsz, e⟩ := e
  obtain rfl := asPtr_some hp
  obtain ⟨B, base, hρ, rfl⟩ := hx.ptr_inv
  simp only at e
  cases hcd : (Nat.beq v.cells.toList.length n && v.cells.toList.all (·.oneCell') && Nat.ble (o + v.cells.toList.length) cs.length) with
  | false => rw [hcd] at e; cases e
  | true =>
    rw [hcd] at e
    simp only [cond_true] at e
    injection e with e; subst e
    simp only [Bool.and_eq_true] at hcd
    obtain ⟨⟨hn, h1⟩, hle⟩ := hcd
    have hle' := Nat.le_of_ble_eq_true hle
    have hn' := Nat.eq_of_beq_eq_true hn
    have hcl := hv.cells
    obtain ⟨w', hr, hh⟩ := store_cells (P := P) H (Heap.cs_some hc) hρ hcl h1 hle'
    refine ⟨w', ?_, hh⟩
    have hn2 : v'.cells.size = n := by have := hcl.1; simp at this hn'; omega
    simp [Instr.storeAt, Instr.sureAddr, storeVar, run_sizeOf' hsz, hn2, hr]
end Go.AM
