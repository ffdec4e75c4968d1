/- The operations that make memory, take parts of values, and cut slices. -/
import Derived.Test.YtekhhjcbjaegeaaAM3
set_option linter.all false
namespace Go.AM
open Go
variable {P : Program}

/-- What an operation comes to that does not change memory. -/
def Quiet (P : Program) (ρ : Rho) (w : World) (v : Value) (s : Sem Value) : Prop := ∃ v', s.run P w = .ok v' w ∧ VR ρ v v'
/-- What an operation comes to. -/
def Does (P : Program) (ρ : Rho) (h : Heap) (w : World) (v : Value) (h' : Heap) (s : Sem Value) : Prop :=
  ∃ ρ' v' w', s.run P w = .ok v' w' ∧ VR ρ' v v' ∧ HR ρ' h' w' ∧ Ext ρ h w ρ' h' w'
theorem Quiet.does {ρ : Rho} {h : Heap} {w : World} {v : Value} {s : Sem Value} (H : HR ρ h w) (q : Quiet P ρ w v s) : Does P ρ h w v h s :=
  let ⟨v', e, r⟩ := q; ⟨ρ, v', w, e, r, H, Ext.refl _ _ _⟩

/-! ### New rows -/
def anew (l : List Value) (h : Heap) : Value × Heap := (.pointer (some ⟨h.next, 0, none⟩), h.push (.cells l))
theorem new_row {ρ : Rho} {h : Heap} {w w' : World} (H : HR ρ h w) {l : List Value} {C : Array Value} {t : TypeId} (hw : w'.heap = w.heap.push (.cells C t (0, 0))) (ho : w'.os = w.os) (ht : w'.tape = w.tape) (hp : w'.output = w.output)
    (hl : l.length ≤ C.size) (hv : VRl ρ l (C.toList.take l.length)) :
    ∃ ρ', ρ' h.next = some (w.heap.size, 0) ∧ ρ'.n w.heap.size = C.size ∧ HR ρ' (h.push (.cells l)) w' ∧ Ext ρ h w ρ' (h.push (.cells l)) w' := by
  have hn : w'.heap[w.heap.size]? = some (.cells C t (0, 0)) := by rw [hw]; simp
  obtain ⟨a, b⟩ := H.new (w' := w') (x := .cells l) (fun k hk => by rw [hw, Array.getElem?_push, if_neg (by omega)]) (by rw [hw]; simp) ho ht hp C.size (by
    rw [hn]
    refine BR.of_cell (Nat.le_refl _) (fun j _ _ => inFr_zero j) (by omega) ?_
    simpa using hv) (fun off => by rw [hn]; exact inFr_zero off)
  exact ⟨_, updR_same _ _ _ _, by rw [updR_n, if_pos rfl], a, b⟩
theorem new_row' {ρ : Rho} {h : Heap} {w : World} (H : HR ρ h w) {l l' : List Value} (t : TypeId) (hv : VRl ρ l l') :
    ∃ ρ', ρ' h.next = some (w.heap.size, 0) ∧ ρ'.n w.heap.size = l.length ∧ HR ρ' (h.push (.cells l)) (w.alloc (.cells l'.toArray t)) ∧ Ext ρ h w ρ' (h.push (.cells l)) (w.alloc (.cells l'.toArray t)) := by
  obtain ⟨ρ', a, b, c, d⟩ := new_row (w' := w.alloc (.cells l'.toArray t)) H (l := l) (C := l'.toArray) (t := t) rfl rfl rfl rfl (by simp [hv.1]) (by
    have : l'.take l.length = l' := List.take_of_length_le (by rw [hv.1]; exact Nat.le_refl _)
    simpa [this] using hv)
  exact ⟨ρ', a, by rw [b]; simp [hv.1], c, d⟩

def aalloc (P : Program) (t : TypeId) (h : Heap) : Option (Value × Heap) := (zeroOf P t).bind fun z => bif flat z then some (anew z.cells.toList h) else none
theorem aalloc_sound {ρ : Rho} {h h' : Heap} {w : World} {t : TypeId} {v : Value} (H : HR ρ h w) (e : aalloc P t h = some (v, h')) : Does P ρ h w v h' (Instr.alloc t true (.tuple #[])) := by
  simp only [aalloc, Option.bind_eq_some_iff] at e
  obtain ⟨z, hz, e⟩ := e
  cases hf : flat z with
  | false => rw [hf] at e; cases e
  | true =>
    rw [hf] at e
    simp only [cond_true, anew, Option.some.injEq, Prod.mk.injEq] at e
    obtain ⟨rfl, rfl⟩ := e
    obtain ⟨ρ', a, b, c, d⟩ := new_row' H t (VR_refl_flat (ρ := ρ) hf).cells
    refine ⟨ρ', .pointer (some ⟨w.heap.size, 0 + 0, none⟩), _, ?_, .ptr a, c, d⟩
    simp [Instr.alloc, run_zeroValue' hz, newVar, newRow]
def abox (v : Value) (h : Heap) : Value × Heap := anew v.cells.toList h
theorem abox_sound {ρ : Rho} {h : Heap} {w : World} {t : TypeId} {v v' : Value} (H : HR ρ h w) (hv : VR ρ v v') : Does P ρ h w (abox v h).1 (abox v h).2 (Instr.box t v') := by
  obtain ⟨ρ', a, b, c, d⟩ := new_row' H t hv.cells
  refine ⟨ρ', .pointer (some ⟨w.heap.size, 0 + 0, none⟩), _, ?_, .ptr a, c, d⟩
  simp [Instr.box, newVar, newRow]

/-! ### Parts put together -/
def PRs (ρ : Rho) (x x' : List (Nat × Value)) : Prop := x.length = x'.length ∧ ∀ (i : Nat) (p : Nat × Value), x[i]? = some p → ∃ p', x'[i]? = some p' ∧ p.1 = p'.1 ∧ VR ρ p.2 p'.2
theorem PRs.cons {ρ : Rho} {p p' : Nat × Value} {x x' : List (Nat × Value)} (h : PRs ρ (p :: x) (p' :: x')) : p.1 = p'.1 ∧ VR ρ p.2 p'.2 ∧ PRs ρ x x' := by
  obtain ⟨q, e, h1, h2⟩ := h.2 0 p rfl
  simp at e; subst e
  exact ⟨h1, h2, by simpa using h.1, fun i p hp => by simpa using h.2 (i + 1) p (by simpa using hp)⟩
theorem splice_set (cs : List Value) (i : Nat) (v : Value) (x : List Value) (h : i < cs.length) : splice (cs.set i v) (i + 1) x = splice cs i (v :: x) := by
  have h1 : (cs.take i).length = i := by simp; omega
  have t : (cs.take i ++ v :: cs.drop (i + 1)).take (i + 1) = cs.take i ++ [v] := by
    rw [List.take_append, h1, show i + 1 - i = 1 by omega, List.take_of_length_le (by omega)]; rfl
  have d : (cs.take i ++ v :: cs.drop (i + 1)).drop (i + 1 + x.length) = cs.drop (i + (v :: x).length) := by
    rw [List.drop_append, h1, show i + 1 + x.length - i = x.length + 1 by omega, List.drop_eq_nil_of_le (by omega), List.nil_append, List.drop_succ_cons, List.drop_drop]
    congr 1
    simp; omega
  unfold splice
  rw [List.set_eq_take_append_cons_drop, if_pos h, t, d]
  simp
theorem foldl_set (off : Nat) : ∀ (x : List Value) (k : Nat) (cs : Array Value), off + k + x.length ≤ cs.size →
    ((x.zipIdx k).foldl (fun cs (p : Value × Nat) => cs.setIfInBounds (off + p.2) p.1) cs).toList = splice cs.toList (off + k) x
  | [], k, cs, _ => by simp [splice]
  | v :: x, k, cs, h => by
    simp only [List.length_cons] at h
    simp only [List.zipIdx_cons, List.foldl_cons]
    rw [foldl_set off x (k + 1) _ (by simp; omega), Array.toList_setIfInBounds, ← splice_set _ _ _ _ (by simp; omega)]
    rfl
theorem foldl_set_arr (off : Nat) (x cs : Array Value) (h : off + x.size ≤ cs.size) :
    (x.zipIdx.foldl (fun cs (p : Value × Nat) => cs.setIfInBounds (off + p.2) p.1) cs).toList = splice cs.toList off x.toList := by
  rw [← Array.foldl_toList, Array.toList_zipIdx]
  exact foldl_set off x.toList 0 cs (by simpa using h)
theorem VRl.splice {ρ : Rho} {x x' y y' : List Value} (o : Nat) (h : VRl ρ x x') (k : VRl ρ y y') : VRl ρ (splice x o y) (splice x' o y') := by
  unfold AM.splice
  rw [← k.1]
  exact ((h.take o).append k).append (h.drop _)
/-- The same with lists alone, as the machine here does it. -/
def fillL (place : Nat → Option (Nat × Nat)) (cells : List Value) : List (Nat × Value) → Option (List Value)
  | [] => some cells
  | (i, v) :: rest =>
    (place i).bind fun p =>
      let l := v.cells.toList
      bif Nat.beq l.length p.2 && Nat.beq ((cells.drop p.1).take p.2).length p.2 && Nat.ble (p.1 + p.2) cells.length then fillL place (splice cells p.1 l) rest else none
theorem fillL_sound {ρ : Rho} {place : Nat → Option (Nat × Nat)} : ∀ {parts parts' : List (Nat × Value)} {cells : List Value} {cells' : Array Value} {out : List Value}, PRs ρ parts parts' → VRl ρ cells cells'.toList → fillL place cells parts = some out →
    ∃ out' : Array Value, Instr.fill place cells' parts' = some out' ∧ VRl ρ out out'.toList := by
  intro parts
  induction parts with
  | nil =>
    intro parts' cells cells' out hp hc e
    simp [fillL] at e; subst e
    have : parts' = [] := List.eq_nil_of_length_eq_zero hp.1.symm
    subst this
    exact ⟨cells', rfl, hc⟩
  | cons p rest ih =>
    intro parts' cells cells' out hp hc e
    cases parts' with
    | nil => have := hp.1; simp at this
    | cons p' rest' =>
      obtain ⟨h1, h2, h3⟩ := hp.cons
      obtain ⟨i, v⟩ := p
      obtain ⟨i', v'⟩ := p'
      simp only at h1 h2; subst h1
      simp only [fillL, Option.bind_eq_some_iff] at e
      obtain ⟨⟨off, size⟩, hpl, e⟩ := e
      simp only at e
      cases hb : (Nat.beq v.cells.toList.length size && Nat.beq ((cells.drop off).take size).length size && Nat.ble (off + size) cells.length) with
      | false => rw [hb] at e; cases e
      | true =>
        rw [hb] at e
        simp only [Bool.and_eq_true] at hb
        obtain ⟨⟨hs, _⟩, hl⟩ := hb
        have hs := Nat.eq_of_beq_eq_true hs
        have hl := Nat.le_of_ble_eq_true hl
        have hcl := h2.cells
        have hsz : v'.cells.size = size := by have := hcl.1; simp at this hs; omega
        have hcs : cells.length = cells'.size := by have := hc.1; simpa using this
        have hf := foldl_set_arr off v'.cells cells' (by omega)
        have hsp := hc.splice off hcl
        rw [← hf] at hsp
        obtain ⟨out', e', r⟩ := ih h3 hsp e
        refine ⟨out', ?_, r⟩
        simp only [Instr.fill, hpl, hsz]
        rw [if_neg (by simp; omega)]
        exact e'
def placesOf (P : Program) (fs : Array Field) : Option (List (Nat × Nat)) := fs.toList.mapM (fun f => (P.info? f.type).map fun i => (f.offset, i.size))
def abuild (P : Program) (t : TypeId) (parts : List (Nat × Value)) : Option Value :=
  (zeroOf P t).bind fun z => bif flat z then
    (match P.underlying t with
    | some (.struct fs) => (placesOf P fs).bind fun pl => (fillL (pl[·]?) z.cells.toList parts).map fun l => .agg l.toArray
    | some (.array _ e) => (szOf P e).bind fun n => (fillL (fun i => some (i * n, n)) z.cells.toList parts).map fun l => .agg l.toArray
    | _ => none) else none
theorem abuild_sound {ρ : Rho} {w : World} {t : TypeId} {parts : List (Nat × Value)} {parts' : Array (Nat × Value)} {v : Value} (hp : PRs ρ parts parts'.toList) (e : abuild P t parts = some v) : Quiet P ρ w v (Instr.build t parts') := by
  simp only [abuild, Option.bind_eq_some_iff] at e
  obtain ⟨z, hz, e⟩ := e
  cases hf : flat z with
  | false => rw [hf] at e; cases e
  | true =>
    rw [hf] at e
    simp only [cond_true] at e
    have hzc := (VR_refl_flat (ρ := ρ) hf).cells
    have hz' : ∃ it, P.info? t = some it ∧ it.zero = some z := by
      unfold zeroOf at hz
      cases hi : P.info? t with
      | none => rw [hi] at hz; cases hz
      | some it => rw [hi] at hz; exact ⟨it, rfl, hz⟩
    obtain ⟨it, hit, hitz⟩ := hz'
    split at e
    · next fs hu =>
      simp only [Option.bind_eq_some_iff, Option.map_eq_some_iff] at e
      obtain ⟨pl, hpl, l, hl, rfl⟩ := e
      obtain ⟨out', e', r⟩ := fillL_sound hp hzc hl
      refine ⟨.agg out', run_build w t parts' out' ?_, .agg' (VRs.of_toList (by simpa using r))⟩
      unfold placesOf at hpl
      unfold Program.built
      rw [hit, hu]
      simp only [hitz, hpl]
      simpa using e'
    · next n el hu =>
      simp only [Option.bind_eq_some_iff, Option.map_eq_some_iff] at e
      obtain ⟨sz, hsz, l, hl, rfl⟩ := e
      obtain ⟨out', e', r⟩ := fillL_sound hp hzc hl
      unfold szOf at hsz
      simp only [Option.map_eq_some_iff] at hsz
      obtain ⟨ie, hie, rfl⟩ := hsz
      refine ⟨.agg out', run_build w t parts' out' ?_, .agg' (VRs.of_toList (by simpa using r))⟩
      unfold Program.built
      rw [hit, hu]
      simp only [hitz, hie]
      exact e'
    · cases e
/-- The slice type's element: its size, its zero's cells. -/
def zerosOf (P : Program) (e : TypeId) (n : Nat) : Option (List Value) :=
  (szOf P e).bind fun sz => (zeroOf P e).bind fun z => bif z.cells.toList.all flat1 && Nat.beq z.cells.toList.length sz then some (List.replicate n z.cells.toList).flatten else none
theorem flatten_zeros (z : Array Value) (n : Nat) : (Array.range (n * z.size)).map (z[· % z.size]!) = (List.replicate n z.toList).flatten.toArray := by
  rcases Nat.eq_zero_or_pos z.size with h0 | h0
  · have : z = #[] := Array.eq_empty_of_size_eq_zero h0
    subst this
    simp
  · apply Array.ext
    · simp
    · intro i h1 h2
      have hi : i < n * z.size := by simpa using h1
      have : i % z.size < z.size := Nat.mod_lt _ h0
      simp only [Array.getElem_map, Array.getElem_range, List.getElem_toArray]
      have key : ∀ (n i : Nat) (h : i < ((List.replicate n z.toList).flatten).length), ((List.replicate n z.toList).flatten)[i]'h = z[i % z.size]! := by
        intro n
        induction n with
        | zero => intro i h; simp at h
        | succ n ih =>
          intro i h
          simp only [List.replicate_succ, List.flatten_cons] at h ⊢
          by_cases hlt : i < z.size
          · rw [List.getElem_append_left (by simpa using hlt)]
            simp [Nat.mod_eq_of_lt hlt, hlt]
          · rw [List.getElem_append_right (by simp; omega), ih]
            simp only [Array.length_toList]
            rw [show i % z.size = (i - z.size) % z.size from Nat.mod_eq_sub_mod (by omega)]
      rw [key]
theorem VRl_refl_flat {ρ : Rho} {l : List Value} (h : l.all flat1 = true) : VRl ρ l l := ⟨rfl, fun i v e => ⟨v, e, .fl (List.all_eq_true.1 h v (List.mem_of_getElem? e))⟩⟩
end Go.AM
