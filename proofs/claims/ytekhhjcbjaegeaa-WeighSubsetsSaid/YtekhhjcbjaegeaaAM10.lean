/- Maps keyed by numbers, strings, bools. -/
import Derived.Test.YtekhhjcbjaegeaaAM9
set_option linter.all false
namespace Go.AM
open Go
variable {P : Program}

def keyKind (P : Program) (t : TypeId) : Option TypeDesc :=
  match P.underlying t with
  | some (.int k) => some (.int k)
  | some .string => some .string
  | some .bool => some .bool
  | _ => none
theorem keyKind_some {t : TypeId} {d : TypeDesc} (h : keyKind P t = some d) : P.underlying t = some d ∧ ((∃ k, d = .int k) ∨ d = .string ∨ d = .bool) := by
  unfold keyKind at h
  split at h
  · next k hu => injection h with h; subst h; exact ⟨hu, .inl ⟨_, rfl⟩⟩
  · next hu => injection h with h; subst h; exact ⟨hu, .inr (.inl rfl)⟩
  · next hu => injection h with h; subst h; exact ⟨hu, .inr (.inr rfl)⟩
  · cases h
theorem run_checkKey {w : World} {em : Bool} {n : Nat} {t : TypeId} {d : TypeDesc} {k : Value} (h : keyKind P t = some d) : (Instr.checkKey em (n + 1) t k).run P w = .ok () w := by
  obtain ⟨hu, hd⟩ := keyKind_some h
  rw [Instr.checkKey, Sem.run_bind, run_underlying hu, Result.andThen_ok]
  rcases hd with ⟨kk, rfl⟩ | rfl | rfl <;> cases k <;> rfl
theorem sameNow_flat {d : TypeDesc} {k x : Value} {b : Bool} (h : Instr.sameNow d k x = some b) : flat1 x = true := by
  unfold Instr.sameNow at h
  split at h <;> first | rfl | cases h
theorem ba_beq {a b : ByteArray} (h : (a == b) = true) : a = b := by
  cases a with
  | mk a =>
  cases b with
  | mk b =>
    have h' : (a == b) = true := h
    rw [eq_of_beq h']
theorem ba_refl (a : ByteArray) : (a == a) = true := by
  cases a with
  | mk a =>
    have h' : (a == a) = true := beq_self_eq_true a
    exact h'
theorem sameNow_true {d : TypeDesc} {k x : Value} (h : Instr.sameNow d k x = some true) : Instr.sameBits 10000 x k = true := by
  unfold Instr.sameNow at h
  split at h
  · next a b c d =>
    split at h
    · next hk =>
      subst hk
      injection h with h
      have h : b = d := by simpa using h
      subst h
      simp [Instr.sameBits]
    · cases h
  · injection h with h
    have h := ba_beq h
    subst h
    simp [Instr.sameBits, ba_refl]
  · injection h with h
    have h := eq_of_beq h
    subst h
    simp [Instr.sameBits]
  · cases h
theorem findNow_MR {ρ : Rho} {d : TypeDesc} {k : Value} : ∀ {es ES : List MapEntry} {i : Nat} {r : Option (Nat × Value)}, MR ρ es ES → Instr.findNow d k es i = some r →
    (r = none ∧ Instr.findNow d k ES i = some none) ∨ ∃ j v v', r = some (j, v) ∧ Instr.findNow d k ES i = some (some (j, v')) ∧ VR ρ v v' ∧ i ≤ j ∧ ∃ e E, es[j - i]? = some e ∧ ES[j - i]? = some E ∧ Instr.sameNow d k E.key = some true := by
  intro es
  induction es with
  | nil =>
    intro ES i r hm h
    have : ES = [] := List.eq_nil_of_length_eq_zero hm.1.symm
    subst this
    simp only [Instr.findNow, Option.some.injEq] at h
    exact .inl ⟨h.symm, rfl⟩
  | cons e es ih =>
    intro ES i r hm h
    cases ES with
    | nil => have := hm.1; simp at this
    | cons E ES =>
      obtain ⟨E', hE, hk, hv, hb⟩ := hm.2 0 e rfl
      simp at hE; subst hE
      have hm' : MR ρ es ES := ⟨by have := hm.1; simpa using this, fun i e he => by simpa using hm.2 (i + 1) e (by simpa using he)⟩
      simp only [Instr.findNow] at h ⊢
      cases hs : Instr.sameNow d k e.key with
      | none => rw [hs] at h; cases h
      | some b =>
        have hkk : E.key = e.key := hk.eq_of_flat1 (sameNow_flat hs)
        rw [hs] at h
        rw [hkk, hs]
        cases b with
        | true =>
          simp only [Option.some.injEq] at h
          exact .inr ⟨i, e.val, E.val, h.symm, rfl, hv, Nat.le_refl _, e, E, by simp, by simp, by rw [hkk]; exact hs⟩
        | false =>
          simp only at h ⊢
          rcases ih hm' h with ⟨a, b⟩ | ⟨j, v, v', a, b, c, c2, e1, E1, d1, d2, d3⟩
          · exact .inl ⟨a, b⟩
          · refine .inr ⟨j, v, v', a, b, c, by omega, e1, E1, ?_, ?_, d3⟩
            · rw [show j - i = (j - (i + 1)) + 1 by omega]; simpa using d1
            · rw [show j - i = (j - (i + 1)) + 1 by omega]; simpa using d2
def entriesOf (x : Value) (h : Heap) : Option (List MapEntry) :=
  match x with
  | .map none => some []
  | .map (some r) => match h.get r with | some (.map es _) => some es | _ => none
  | _ => none
def mapType (P : Program) (t : TypeId) : Option (TypeId × TypeId) := match P.underlying t with | some (.map k e) => some (k, e) | _ => none
theorem mapType_some {t k e : TypeId} (h : mapType P t = some (k, e)) : P.underlying t = some (.map k e) := by
  unfold mapType at h
  split at h
  · next hu => injection h with h; injection h with h1 h2; subst h1; subst h2; exact hu
  · cases h
def found (P : Program) (et : TypeId) (r : Option (Nat × Value)) : Option (Value × Bool) :=
  match r with
  | some (_, v) => some (v, true)
  | none => (zeroOf P et).bind fun z => bif flat z then some (z, false) else none
def alookup (P : Program) (t : TypeId) (x k : Value) (ok : Bool) (h : Heap) : Option Value :=
  (mapType P t).bind fun m => (keyKind P m.1).bind fun d => bif flat1 k then (entriesOf x h).bind fun es => (Instr.findNow d k es 0).bind fun r =>
    (found P m.2 r).map fun q => bif ok then .tuple #[q.1, .bool q.2] else q.1 else none
def HasEntries (w : World) (x' : Value) (ES : Array MapEntry) : Prop := (x' = .map none ∧ ES = #[]) ∨ ∃ R clock, x' = .map (some R) ∧ w.heap[R]? = some (.map ES clock)
theorem run_lookup_none {w : World} {t kt et : TypeId} {x' k : Value} {ok : Bool} {ES : Array MapEntry} {d : TypeDesc} {z : Value} (hu : P.underlying t = some (.map kt et)) (hd : keyKind P kt = some d) (he : HasEntries w x' ES) (hn : Instr.findNow d k ES.toList 0 = some none) (hz : zeroOf P et = some z) :
    (Instr.lookup t x' k ok).run P w = .ok (bif ok then .tuple #[z, .bool false] else z) w := by
  obtain ⟨hku, _⟩ := keyKind_some hd
  have hck := fun em => run_checkKey (w := w) (em := em) (n := 9999) (k := k) hd
  rcases he with ⟨rfl, rfl⟩ | ⟨R, clock, rfl, he⟩
  · simp at hn
    cases ok <;> simp [Instr.lookup, run_underlying hu, hck, Instr.findKey, run_underlying hku, hn, run_zeroValue' hz]
  · cases ok <;> simp [Instr.lookup, run_underlying hu, run_getObj_map he, hck, Instr.findKey, run_underlying hku, hn, run_zeroValue' hz]
theorem run_lookup_some {w : World} {t kt et : TypeId} {x' k v : Value} {j : Nat} {ok : Bool} {ES : Array MapEntry} {d : TypeDesc} (hu : P.underlying t = some (.map kt et)) (hd : keyKind P kt = some d) (he : HasEntries w x' ES) (hn : Instr.findNow d k ES.toList 0 = some (some (j, v))) :
    (Instr.lookup t x' k ok).run P w = .ok (bif ok then .tuple #[v, .bool true] else v) w := by
  obtain ⟨hku, _⟩ := keyKind_some hd
  have hck := fun em => run_checkKey (w := w) (em := em) (n := 9999) (k := k) hd
  rcases he with ⟨rfl, rfl⟩ | ⟨R, clock, rfl, he⟩
  · simp [Instr.findNow] at hn
  · cases ok <;> simp [Instr.lookup, run_underlying hu, run_getObj_map he, hck, Instr.findKey, run_underlying hku, hn]
theorem alookup_sound {ρ : Rho} {h : Heap} {w : World} {t : TypeId} {x k x' k' v : Value} {ok : Bool} (H : HR ρ h w) (hx : VR ρ x x') (hk : VR ρ k k') (e : alookup P t x k ok h = some v) : Quiet P ρ w v (Instr.lookup t x' k' ok) := by
  simp only [alookup, Option.bind_eq_some_iff] at e
  obtain ⟨⟨kt, et⟩, hm, d, hd, e⟩ := e
  have hu := mapType_some hm
  simp only at hd e
  cases hf : flat1 k with
  | false => rw [hf] at e; cases e
  | true =>
    rw [hf] at e
    obtain rfl := hk.eq_of_flat1 hf
    simp only [cond_true, Option.bind_eq_some_iff, Option.map_eq_some_iff] at e
    obtain ⟨es, hes, r, hr, q, hq, rfl⟩ := e
    obtain ⟨ES, hES, hE⟩ : ∃ ES : Array MapEntry, MR ρ es ES.toList ∧ HasEntries w x' ES := by
      unfold entriesOf at hes
      split at hes
      · injection hes with hes; subst hes
        obtain rfl : x' = .map none := hx.eq_of_flat1 rfl
        exact ⟨#[], ⟨rfl, fun i e he => by simp at he⟩, .inl ⟨rfl, rfl⟩⟩
      · next r =>
        obtain ⟨R, hR, rfl⟩ := hx.map_inv
        split at hes
        · next es' clock hg =>
          injection hes with hes; subst hes
          obtain ⟨_, ES, he, hmr⟩ := H.blk r R 0 _ hg hR
          exact ⟨ES, hmr, .inr ⟨R, clock, rfl, he⟩⟩
        · cases hes
      · cases hes
    rcases findNow_MR hES hr with ⟨rfl, hn⟩ | ⟨j, u, u', rfl, hn, hv, _⟩
    · simp only [found, Option.bind_eq_some_iff] at hq
      obtain ⟨z, hz, hq⟩ := hq
      cases hfz : flat z with
      | false => rw [hfz] at hq; cases hq
      | true =>
        rw [hfz] at hq
        simp only [cond_true, Option.some.injEq] at hq
        subst hq
        have hzz := VR_refl_flat (ρ := ρ) hfz
        refine ⟨_, run_lookup_none hu hd hE hn hz, ?_⟩
        cases ok
        · exact hzz
        · exact .tuple' (VRl.toArray (VRl.cons hzz (VRl.cons (.fl rfl) (VRl.nil _))))
    · simp only [found, Option.some.injEq] at hq
      subst hq
      refine ⟨_, run_lookup_some hu hd hE hn, ?_⟩
      cases ok
      · exact hv
      · exact .tuple' (VRl.toArray (VRl.cons hv (VRl.cons (.fl rfl) (VRl.nil _))))
def amapUpdate (P : Program) (t : TypeId) (m k x : Value) (h : Heap) : Option Heap :=
  (mapType P t).bind fun mt => (keyKind P mt.1).bind fun d =>
    match m with
    | .map (some r) =>
      match h.get r with
      | some (.map es clock) => bif flat1 k then (Instr.findNow d k es 0).bind fun f =>
          match f with
          | some (i, _) => some (h.put r (some (.map (es.modify i fun e => { e with key := k, val := x }) clock)))
          | none => some (h.put r (some (.map (es ++ [{ key := k, val := x, born := clock }]) (clock + 1)))) else none
      | _ => none
    | _ => none
theorem run_setObj_map {w : World} {R : Nat} {ES : Array MapEntry} {clock : Nat} {o : Obj} (h : w.heap[R]? = some (.map ES clock)) : (setObj R o).run P w = .ok () (w.putObj R o) := by
  simp [setObj, Sem.run, h, World.putObj]
theorem amapUpdate_sound {ρ : Rho} {h h' : Heap} {w : World} {t : TypeId} {m k x m' k' x' : Value} (H : HR ρ h w) (hm : VR ρ m m') (hk : VR ρ k k') (hx : VR ρ x x') (e : amapUpdate P t m k x h = some h') :
    ∃ w', (Instr.mapUpdate t m' k' x').run P w = .ok () w' ∧ HR ρ h' w' ∧ Ext ρ h w ρ h' w' := by
  simp only [amapUpdate, Option.bind_eq_some_iff] at e
  obtain ⟨⟨kt, et⟩, hmt, d, hd, e⟩ := e
  have hu := mapType_some hmt
  simp only at hd e
  obtain ⟨hku, _⟩ := keyKind_some hd
  split at e
  · next r =>
    obtain ⟨R, hR, rfl⟩ := hm.map_inv
    split at e
    · next es clock hg =>
      obtain ⟨_, ES, he, hmr⟩ := H.blk r R 0 _ hg hR
      have hlt := H.lt _ _ _ hR
      cases hf : flat1 k with
      | false => rw [hf] at e; cases e
      | true =>
        rw [hf] at e
        obtain rfl := hk.eq_of_flat1 hf
        simp only [cond_true, Option.bind_eq_some_iff] at e
        obtain ⟨f, hfn, e⟩ := e
        have hck := run_checkKey (w := w) (em := false) (n := 9999) (k := k') hd
        have key : ∀ (es' : List MapEntry) (ES' : Array MapEntry) (c' : Nat), MR ρ es' ES'.toList → HR ρ (h.put r (some (.map es' c'))) (w.putObj R (.map ES' c')) ∧ Ext ρ h w ρ (h.put r (some (.map es' c'))) (w.putObj R (.map ES' c')) := by
          intro es' ES' c' hm'
          refine H.upd (by rw [hg]; simp) hR (fun k hk => World.putObj_heap_other hk) World.putObj_size rfl rfl rfl ?_ (fun off => by rw [World.putObj_heap_same hlt, he]; rfl)
          rw [World.putObj_heap_same hlt]
          exact ⟨rfl, ES', rfl, hm'⟩
        rcases findNow_MR hmr hfn with ⟨rfl, hn⟩ | ⟨j, u, u', rfl, hn, hv, _, e1, E1, d1, d2, d3⟩
        · simp only [Option.some.injEq] at e
          subst e
          refine ⟨_, ?_, key _ (ES.push { key := k', val := x', born := clock }) _ ?_⟩
          · simp [Instr.mapUpdate, run_underlying hu, run_getObj_map he, hck, Instr.findKey, run_underlying hku, hn, run_setObj_map he]
          · refine ⟨by simp [hmr.1], fun i e he => ?_⟩
            by_cases hi : i < es.length
            · rw [List.getElem?_append_left hi] at he
              obtain ⟨E, a, b⟩ := hmr.2 i e he
              refine ⟨E, ?_, b⟩
              rw [Array.toList_push, List.getElem?_append_left (by rw [← hmr.1]; exact hi)]
              exact a
            · rw [List.getElem?_append_right (by omega)] at he
              have : i - es.length = 0 := by
                cases hh : i - es.length with
                | zero => rfl
                | succ n => rw [hh] at he; simp at he
              rw [this] at he
              simp at he
              subst he
              refine ⟨{ key := k', val := x', born := clock }, ?_, hk, hx, rfl⟩
              rw [Array.toList_push, List.getElem?_append_right (by rw [← hmr.1]; omega), ← hmr.1, this]
              rfl
        · simp only [Nat.sub_zero] at d1 d2
          simp only [Option.some.injEq] at e
          subst e
          refine ⟨_, ?_, key _ (ES.modify j fun e => { e with key := k', val := x' }) _ ?_⟩
          · have hj : ES[j]? = some E1 := by simpa using d2
            have hsb := sameNow_true d3
            simp [Instr.mapUpdate, run_underlying hu, run_getObj_map he, hck, Instr.findKey, run_underlying hku, hn, run_setObj_map he, hj, Instr.keyThatStays, hsb]
          · refine ⟨by simp [hmr.1], fun i e he => ?_⟩
            rw [List.getElem?_modify] at he
            rw [Array.toList_modify, List.getElem?_modify]
            cases hh : es[i]? with
            | none => rw [hh] at he; simp at he
            | some e0 =>
              obtain ⟨E, a, b, c, d⟩ := hmr.2 i e0 hh
              rw [hh] at he
              rw [a]
              by_cases hij : j = i
              · simp [hij] at he ⊢
                subst he
                exact ⟨hk, hx, d⟩
              · simp [hij] at he ⊢
                subst he
                exact ⟨b, c, d⟩
    · cases e
  · cases e
def amakeMap (h : Heap) : Value × Heap := (.map (some h.next), h.push (.map [] 0))
theorem amakeMap_sound {ρ : Rho} {h : Heap} {w : World} {t : TypeId} (H : HR ρ h w) : Does P ρ h w (amakeMap h).1 (amakeMap h).2 (Instr.makeMap t none) := by
  obtain ⟨a, b⟩ := H.new (w' := w.alloc (.map #[] 0)) (x := .map [] 0) (fun k hk => by
    show (w.heap.push _)[k]? = _
    rw [Array.getElem?_push, if_neg (by omega)]) (by simp) rfl rfl rfl 0 (by
    rw [World.alloc_heap_new]
    exact ⟨rfl, #[], rfl, rfl, fun i e he => by simp at he⟩) (fun off => by rw [World.alloc_heap_new]; rfl)
  refine ⟨_, .map (some w.heap.size), _, ?_, .map (updR_same _ _ _ _), a, b⟩
  simp [Instr.makeMap]
end Go.AM
