/- Calls, rounds and loops of the abstract machine are the model's. -/
import Derived.Test.YtekhhjcbjaegeaaAM13
import Derived.RangeFuncNested
set_option linter.all false
namespace Go.AM
open Go
variable {P : Program}

/-- A block is given up, and the model's block may turn. -/
theorem HR.drop {ρ : Rho} {h : Heap} {w w' : World} (H : HR ρ h w) {b B base : Nat} (hl : h.get b ≠ none) (e : ρ b = some (B, base)) (hw : ∀ k, k ≠ B → w'.heap[k]? = w.heap[k]?)
    (hs : w'.heap.size = w.heap.size) (ho : w'.os = w.os) (ht : w'.tape = w.tape) (hp : w'.output = w.output) (hz : ∀ off, frz w'.heap[B]? off = frz w.heap[B]? off) : HR ρ (h.put b none) w' ∧ Ext ρ h w ρ (h.put b none) w' := by
  have hb : b < h.next := by
    cases hg : h.get b with
    | none => exact absurd hg hl
    | some y => exact Heap.get_lt hg
  have hlive : ∀ c, (h.put b none).get c ≠ none → h.get c ≠ none := by
    intro c hc
    rw [Heap.get_put _ _ _ _ hb] at hc
    split at hc
    · exact absurd rfl hc
    · exact hc
  refine ⟨⟨?_, ?_, ?_, fun c C bs hc => by rw [hs]; exact H.lt c C bs hc⟩, ⟨Le.refl _, fun c _ _ => hlive c, ?_, by omega, ho, ht, hp, fun c C bs e1 e2 => (by rw [e1] at e2; cases e2), Nat.le_refl _, fun c C bs e1 e2 => (by rw [e1] at e2; cases e2), fun c hc hn => (by rw [Heap.get_put _ _ _ _ hb, if_neg (by intro h1; subst h1; rw [e] at hn; cases hn)]), fun a _ => fro_of hw hz a⟩⟩
  · intro c C bs y hc he
    rw [Heap.get_put _ _ _ _ hb] at hc
    split at hc
    · cases hc
    · next h1 =>
      have hne : C ≠ B := by
        intro h2; subst h2
        exact h1 (H.inj c b _ _ _ (by rw [hc]; simp) hl he e)
      rw [hw C hne]
      exact H.blk c C bs y hc he
  · intro c c' C bs bs' h1 h2 e1 e2
    exact H.inj c c' C bs bs' (hlive c h1) (hlive c' h2) e1 e2
  · exact H.fresh
  · intro C hC hn
    refine hw C ?_
    intro h1; subst h1
    exact hn b base hl e

/-! ### What a function hands back -/
def oneRes (tmps : Array Value) : ResultVar → Sem Value
  | .tmp t => pure (tmps.getD t undef)
  | .cell a t => do loadVar t (← asAddr (tmps.getD a undef))
theorem resL_sound {ρ : Rho} {h : Heap} {w : World} {a : A} {b : Act} (H : HR ρ h w) (r : AR ρ a b) : ∀ (l : List ResultVar) (vs : List Value), resL P a h l = some vs →
    ∃ vs', (l.mapM (oneRes b.tmps)).run P w = .ok vs' w ∧ VRl ρ vs vs' := by
  intro l
  induction l with
  | nil =>
    intro vs e
    simp only [resL, Option.some.injEq] at e
    subst e
    exact ⟨[], by simp, .nil ρ⟩
  | cons x l ih =>
    intro vs e
    cases x with
    | tmp t =>
      simp only [resL, Option.map_eq_some_iff] at e
      obtain ⟨vs1, e1, rfl⟩ := e
      obtain ⟨vs', hr, hv⟩ := ih vs1 e1
      exact ⟨b.tmps.getD t undef :: vs', by simp [List.mapM_cons, oneRes, hr], .cons (r.tmps t) hv⟩
    | cell t ty =>
      simp only [resL, Option.bind_eq_some_iff, Option.map_eq_some_iff] at e
      obtain ⟨v, ev, vs1, e1, rfl⟩ := e
      obtain ⟨vs', hr, hv⟩ := ih vs1 e1
      obtain ⟨v', hl, hvv⟩ := aload_sound (P := P) H (r.tmps t) ev
      have hp : ∃ b' o, (a.tr.get t).getD undef = .pointer (some ⟨b', o, none⟩) := by
        unfold aload at ev
        obtain ⟨⟨b', o⟩, hp, _⟩ := Option.bind_eq_some_iff.1 ev
        exact ⟨b', o, asPtr_some hp⟩
      obtain ⟨b', o, hp⟩ := hp
      have ht := r.tmps t
      rw [hp] at ht
      obtain ⟨B, base, hρ, hx⟩ := ht.ptr_inv
      rw [hx] at hl
      have hl' : (loadVar ty ⟨B, base + o, none⟩).run P w = .ok v' w := by
        simpa [Instr.loadAt, Instr.sureAddr] using hl
      exact ⟨v' :: vs', by simp [List.mapM_cons, oneRes, hr, hx, asAddr, hl'], .cons hvv hv⟩
theorem VRl.oneOf {ρ : Rho} {vs vs' : List Value} (h : VRl ρ vs vs') : VR ρ (oneOf vs) (if h : vs'.toArray.size = 1 then vs'.toArray[0] else .tuple vs'.toArray) := by
  obtain ⟨hl, hv⟩ := h
  match vs, vs' with
  | [], [] => exact VR_undef ρ
  | [x], [y] =>
    obtain ⟨v', e, r⟩ := hv 0 x rfl
    simp at e; subst e
    exact r
  | x :: y :: l, x' :: y' :: l' => 
    have : ¬ ((x' :: y' :: l').toArray.size = 1) := by simp
    rw [dif_neg this]
    exact .tuple' (VRl.toArray ⟨hl, hv⟩)
  | [], _ :: _ => simp at hl
  | _ :: _, [] => simp at hl
  | [_], _ :: _ :: _ => simp at hl
  | _ :: _ :: _, [_] => simp at hl
theorem ares_sound {ρ : Rho} {h : Heap} {w : World} {fn : Func} {a : A} {b : Act} {v : Value} (H : HR ρ h w) (r : AR ρ a b) (e : ares P fn a h = some v) :
    ∃ v', (results fn b.tmps).run P w = .ok v' w ∧ VR ρ v v' := by
  simp only [ares, Option.map_eq_some_iff] at e
  obtain ⟨vs, e, rfl⟩ := e
  obtain ⟨vs', hr, hv⟩ := resL_sound (P := P) H r _ _ e
  refine ⟨_, ?_, hv.oneOf⟩
  unfold results
  change ((fn.results.mapM (oneRes b.tmps)) >>= _).run P w = _
  rw [Array.mapM_eq_mapM_toList]
  simp only [Sem.run_bind, Sem.run_map, hr, Result.andThen_ok, Sem.run_pure]

/-! ### Marks -/
theorem marks_leave {fn : Func} {R : Ending → World → Prop} {tmps : Array Value} : ∀ (ms : List Nat) (h h2 : Heap) (ρ : Rho) (w : World) (ds : List Deferred), takeMarks ms h = some h2 → HR ρ h w → marksR ρ ms ds →
    (∀ w', HR ρ h2 w' → Ext ρ h w ρ h2 w' → ∃ v, (results fn tmps).run P w' = .ok v w' ∧ R (.returned v) w') → LeavesInM (FF none) 0 P fn tmps R ds .returning w := by
  intro ms
  induction ms with
  | nil =>
    intro h h2 ρ w ds e H m k
    simp only [takeMarks, Option.some.injEq] at e
    subst e
    simp only [marksR] at m
    subst m
    exact k w H (Ext.refl _ _ _)
  | cons m ms ih =>
    intro h h2 ρ w ds e H mr k
    simp only [takeMarks] at e
    split at e
    · next hm =>
      obtain ⟨D, rest, rfl, hD, mr⟩ := mr
      have hb := H.blk m D 0 _ hm hD
      obtain ⟨_, hb⟩ := hb
      have hlt := H.lt m D 0 hD
      have hl : h.get m ≠ none := by rw [hm]; simp
      obtain ⟨H1, E1⟩ := H.drop (w' := w.putObj D (.deferred none)) hl hD (fun k hk => World.putObj_heap_other hk) (by simp) rfl rfl rfl (fun off => by rw [World.putObj_heap_same hlt, hb]; rfl)
      refine ⟨by simp, .inl ⟨D, _, rfl, run_takeDeferred hb, ?_⟩⟩
      exact ih _ _ ρ _ rest e H1 mr (fun w' a b => k w' a (E1.trans b))
    · cases e

/-! ### The temporaries that an activation begins with -/
theorem ofList_get (l : List Value) (i : Nat) : (ofList l).get i = l[i]? := by
  have key : ∀ (l : List Value) (k : Nat) (t : Tr Value) (i : Nat), ((l.zipIdx k).foldl (fun t p => t.set p.2 (some p.1)) t).get i = if k ≤ i ∧ i < k + l.length then l[i - k]? else t.get i := by
    intro l
    induction l with
    | nil => intro k t i; simp; omega
    | cons x l ih =>
      intro k t i
      rw [List.zipIdx_cons, List.foldl_cons, ih]
      by_cases h1 : k + 1 ≤ i ∧ i < k + 1 + l.length
      · rw [if_pos h1, if_pos (by simp only [List.length_cons]; omega)]
        obtain ⟨j, rfl⟩ : ∃ j, i = k + 1 + j := ⟨i - (k + 1), by omega⟩
        have e1 : k + 1 + j - (k + 1) = j := by omega
        have e2 : k + 1 + j - k = j + 1 := by omega
        rw [e1, e2]; simp
      · rw [if_neg h1]
        by_cases h2 : i = k
        · subst h2
          rw [if_pos (by simp only [List.length_cons]; omega)]
          simp [Tr.get_set_same]
        · rw [if_neg (by simp only [List.length_cons]; omega)]
          simp [Tr.get_set_ne _ _ h2]
  have := key l 0 Tr.nil i
  simp only [Nat.zero_le, true_and, Nat.zero_add, Nat.sub_zero] at this
  unfold ofList
  rw [this]
  split
  · rfl
  · next h => rw [List.getElem?_eq_none (by omega)]; rfl
theorem getD_list (l : List Value) (i : Nat) : l.toArray.getD i undef = (l[i]?).getD undef := by simp [Array.getD_eq_getD_getElem?]
theorem init_AR {ρ : Rho} {fn : Func} {args args' : List Value} (h : VRl ρ args args') : AR ρ (initA fn args) ⟨args'.toArray ++ Array.replicate (fn.ntmps - args'.toArray.size) undef, []⟩ := by
  refine ⟨by simp [initA, h.1], fun i => ?_, rfl⟩
  simp only [initA, ofList_get, Array.getD_eq_getD_getElem?]
  by_cases hi : i < args.length
  · obtain ⟨v', e, r⟩ := h.2 i args[i] (List.getElem?_eq_getElem hi)
    have hi' : i < args'.length := by rw [← h.1]; exact hi
    rw [Array.getElem?_append_left (by simpa using hi')]
    rw [List.getElem?_eq_getElem hi]
    simp only [List.getElem?_toArray, e, Option.getD_some]
    exact r
  · rw [List.getElem?_eq_none (by omega)]
    have : ((args'.toArray ++ Array.replicate (fn.ntmps - args'.toArray.size) undef)[i]?).getD undef = undef := by
      rw [Array.getElem?_append_right (by simp; rw [← h.1]; omega)]
      rw [Array.getElem?_replicate]
      split <;> rfl
    rw [this]; exact VR_undef ρ

/-! ### A call -/
def RecOK (P : Program) (rec : Rec) : Prop := ∀ ro c a h e a' h', rec ro c a h = some (e, a', h') → CodeOK P ro c a h e a' h'
theorem call_ok {prim : Prim} {rec : Rec} (hP : PrimOK P prim) (hR : RecOK P rec) : ∀ f args h v h', callF P prim rec f args h = some (v, h') → CallOK P f args h v h' := by
  intro f args h v h' e
  unfold callF at e
  split at e
  · next g hg => exact hP f g hg _ _ _ _ e
  · simp only [Option.bind_eq_some_iff] at e
    obtain ⟨fn, hf, c, hb, ⟨x, a, h1⟩, hrec, e⟩ := e
    have fin : (takeMarks a.marks h1).bind (fun h2 => (ares P fn a h2).map (·, h2)) = some (v, h') → (cx x = .normal ∨ cx x = .ret) → CallOK P f args h v h' := by
      intro e hx ρ w args' H hv
      simp only [Option.bind_eq_some_iff, Option.map_eq_some_iff, Prod.mk.injEq] at e
      obtain ⟨h2, hm, v1, hr, rfl, rfl⟩ := e
      refine callsIn_of_wp_marks hf hb trivial ?_
      refine hR _ _ _ _ _ _ _ hrec none ρ w _ _ H (init_AR hv) trivial ?_
      intro ρ' b' w' H' r' E'
      have : LeavesInM (FF none) 0 P fn b'.tmps (fun e w' => ∃ ρ' v', e = .returned v' ∧ VR ρ' v1 v' ∧ HR ρ' h2 w' ∧ Ext ρ h w ρ' h2 w') b'.defers .returning w' := by
        refine marks_leave a.marks h1 h2 ρ' w' b'.defers hm H' r'.marks ?_
        intro w2 H2 E2
        obtain ⟨v', hv', hvv⟩ := ares_sound (P := P) (fn := fn) H2 (b := b') ⟨r'.size, r'.tmps, r'.marks⟩ hr
        exact ⟨v', hv', ρ', v', rfl, hvv, H2, E'.trans E2⟩
      rcases hx with hx | hx <;> rw [hx] <;> exact this
    cases x with
    | normal => exact fin e (.inl rfl)
    | ret => exact fin e (.inr rfl)
    | exit i => cases e
    | goto l => cases e
end Go.AM
