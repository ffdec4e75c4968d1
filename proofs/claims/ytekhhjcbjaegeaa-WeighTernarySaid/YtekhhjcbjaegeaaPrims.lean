/- The functions that are taken as they are: lives, and the library's Sort and Compact of numbers. -/
import Derived.Test.YtekhhjcbjaegeaaLives
import Derived.Test.YtekhhjcbjaegeaaAM38
import Derived.Test.YtekhhjcbjaegeaaShelf
set_option linter.all false
set_option maxRecDepth 100000
namespace Go.Proofs.Ytekhhjcbjaegeaa
open Go Go.AM
def sortI (xs : List Int) : List Int := xs.mergeSort fun x y => decide (x ≤ y)
def intsOf : List Value → Option (List Int)
  | [] => some []
  | .int .i64 n :: l => (intsOf l).map (n :: ·)
  | _ :: _ => none
theorem intsOf_some : ∀ {l : List Value} {xs : List Int}, intsOf l = some xs → l = ivs xs
  | [], xs, h => by simp [intsOf] at h; subst h; rfl
  | v :: l, xs, h => by
    unfold intsOf at h
    split at h
    · next hh => cases hh
    · next n l' hh =>
      injection hh with h1 h2; subst h1; subst h2
      simp only [Option.map_eq_some_iff] at h
      obtain ⟨ys, hy, rfl⟩ := h
      rw [intsOf_some hy]; rfl
    · cases h
theorem intsOf_ivs : ∀ xs : List Int, intsOf (ivs xs) = some xs
  | [] => rfl
  | x :: xs => by
    show (intsOf (ivs xs)).map (x :: ·) = _
    rw [intsOf_ivs xs]; rfl
def livesG : List Value → Heap → Option (Value × Heap) := fun args h => match args with | [] => some (.bool true, h) | _ => none
def sortG : List Value → Heap → Option (Value × Heap) := fun args h =>
  match args with
  | [.slice (some ⟨b, o, _⟩) m _] => (h.cs b).bind fun cs => (AM.cut cs o m).bind fun l => (intsOf l).bind fun xs => bif Nat.blt xs.length 4611686018427387904 then some (.tuple #[], h.put b (some (.cells (splice cs o (ivs (sortI xs)))))) else none
  | _ => none
def compactL (xs : List Int) : List Int := Lib.compact xs ++ List.replicate (xs.length - (Lib.compact xs).length) 0
def compactG : List Value → Heap → Option (Value × Heap) := fun args h =>
  match args with
  | [.slice (some ⟨b, o, f⟩) m c] => (h.cs b).bind fun cs => (AM.cut cs o m).bind fun l => (intsOf l).bind fun xs => bif Nat.blt xs.length 4611686018427387904 && Nat.ble m c && Nat.beq (compactL xs).length xs.length then some (.slice (some ⟨b, o, f⟩) (Lib.compact xs).length c, h.put b (some (.cells (splice cs o (ivs (compactL xs)))))) else none
  | _ => none
def primW : Prim := fun f => match Nat.beq f 19 with
  | true => some livesG
  | false => match Nat.beq f 64 with
    | true => some sortG
    | false => match Nat.beq f 65 with
      | true => some compactG
      | false => none
theorem lives_cw (h : Heap) : CW Try.prog primW 19 [] h fun v h' => v = .bool true ∧ h' = h := ⟨_, _, ⟨0, rfl⟩, rfl, rfl⟩

/-- The world with new blocks behind it. -/
theorem HR.more {ρ : Rho} {h : Heap} {w w' : World} (H : HR ρ h w) (hw : ∀ k, k < w.heap.size → w'.heap[k]? = w.heap[k]?) (hs : w.heap.size ≤ w'.heap.size) (ho : w'.os = w.os) (ht : w'.tape = w.tape) (hp : w'.output = w.output) : HR ρ h w' ∧ Ext ρ h w ρ h w' := by
  refine ⟨⟨fun b B base x hx e => by rw [hw B (H.lt b B base e)]; exact H.blk b B base x hx e, H.inj, H.fresh, fun b B base e => Nat.lt_of_lt_of_le (H.lt b B base e) hs⟩, ?_⟩
  exact {
    le := Le.refl _
    km := fun _ _ _ e => e
    frame := fun B hB _ => hw B hB
    size := hs
    os := ho
    tape := ht
    output := hp
    new := fun b B base e e' => by rw [e] at e'; cases e'
    next := Nat.le_refl _
    fresh := fun b B base e e' => by rw [e] at e'; cases e'
    ghost := fun _ _ _ => rfl
    fro := fun a ha => by rw [frozen_frz, frozen_frz, hw _ ha] }
open Go.Sort in
/-- A row of numbers is written anew, and new blocks lie behind. -/
theorem HR.rows {ρ : Rho} {h : Heap} {w : World} (H : HR ρ h w) {b B base o : Nat} {cs : List Value} {xs ys : List Int} (hg : h.get b = some (.cells cs)) (hρ : ρ b = some (B, base)) (hc : AM.cut cs o xs.length = some (ivs xs)) (hy : ys.length = xs.length) (n : Nat) (os : Array Obj) :
    HR ρ (h.put b (some (.cells (splice cs o (ivs ys))))) (grow (putRow (Value.int .i64) (Sort.ahead w n) B (base + o) ys.toArray) os) ∧ Ext ρ h w ρ (h.put b (some (.cells (splice cs o (ivs ys))))) (grow (putRow (Value.int .i64) (Sort.ahead w n) B (base + o) ys.toArray) os) := by
  have hb := H.blk b B base _ hg hρ
  obtain ⟨C, t, fr, e1, hN, hf, hs, hv⟩ := hb
  obtain ⟨hle, hll, hlo⟩ := cut_some hc
  have hBlt := H.lt b B base hρ
  have hso : splice cs o (ivs ys) = cs.take o ++ ivs ys ++ cs.drop (o + (ivs ys).length) := rfl
  -- the row's world
  have hrow : (putRow (Value.int .i64) (Sort.ahead w n) B (base + o) ys.toArray).heap[B]? = some (.cells (putCells (Value.int .i64) (base + o) ys.toArray C) t fr) := by
    show (w.heap.modify B _)[B]? = _
    rw [Array.getElem?_modify, if_pos rfl, e1]; rfl
  have hoth : ∀ k, k ≠ B → (putRow (Value.int .i64) (Sort.ahead w n) B (base + o) ys.toArray).heap[k]? = w.heap[k]? := by
    intro k hk
    show (w.heap.modify B _)[k]? = _
    rw [Array.getElem?_modify, if_neg (fun e => hk e.symm)]
  have hsz : (putRow (Value.int .i64) (Sort.ahead w n) B (base + o) ys.toArray).heap.size = w.heap.size := by rw [size_putRow]; rfl
  have hbr : BR ρ (ρ.n B) base (putRow (Value.int .i64) (Sort.ahead w n) B (base + o) ys.toArray).heap[B]? (.cells (splice cs o (ivs ys))) := by
    rw [hrow]
    refine ⟨_, t, fr, rfl, by unfold putCells; simpa using hN, hf, ?_, ?_⟩
    · rcases hlo with h0 | h0
      · have : ivs ys = [] := by
          have : ys = [] := List.length_eq_zero_iff.1 (by omega)
          rw [this]; rfl
        rw [hso, this]; simpa using hs
      · rw [hso]; simp [ivs_len]; omega
    · intro i v hi
      have hil : i < (splice cs o (ivs ys)).length := (List.getElem?_eq_some_iff.1 hi).1
      have hycs : xs.length = 0 ∨ o + xs.length ≤ cs.length := hlo
      have hpc : (putCells (Value.int .i64) (base + o) ys.toArray C)[base + i]? = if base + o ≤ base + i ∧ base + i < base + o + ys.toArray.size then (C[base + i]?).map (fun _ => Value.int .i64 ys.toArray[base + i - (base + o)]!) else C[base + i]? := by
        unfold putCells
        rw [Array.getElem?_mapIdx]
        split
        · next h1 => cases C[base + i]? with | none => rfl | some c => simp only [Option.map_some, if_pos h1]
        · next h1 => cases C[base + i]? with | none => rfl | some c => simp only [Option.map_some, if_neg h1]
      by_cases hin : o ≤ i ∧ i < o + ys.length
      · have hyi : i - o < ys.length := by omega
        have hv' : (splice cs o (ivs ys))[i]? = some (.int .i64 ys[i - o]) := by
          have h0 : 0 < xs.length := by omega
          have hoc : o + xs.length ≤ cs.length := by omega
          rw [hso, List.append_assoc, List.getElem?_append_right (by simp; omega), List.getElem?_append_left (by simp [ivs_len]; omega)]
          have : i - (cs.take o).length = i - o := by simp; omega
          rw [this]
          simp [ivs, List.getElem?_eq_getElem hyi]
        rw [hv'] at hi
        injection hi with hi; subst hi
        have hcsi : i < cs.length := by omega
        obtain ⟨v0, hv0, _⟩ := hv i _ (List.getElem?_eq_getElem hcsi)
        refine ⟨.int .i64 ys[i - o], ?_, .fl rfl⟩
        rw [hpc, if_pos (by simp; omega), hv0]
        simp only [Option.map_some]
        rw [show base + i - (base + o) = i - o from by omega, getElem!_pos ys.toArray (i - o) (by simpa using hyi)]
        simp
      · have hv' : cs[i]? = some v := by
          rw [← hi, hso]
          by_cases hio : i < o
          · rw [List.append_assoc]
            by_cases hic : i < cs.length
            · rw [List.getElem?_append_left (by simp; omega), List.getElem?_take, if_pos hio]
            · -- the row is empty then
              have hx0 : xs.length = 0 := by omega
              have hy0 : ys = [] := List.length_eq_zero_iff.1 (by omega)
              rw [hy0, List.getElem?_eq_none (by omega)]
              rw [hso, hy0] at hil
              simp [ivs] at hil
              omega
          · by_cases hy0 : ys.length = 0
            · have hy0 : ys = [] := List.length_eq_zero_iff.1 hy0
              rw [hy0]
              show cs[i]? = (cs.take o ++ [] ++ cs.drop (o + 0))[i]?
              rw [List.append_nil, Nat.add_zero, List.take_append_drop]
            · have hoc : o + xs.length ≤ cs.length := by omega
              rw [List.getElem?_append_right (by simp [ivs_len]; omega), List.getElem?_drop]
              congr 1
              simp [ivs_len]; omega
        obtain ⟨v', e', r⟩ := hv i v hv'
        refine ⟨v', ?_, r⟩
        rw [hpc, if_neg (by simp; omega)]
        exact e'
  obtain ⟨H1, E1⟩ := H.upd (by rw [hg]; simp) hρ hoth hsz rfl rfl rfl hbr (fun off => by rw [hrow, e1]; rfl)
  have hgrow : ∀ k, k < (putRow (Value.int .i64) (Sort.ahead w n) B (base + o) ys.toArray).heap.size → (grow (putRow (Value.int .i64) (Sort.ahead w n) B (base + o) ys.toArray) os).heap[k]? = (putRow (Value.int .i64) (Sort.ahead w n) B (base + o) ys.toArray).heap[k]? := by
    intro k hk
    show ((putRow (Value.int .i64) (Sort.ahead w n) B (base + o) ys.toArray).heap ++ os)[k]? = _
    rw [Array.getElem?_append_left hk]
  obtain ⟨H2, E2⟩ := HR.more (w' := grow (putRow (Value.int .i64) (Sort.ahead w n) B (base + o) ys.toArray) os) H1 hgrow (by show _ ≤ (_ ++ os).size; simp) rfl rfl rfl
  exact ⟨H2, E1.trans E2⟩
theorem holds_of {ρ : Rho} {h : Heap} {w : World} (H : HR ρ h w) {b B base o : Nat} {cs : List Value} {xs : List Int} (hg : h.get b = some (.cells cs)) (hρ : ρ b = some (B, base)) (hc : AM.cut cs o xs.length = some (ivs xs)) : Sort.Holds (Value.int .i64) w B (base + o) xs.toArray := by
  have hb := H.blk b B base _ hg hρ
  obtain ⟨C, t, fr, e1, hN, hf, hs, hv⟩ := hb
  obtain ⟨hle, hll, hlo⟩ := cut_some hc
  intro j hj
  have hj : j < xs.length := by simpa using hj
  have hcj : cs[o + j]? = some (.int .i64 xs[j]) := by
    have : (ivs xs)[j]? = some (.int .i64 xs[j]) := by simp [ivs, List.getElem?_eq_getElem hj]
    rw [hle, List.getElem?_take, if_pos hj, List.getElem?_drop] at this
    exact this
  obtain ⟨v', e', r⟩ := hv _ _ hcj
  refine ⟨?_, ?_⟩
  · rw [cell_at e1, Nat.add_assoc, e', r.int_inv, getElem!_pos xs.toArray j (by simpa using hj)]
    simp
  · rw [frozen_frz]
    show frz w.heap[B]? (base + o + j) = false
    rw [e1]
    exact hf _ (by omega) (by have := (List.getElem?_eq_some_iff.1 hcj).1; omega)
theorem VR.relen {ρ : Rho} {v v' : Value} (h : VR ρ v v') {a a' : Addr} {l c l' c' k : Nat} (e : v = .slice (some a) l c) (e' : v' = .slice (some a') l' c') : VR ρ (.slice (some a) k c) (.slice (some a') k c') := by
  cases h with
  | sl h1 => injection e with e1 e2 e3; injection e' with f1 f2 f3; injection e1 with e1; injection f1 with f1; subst e1; subst f1; subst e3; subst f3; exact .sl h1
  | slu h1 h2 h3 => injection e with e1 e2 e3; injection e' with f1 f2 f3; injection e1 with e1; injection f1 with f1; subst e1; subst f1; subst e3; subst f3; exact .slu h1 h2 h3
  | fl k => subst e; simp [flat1] at k
  | _ => cases e
theorem sortG_ok {args : List Value} {h h' : Heap} {v : Value} (e : sortG args h = some (v, h')) : CallOK Try.prog 64 args h v h' := by
  unfold sortG at e
  split at e
  · next b o f m c =>
    simp only [Option.bind_eq_some_iff] at e
    obtain ⟨cs, hcs, l, hl, xs, hxs, e⟩ := e
    obtain rfl := intsOf_some hxs
    have hm : m = xs.length := by rw [← (cut_some hl).2.1, ivs_len]
    subst hm
    cases hlt : Nat.blt xs.length 4611686018427387904 with
    | false => rw [hlt] at e; cases e
    | true =>
      rw [hlt] at e
      simp only [cond_true, Option.some.injEq, Prod.mk.injEq] at e
      obtain ⟨rfl, rfl⟩ := e
      rw [Nat.blt_eq] at hlt
      intro ρ w args' H hargs
      obtain ⟨u, rfl, hu⟩ := hargs.one
      obtain ⟨B, base, c', hρ, rfl, _, _, _⟩ := hu.slice_inv
      have hg := Heap.cs_some hcs
      have hH := holds_of H hg hρ hl
      have hcall := (callsIn_wide (n := 0)).2 (Try.slices_Sort_int B (base + o) c' xs w hH (H.lt b B base hρ) hlt)
      have h' : CallsIn (FF none) 0 Try.prog 64 #[.slice (some ⟨B, base + o, none⟩) xs.length c'] w _ := hcall
      refine h'.mono ?_
      rintro e w' ⟨rfl, n, os, rfl⟩
      obtain ⟨a, b⟩ := HR.rows H hg hρ hl (ys := sortI xs) (by unfold sortI; exact List.length_mergeSort _) n os
      exact ⟨ρ, _, rfl, VR_undef ρ, a, b⟩
  · cases e
open Go.Sort in
theorem compactG_ok {args : List Value} {h h' : Heap} {v : Value} (e : compactG args h = some (v, h')) : CallOK Try.prog 65 args h v h' := by
  unfold compactG at e
  split at e
  · next b o f m c =>
    simp only [Option.bind_eq_some_iff] at e
    obtain ⟨cs, hcs, l, hl, xs, hxs, e⟩ := e
    obtain rfl := intsOf_some hxs
    have hm : m = xs.length := by rw [← (cut_some hl).2.1, ivs_len]
    subst hm
    cases hlt : (Nat.blt xs.length 4611686018427387904 && Nat.ble xs.length c && Nat.beq (compactL xs).length xs.length) with
    | false => rw [hlt] at e; cases e
    | true =>
      rw [hlt] at e
      simp only [cond_true, Option.some.injEq, Prod.mk.injEq] at e
      obtain ⟨rfl, rfl⟩ := e
      simp only [Bool.and_eq_true, Nat.blt_eq, Nat.ble_eq] at hlt
      obtain ⟨⟨h1, h2⟩, h3⟩ := hlt
      have h3 := Nat.eq_of_beq_eq_true h3
      intro ρ w args' H hargs
      obtain ⟨u, rfl, hu⟩ := hargs.one
      have hu0 := hu
      obtain ⟨B, base, c', hρ, rfl, hcc, _, _⟩ := hu.slice_inv
      have hg := Heap.cs_some hcs
      have hH := holds_of H hg hρ hl
      have hcap : xs.length ≤ c' := by omega
      have hcall := (callsIn_wide (n := 0)).2 (Try.slices_Compact_int B (base + o) c' xs w hH (by omega) hcap)
      have h' : CallsIn (FF none) 0 Try.prog 65 #[.slice (some ⟨B, base + o, none⟩) xs.length c'] w _ := hcall
      refine h'.mono ?_
      rintro e w' ⟨rfl, n, rfl⟩
      obtain ⟨a, b2⟩ := HR.rows H hg hρ hl (ys := compactL xs) h3 n #[]
      have eg : grow (putRow (Value.int .i64) (Sort.ahead w n) B (base + o) (compactL xs).toArray) #[] = putRow (Value.int .i64) (Sort.ahead w n) B (base + o) (compactL xs).toArray := grow_empty _
      rw [eg] at a b2
      refine ⟨ρ, _, rfl, ?_, a, b2⟩
      exact VR.relen hu0 rfl rfl
  · cases e
theorem primW_ok : PrimOK Try.prog primW := by
  intro f g hg args h v h' e
  unfold primW at hg
  cases h1 : Nat.beq f 19 with
  | true =>
    obtain rfl := Nat.eq_of_beq_eq_true h1
    rw [h1] at hg
    simp only [Option.some.injEq] at hg
    subst hg
    unfold livesG at e
    split at e
    · simp only [Option.some.injEq, Prod.mk.injEq] at e
      obtain ⟨rfl, rfl⟩ := e
      exact lives_call _
    · cases e
  | false =>
    rw [h1] at hg
    cases h2 : Nat.beq f 64 with
    | true =>
      obtain rfl := Nat.eq_of_beq_eq_true h2
      rw [h2] at hg
      simp only [Option.some.injEq] at hg
      subst hg
      exact sortG_ok e
    | false =>
      rw [h2] at hg
      cases h3 : Nat.beq f 65 with
      | true =>
        obtain rfl := Nat.eq_of_beq_eq_true h3
        rw [h3] at hg
        simp only [Option.some.injEq] at hg
        subst hg
        exact compactG_ok e
      | false => rw [h3] at hg; cases hg
theorem fitW : Fit Try.prog primW := ⟨mixed, names, primW_ok, by
  intro f hf
  unfold primW at hf
  cases h1 : Nat.beq f 19 with
  | true => obtain rfl := Nat.eq_of_beq_eq_true h1; exact ⟨_, _, Try.func19, rfl⟩
  | false =>
    rw [h1] at hf
    cases h2 : Nat.beq f 64 with
    | true => obtain rfl := Nat.eq_of_beq_eq_true h2; exact ⟨_, _, Try.func64, rfl⟩
    | false =>
      rw [h2] at hf
      cases h3 : Nat.beq f 65 with
      | true => obtain rfl := Nat.eq_of_beq_eq_true h3; exact ⟨_, _, Try.func65, rfl⟩
      | false => rw [h3] at hf; exact absurd rfl hf⟩
end Go.Proofs.Ytekhhjcbjaegeaa
