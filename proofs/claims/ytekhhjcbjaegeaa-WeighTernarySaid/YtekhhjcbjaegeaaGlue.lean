/- From the abstract machine's calls to the rows of the laws: arguments that are slices of numbers. -/
import Derived.Test.YtekhhjcbjaegeaaLaw4
import Derived.Test.YtekhhjcbjaegeaaRows
import Derived.WalkKit
import Derived.ProofKit
import Derived.OpenShut
import Derived.ChangeSlices
import Derived.ChangeSame
set_option linter.all false
set_option maxRecDepth 100000
namespace Go.Proofs.Ytekhhjcbjaegeaa
open Go Go.AM Go.ChangeShapes Go.WideShapes Go.ChangeAt

theorem law_calls {f : Nat} {args args' : List Value} {h0 : Heap} {ρ0 : Rho} {w : World} (H : HR ρ0 h0 w) (hv : VRl ρ0 args args') (hro : ∀ b x, ρ0 b = some x → ∃ obj cs, h0.get b = some (.ro obj cs))
    (hc : CW Try.prog primW f args h0 fun v h' => v = .bool true ∧ Grow h0 h') : Calls Try.prog f args'.toArray w fun e w' => e = .returned (.bool true) ∧ Kept w w' := by
  obtain ⟨v, h', hcm, rfl, hg⟩ := hc
  have hcall := hcm.sound fitW ρ0 w args' H hv
  have hc2 : CallsIn Fence.wide 0 Try.prog f args'.toArray w _ := hcall
  refine Calls.mono (callsIn_wide.1 hc2) ?_
  rintro e w' ⟨ρ', v', rfl, hvv, H', E⟩
  refine ⟨by rw [hvv.eq_of_flat1 rfl], E.size, fun B hB => ?_, E.os, E.tape, E.output, E.fro⟩
  by_cases hm : ∃ b base, h0.get b ≠ none ∧ ρ0 b = some (B, base)
  · obtain ⟨b, base, hl, hb⟩ := hm
    obtain ⟨obj, cs, hx⟩ := hro b _ hb
    have b1 := H.blk b B base _ hx hb
    have b2 := H'.blk b B base _ (hg.get hx) (E.le.m _ _ hb)
    rw [b1.1, b2.1]
  · exact E.frame B hB (fun b base hl hb => hm ⟨b, base, hl, hb⟩)

/-! ### Arguments -/
def rho1 (B base : Nat) : Rho := ⟨fun b => match Nat.beq b 0 with | true => some (B, base) | false => none, fun _ => 0⟩
theorem rho1_some {B base b : Nat} {x : Nat × Nat} (h : rho1 B base b = some x) : b = 0 ∧ x = (B, base) := by
  have h : (match Nat.beq b 0 with | true => some (B, base) | false => none) = some x := h
  cases hb : Nat.beq b 0 with
  | true => rw [hb] at h; injection h with h; exact ⟨Nat.eq_of_beq_eq_true hb, h.symm⟩
  | false => rw [hb] at h; cases h
/-- A block of the world that is only looked at. -/
theorem HR.one {w : World} {B base : Nat} {C : Array Value} {t : TypeId} {fr : Nat × Nat} {cs : List Value} (hB : w.heap[B]? = some (.cells C t fr)) (hs : base + cs.length ≤ C.size) (hv : ∀ (i : Nat) (v : Value), cs[i]? = some v → C[base + i]? = some v ∧ flat1 v = true) :
    HR (rho1 B base) (Heap.empty.push (.ro (.cells C t fr) cs)) w := by
  have hg : ∀ b, (Heap.empty.push (.ro (.cells C t fr) cs)).get b = if b = 0 then some (.ro (.cells C t fr) cs) else none := by
    intro b
    rw [Heap.get_push]
    rw [show Heap.empty.next = 0 from rfl]
    by_cases h : b = 0
    · rw [if_pos h, if_pos h]
    · rw [if_neg h, if_neg h]; exact Heap.get_ge _ (Nat.zero_le _)
  refine ⟨?_, ?_, ?_, ?_⟩
  · intro b B' base' x hx hb
    obtain ⟨rfl, e⟩ := rho1_some hb
    injection e with e1 e2; subst e1; subst e2
    rw [hg, if_pos rfl] at hx
    injection hx with hx; subst hx
    exact ⟨hB, C, t, fr, rfl, hs, fun i v hi => ⟨v, (hv i v hi).1, .fl (hv i v hi).2⟩⟩
  · intro b b' B' base' base'' _ _ e1 e2
    rw [(rho1_some e1).1, (rho1_some e2).1]
  · intro b hb
    rw [Heap.push_next] at hb
    cases e : rho1 B base b with
    | none => rfl
    | some x => have := (rho1_some e).1; have : Heap.empty.next = 0 := rfl; omega
  · intro b B' base' e
    have := (rho1_some e).2
    injection this with e1 _; subst e1
    exact (Array.getElem?_eq_some_iff.1 hB).1
/-- A slice of numbers that the caller hands over. -/
theorem arg_ints {w : World} {a : Option Addr} {len cap : Nat} {zs : List Int} {bs : Nat} (hok : Value.okWide Try.prog w .any bs 22 (.slice a len cap)) (hlen : len ≤ cap) (hz : zs.length = cap) (hcell : ∀ ad, a = some ad → ∀ i, i < zs.length → w.cell? (ad.add i) = some (.int .i64 (zs.getD i 0))) (hnil : a = none → len = 0 ∧ cap = 0) :
    ∃ ρ0 h0 ad, HR ρ0 h0 w ∧ VR ρ0 (.slice ad len cap) (.slice a len cap) ∧ SlA h0.next h0 ad (zs.take len) cap ∧ ∀ b x, ρ0 b = some x → ∃ obj cs, h0.get b = some (.ro obj cs) := by
  cases a with
  | none =>
    obtain ⟨rfl, rfl⟩ := hnil rfl
    exact ⟨Rho.empty, Heap.empty, none, HR.empty w, .fl rfl, .inl ⟨rfl, by simp, rfl⟩, fun b x e => by cases e⟩
  | some ad =>
    have h1 : len ≤ cap ∧ (cap : Int) ≤ IntKind.i64.max ∧ w.has Try.prog .any bs ad 3 cap := by
      simpa only [Value.okWide, Try.underlying22, Cell.okWide, Cell.ok] using hok
    obtain ⟨_, _, _, hspot, row, cells, hsh, _⟩ := h1
    obtain ⟨B, off, spot⟩ := ad
    obtain rfl : spot = none := hspot
    have hobj : ∃ C fr, w.heap[B]? = some (.cells C row fr) := by
      unfold World.shape? at hsh
      split at hsh
      · next c e fr hh => injection hsh with hsh; injection hsh with h1 h2; subst h1; exact ⟨c, fr, hh⟩
      · cases hsh
    obtain ⟨C, fr, hC⟩ := hobj
    have hg : ∀ (x : Blk) b, (Heap.empty.push x).get b = if b = 0 then some x else none := by
      intro x b
      rw [Heap.get_push]
      rw [show Heap.empty.next = 0 from rfl]
      by_cases h : b = 0
      · rw [if_pos h, if_pos h]
      · rw [if_neg h, if_neg h]; exact Heap.get_ge _ (Nat.zero_le _)
    have hc := hcell _ rfl
    have hcC : ∀ i, i < zs.length → C[off + i]? = some (.int .i64 (zs.getD i 0)) := by
      intro i hi
      have := hc i hi
      rw [add_at', cell_at hC] at this
      exact this
    by_cases h0 : len = 0
    · subst h0
      refine ⟨rho1 B 0, Heap.empty.push (.ro (.cells C row fr) []), some ⟨0, off, none⟩, HR.one hC (Nat.zero_le _) (fun i v hi => by cases hi), ?_, ?_, ?_⟩
      · have := VR.sl (ρ := rho1 B 0) (b := 0) (o := off) (l := 0) (c := cap) (B := B) (base := 0) rfl
        simpa using this
      · refine .inr ⟨0, off, [], rfl, by rw [Heap.push_next]; omega, by simp, Heap.rd_of (hg _ 0) rfl, fun j x hj => by simp at hj⟩
      · intro b x hb
        obtain ⟨rfl, _⟩ := rho1_some hb
        exact ⟨_, _, hg _ 0⟩
    · have hbound : off + len ≤ C.size := by
        have := (Array.getElem?_eq_some_iff.1 (hcC (len - 1) (by omega))).1
        omega
      have hci : ∀ (j : Nat) (x : Int), (zs.take len)[j]? = some x → (ivs (zs.take len))[j]? = some (Value.int .i64 x) := by
        intro j x hj; simp only [ivs, List.getElem?_map, hj, Option.map_some]
      refine ⟨rho1 B off, Heap.empty.push (.ro (.cells C row fr) (ivs (zs.take len))), some ⟨0, 0, none⟩, HR.one hC (by rw [ivs_len, List.length_take]; omega) (fun i v hi => ?_), ?_, ?_, ?_⟩
      · have hil : i < (zs.take len).length := by rw [← ivs_len]; exact (List.getElem?_eq_some_iff.1 hi).1
        have hi2 : i < zs.length := by rw [List.length_take] at hil; omega
        rw [hci i _ (List.getElem?_eq_getElem hil)] at hi
        injection hi with hi; subst hi
        refine ⟨?_, rfl⟩
        rw [hcC i hi2, gD hi2, List.getElem_take]
      · have := VR.sl (ρ := rho1 B off) (b := 0) (o := 0) (l := len) (c := cap) (B := B) (base := off) rfl
        simpa using this
      · exact .inr ⟨0, 0, ivs (zs.take len), rfl, by rw [Heap.push_next]; omega, by rw [List.length_take]; omega, Heap.rd_of (hg _ 0) rfl, fun j x hj => by rw [Nat.zero_add]; exact hci j x hj⟩
      · intro b x hb
        obtain ⟨rfl, _⟩ := rho1_some hb
        exact ⟨_, _, hg _ 0⟩

/-! ### Rows -/
section
variable {H : Type} {enc : TypeId × Value → H} {P : Program}
theorem kept_cell {w w' : World} (k : Kept w w') {a : Addr} {v : Value} (h : w.cell? a = some v) : w'.cell? a = some v := by
  have hlt : a.block < w.heap.size := by
    unfold World.cell? at h
    split at h
    · next c _ _ hh => exact (Array.getElem?_eq_some_iff.1 hh).1
    · cases h
  unfold World.cell? at h ⊢
  rw [k.2.1 _ hlt]; exact h
theorem kept_but {w w' : World} (k : Kept w w') (may : MemPlace → Prop) : w.keptBut w' may := World.keptBut_mono (fun _ f => f.elim) k.grown.1
theorem post_kept {f : Func} {s : ChangeSpec} {apart fresh handsOn again : Bool} {W W' : World} {args : Array Value} {v : Value} {ds gs : List (DataW H)} {before pa pv : List MemPlace}
    (hW : DataW.Whole enc P f.params.toList s.vars apart W args.toList ds gs before)
    (hres : ∀ (b : Nat) (sp : Nat → Bool) (hd : Bool), DataW.TrodAll enc P W' b sp hd f.resultTypes.toList (v.resultList f.resultTypes.size) (s.fn H (ds ++ gs)).results [])
    (hargs : ∀ sp : Nat → Bool, (∀ p ∈ before, sp p.block = true) → DataW.TrodAll enc P W' 0 sp true f.params.toList args.toList (s.fn H (ds ++ gs)).args pa)
    (hvars : ∀ sp : Nat → Bool, (∀ p ∈ before, sp p.block = true) → DataW.TrodVars enc P W' sp s.vars (s.fn H (ds ++ gs)).vars pv)
    (hps : before = pa ++ pv) (hk : Kept W W')
    (hok : ∀ (j : Nat) (t : TypeId) (r : Value), f.resultTypes[j]? = some t → (v.resultList f.resultTypes.size)[j]? = some r → Value.okWide P W' .any 0 t r) :
    s.post enc P f apart fresh handsOn again W args v W' := by
  have hlt := hW.lt
  have hold : ∀ p ∈ before, (fun b => decide (b < W.heap.size)) p.block = true := fun p hp => by simpa using hlt p hp
  refine ⟨ds, gs, before, [], pa, pv, hW, hres _ _ _, hargs _ hold, hvars _ hold, World.keptBut_mono (fun p hp => ⟨hp, ?_⟩) (kept_but hk (· ∈ before)), fun _ => ?_⟩
  · rw [hps, List.mem_append] at hp
    exact Or.inr hp
  · obtain ⟨_, _, _, _, _, hz, hn⟩ := hW
    refine ⟨hok, _, _, ([] ++ pa) ++ pv, ⟨[] ++ pa, pv, trodAll_append (hargs _ (fun _ _ => rfl)) (hres _ _ _), hvars _ (fun _ _ => rfl), rfl, ?_, ?_⟩, ?_⟩
    · intro b off hp
      have hp' : MemPlace.cell b off ∈ before := by rw [hps]; simpa using hp
      rw [hk.2.2.2.2.2 ⟨b, off, none⟩ (hlt _ hp')]
      exact hz b off hp'
    · intro ha
      have := hn ha
      rw [hps] at this
      simpa using this
    · intro p hp _
      rw [hps]
      simpa using hp
end
theorem cells3' : Try.prog.cellsOf 3 = 1 := by kernel_rfl
/-- The slice is read again behind the call. -/
theorem again_ints {H : Type} {enc : TypeId × Value → H} {W W' : World} {a : Addr} {len cap : Nat} {zs : List Int} (k : Kept W W') (hl : len ≤ cap) (hm : cap ≤ maxLen) (hz : zs.length = cap) (hcell : ∀ i, i < zs.length → W.cell? (a.add i) = some (.int .i64 (zs.getD i 0))) (hw : ∀ n ∈ zs, (Lit.int .i64 n).wf = true)
    (sp : Nat → Bool) (hsp : ∀ p ∈ MemPlace.row a zs.length, sp p.block = true) : DataW.Trod enc Try.prog W' 0 sp true 22 (.slice (some a) len cap) (.slice (lits .i64 (zs.take len)) (lits .i64 (zs.drop len))) (MemPlace.row a zs.length) := by
  by_cases hz0 : zs.length = 0
  · have hc0 : cap = 0 := by omega
    have hl0 : len = 0 := by omega
    subst hc0; subst hl0
    have t0 := shut_ints (enc := enc) (w := W') (base := 0) (spare := sp) (held := true) (a := a) (len := 0) (cap := 0) (zs := zs) 0 Try.underlying22 Try.underlying3 cells3' (Nat.zero_le _) (Nat.le_refl _) hm (by simp [hz0]) (fun i hi => kept_cell k (hcell i hi)) hw
    exact ⟨2, by simpa [Value.cells] using t0⟩
  · have hspb : sp a.block = true := hsp (.cell a.block a.off) (MemPlace.mem_row.2 ⟨0, by omega, by simp⟩)
    have t0 := shut_ints (enc := enc) (w := W') (base := 0) (spare := sp) (held := true) (a := a) (len := len) (cap := cap) (zs := zs) 0 Try.underlying22 Try.underlying3 cells3' (Nat.zero_le _) hl hm (by simp [hspb, hz]) (fun i hi => kept_cell k (hcell i hi)) hw
    exact ⟨2, by simpa [Value.cells] using t0⟩
end Go.Proofs.Ytekhhjcbjaegeaa
