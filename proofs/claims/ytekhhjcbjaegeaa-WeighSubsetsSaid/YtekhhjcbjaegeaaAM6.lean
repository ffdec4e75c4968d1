/- Slices cut, appended to, copied; lengths. -/
import Derived.Test.YtekhhjcbjaegeaaAM5
set_option linter.all false
namespace Go.AM
open Go
variable {P : Program}

/-! ### Bounds -/
def bnd : Option Value → Option (Option Nat)
  | none => some none
  | some (.int _ i) => bif decide (0 ≤ i) then some (some i.toNat) else none
  | _ => none
def OR (ρ : Rho) : Option Value → Option Value → Prop
  | none, none => True
  | some v, some v' => VR ρ v v'
  | _, _ => False
theorem bnd_same {ρ : Rho} {x x' : Option Value} {b : Option Nat} (h : OR ρ x x') (e : bnd x = some b) : x' = x := by
  unfold bnd at e
  split at e
  · cases x' with
    | none => rfl
    | some v => exact h.elim
  · cases x' with
    | none => exact h.elim
    | some v => rw [VR.int_inv h]
  · cases e
theorem bnd_cases {x : Option Value} {b : Option Nat} (e : bnd x = some b) : (x = none ∧ b = none) ∨ ∃ k i, x = some (.int k i) ∧ 0 ≤ i ∧ b = some i.toNat := by
  unfold bnd at e
  split at e
  · injection e with e; exact .inl ⟨rfl, e.symm⟩
  · next k i =>
    cases hb : decide (0 ≤ i) with
    | false => rw [hb] at e; cases e
    | true => rw [hb] at e; injection e with e; exact .inr ⟨k, i, rfl, by simpa using hb, e.symm⟩
  · cases e
theorem run_bound {w : World} {k : IntKind} {i : Int} {y : Nat} {c : BoundsCode} (h0 : 0 ≤ i) (h1 : i.toNat ≤ y) : (Instr.sliceBound (.int k i) y c).run P w = .ok i.toNat w := by
  have : 0 ≤ i ∧ i ≤ y := ⟨h0, by omega⟩
  simp [Instr.sliceBound, asIntOf, this]
theorem run_bounds {w : World} {isS : Bool} {len cap : Nat} {lo hi mx : Option Value} {l h m : Option Nat} (el : bnd lo = some l) (eh : bnd hi = some h) (em : bnd mx = some m)
    (h1 : l.getD 0 ≤ h.getD len) (h2 : h.getD len ≤ m.getD cap) (h3 : m.getD cap ≤ cap) (h4 : m.isSome = true → h.isSome = true) :
    (Instr.sliceBounds isS len cap lo hi mx).run P w = .ok (l.getD 0, h.getD len, m.getD cap) w := by
  rcases bnd_cases el with ⟨rfl, rfl⟩ | ⟨kl, il, rfl, hl0, rfl⟩ <;> rcases bnd_cases eh with ⟨rfl, rfl⟩ | ⟨kh, ih, rfl, hh0, rfl⟩ <;> rcases bnd_cases em with ⟨rfl, rfl⟩ | ⟨km, im, rfl, hm0, rfl⟩ <;>
    simp only [Option.getD_none, Option.getD_some, Option.isSome_none, Option.isSome_some] at h1 h2 h3 h4 ⊢ <;>
    first
    | (simp at h4; done)
    | (simp [Instr.sliceBounds, run_bound (P := P) (w := w), *])

def okB (l h m cap : Nat) : Bool := Nat.ble l h && Nat.ble h m && Nat.ble m cap
theorem okB_some {l h m cap : Nat} (e : okB l h m cap = true) : l ≤ h ∧ h ≤ m ∧ m ≤ cap := by
  simp only [okB, Bool.and_eq_true] at e
  exact ⟨Nat.le_of_ble_eq_true e.1.1, Nat.le_of_ble_eq_true e.1.2, Nat.le_of_ble_eq_true e.2⟩
def imp (m h : Option Nat) : Bool := !m.isSome || h.isSome

/-- A slice of a slice, of an array behind a pointer, of a string. -/
def aslice (P : Program) (t : TypeId) (x : Value) (lo hi mx : Option Value) : Option Value :=
  (bnd lo).bind fun l => (bnd hi).bind fun h => (bnd mx).bind fun m => bif imp m h then
    match P.underlying t with
    | some (.array n e) => (szOf P e).bind fun sz => (asPtr x).bind fun p =>
        bif okB (l.getD 0) (h.getD n) (m.getD n) n then
          some (.slice (some ⟨p.1, bif Nat.beq (m.getD n) (l.getD 0) then p.2 else p.2 + l.getD 0 * sz, none⟩) (h.getD n - l.getD 0) (m.getD n - l.getD 0)) else none
    | some (.slice e) => (szOf P e).bind fun sz =>
        match x with
        | .slice none 0 0 => bif okB (l.getD 0) (h.getD 0) (m.getD 0) 0 then some (.slice none 0 0) else none
        | .slice (some ⟨b, o, none⟩) len cap => bif okB (l.getD 0) (h.getD len) (m.getD cap) cap then
            some (.slice (some ⟨b, bif Nat.beq (m.getD cap) (l.getD 0) then o else o + l.getD 0 * sz, none⟩) (h.getD len - l.getD 0) (m.getD cap - l.getD 0)) else none
        | .slice (some ⟨b, o, some z⟩) len cap => bif okB (l.getD 0) (h.getD len) (m.getD cap) cap && Nat.beq z sz then
            (match m with
            | some m => some (.slice (some ⟨b, bif Nat.beq m (l.getD 0) then o else o + l.getD 0 * sz, none⟩) (h.getD len - l.getD 0) (m - l.getD 0))
            | none => bif Nat.beq (l.getD 0) 0 || Nat.blt (l.getD 0) cap then some (.slice (some ⟨b, o + l.getD 0 * sz, some z⟩) (h.getD len - l.getD 0) (cap - l.getD 0)) else none) else none
        | _ => none
    | some .string =>
        match x with
        | .string s => bif okB (l.getD 0) (h.getD s.size) s.size s.size && m.isNone then some (.string (s.extract (l.getD 0) (h.getD s.size))) else none
        | _ => none
    | _ => none else none
theorem addr_if (B o l m sz : Nat) : (if m = l then (⟨B, o, none⟩ : Addr) else (⟨B, o, none⟩ : Addr).add (l * sz)) = ⟨B, bif Nat.beq m l then o else o + l * sz, none⟩ := by
  by_cases h : m = l
  · subst h; simp
  · have : Nat.beq m l = false := by
      cases e : Nat.beq m l with
      | false => rfl
      | true => exact absurd (Nat.eq_of_beq_eq_true e) h
    rw [if_neg h, this, add_at']; rfl
theorem bif_add (base o x : Nat) (b : Bool) : base + (bif b then o else o + x) = bif b then base + o else base + o + x := by cases b <;> simp [Nat.add_assoc]
theorem aslice_sound {ρ : Rho} {w : World} {t : TypeId} {x x' v : Value} {lo hi mx lo' hi' mx' : Option Value} (hx : VR ρ x x') (hlo : OR ρ lo lo') (hhi : OR ρ hi hi') (hmx : OR ρ mx mx') (e : aslice P t x lo hi mx = some v) :
    Quiet P ρ w v (Instr.sliceAt t x' lo' hi' mx') := by
  simp only [aslice, Option.bind_eq_some_iff] at e
  obtain ⟨l, el, h, eh, m, em, e⟩ := e
  obtain rfl := bnd_same hlo el
  obtain rfl := bnd_same hhi eh
  obtain rfl := bnd_same hmx em
  cases himp : imp m h with
  | false => rw [himp] at e; cases e
  | true =>
    rw [himp] at e
    simp only [cond_true] at e
    have h4 : m.isSome = true → h.isSome = true := by
      intro hm
      simpa [imp, hm] using himp
    split at e
    · next n el' hu =>
      simp only [Option.bind_eq_some_iff] at e
      obtain ⟨sz, hsz, ⟨b, o⟩, hp, e⟩ := e
      obtain rfl := asPtr_some hp
      obtain ⟨B, base, hρ, rfl⟩ := hx.ptr_inv
      cases hok : okB (l.getD 0) (h.getD n) (m.getD n) n with
      | false => rw [hok] at e; cases e
      | true =>
        rw [hok] at e
        obtain ⟨h1, h2, h3⟩ := okB_some hok
        simp only [cond_true, Option.some.injEq] at e
        subst e
        refine ⟨_, ?_, .sl hρ⟩
        have hr := run_bounds (P := P) (w := w) (isS := false) (len := n) (cap := n) el eh em h1 h2 h3 h4
        simp only [Instr.sliceAt, Sem.run_bind, run_underlying hu, Result.andThen_ok, Instr.sureAddr, Sem.run_pure, hr, run_sizeOf' hsz, addr_if, bif_add]
    · next el' hu =>
      simp only [Option.bind_eq_some_iff] at e
      obtain ⟨sz, hsz, e⟩ := e
      split at e
      · cases hok : okB (l.getD 0) (h.getD 0) (m.getD 0) 0 with
        | false => rw [hok] at e; cases e
        | true =>
          rw [hok] at e
          obtain ⟨h1, h2, h3⟩ := okB_some hok
          simp only [cond_true, Option.some.injEq] at e
          subst e
          obtain rfl : x' = .slice none 0 0 := hx.eq_of_flat1 rfl
          refine ⟨.slice none 0 0, ?_, .fl rfl⟩
          have hr := run_bounds (P := P) (w := w) (isS := true) (len := 0) (cap := 0) el eh em h1 h2 h3 h4
          have z1 : l.getD 0 = 0 := by omega
          have z2 : h.getD 0 = 0 := by omega
          have z3 : m.getD 0 = 0 := by omega
          rw [z1, z2, z3] at hr
          simp [Instr.sliceAt, Instr.slice, run_underlying hu, hr, run_sizeOf' hsz]
      · next b o len cap =>
        obtain ⟨B, base, c', hρ, rfl, hc1, hc2, _⟩ := hx.slice_inv
        obtain rfl := hc2 rfl
        cases hok : okB (l.getD 0) (h.getD len) (m.getD c') c' with
        | false => rw [hok] at e; cases e
        | true =>
          rw [hok] at e
          obtain ⟨h1, h2, h3⟩ := okB_some hok
          simp only [cond_true, Option.some.injEq] at e
          subst e
          refine ⟨_, ?_, .sl hρ⟩
          have hr := run_bounds (P := P) (w := w) (isS := true) (len := len) (cap := c') el eh em h1 h2 h3 h4
          simp only [Instr.sliceAt, Instr.slice, Sem.run_bind, run_underlying hu, Result.andThen_ok, Sem.run_pure, hr, run_sizeOf' hsz, Option.map_some, bif_add, ← addr_if]
          split <;> rfl
      · next b o z len cap =>
        obtain ⟨B, base, c', hρ, rfl, hc1, _, hc2⟩ := hx.slice_inv
        have hc2 := hc2 z rfl
        cases hok : (okB (l.getD 0) (h.getD len) (m.getD cap) cap && Nat.beq z sz) with
        | false => rw [hok] at e; cases e
        | true =>
          rw [hok] at e
          simp only [Bool.and_eq_true] at hok
          obtain ⟨hok, hz⟩ := hok
          obtain rfl := Nat.eq_of_beq_eq_true hz
          obtain ⟨h1, h2, h3⟩ := okB_some hok
          simp only [cond_true] at e
          cases m with
          | some m =>
            simp only [Option.some.injEq, Option.getD_some] at e h2 h3
            subst e
            refine ⟨_, ?_, .sl hρ⟩
            have hr := run_bounds (P := P) (w := w) (isS := true) (len := len) (cap := c') el eh em h1 (by simpa using h2) (by simp; omega) h4
            simp only [Option.getD_some] at hr
            simp only [Instr.sliceAt, Instr.slice, Sem.run_bind, run_underlying hu, Result.andThen_ok, Sem.run_pure, hr, run_sizeOf' hsz, Option.map_some, bif_add, ← addr_if]
            split <;> rfl
          | none =>
            simp only [Option.getD_none] at e h2 h3
            cases hb : (Nat.beq (l.getD 0) 0 || Nat.blt (l.getD 0) cap) with
            | false => rw [hb] at e; cases e
            | true =>
              rw [hb] at e
              simp only [cond_true, Option.some.injEq] at e
              subst e
              have hr := run_bounds (P := P) (w := w) (isS := true) (len := len) (cap := c') el eh em h1 (by simp; omega) (by simp) h4
              simp only [Option.getD_none] at hr
              have hl0 : l.getD 0 = 0 ∨ l.getD 0 < cap := by
                rcases Bool.or_eq_true _ _ ▸ hb with hb | hb
                · exact .inl (Nat.eq_of_beq_eq_true hb)
                · exact .inr (by rwa [Nat.blt_eq] at hb)
              refine ⟨.slice (some ⟨B, base + (o + l.getD 0 * z), none⟩) (h.getD len - l.getD 0) (c' - l.getD 0), ?_, .slu hρ (by omega) ?_⟩
              · simp only [Instr.sliceAt, Instr.slice, Sem.run_bind, run_underlying hu, Result.andThen_ok, Sem.run_pure, hr, run_sizeOf' hsz, Option.map_some]
                by_cases hcl : c' = l.getD 0
                · have : l.getD 0 = 0 := by omega
                  rw [if_pos hcl, this]; simp
                · rw [if_neg hcl, add_at', Nat.add_assoc]
              · have : (c' - l.getD 0) * z + l.getD 0 * z = c' * z := by rw [← Nat.add_mul]; congr 1; omega
                omega
      · cases e
    · next hu =>
      split at e
      · next s =>
        cases hok : (okB (l.getD 0) (h.getD s.size) s.size s.size && m.isNone) with
        | false => rw [hok] at e; cases e
        | true =>
          rw [hok] at e
          simp only [Bool.and_eq_true] at hok
          obtain ⟨hok, hm⟩ := hok
          obtain ⟨h1, h2, h3⟩ := okB_some hok
          simp only [cond_true, Option.some.injEq] at e
          subst e
          obtain rfl := hx.string_inv
          cases m with
          | some m => simp at hm
          | none =>
            have em' : mx' = none := by
              rcases bnd_cases em with ⟨a, _⟩ | ⟨_, _, _, _, a⟩
              · exact a
              · cases a
            subst em'
            refine ⟨_, ?_, .fl rfl⟩
            have hr := run_bounds (P := P) (w := w) (isS := false) (len := s.size) (cap := s.size) el eh em h1 (by simpa using h2) (by simp) h4
            simp only [Option.getD_none] at hr
            simp [Instr.sliceAt, Instr.slice, run_underlying hu, hr]
      · cases e
    · cases e
end Go.AM
