/- copy, lengths, maps, comparisons with nil, and whatever only reckons. -/
import Derived.Test.YtekhhjcbjaegeaaAM8
set_option linter.all false
namespace Go.AM
open Go
variable {P : Program}

/-! ### What only reckons -/
def pureRun (P : Program) {α : Type} : Sem α → Option α
  | .pure a => some a
  | .program k => pureRun P (k P)
  | _ => none
theorem pureRun_run {α : Type} {s : Sem α} {a : α} (w : World) (h : pureRun P s = some a) : s.run P w = .ok a w := by
  induction s with
  | pure b => simp only [pureRun, Option.some.injEq] at h; subst h; rfl
  | program k ih => simp only [pureRun] at h; exact ih P h
  | _ => simp [pureRun] at h
def flatRun (P : Program) (s : Sem Value) : Option Value := (pureRun P s).bind fun v => bif flat v then some v else none
theorem flatRun_quiet {ρ : Rho} {w : World} {s : Sem Value} {v : Value} (h : flatRun P s = some v) : Quiet P ρ w v s := by
  simp only [flatRun, Option.bind_eq_some_iff] at h
  obtain ⟨u, hu, h⟩ := h
  cases hf : flat u with
  | false => rw [hf] at h; cases h
  | true => rw [hf] at h; injection h with h; subst h; exact ⟨u, pureRun_run w hu, VR_refl_flat hf⟩

/-! ### Comparisons with nil -/
/-- Is it nil? (of slices, maps, functions, pointers, interface values) -/
def nilness : Value → Option Bool
  | .slice none _ _ | .map none | .nilFunc | .pointer none | .nilIface => some true
  | .slice (some _) _ _ | .map (some _) | .func _ _ _ | .pointer (some _) | .iface _ _ => some false
  | _ => none
def vk : Value → Nat
  | .slice _ _ _ => 1
  | .map _ => 2
  | .nilFunc | .func _ _ _ => 3
  | .pointer _ => 4
  | .nilIface | .iface _ _ => 5
  | _ => 0
def tk (P : Program) (t : TypeId) : Nat :=
  match P.underlying t with
  | some (.slice _) => 1
  | some (.map _ _) => 2
  | some (.func _ _ _) => 3
  | some (.pointer _) => 4
  | some (.interface _) => 5
  | _ => 9
def kindOK (P : Program) (t : TypeId) (x y : Value) : Bool := Nat.beq (tk P t) (vk x) && Nat.beq (tk P t) (vk y)
/-- x == y where just one is nil: false. -/
def aeqNil (P : Program) (t : TypeId) (x y : Value) : Bool :=
  kindOK P t x y && (match nilness x, nilness y with | some true, some false | some false, some true => true | _, _ => false)
theorem nilness_VR {ρ : Rho} {x x' : Value} (h : VR ρ x x') : nilness x' = nilness x := by
  cases h <;> rfl
theorem vk1 {x : Value} (h : vk x = 1) : ∃ a l c, x = .slice a l c := by cases x <;> simp [vk] at h; exact ⟨_, _, _, rfl⟩
theorem vk2 {x : Value} (h : vk x = 2) : ∃ a, x = .map a := by cases x <;> simp [vk] at h; exact ⟨_, rfl⟩
theorem vk3 {x : Value} (h : vk x = 3) : x = .nilFunc ∨ ∃ a b c, x = .func a b c := by
  cases x <;> simp [vk] at h
  · exact .inr ⟨_, _, _, rfl⟩
  · exact .inl rfl
theorem vk4 {x : Value} (h : vk x = 4) : ∃ a, x = .pointer a := by cases x <;> simp [vk] at h; exact ⟨_, rfl⟩
theorem vk5 {x : Value} (h : vk x = 5) : x = .nilIface ∨ ∃ a b, x = .iface a b := by
  cases x <;> simp [vk] at h
  · exact .inr ⟨_, _, rfl⟩
  · exact .inl rfl
theorem equalIn_nil {w : World} {t : TypeId} {x y : Value} (d : Nat) (h1 : tk P t = vk x) (h2 : tk P t = vk y) (h : (match nilness x, nilness y with | some true, some false | some false, some true => true | _, _ => false) = true) : (Op.equalIn (d + 1) t x y).run P w = .ok false w := by
  rw [Op.equalIn, Sem.run_bind]
  unfold tk at h1 h2
  split at h1
  · next e hu =>
    rw [hu] at h2
    obtain ⟨a, l, c, rfl⟩ := vk1 h1.symm
    obtain ⟨a', l', c', rfl⟩ := vk1 h2.symm
    rw [run_underlying hu, Result.andThen_ok]
    cases a <;> cases a' <;> simp [nilness] at h <;> rfl
  · next e1 e2 hu =>
    rw [hu] at h2
    obtain ⟨a, rfl⟩ := vk2 h1.symm
    obtain ⟨a', rfl⟩ := vk2 h2.symm
    rw [run_underlying hu, Result.andThen_ok]
    cases a <;> cases a' <;> simp [nilness] at h <;> rfl
  · next e1 e2 e3 hu =>
    rw [hu] at h2
    rw [run_underlying hu, Result.andThen_ok]
    rcases vk3 h1.symm with rfl | ⟨a, b, c, rfl⟩ <;> rcases vk3 h2.symm with rfl | ⟨a', b', c', rfl⟩ <;> simp [nilness] at h <;> rfl
  · next e hu =>
    rw [hu] at h2
    obtain ⟨a, rfl⟩ := vk4 h1.symm
    obtain ⟨a', rfl⟩ := vk4 h2.symm
    rw [run_underlying hu, Result.andThen_ok]
    cases a <;> cases a' <;> simp [nilness] at h <;> rfl
  · next ms hu =>
    rw [hu] at h2
    rw [run_underlying hu, Result.andThen_ok]
    rcases vk5 h1.symm with rfl | ⟨a, b, rfl⟩ <;> rcases vk5 h2.symm with rfl | ⟨a', b', rfl⟩ <;> simp [nilness] at h <;> rfl
  · cases x <;> simp [vk] at h1
theorem equal_nil {w : World} {t : TypeId} {x y : Value} (hk : kindOK P t x y = true) (h : (match nilness x, nilness y with | some true, some false | some false, some true => true | _, _ => false) = true) : (Op.equal t x y).run P w = .ok false w := by
  simp only [kindOK, Bool.and_eq_true] at hk
  exact equalIn_nil 9999 (Nat.eq_of_beq_eq_true hk.1) (Nat.eq_of_beq_eq_true hk.2) h
theorem vk_VR {ρ : Rho} {x x' : Value} (h : VR ρ x x') : vk x' = vk x := by cases h <;> rfl
theorem kindOK_VR {ρ : Rho} {t : TypeId} {x y x' y' : Value} (hx : VR ρ x x') (hy : VR ρ y y') : kindOK P t x' y' = kindOK P t x y := by
  unfold kindOK; rw [vk_VR hx, vk_VR hy]
theorem binOp_eq_nil {t : TypeId} {x y : Value} (h : (match nilness x, nilness y with | some true, some false | some false, some true => true | _, _ => false) = true) :
    binOp .eql t x y = (do pure (.bool (← Op.equal t x y))) ∧ binOp .neq t x y = (do pure (.bool (!(← Op.equal t x y)))) := by
  cases x <;> cases y <;> (try simp [nilness] at h) <;> exact ⟨rfl, rfl⟩
theorem guard_nil {w : World} {t : TypeId} {op : BinOp} {a b : Operand} {x y : Value} (h : (match nilness x, nilness y with | some true, some false | some false, some true => true | _, _ => false) = true) : (eqGuard op t a b x y).run P w = .ok () w := by
  unfold eqGuard
  cases x <;> cases y <;> (try simp [nilness] at h) <;> (cases op <;> rfl)
def abin (P : Program) (op : BinOp) (t : TypeId) (a b : Operand) (x y : Value) : Option Value :=
  bif flat x && flat y then flatRun P (do eqGuard op t a b x y; binOp op t x y)
  else bif aeqNil P t x y then
    match op with
    | .eql => some (.bool false)
    | .neq => some (.bool true)
    | _ => none
  else none
theorem abin_sound {ρ : Rho} {w : World} {op : BinOp} {t : TypeId} {a b : Operand} {x y x' y' v : Value} (hx : VR ρ x x') (hy : VR ρ y y') (e : abin P op t a b x y = some v) : Quiet P ρ w v (do eqGuard op t a b x' y'; binOp op t x' y') := by
  unfold abin at e
  cases hf : (flat x && flat y) with
  | true =>
    rw [hf] at e
    simp only [Bool.and_eq_true] at hf
    obtain rfl := hx.eq_of_flat hf.1
    obtain rfl := hy.eq_of_flat hf.2
    exact flatRun_quiet e
  | false =>
    rw [hf] at e
    simp only [cond_false] at e
    cases hn : aeqNil P t x y with
    | false => rw [hn] at e; cases e
    | true =>
      rw [hn] at e
      unfold aeqNil at hn
      simp only [Bool.and_eq_true] at hn
      have h1 : kindOK P t x' y' = true := by rw [kindOK_VR hx hy]; exact hn.1
      have h2 : (match nilness x', nilness y' with | some true, some false | some false, some true => true | _, _ => false) = true := by rw [nilness_VR hx, nilness_VR hy]; exact hn.2
      have hg := guard_nil (P := P) (w := w) (op := op) (t := t) (a := a) (b := b) h2
      have he := equal_nil (w := w) h1 h2
      obtain ⟨b1, b2⟩ := binOp_eq_nil (t := t) h2
      simp only [cond_true] at e
      split at e
      · injection e with e; subst e
        exact ⟨.bool false, by rw [Sem.run_bind, hg, Result.andThen_ok, b1]; simp [he], .fl rfl⟩
      · injection e with e; subst e
        exact ⟨.bool true, by rw [Sem.run_bind, hg, Result.andThen_ok, b2]; simp [he], .fl rfl⟩
      · cases e

/-! ### Lengths -/
def alen (P : Program) (ats : Array TypeId) (x : Value) (h : Heap) : Option Value :=
  (ats[0]?).bind fun t =>
    match P.underlying t, x with
    | some (.slice _), .slice _ n _ => some (goInt n)
    | some .string, .string s => some (goInt s.size)
    | some (.array n _), _ => some (goInt n)
    | some (.map _ _), .map none => some (goInt 0)
    | some (.map _ _), .map (some r) => match h.get r with | some (.map es _) => some (goInt es.length) | _ => none
    | _, _ => none
theorem VR.slice_len {ρ : Rho} {a : Option Addr} {l c : Nat} {x' : Value} (h : VR ρ (.slice a l c) x') : ∃ a' c', x' = .slice a' l c' := by
  cases h with
  | sl e => exact ⟨_, _, rfl⟩
  | slu e _ _ => exact ⟨_, _, rfl⟩
  | fl e => exact ⟨_, _, rfl⟩
theorem VR.map_inv {ρ : Rho} {r : Nat} {x' : Value} (h : VR ρ (.map (some r)) x') : ∃ R, ρ r = some (R, 0) ∧ x' = .map (some R) := by
  cases h with
  | map e => exact ⟨_, e, rfl⟩
  | fl e => simp [flat1] at e
theorem run_getObj_map {w : World} {R : Nat} {ES : Array MapEntry} {clock : Nat} (h : w.heap[R]? = some (.map ES clock)) : (getObj R).run P w = .ok (.map ES clock) w := by simp [getObj, Sem.run, h]
theorem alen_sound {ρ : Rho} {h : Heap} {w : World} {ats : Array TypeId} {ty : TypeId} {x x' v : Value} (H : HR ρ h w) (hx : VR ρ x x') (e : alen P ats x h = some v) : Quiet P ρ w v (Builtin.len_ ats ty #[x']) := by
  simp only [alen, Option.bind_eq_some_iff] at e
  obtain ⟨t, ht, e⟩ := e
  split at e
  · next e' a n c hu =>
    injection e with e; subst e
    obtain ⟨a', c', rfl⟩ := hx.slice_len
    exact ⟨_, by simp [Builtin.len_, ht, run_underlying hu], .fl rfl⟩
  · next s hu =>
    injection e with e; subst e
    obtain rfl := hx.string_inv
    exact ⟨_, by simp [Builtin.len_, ht, run_underlying hu], .fl rfl⟩
  · next n e' hu =>
    injection e with e; subst e
    exact ⟨_, by simp [Builtin.len_, ht, run_underlying hu], .fl rfl⟩
  · next k el hu =>
    injection e with e; subst e
    obtain rfl : x' = .map none := hx.eq_of_flat1 rfl
    exact ⟨_, by simp [Builtin.len_, ht, run_underlying hu], .fl rfl⟩
  · next k el r hu =>
    obtain ⟨R, hR, rfl⟩ := hx.map_inv
    split at e
    · next es clock hg =>
      injection e with e; subst e
      obtain ⟨_, ES, he, hm⟩ := H.blk r R 0 _ hg hR
      refine ⟨_, ?_, .fl rfl⟩
      have : ES.size = es.length := by rw [hm.1]; simp
      simp [Builtin.len_, ht, run_underlying hu, run_getObj_map he, this]
    · cases e
  · cases e
def acap (P : Program) (ats : Array TypeId) (x : Value) : Option Value :=
  (ats[0]?).bind fun t =>
    match P.underlying t, x with
    | some (.slice _), .slice none _ c => some (goInt c)
    | some (.slice _), .slice (some ⟨_, _, none⟩) _ c => some (goInt c)
    | _, _ => none
theorem acap_sound {ρ : Rho} {w : World} {ats : Array TypeId} {ty : TypeId} {x x' v : Value} (hx : VR ρ x x') (e : acap P ats x = some v) : Quiet P ρ w v (Builtin.cap_ ats ty #[x']) := by
  simp only [acap, Option.bind_eq_some_iff] at e
  obtain ⟨t, ht, e⟩ := e
  split at e
  · next e' n c hu =>
    injection e with e; subst e
    obtain rfl := hx.eq_of_flat1 rfl
    exact ⟨_, by simp [Builtin.cap_, ht, run_underlying hu], .fl rfl⟩
  · next e' b o n c hu =>
    injection e with e; subst e
    obtain ⟨B, base, c', hρ, rfl, _, hc, _⟩ := hx.slice_inv
    obtain rfl := hc rfl
    exact ⟨_, by simp [Builtin.cap_, ht, run_underlying hu], .fl rfl⟩
  · cases e

/-! ### copy -/
def acopy (P : Program) (ats : Array TypeId) (d x : Value) (h : Heap) : Option (Value × Heap) :=
  (ats[0]?).bind fun t => (elemOfSlice P t).bind fun e => (szOf P e).bind fun sz =>
    match d with
    | .slice none 0 0 => (source x sz (fun k => Nat.min k 0) h).bind fun q => some (goInt q.1, h)
    | .slice (some ⟨b, o, _⟩) dl _ => (source x sz (fun k => Nat.min k dl) h).bind fun q =>
        bif Nat.beq q.2.length 0 then some (goInt q.1, h) else
        (h.cs b).bind fun cs => bif q.2.all (·.oneCell') && Nat.ble (o + q.2.length) cs.length then some (goInt q.1, h.put b (some (.cells (splice cs o q.2)))) else none
    | _ => none
theorem acopy_sound {ρ : Rho} {h h' : Heap} {w : World} {ats : Array TypeId} {ty : TypeId} {d x d' x' v : Value} (H : HR ρ h w) (hd : VR ρ d d') (hx : VR ρ x x') (e : acopy P ats d x h = some (v, h')) : Does P ρ h w v h' (Builtin.copy_ ats ty #[d', x']) := by
  simp only [acopy, Option.bind_eq_some_iff] at e
  obtain ⟨t, ht, el, hu, sz, hsz, e⟩ := e
  have ht1 : (#[d', x'] : Array Value)[1]? = some x' := rfl
  have hu := elemOfSlice_some hu
  split at e
  · simp only [Option.bind_eq_some_iff, Option.some.injEq, Prod.mk.injEq] at e
    obtain ⟨⟨n, l⟩, hs, rfl, rfl⟩ := e
    obtain ⟨k, hl, hn, hll, l', hv, hf⟩ := source_sound (P := P) H hx (fun k => Nat.min_le_left k 0) hs
    obtain rfl : d' = .slice none 0 0 := hd.eq_of_flat1 rfl
    refine Quiet.does H ⟨_, ?_, .fl rfl⟩
    subst hn
    have hf0 := hf w rfl
    have hm : Nat.min k 0 = 0 := Nat.min_zero k
    simp only [hm] at hf0
    simp [Builtin.copy_, ht, run_underlying hu, hl, run_sizeOf' hsz, hf0]
  · next b o f dl c =>
    simp only [Option.bind_eq_some_iff] at e
    obtain ⟨⟨n, l⟩, hs, e⟩ := e
    obtain ⟨k, hl, hn, hll, l', hv, hf⟩ := source_sound (P := P) H hx (fun k => Nat.min_le_left k dl) hs
    obtain ⟨B, base, c', hρ, rfl, _, _, _⟩ := hd.slice_inv
    subst hn
    cases h0 : Nat.beq l.length 0 with
    | true =>
      simp only at e
      rw [h0] at e
      simp only [cond_true, Option.some.injEq, Prod.mk.injEq] at e
      obtain ⟨rfl, rfl⟩ := e
      have hl0 := Nat.eq_of_beq_eq_true h0
      have hl0' : l' = [] := List.eq_nil_of_length_eq_zero (by rw [← hv.1]; exact hl0)
      subst hl0'
      refine Quiet.does H ⟨_, ?_, .fl rfl⟩
      simp [Builtin.copy_, ht, run_underlying hu, hl, run_sizeOf' hsz, hf w rfl, storeCells]
    | false =>
      simp only at e
      rw [h0] at e
      simp only [cond_false, Option.bind_eq_some_iff] at e
      obtain ⟨cs, hcs, e⟩ := e
      cases hc : (l.all (·.oneCell') && Nat.ble (o + l.length) cs.length) with
      | false => rw [hc] at e; cases e
      | true =>
        rw [hc] at e
        simp only [Bool.and_eq_true] at hc
        simp only [cond_true, Option.some.injEq, Prod.mk.injEq] at e
        obtain ⟨rfl, rfl⟩ := e
        obtain ⟨w', hr, hH, hE⟩ := store_cells (P := P) H (Heap.cs_some hcs) hρ hv hc.1 (Nat.le_of_ble_eq_true hc.2)
        refine ⟨ρ, _, w', ?_, .fl rfl, hH, hE⟩
        simp [Builtin.copy_, ht, run_underlying hu, hl, run_sizeOf' hsz, hf w rfl, hr]
  · cases e
end Go.AM
