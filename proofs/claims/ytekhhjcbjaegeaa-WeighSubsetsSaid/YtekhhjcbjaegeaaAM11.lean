/- One operation that is no call of a function. -/
import Derived.Test.YtekhhjcbjaegeaaAM10
import Derived.Laws.BytesArg
set_option linter.all false
namespace Go.AM
open Go
variable {P : Program}

/-! ### Bytes to a string -/
def byteNums : List Value → Option (List Int)
  | [] => some []
  | .int .u8 n :: l => (byteNums l).map (n :: ·)
  | _ :: _ => none
theorem byteNums_some : ∀ {l : List Value} {xs : List Int}, byteNums l = some xs → l = xs.map (Value.int .u8)
  | [], xs, h => by simp [byteNums] at h; subst h; rfl
  | v :: l, xs, h => by
    unfold byteNums at h
    split at h
    · next hh => cases hh
    · next n l' hh =>
      injection hh with h1 h2; subst h1; subst h2
      simp only [Option.map_eq_some_iff] at h
      obtain ⟨ys, hy, rfl⟩ := h
      rw [byteNums_some hy]; rfl
    · cases h
def bytesType (P : Program) (s d : TypeId) : Bool :=
  match P.underlying s, P.underlying d with
  | some (.slice e), some .string => match P.underlying e with | some (.int .u8) => true | _ => false
  | _, _ => false
theorem bytesType_some {s d : TypeId} (h : bytesType P s d = true) : ∃ e, P.underlying s = some (.slice e) ∧ P.underlying e = some (.int .u8) ∧ P.underlying d = some .string := by
  unfold bytesType at h
  split at h
  · next e h1 h2 =>
    split at h
    · next h3 => exact ⟨e, h1, h3, h2⟩
    · cases h
  · cases h
def aconv (P : Program) (s d : TypeId) (x : Value) (h : Heap) : Option Value :=
  bif bytesType P s d then
    match x with
    | .slice none _ _ => some (.string .empty)
    | .slice (some ⟨b, o, _⟩) n _ => (h.rd b).bind fun cs => (cut cs o n).bind fun l => (byteNums l).map fun xs => .string (strOfNums xs)
    | _ => none
  else bif flat x then flatRun P (convert s d x) else none
theorem aconv_sound {ρ : Rho} {h : Heap} {w : World} {s d : TypeId} {x x' v : Value} (H : HR ρ h w) (hx : VR ρ x x') (e : aconv P s d x h = some v) : Quiet P ρ w v (convert s d x') := by
  unfold aconv at e
  cases hb : bytesType P s d with
  | true =>
    rw [hb] at e
    obtain ⟨el, h1, h2, h3⟩ := bytesType_some hb
    simp only [cond_true] at e
    split at e
    · next l c =>
      injection e with e; subst e
      obtain rfl : x' = .slice none l c := hx.eq_of_flat1 rfl
      exact ⟨_, run_convert_bytes_nil w s el h1 h2 l c d h3, .fl rfl⟩
    · next b o f n c =>
      simp only [Option.bind_eq_some_iff, Option.map_eq_some_iff] at e
      obtain ⟨cs, hcs, l, hl, xs, hxs, rfl⟩ := e
      obtain ⟨B, base, c', hρ, rfl, _, _, _⟩ := hx.slice_inv
      have hbr := Heap.rd_blk H hcs hρ
      obtain ⟨C, t, fr, e1, hs, hv⟩ := hbr
      have hlx := byteNums_some hxs
      obtain ⟨hle, hll, hlo⟩ := cut_some hl
      have hlen : xs.length = n := by rw [hlx] at hll; simpa using hll
      refine ⟨_, run_convert_bytes_arg w s el h1 h2 B (base + o) n c' xs hlen (fun i hi => ?_) d h3, .fl rfl⟩
      have hci : cs[o + i]? = some (.int .u8 (xs.getD i 0)) := by
        have : l[i]? = some (.int .u8 (xs.getD i 0)) := by
          rw [hlx]; simp [List.getElem?_eq_getElem (show i < xs.length by omega), List.getD_eq_getElem?_getD]
        rw [hle, List.getElem?_take, if_pos hi, List.getElem?_drop] at this
        exact this
      obtain ⟨v', e2, r⟩ := hv _ _ hci
      rw [cell_at e1, Nat.add_assoc, e2, r.int_inv]
    · cases e
  | false =>
    rw [hb] at e
    simp only [cond_false] at e
    cases hf : flat x with
    | false => rw [hf] at e; cases e
    | true =>
      rw [hf] at e
      obtain rfl := hx.eq_of_flat hf
      exact flatRun_quiet e

/-! ### Operands -/
def aevs (a : A) : List Operand → Option (List Value)
  | [] => some []
  | x :: l => (a.eval x).bind fun v => (aevs a l).map (v :: ·)
theorem AR.evs {ρ : Rho} {a : A} {c : Act} (r : AR ρ a c) : ∀ {l : List Operand} {vs : List Value}, aevs a l = some vs → VRl ρ vs (l.map c.eval)
  | [], vs, e => by simp [aevs] at e; subst e; exact VRl.nil _
  | x :: l, vs, e => by
    simp only [aevs, Option.bind_eq_some_iff, Option.map_eq_some_iff] at e
    obtain ⟨v, hv, vs', hvs, rfl⟩ := e
    exact VRl.cons (r.eval hv) (r.evs hvs)
def aparts (a : A) : List (Nat × Operand) → Option (List (Nat × Value))
  | [] => some []
  | (i, x) :: l => (a.eval x).bind fun v => (aparts a l).map ((i, v) :: ·)
theorem PRs.nil (ρ : Rho) : PRs ρ [] [] := ⟨rfl, fun i p e => by simp at e⟩
theorem PRs.mk {ρ : Rho} {i : Nat} {v v' : Value} {x x' : List (Nat × Value)} (h : VR ρ v v') (k : PRs ρ x x') : PRs ρ ((i, v) :: x) ((i, v') :: x') :=
  ⟨by simp [k.1], fun j p e => by
    cases j with
    | zero => simp at e; subst e; exact ⟨_, rfl, rfl, h⟩
    | succ j => simpa using k.2 j p (by simpa using e)⟩
theorem AR.parts {ρ : Rho} {a : A} {c : Act} (r : AR ρ a c) : ∀ {l : List (Nat × Operand)} {vs : List (Nat × Value)}, aparts a l = some vs → PRs ρ vs (l.map fun p => (p.1, c.eval p.2))
  | [], vs, e => by simp [aparts] at e; subst e; exact PRs.nil _
  | (i, x) :: l, vs, e => by
    simp only [aparts, Option.bind_eq_some_iff, Option.map_eq_some_iff] at e
    obtain ⟨v, hv, vs', hvs, rfl⟩ := e
    exact PRs.mk (r.eval hv) (r.parts hvs)
def aevO (a : A) : Option Operand → Option (Option Value)
  | none => some none
  | some x => (a.eval x).map some
theorem AR.evO {ρ : Rho} {a : A} {c : Act} (r : AR ρ a c) {x : Option Operand} {v : Option Value} (e : aevO a x = some v) : AM.OR ρ v (x.map c.eval) := by
  cases x with
  | none => simp [aevO] at e; subst e; trivial
  | some x =>
    simp only [aevO, Option.map_eq_some_iff] at e
    obtain ⟨u, hu, rfl⟩ := e
    exact r.eval hu

/-! ### Small operations -/
def anilCheck (x : Value) : Option Value :=
  match x with
  | .pointer (some _) | .func (.func _) _ _ | .iface _ _ => some x
  | _ => none
def aextract (x : Value) (i : Nat) : Option Value := match x with | .tuple vs => vs[i]? | _ => none
theorem aextract_sound {ρ : Rho} {w : World} {x x' v : Value} {i : Nat} (hx : VR ρ x x') (e : aextract x i = some v) : Quiet P ρ w v (Instr.extract x' i) := by
  unfold aextract at e
  split at e
  · next vs =>
    obtain ⟨vs', rfl, h⟩ := hx.tuple_inv
    obtain ⟨v', e', r⟩ := h.toList.2 i v (by simpa using e)
    have e2 : vs'[i]? = some v' := by simpa using e'
    exact ⟨v', by simp [Instr.extract, e2], r⟩
  · cases e
def isIface (P : Program) (t : TypeId) : Bool := match P.underlying t with | some (.interface _) => true | none => true | _ => false
def abuiltin (P : Program) (b : Builtin) (ats : Array TypeId) (ty : TypeId) (vs : List Value) (h : Heap) : Option (Value × Heap) :=
  match b with
  | .append => match vs with | [s, x] => aappend P ats s x h | _ => none
  | .copy => match vs with | [d, x] => acopy P ats d x h | _ => none
  | .len => match vs with | [x] => (alen P ats x h).map (·, h) | _ => none
  | .cap => match vs with | [x] => (acap P ats x).map (·, h) | _ => none
  | .max => bif vs.all flat1 then (flatRun P (Builtin.max_ ats ty vs.toArray)).map (·, h) else none
  | .min => bif vs.all flat1 then (flatRun P (Builtin.min_ ats ty vs.toArray)).map (·, h) else none
  | _ => none
theorem VRl.eq_of_flat {ρ : Rho} {x x' : List Value} (h : VRl ρ x x') (hf : x.all flat1 = true) : x' = x := by
  apply List.ext_getElem?
  intro i
  cases hx : x[i]? with
  | none =>
    rw [List.getElem?_eq_none_iff] at hx ⊢
    rw [← h.1]; exact hx
  | some v =>
    obtain ⟨v', e, r⟩ := h.2 i v hx
    rw [e, r.eq_of_flat1 (List.all_eq_true.1 hf v (List.mem_of_getElem? hx))]
theorem VRl.one {ρ : Rho} {v : Value} {x' : List Value} (h : VRl ρ [v] x') : ∃ v', x' = [v'] ∧ VR ρ v v' := by
  cases x' with
  | nil => have := h.1; simp at this
  | cons v' r =>
    cases r with
    | cons _ _ => have := h.1; simp at this
    | nil =>
      obtain ⟨u, e, r⟩ := h.2 0 v rfl
      simp at e; subst e
      exact ⟨_, rfl, r⟩
theorem VRl.two {ρ : Rho} {v u : Value} {x' : List Value} (h : VRl ρ [v, u] x') : ∃ v' u', x' = [v', u'] ∧ VR ρ v v' ∧ VR ρ u u' := by
  cases x' with
  | nil => have := h.1; simp at this
  | cons v' r =>
    cases r with
    | nil => have := h.1; simp at this
    | cons u' r =>
      cases r with
      | cons _ _ => have := h.1; simp at this
      | nil =>
        obtain ⟨a, e, r⟩ := h.2 0 v rfl
        obtain ⟨b, e', r'⟩ := h.2 1 u rfl
        simp at e e'; subst e; subst e'
        exact ⟨_, _, rfl, r, r'⟩
def bsem (b : Builtin) (ats : Array TypeId) (ty : TypeId) (args : Array Value) : Sem Value :=
  match b with
  | .append => Builtin.append_ ats ty args
  | .copy => Builtin.copy_ ats ty args
  | .len => Builtin.len_ ats ty args
  | .cap => Builtin.cap_ ats ty args
  | .max => Builtin.max_ ats ty args
  | .min => Builtin.min_ ats ty args
  | _ => stuck ""
def bknown : Builtin → Bool
  | .append | .copy | .len | .cap | .max | .min => true
  | _ => false
theorem abuiltin_known {b : Builtin} {ats : Array TypeId} {ty : TypeId} {vs : List Value} {h : Heap} {r : Value × Heap} (e : abuiltin P b ats ty vs h = some r) : bknown b = true := by
  unfold abuiltin at e
  split at e <;> first | rfl | cases e
theorem map_toArray (x : Array Operand) (f : Operand → Value) : (x.toList.map f).toArray = x.map f := by
  apply Array.ext'
  rw [List.toList_toArray, Array.toList_map]
theorem abuiltin_sound {ρ : Rho} {h h' : Heap} {w : World} {b : Builtin} {ats : Array TypeId} {ty : TypeId} {vs vs' : List Value} {v : Value} (H : HR ρ h w) (hv : VRl ρ vs vs') (e : abuiltin P b ats ty vs h = some (v, h')) : Does P ρ h w v h' (bsem b ats ty vs'.toArray) := by
  unfold abuiltin at e
  split at e
  · split at e
    · obtain ⟨a, b, rfl, h1, h2⟩ := hv.two
      exact aappend_sound (ty := ty) H h1 h2 e
    · cases e
  · split at e
    · obtain ⟨a, b, rfl, h1, h2⟩ := hv.two
      exact acopy_sound (ty := ty) H h1 h2 e
    · cases e
  · split at e
    · obtain ⟨a, rfl, h1⟩ := hv.one
      simp only [Option.map_eq_some_iff, Prod.mk.injEq] at e
      obtain ⟨u, hu, rfl, rfl⟩ := e
      exact Quiet.does H (alen_sound (ty := ty) H h1 hu)
    · cases e
  · split at e
    · obtain ⟨a, rfl, h1⟩ := hv.one
      simp only [Option.map_eq_some_iff, Prod.mk.injEq] at e
      obtain ⟨u, hu, rfl, rfl⟩ := e
      exact Quiet.does H (acap_sound (ty := ty) h1 hu)
    · cases e
  · cases hf : vs.all flat1 with
    | false => rw [hf] at e; cases e
    | true =>
      rw [hf] at e
      simp only [cond_true, Option.map_eq_some_iff, Prod.mk.injEq] at e
      obtain ⟨u, hu, rfl, rfl⟩ := e
      rw [hv.eq_of_flat hf]
      exact Quiet.does H (flatRun_quiet hu)
  · cases hf : vs.all flat1 with
    | false => rw [hf] at e; cases e
    | true =>
      rw [hf] at e
      simp only [cond_true, Option.map_eq_some_iff, Prod.mk.injEq] at e
      obtain ⟨u, hu, rfl, rfl⟩ := e
      rw [hv.eq_of_flat hf]
      exact Quiet.does H (flatRun_quiet hu)
  · cases e

/-- One operation that is no call of a function: its value (undef where it has none). -/
def aop (P : Program) (o : Oper) (a : A) (h : Heap) : Option (Value × Heap) :=
  match o.op with
  | .move x | .assign x => (a.eval x).map (·, h)
  | .pick c x y => (a.eval c).bind fun c => match c with | .bool b => (bif b then a.eval x else a.eval y).map (·, h) | _ => none
  | .alloc t => aalloc P t h
  | .box t x => (a.eval x).map fun v => abox v h
  | .build t ps => (aparts a ps.toList).bind fun l => (abuild P t l).map (·, h)
  | .buildSlice t len ps => (aparts a ps.toList).bind fun l => abuildSlice P t len l h
  | .load t x => (a.eval x).bind fun v => (aload P t v h).map (·, h)
  | .store t x y => (a.eval x).bind fun v => (a.eval y).bind fun u => (astore P t v u h).map (undef, ·)
  | .nilCheck x => (a.eval x).bind fun v => (anilCheck v).map (·, h)
  | .binOp op t x y _ => (a.eval x).bind fun v => (a.eval y).bind fun u => (abin P op t x y v u).map (·, h)
  | .unOp op _ x => (a.eval x).bind fun v => bif flat v then (flatRun P (Op.unary op v)).map (·, h) else none
  | .convert s d x => (a.eval x).bind fun v => (aconv P s d v h).map (·, h)
  | .makeInterface t x => (a.eval x).bind fun v => bif isIface P t then none else some (.iface t v, h)
  | .makeFunc (.func f) x y => (aevs a x.toList).bind fun l => (aevs a y.toList).map fun k => (.func (.func f) l.toArray k.toArray, h)
  | .makeMap _ none => some (amakeMap h)
  | .makeSlice t x y => (a.eval x).bind fun v => (a.eval y).bind fun u => amakeSlice P t v u h
  | .slice t x lo hi mx => (a.eval x).bind fun v => (aevO a lo).bind fun l => (aevO a hi).bind fun k => (aevO a mx).bind fun m => (aslice P t v l k m).map (·, h)
  | .fieldAddr s x f => (a.eval x).bind fun v => (afieldAddr P s v f).map (·, h)
  | .field s x f => (a.eval x).bind fun v => (afield P s v f).map (·, h)
  | .indexAddr t x i => (a.eval x).bind fun v => (a.eval i).bind fun u => (aindexAddr P t v u).map (·, h)
  | .index t x i => (a.eval x).bind fun v => (a.eval i).bind fun u => (aindex P t v u).map (·, h)
  | .lookup t x i ok => (a.eval x).bind fun v => (a.eval i).bind fun u => (alookup P t v u ok h).map (·, h)
  | .mapUpdate t m k x => (a.eval m).bind fun v => (a.eval k).bind fun u => (a.eval x).bind fun y => (amapUpdate P t v u y h).map (undef, ·)
  | .extract x i => (a.eval x).bind fun v => (aextract v i).map (·, h)
  | .call c => match c.callee with
    | .builtin b => (aevs a c.args.toList).bind fun l => abuiltin P b c.argTypes o.type l h
    | _ => none
  | _ => none

def DoesOp (P : Program) (ρ : Rho) (h : Heap) (w : World) (v : Value) (h' : Heap) (s : Sem Next) : Prop :=
  ∃ ρ' n v' w', s.run P w = .ok n w' ∧ (n = .value v' ∨ (n = .skip ∧ v' = undef)) ∧ VR ρ' v v' ∧ HR ρ' h' w' ∧ Ext ρ h w ρ' h' w'
theorem Does.op {ρ : Rho} {h h' : Heap} {w : World} {v : Value} {s : Sem Value} (d : Does P ρ h w v h' s) : DoesOp P ρ h w v h' (do pure (.value (← s)) : Sem Next) :=
  let ⟨ρ', v', w', e, r, H, E⟩ := d; ⟨ρ', _, v', w', by simp [e], .inl rfl, r, H, E⟩
theorem Quiet.op {ρ : Rho} {h : Heap} {w : World} {v : Value} {s : Sem Value} (H : HR ρ h w) (d : Quiet P ρ w v s) : DoesOp P ρ h w v h (do pure (.value (← s)) : Sem Next) := (d.does H).op
theorem pure_op {ρ : Rho} {h : Heap} {w : World} {v v' : Value} (H : HR ρ h w) (r : VR ρ v v') : DoesOp P ρ h w v h (pure (.value v') : Sem Next) := ⟨ρ, _, v', w, rfl, .inl rfl, r, H, Ext.refl _ _ _⟩
theorem skip_op {ρ : Rho} {h h' : Heap} {w : World} {s : Sem Unit} (d : ∃ w', s.run P w = .ok () w' ∧ HR ρ h' w' ∧ Ext ρ h w ρ h' w') : DoesOp P ρ h w undef h' (do s; pure .skip : Sem Next) :=
  let ⟨w', e, H, E⟩ := d; ⟨ρ, _, undef, w', by simp [e], .inr ⟨rfl, rfl⟩, VR_undef ρ, H, E⟩
theorem aop_sound {ρ : Rho} {h h' : Heap} {w : World} {o : Oper} {a : A} {c : Act} {v : Value} (H : HR ρ h w) (r : AR ρ a c) (e : aop P o a h = some (v, h')) : DoesOp P ρ h w v h' (execOp c.eval o) := by
  obtain ⟨dst, op, ty, pos, after, guard⟩ := o
  unfold aop at e
  unfold execOp
  simp only at e ⊢
  cases op <;> simp only at e ⊢ <;> first | (cases e; done) | skip
  case move x =>
    simp only [Option.map_eq_some_iff, Prod.mk.injEq] at e
    obtain ⟨u, hu, rfl, rfl⟩ := e
    exact pure_op H (r.eval hu)
  case assign x =>
    simp only [Option.map_eq_some_iff, Prod.mk.injEq] at e
    obtain ⟨u, hu, rfl, rfl⟩ := e
    exact pure_op H (r.eval hu)
  case pick c x y =>
    simp only [Option.bind_eq_some_iff] at e
    obtain ⟨u, hu, e⟩ := e
    split at e
    · next b =>
      have hb := (r.eval hu).bool_inv
      simp only [Option.map_eq_some_iff, Prod.mk.injEq] at e
      obtain ⟨u', hu', rfl, rfl⟩ := e
      cases b with
      | true =>
        have := r.eval hu'
        simp [hb, asBool]
        exact pure_op H this
      | false =>
        have := r.eval hu'
        simp [hb, asBool]
        exact pure_op H this
    · cases e
  case alloc t => exact (aalloc_sound H e).op
  case box t x =>
    simp only [Option.map_eq_some_iff] at e
    obtain ⟨u, hu, e⟩ := e
    have := abox_sound (P := P) (t := t) H (r.eval hu)
    rw [e] at this
    exact this.op
  case build t ps =>
    simp only [Option.bind_eq_some_iff, Option.map_eq_some_iff, Prod.mk.injEq] at e
    obtain ⟨l, hl, u, hu, rfl, rfl⟩ := e
    refine (abuild_sound (P := P) (w := w) ?_ hu).op H
    have := r.parts hl
    simpa using this
  case buildSlice t len ps =>
    simp only [Option.bind_eq_some_iff] at e
    obtain ⟨l, hl, e⟩ := e
    refine (abuildSlice_sound (P := P) (w := w) H ?_ e).op
    have := r.parts hl
    simpa using this
  case load t x =>
    simp only [Option.bind_eq_some_iff, Option.map_eq_some_iff, Prod.mk.injEq] at e
    obtain ⟨u, hu, u', hu', rfl, rfl⟩ := e
    exact Quiet.op H (aload_sound H (r.eval hu) hu')
  case store t x y =>
    simp only [Option.bind_eq_some_iff, Option.map_eq_some_iff, Prod.mk.injEq] at e
    obtain ⟨u, hu, u', hu', h2, e, rfl, rfl⟩ := e
    exact skip_op (astore_sound H (r.eval hu) (r.eval hu') e)
  case nilCheck x =>
    simp only [Option.bind_eq_some_iff, Option.map_eq_some_iff, Prod.mk.injEq] at e
    obtain ⟨u, hu, u', hu', rfl, rfl⟩ := e
    have hr := r.eval hu
    unfold anilCheck at hu'
    split at hu'
    · injection hu' with hu'; subst hu'
      next p => 
      generalize hx : c.eval x = x' at hr ⊢
      cases hr with
      | ptr k => exact pure_op H (.ptr k)
      | fl k => simp [flat1] at k
    · injection hu' with hu'; subst hu'
      generalize hx : c.eval x = x' at hr ⊢
      cases hr with
      | fn k1 k2 k3 k4 => exact pure_op H (.fn k1 k2 k3 k4)
      | fl k => simp [flat1] at k
    · injection hu' with hu'; subst hu'
      generalize hx : c.eval x = x' at hr ⊢
      cases hr with
      | iface k => exact pure_op H (.iface k)
      | fl k => simp [flat1] at k
    · cases hu'
  case binOp op t x y yt =>
    simp only [Option.bind_eq_some_iff, Option.map_eq_some_iff, Prod.mk.injEq] at e
    obtain ⟨u, hu, u', hu', u2, e, rfl, rfl⟩ := e
    exact Quiet.op H (abin_sound (r.eval hu) (r.eval hu') e)
  case unOp op t x =>
    simp only [Option.bind_eq_some_iff] at e
    obtain ⟨u, hu, e⟩ := e
    cases hf : flat u with
    | false => rw [hf] at e; cases e
    | true =>
      rw [hf] at e
      simp only [cond_true, Option.map_eq_some_iff, Prod.mk.injEq] at e
      obtain ⟨u', hu', rfl, rfl⟩ := e
      rw [(r.eval hu).eq_of_flat hf]
      exact Quiet.op H (flatRun_quiet hu')
  case convert s d x =>
    simp only [Option.bind_eq_some_iff, Option.map_eq_some_iff, Prod.mk.injEq] at e
    obtain ⟨u, hu, u', hu', rfl, rfl⟩ := e
    exact Quiet.op H (aconv_sound H (r.eval hu) hu')
  case makeInterface t x =>
    simp only [Option.bind_eq_some_iff] at e
    obtain ⟨u, hu, e⟩ := e
    cases hf : isIface P t with
    | true => rw [hf] at e; cases e
    | false =>
      rw [hf] at e
      simp only [cond_false, Option.some.injEq, Prod.mk.injEq] at e
      obtain ⟨rfl, rfl⟩ := e
      refine Quiet.op H ⟨.iface t (c.eval x), ?_, .iface (r.eval hu)⟩
      unfold isIface at hf
      split at hf
      · cases hf
      · cases hf
      · next h1 h2 =>
        cases hu2 : P.underlying t with
        | none => exact absurd hu2 h2
        | some d =>
          cases d with
          | interface ms => exact absurd hu2 (h1 ms)
          | _ => simp [Instr.makeInterface, run_underlying hu2]
  case makeFunc fn x y =>
    cases fn <;> simp only at e <;> first | (cases e; done) | skip
    simp only [Option.bind_eq_some_iff, Option.map_eq_some_iff, Prod.mk.injEq] at e
    obtain ⟨l, hl, k, hk, rfl, rfl⟩ := e
    refine Quiet.op H ⟨_, rfl, .fn' ?_ ?_⟩
    · rw [← map_toArray]; exact (r.evs hl).toArray
    · rw [← map_toArray]; exact (r.evs hk).toArray
  case makeMap t m =>
    cases m with
    | some m => cases e
    | none =>
      simp only [Option.some.injEq] at e
      have := amakeMap_sound (P := P) (t := t) H
      rw [e] at this
      exact this.op
  case makeSlice t x y =>
    simp only [Option.bind_eq_some_iff] at e
    obtain ⟨u, hu, u', hu', e⟩ := e
    exact (amakeSlice_sound H (r.eval hu) (r.eval hu') e).op
  case slice t x lo hi mx =>
    simp only [Option.bind_eq_some_iff, Option.map_eq_some_iff, Prod.mk.injEq] at e
    obtain ⟨u, hu, l, hl, k, hk, m, hm, u', hu', rfl, rfl⟩ := e
    exact Quiet.op H (aslice_sound (r.eval hu) (r.evO hl) (r.evO hk) (r.evO hm) hu')
  case fieldAddr s x f =>
    simp only [Option.bind_eq_some_iff, Option.map_eq_some_iff, Prod.mk.injEq] at e
    obtain ⟨u, hu, u', hu', rfl, rfl⟩ := e
    exact Quiet.op H (afieldAddr_sound (r.eval hu) hu')
  case field s x f =>
    simp only [Option.bind_eq_some_iff, Option.map_eq_some_iff, Prod.mk.injEq] at e
    obtain ⟨u, hu, u', hu', rfl, rfl⟩ := e
    exact Quiet.op H (afield_sound (r.eval hu) hu')
  case indexAddr t x i =>
    simp only [Option.bind_eq_some_iff, Option.map_eq_some_iff, Prod.mk.injEq] at e
    obtain ⟨u, hu, u2, hu2, u', hu', rfl, rfl⟩ := e
    exact Quiet.op H (aindexAddr_sound (r.eval hu) (r.eval hu2) hu')
  case index t x i =>
    simp only [Option.bind_eq_some_iff, Option.map_eq_some_iff, Prod.mk.injEq] at e
    obtain ⟨u, hu, u2, hu2, u', hu', rfl, rfl⟩ := e
    exact Quiet.op H (aindex_sound (r.eval hu) (r.eval hu2) hu')
  case lookup t x i ok =>
    simp only [Option.bind_eq_some_iff, Option.map_eq_some_iff, Prod.mk.injEq] at e
    obtain ⟨u, hu, u2, hu2, u', hu', rfl, rfl⟩ := e
    exact Quiet.op H (alookup_sound H (r.eval hu) (r.eval hu2) hu')
  case mapUpdate t m k x =>
    simp only [Option.bind_eq_some_iff, Option.map_eq_some_iff, Prod.mk.injEq] at e
    obtain ⟨u, hu, u2, hu2, u3, hu3, h2, e, rfl, rfl⟩ := e
    exact skip_op (amapUpdate_sound H (r.eval hu) (r.eval hu2) (r.eval hu3) e)
  case extract x i =>
    simp only [Option.bind_eq_some_iff, Option.map_eq_some_iff, Prod.mk.injEq] at e
    obtain ⟨u, hu, u', hu', rfl, rfl⟩ := e
    exact Quiet.op H (aextract_sound (r.eval hu) hu')
  case call cl =>
    obtain ⟨callee, args, ats⟩ := cl
    simp only at e
    cases callee with
    | builtin b =>
      simp only [Option.bind_eq_some_iff] at e
      obtain ⟨l, hl, e⟩ := e
      have hk := abuiltin_known e
      have hv := r.evs hl
      have := (abuiltin_sound (P := P) H hv e).op
      rw [map_toArray] at this
      cases b <;> first | (cases hk; done) | exact this
    | _ => cases e
end Go.AM
